/- A part of the proof: Am33. No conditions. -/
import Derived.Test.YtdfcejijcnhcaaaCAm32
import Derived.RowKit3
import Derived.ChangeSame
set_option linter.unusedVariables false
set_option linter.unusedSimpArgs false
namespace Go.Proofs.Ytdfcejijcnhcaaa.C.Am

/-! ## 33. What a law is given -/
/-- Integers fit their kinds, texts and rows are no longer than any machine's. -/
def WfD : (t : Ty) → t.den → Prop
  | .int k, x => k.min ≤ x ∧ x ≤ k.max
  | .bool, _ => True
  | .str, x => (x : ByteArray).size ≤ maxLen
  | .raw _, _ => True
  | .unit, _ => True
  | .pair a b, x => WfD a x.1 ∧ WfD b x.2
  | .agg t, x => WfD t x
  | .slice _ t, xs => (xs : List t.den).length ≤ maxLen ∧ ∀ x ∈ (xs : List t.den), WfD t x

/-- Types of plain data. -/
def Ty.flat : Ty → Bool
  | .raw _ => false
  | .unit => false
  | .pair a b => a.flat && b.flat
  | .agg t => t.flat
  | .slice _ t => t.flat
  | _ => true

theorem flat_pos : {t : Ty} → t.flat = true → 0 < t.sz
  | .int _, _ | .bool, _ | .str, _ | .slice _ _, _ => by simp [Ty.sz]
  | .raw _, h | .unit, h => by simp [Ty.flat] at h
  | .pair a b, h => by
    simp only [Ty.flat, Bool.and_eq_true] at h
    have := flat_pos h.1
    simp only [Ty.sz]; omega
  | .agg t, h => by simp only [Ty.flat] at h; simpa [Ty.sz] using flat_pos h

theorem flat_comp : {i : Nat} → {t : Ty} → {o : Nat} → {t1 : Ty} → compT i t = some (o, t1) → t.flat = true → t1.flat = true
  | 0, .pair a b, o, t1, h, hf => by simp only [compT, Option.some.injEq, Prod.mk.injEq] at h; obtain ⟨rfl, rfl⟩ := h; simp only [Ty.flat, Bool.and_eq_true] at hf; exact hf.1
  | i + 1, .pair a b, o, t1, h, hf => by
    simp only [compT, Option.map_eq_some_iff] at h
    obtain ⟨⟨o2, t2⟩, h, he⟩ := h
    simp only [Prod.mk.injEq] at he
    obtain ⟨rfl, rfl⟩ := he
    simp only [Ty.flat, Bool.and_eq_true] at hf
    exact flat_comp h hf.2
  | 0, .int _, _, _, h, hf | 0, .bool, _, _, h, hf | 0, .str, _, _, h, hf | 0, .raw _, _, _, h, hf | 0, .unit, _, _, h, hf | 0, .agg _, _, _, h, hf | 0, .slice _ _, _, _, h, hf => by
    simp only [compT, Option.some.injEq, Prod.mk.injEq] at h; obtain ⟨rfl, rfl⟩ := h; exact hf

def Good (w : World) (t : Ty) (cs : List Value) : Prop := ∃ x : t.den, Rd w (fun k => k < w.heap.size) t x cs ∧ WfD t x

theorem good_tuple {w : World} : {t : Ty} → {cs : List Value} → cs.length = t.sz → t ≠ .unit → (∀ j r, compT j t = some r → Good w r.2 ((cs.drop r.1).take r.2.sz)) → Good w t cs
  | .pair a b, cs, hl, _, h => by
    obtain ⟨x, hx, wx⟩ := h 0 (0, a) rfl
    simp only [Ty.sz] at hl
    by_cases hb : b = .unit
    · subst hb
      refine ⟨(x, ()), ?_, wx, trivial⟩
      simp only [Rd]
      refine ⟨cs, [], by simp, ?_, rfl⟩
      simp only [List.drop_zero] at hx
      rw [List.take_of_length_le (by simp [Ty.sz] at hl; omega)] at hx
      exact hx
    · obtain ⟨y, hy, wy⟩ := good_tuple (t := b) (cs := cs.drop a.sz) (by simp; omega) hb (fun j r hr => by
        have := h (j + 1) (a.sz + r.1, r.2) (by simp [compT, hr])
        rwa [← List.drop_drop] at this)
      refine ⟨(x, y), ?_, wx, wy⟩
      simp only [Rd]
      exact ⟨cs.take a.sz, cs.drop a.sz, by simp, by simpa using hx, hy⟩
  | .int _, cs, hl, _, h | .bool, cs, hl, _, h | .str, cs, hl, _, h | .raw _, cs, hl, _, h | .agg _, cs, hl, _, h | .slice _ _, cs, hl, _, h => by
    have := h 0 _ rfl
    simp only [List.drop_zero] at this
    rwa [List.take_of_length_le (Nat.le_of_eq hl)] at this
  | .unit, cs, _, hu, _ => absurd rfl hu

theorem mapM_all {α β : Type} {f : α → Option β} : {l : List α} → {ys : List β} → l.mapM f = some ys → ys.length = l.length ∧ ∀ i (h : i < l.length), ∃ y, f l[i] = some y ∧ ys[i]? = some y
  | [], ys, h => by simp at h; subst h; exact ⟨rfl, fun i h => absurd h (by simp)⟩
  | a :: l, ys, h => by
    simp only [List.mapM_cons, Option.bind_eq_bind, Option.bind_eq_some_iff, Option.pure_def, Option.some.injEq] at h
    obtain ⟨y, hy, ys', hys, rfl⟩ := h
    obtain ⟨h1, h2⟩ := mapM_all hys
    refine ⟨by simp [h1], fun i hi => ?_⟩
    cases i with
    | zero => exact ⟨y, hy, rfl⟩
    | succ i =>
      obtain ⟨z, hz, hz2⟩ := h2 i (by simpa using hi)
      exact ⟨z, by simpa using hz, by simpa using hz2⟩

theorem choose_list {α : Type} {Q : Nat → α → Prop} : {n : Nat} → (∀ i, i < n → ∃ x, Q i x) → ∃ xs : List α, xs.length = n ∧ ∀ i (h : i < xs.length), Q i xs[i]
  | 0, _ => ⟨[], rfl, fun i h => absurd h (by simp)⟩
  | n + 1, h => by
    obtain ⟨xs, hl, hq⟩ := choose_list (n := n) (fun i hi => h i (by omega))
    obtain ⟨x, hx⟩ := h n (by omega)
    refine ⟨xs ++ [x], by simp [hl], fun i hi => ?_⟩
    by_cases hin : i < xs.length
    · rw [List.getElem_append_left hin]; exact hq i hin
    · have : i = n := by simp at hi; omega
      subst this
      rw [List.getElem_append_right (by omega)]
      simpa using hx

theorem cells_some {w : World} {base : Nat} {a : Addr} {n : Nat} {es : List Value} (h : w.cells? base a n = some es) : es.length = n ∧ ∀ i v, es[i]? = some v → w.cell? (a.add i) = some v := by
  unfold World.cells? at h
  split at h
  · obtain ⟨h1, h2⟩ := mapM_all h
    simp only [List.length_range] at h1
    refine ⟨h1, fun i v hv => ?_⟩
    obtain ⟨hi, _⟩ := List.getElem?_eq_some_iff.1 hv
    obtain ⟨y, hy, hy2⟩ := h2 i (by simpa using by omega)
    rw [hv] at hy2
    injection hy2 with hy2
    subst hy2
    simpa using hy
  · cases h

theorem cell_lt {w : World} {a : Addr} {v : Value} (h : w.cell? a = some v) : a.block < w.heap.size ∧ a.spot = none := by
  unfold World.cell? at h
  split at h
  · rename_i c _ _ hh
    split at h
    · cases h
    · rename_i hs
      exact ⟨(Array.getElem?_eq_some_iff.1 hh).1, by simpa using hs⟩
  · cases h

theorem add_add (a : Addr) (i j : Nat) (h : a.spot = none) : (a.add i).add j = ⟨a.block, a.off + (i + j), none⟩ := by
  obtain ⟨b, o, s⟩ := a
  subst h
  unfold Addr.add
  split <;> split <;> simp_all <;> omega

section
variable {H : Type} {enc : TypeId × Value → H} {P : Program} {C : Ctx} {w : World} {base : Nat} {spare : Nat → Bool} {held : Bool}

theorem trod_slice {fuel : Nat} {X e : TypeId} {cs : List Value} {r : DataW H × List MemPlace} (hu : P.underlying X = some (.slice e)) (h : DataW.trod enc P w base spare held (fuel + 1) X cs = some r) :
    cs = [.slice none 0 0] ∨ ∃ a len cap elems, cs = [.slice (some a) len cap] ∧ len ≤ cap ∧ cap ≤ maxLen ∧
      (List.range len).mapM (fun i => (w.cells? base (a.add (i * P.cellsOf e)) (P.cellsOf e)).bind (DataW.trod enc P w base spare held fuel e)) = some elems := by
  simp only [DataW.trod, hu] at h
  rcases cs with _ | ⟨c, _ | ⟨c2, cs⟩⟩
  · simp at h
  · cases c with
    | slice A len cap =>
      cases A with
      | none =>
        rcases len with _ | len <;> rcases cap with _ | cap <;> simp at h ⊢
      | some a =>
        right
        dsimp only at h
        split at h
        · rename_i hc
          obtain ⟨elems, h1, _⟩ := Option.bind_eq_some_iff.1 h
          exact ⟨a, len, cap, elems, rfl, hc.2.1, hc.2.2, h1⟩
        · cases h
    | _ => simp at h
  · simp at h

theorem trod_good (hC : CtxOk P C) : ∀ (fuel : Nat) (t : Ty) (X : TypeId) (cs : List Value) (r : DataW H × List MemPlace), C.ty X = some t → t.flat = true → DataW.trod enc P w base spare held fuel X cs = some r → Good w t cs := by
  intro fuel
  induction fuel with
  | zero => intro t X cs r _ _ h; simp [DataW.trod] at h
  | succ fuel ih =>
    intro t X cs r hX hf h
    have hty := hC X t hX
    have hu := hty.und
    obtain ⟨inf, z, hi1, hi2, _⟩ := hty.info
    have hcells : P.cellsOf X = t.sz := by simp [Program.cellsOf, hi1, hi2]
    cases t with
    | int k =>
      simp only [DataW.trod] at h
      rw [hu] at h
      split at h <;> simp_all
      obtain ⟨h1, _⟩ := h
      obtain ⟨rfl, h1⟩ := h1
      simp only [Lit.wf, Bool.and_eq_true, decide_eq_true_eq] at h1
      exact ⟨_, show _ = _ from rfl, h1⟩
    | bool =>
      simp only [DataW.trod] at h
      rw [hu] at h
      split at h <;> simp_all
      exact ⟨_, show _ = _ from rfl, trivial⟩
    | str =>
      simp only [DataW.trod] at h
      rw [hu] at h
      split at h <;> simp_all
      exact ⟨_, show _ = _ from rfl, h.1⟩
    | raw z => simp [Ty.flat] at hf
    | unit => simp [Ty.flat] at hf
    | pair a b => exact hu.elim
    | slice e te =>
      obtain ⟨hu, he⟩ := hu
      have hfe : te.flat = true := hf
      have hce : P.cellsOf e = te.sz := by
        obtain ⟨inf', z', hi1', hi2', _⟩ := (hC e te he).info
        simp [Program.cellsOf, hi1', hi2']
      have hpos := flat_pos hfe
      rcases trod_slice hu h with rfl | ⟨a, len, cap, elems, rfl, hlc, hcm, h1⟩
      · exact ⟨[], by simp only [Rd]; exact ⟨none, 0, rfl, by simp, by simp, by simp⟩, by simp [WfD, maxLen]⟩
      · rw [hce] at h1
        obtain ⟨h2, h3⟩ := mapM_all h1
        have hel : ∀ i, i < len → ∃ es, w.cells? base (a.add (i * te.sz)) te.sz = some es ∧ Good w te es := by
          intro i hi
          obtain ⟨y, hy, _⟩ := h3 i (by simpa using hi)
          simp only [List.getElem_range] at hy
          obtain ⟨es, hes, hy⟩ := Option.bind_eq_some_iff.1 hy
          exact ⟨es, hes, ih te _ es y he hfe hy⟩
        obtain ⟨xs, hxl, hxs⟩ := choose_list (Q := fun i x => ∃ es, w.cells? base (a.add (i * te.sz)) te.sz = some es ∧ Rd w (fun k => k < w.heap.size) te x es ∧ WfD te x) (n := len) (fun i hi => by
          obtain ⟨es, hes, x, hx, wx⟩ := hel i hi
          exact ⟨x, es, hes, hx, wx⟩)
        refine ⟨xs, ?_, ?_⟩
        · simp only [Rd]
          refine ⟨some a, cap, by rw [hxl], by rw [hxl]; exact hlc, by simp, fun hne => ?_⟩
          have h0 : 0 < xs.length := List.length_pos_iff.2 hne
          obtain ⟨es, hes, _⟩ := hxs 0 h0
          obtain ⟨hl0, hc0⟩ := cells_some hes
          obtain ⟨v0, hv0⟩ : ∃ v, es[0]? = some v := ⟨_, List.getElem?_eq_getElem (by omega)⟩
          obtain ⟨hlt, hsp⟩ := cell_lt (hc0 0 v0 hv0)
          have hspot : a.spot = none := by simpa [Addr.add] using hsp
          have hblk : a.block < w.heap.size := by simpa [Addr.add] using hlt
          refine ⟨a.block, a.off, by obtain ⟨b, o, s⟩ := a; simp_all, hblk, fun j hj => ?_⟩
          obtain ⟨es, hes, hrd, _⟩ := hxs j hj
          refine ⟨es, hrd, fun i v hv => ?_⟩
          have := (cells_some hes).2 i v hv
          rwa [add_add a _ _ hspot] at this
        · refine ⟨by rw [hxl]; omega, fun x hx => ?_⟩
          obtain ⟨i, hi, rfl⟩ := List.mem_iff_getElem.1 hx
          obtain ⟨es, _, _, wx⟩ := hxs i hi
          exact wx
    | agg t' =>
      obtain ⟨⟨fs, hu, hfo, hfn⟩, _⟩ := hu
      simp only [DataW.trod] at h
      rw [hu] at h
      have h' : (if cs.length = P.cellsOf X then (fs.toList.mapM fun f => DataW.trod enc P w base spare held fuel f.type ((cs.drop f.offset).take (P.cellsOf f.type))).map fun xs => (DataW.agg (xs.map (·.1)), xs.flatMap (·.2)) else none) = some r := by
        split at h <;> simp_all
      clear h
      split at h'
      · rename_i hl
        obtain ⟨xs, hxs, _⟩ := Option.map_eq_some_iff.1 h'
        obtain ⟨_, h3⟩ := mapM_all hxs
        have hft : t'.flat = true := hf
        have hne : t' ≠ .unit := by rintro rfl; simp [Ty.flat] at hft
        have hl' : cs.length = t'.sz := by rw [hl, hcells]; rfl
        have : Good w t' cs := good_tuple hl' hne (fun j r hr => by
          have hlt := hfn j r hr
          obtain ⟨t1, e1, e2, _⟩ := hfo j fs[j] (Array.getElem?_eq_getElem hlt)
          rw [hr] at e1
          injection e1 with e1
          subst e1
          obtain ⟨y, hy, _⟩ := h3 j (by simpa using hlt)
          simp only [Array.getElem_toList] at hy
          obtain ⟨inf', z', hi1', hi2', _⟩ := (hC _ _ e2).info
          have hce : P.cellsOf fs[j].type = t1.sz := by simp [Program.cellsOf, hi1', hi2']
          rw [hce] at hy
          exact ih t1 _ _ y e2 (flat_comp hr hft) hy)
        obtain ⟨x, hx, wx⟩ := this
        exact ⟨x, by simp only [Rd]; exact hx, wx⟩
      · cases h'

end
end Go.Proofs.Ytdfcejijcnhcaaa.C.Am
