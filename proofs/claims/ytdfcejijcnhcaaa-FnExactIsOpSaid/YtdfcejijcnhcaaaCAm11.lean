/- A part of the proof: Am11. No conditions. -/
import Derived.Test.YtdfcejijcnhcaaaCAm10
import Derived.Laws.StructEq
set_option linter.unusedVariables false
set_option linter.unusedSimpArgs false
namespace Go.Proofs.Ytdfcejijcnhcaaa.C.Am

/-! ## 11. Parts of rows and strings; equality of structs; the choice -/
def Ty.height : Ty → Nat
  | .pair a b => max a.height b.height
  | .agg t => t.height + 1
  | .slice _ t => t.height + 1
  | _ => 0

/-- Equality of data without slices. -/
def eqD : (t : Ty) → t.den → t.den → Option Bool
  | .int _, x, y => some (x == y)
  | .bool, x, y => some (x == y)
  | .str, x, y => some (x.toList == y.toList)
  | .agg t, x, y => eqD t x y
  | .pair a b, x, y => match eqD a x.1 y.1, eqD b x.2 y.2 with
    | some p, some q => some (p && q)
    | _, _ => none
  | _, _, _ => none

section
variable {P : Program} {C : Ctx} {w w' w0 : World} {S S' : Nat → Prop} {L L' L0 : Nat → Lab} {s N : Nat} {vs : List Nat} {T T' : List V} {tm tm' : Array Value} {a : Act}

def FT (C : Ctx) : Nat → Ty → List Field → Prop
  | off, .pair a b, fl => ∃ f fl', fl = f :: fl' ∧ f.offset = off ∧ C.ty f.type = some a ∧ f.name ≠ "_" ∧ FT C (off + a.sz) b fl'
  | off, t, fl => ∃ f, fl = [f] ∧ f.offset = off ∧ C.ty f.type = some t ∧ f.name ≠ "_"

theorem FT.of : {t : Ty} → {off : Nat} → {fl : List Field} → (∀ (j : Nat) (f : Field), fl[j]? = some f → ∃ o1 t1, compT j t = some (o1, t1) ∧ f.offset = off + o1 ∧ C.ty f.type = some t1 ∧ f.name ≠ "_") →
    (∀ j r, compT j t = some r → j < fl.length) → FT C off t fl
  | .pair a b, off, fl, h1, h2 => by
    have := h2 0 _ rfl
    match fl, this with
    | f :: fl', _ =>
      obtain ⟨o1, t1, h3, h4, h5, h6⟩ := h1 0 f rfl
      simp only [compT, Option.some.injEq, Prod.mk.injEq] at h3
      obtain ⟨rfl, rfl⟩ := h3
      refine ⟨f, fl', rfl, by simpa using h4, h5, h6, FT.of (fun j g hg => ?_) (fun j r hr => ?_)⟩
      · obtain ⟨o1, t1, h3, h4, h5⟩ := h1 (j + 1) g hg
        simp only [compT, Option.map_eq_some_iff] at h3
        obtain ⟨⟨o2, t2⟩, h3, he⟩ := h3
        simp only [Prod.mk.injEq] at he
        obtain ⟨rfl, rfl⟩ := he
        exact ⟨o2, t2, h3, by omega, h5⟩
      · have := h2 (j + 1) (a.sz + r.1, r.2) (by simp [compT, hr])
        simp at this
        omega
  | .int _, off, fl, h1, h2 | .bool, off, fl, h1, h2 | .str, off, fl, h1, h2 | .raw _, off, fl, h1, h2 | .unit, off, fl, h1, h2 | .agg _, off, fl, h1, h2 | .slice _ _, off, fl, h1, h2 => by
    have := h2 0 _ rfl
    match fl, this with
    | f :: fl', _ =>
      obtain ⟨o1, t1, h3, h4, h5, h6⟩ := h1 0 f rfl
      simp only [compT, Option.some.injEq, Prod.mk.injEq] at h3
      obtain ⟨rfl, rfl⟩ := h3
      match fl' with
      | [] => exact ⟨f, rfl, by simpa using h4, h5, h6⟩
      | g :: _ =>
        obtain ⟨_, _, h3, _⟩ := h1 1 g rfl
        simp [compT] at h3

theorem run_part (hC : CtxOk P C) {X : TypeId} {t : Ty} {x : t.den} {xs : Array Value} {off : Nat} (hX : C.ty X = some t) (hb : off + t.sz ≤ xs.size)
    (h : Rd w S t x ((xs.toList.drop off).take t.sz)) : ∃ c, (part X xs off).run P w = .ok c w ∧ Form t ((xs.toList.drop off).take t.sz) c := by
  have hty := hC X t hX
  cases ha : t.isAgg with
  | true =>
    refine ⟨.agg (xs.extract off (off + t.sz)), ?_, ?_⟩
    · unfold part
      simp [hty.run_isAgg, ha, hty.run_sizeOf]
    · cases t <;> simp [Ty.isAgg] at ha
      simp only [Form, Ty.sz]
      congr 1
      apply Array.ext'
      simp [List.take_drop]
  | false =>
    have hsz := hty.sz1 ha
    obtain ⟨c, hc, hf⟩ := Form.of_one hsz ha (Rd.len h)
    refine ⟨c, ?_, by rw [hc] at hf ⊢; exact hf⟩
    unfold part
    have : xs[off]? = some c := by
      have h0 : ((xs.toList.drop off).take t.sz)[0]? = some c := by rw [hc]; rfl
      rw [List.getElem?_take, if_pos (by omega), List.getElem?_drop] at h0
      simpa using h0
    simp [hty.run_isAgg, ha, this]


theorem Form.agg {t : Ty} {cs : List Value} {c : Value} (h : Form (.agg t) cs c) : c = .agg cs.toArray := h

theorem eq_run (hC : CtxOk P C) : (t : Ty) →
    (∀ (X : TypeId) (d : Nat) (x y : t.den) (cs1 cs2 : List Value) (c1 c2 : Value) (b : Bool) (S : Nat → Prop) (S2 : Nat → Prop), C.ty X = some t → t.height < d → Form t cs1 c1 → Form t cs2 c2 → Rd w S t x cs1 → Rd w S2 t y cs2 → eqD t x y = some b →
      (Op.equalIn d X c1 c2).run P w = .ok b w) ∧
    (∀ (off : Nat) (fl : List Field) (d : Nat) (x y : t.den) (xs ys : Array Value) (b : Bool) (S : Nat → Prop) (S2 : Nat → Prop), FT C off t fl → t.height < d → off + t.sz ≤ xs.size → off + t.sz ≤ ys.size →
      Rd w S t x ((xs.toList.drop off).take t.sz) → Rd w S2 t y ((ys.toList.drop off).take t.sz) → eqD t x y = some b → (Op.eqFields d xs ys fl).run P w = .ok b w) := by
  have hsingle : ∀ t : Ty, (∀ a b, t ≠ .pair a b) → (∀ (X : TypeId) (d : Nat) (x y : t.den) (cs1 cs2 : List Value) (c1 c2 : Value) (b : Bool) (S : Nat → Prop) (S2 : Nat → Prop), C.ty X = some t → t.height < d → Form t cs1 c1 → Form t cs2 c2 → Rd w S t x cs1 → Rd w S2 t y cs2 → eqD t x y = some b →
      (Op.equalIn d X c1 c2).run P w = .ok b w) →
    (∀ (off : Nat) (fl : List Field) (d : Nat) (x y : t.den) (xs ys : Array Value) (b : Bool) (S : Nat → Prop) (S2 : Nat → Prop), FT C off t fl → t.height < d → off + t.sz ≤ xs.size → off + t.sz ≤ ys.size →
      Rd w S t x ((xs.toList.drop off).take t.sz) → Rd w S2 t y ((ys.toList.drop off).take t.sz) → eqD t x y = some b → (Op.eqFields d xs ys fl).run P w = .ok b w) := by
    intro t ht ih off fl d x y xs ys b S S2 hf hd hb1 hb2 h1 h2 he
    have hf' : ∃ f, fl = [f] ∧ f.offset = off ∧ C.ty f.type = some t ∧ f.name ≠ "_" := by
      cases t <;> first | exact hf | exact absurd rfl (ht _ _)
    obtain ⟨f, rfl, rfl, hX, hname⟩ := hf'
    obtain ⟨c1, p1, f1⟩ := run_part (w := w) hC hX hb1 h1
    obtain ⟨c2, p2, f2⟩ := run_part (w := w) hC hX hb2 h2
    have := ih f.type d x y _ _ c1 c2 b S S2 hX hd f1 f2 h1 h2 he
    simp only [Op.eqFields, if_pos hname, Sem.run_bind, p1, p2, Result.andThen_ok, this, Sem.run_ite, Sem.run_pure]
    cases b <;> simp
  intro t
  induction t with
  | int k =>
    refine (fun h => ⟨h, hsingle _ (by simp) h⟩) ?_
    intro X d x y cs1 cs2 c1 c2 b S S2 hX hd f1 f2 h1 h2 he
    obtain ⟨d, rfl⟩ : ∃ m, d = m + 1 := ⟨d - 1, by omega⟩
    simp only [Rd] at h1 h2
    subst h1 h2
    obtain rfl := (List.cons.inj f1).1
    obtain rfl := (List.cons.inj f2).1
    simp only [eqD, Option.some.injEq] at he
    subst he
    exact run_equalIn_int w d X k k _ _ (hC X _ hX).und
  | bool =>
    refine (fun h => ⟨h, hsingle _ (by simp) h⟩) ?_
    intro X d x y cs1 cs2 c1 c2 b S S2 hX hd f1 f2 h1 h2 he
    obtain ⟨d, rfl⟩ : ∃ m, d = m + 1 := ⟨d - 1, by omega⟩
    simp only [Rd] at h1 h2
    subst h1 h2
    obtain rfl := (List.cons.inj f1).1
    obtain rfl := (List.cons.inj f2).1
    simp only [eqD, Option.some.injEq] at he
    subst he
    exact run_equalIn_bool' w d X _ _ (hC X _ hX).und
  | str =>
    refine (fun h => ⟨h, hsingle _ (by simp) h⟩) ?_
    intro X d x y cs1 cs2 c1 c2 b S S2 hX hd f1 f2 h1 h2 he
    obtain ⟨d, rfl⟩ : ∃ m, d = m + 1 := ⟨d - 1, by omega⟩
    simp only [Rd] at h1 h2
    subst h1 h2
    obtain rfl := (List.cons.inj f1).1
    obtain rfl := (List.cons.inj f2).1
    simp only [eqD, Option.some.injEq] at he
    subst he
    exact run_equalIn_string w d X _ _ (hC X _ hX).und
  | raw z => exact (fun h => ⟨h, hsingle _ (by simp) h⟩) (by intro _ _ _ _ _ _ _ _ _ _ _ _ _ _ _ _ _ he; simp [eqD] at he)
  | unit => exact (fun h => ⟨h, hsingle _ (by simp) h⟩) (by intro _ _ _ _ _ _ _ _ _ _ _ _ _ _ _ _ _ he; simp [eqD] at he)
  | slice e t => exact (fun h => ⟨h, hsingle _ (by simp) h⟩) (by intro _ _ _ _ _ _ _ _ _ _ _ _ _ _ _ _ _ he; simp [eqD] at he)
  | agg t ih =>
    refine (fun h => ⟨h, hsingle _ (by simp) h⟩) ?_
    intro X d x y cs1 cs2 c1 c2 b S S2 hX hd f1 f2 h1 h2 he
    obtain ⟨d, rfl⟩ : ∃ m, d = m + 1 := ⟨d - 1, by omega⟩
    obtain rfl := f1.agg
    obtain rfl := f2.agg
    obtain ⟨⟨fs, hu, hfo⟩, hst, _⟩ := (hC X _ hX).und
    have hfs : P.fieldsOf X = fs := by simp [Program.fieldsOf, hu]
    rw [run_equalIn_struct w d X _ _ (by rw [hfs]; exact hu) hst, hfs]
    simp only [Ty.height] at hd
    simp only [Rd] at h1 h2
    refine ih.2 0 fs.toList d x y _ _ b S S2 ?_ (by omega) (by simp [Rd.len h1]) (by simp [Rd.len h2]) ?_ ?_ he
    · refine FT.of (fun j f hj => ?_) (fun j r hr => by simpa using hfo.2 j r hr)
      obtain ⟨t1, h3, h4, _, h5⟩ := hfo.1 j f (by simpa using hj)
      exact ⟨f.offset, t1, h3, by omega, h4, h5⟩
    · simpa [List.take_of_length_le (Nat.le_of_eq (Rd.len h1))] using h1
    · simpa [List.take_of_length_le (Nat.le_of_eq (Rd.len h2))] using h2
  | pair a b iha ihb =>
    refine ⟨fun X d x y cs1 cs2 c1 c2 b S S2 hX => ((hC X _ hX).und).elim, ?_⟩
    intro off fl d x y xs ys r S S2 hf hd hb1 hb2 h1 h2 he
    simp only [FT] at hf
    obtain ⟨f, fl', rfl, rfl, hX, hname, hf⟩ := hf
    simp only [Ty.height] at hd
    simp only [Ty.sz] at hb1 hb2 h1 h2
    simp only [Rd] at h1 h2
    obtain ⟨c0, c1, e1, h10, h11⟩ := h1
    obtain ⟨d0, d1, e2, h20, h21⟩ := h2
    have split_take : ∀ {zs : Array Value} {u0 u1 : List Value}, (zs.toList.drop f.offset).take (a.sz + b.sz) = u0 ++ u1 → u0.length = a.sz → u1.length = b.sz →
        (zs.toList.drop f.offset).take a.sz = u0 ∧ (zs.toList.drop (f.offset + a.sz)).take b.sz = u1 := by
      intro zs u0 u1 he hl0 hl1
      constructor
      · have := congrArg (List.take a.sz) he
        rw [List.take_take, Nat.min_eq_left (by omega), List.take_left' hl0] at this
        exact this
      · have := congrArg (List.drop a.sz) he
        rw [List.drop_take, List.drop_drop, List.drop_left' hl0] at this
        rw [← this]
        congr 1
        omega
    obtain ⟨s1, s2⟩ := split_take e1 (Rd.len h10) (Rd.len h11)
    obtain ⟨t1, t2⟩ := split_take e2 (Rd.len h20) (Rd.len h21)
    rw [← s1] at h10
    rw [← s2] at h11
    rw [← t1] at h20
    rw [← t2] at h21
    obtain ⟨p1, q1, f1⟩ := run_part (w := w) hC hX (by omega) h10
    obtain ⟨p2, q2, f2⟩ := run_part (w := w) hC hX (by omega) h20
    simp only [eqD] at he
    split at he
    · rename_i u v hu hv
      simp only [Option.some.injEq] at he
      subst he
      have k1 := iha.1 f.type d x.1 y.1 _ _ p1 p2 u S S2 hX (by omega) f1 f2 h10 h20 hu
      have k2 := ihb.2 (f.offset + a.sz) fl' d x.2 y.2 xs ys v S S2 hf (by omega) (by omega) (by omega) h11 h21 hv
      simp only [Op.eqFields, if_pos hname, Sem.run_bind, q1, q2, Result.andThen_ok, k1, Sem.run_ite, Sem.run_pure, k2]
      cases u <;> simp
    · cases he

end
end Go.Proofs.Ytdfcejijcnhcaaa.C.Am
