/-
  Items and acts of law22's statements, read out of an argument. No program in sight.
-/
import Derived.Test.YtdbnalocmjkncaaGreatDoorQGround3
import Derived.Test.YtdbnalocmjkncaaGreatDoorQGround2
import Derived.ChangeArms
import Derived.Deep.Fields
namespace Go.Proofs.YtdbnalocmjkncaaGreatDoor
open Go.RowKit Go.ChangeShapes Go.WideShapes Go.Deep

def itmR (x : Itm) : List Value := [.int .i64 x.kind, .int .i64 x.at_, .string x.body]
def I64 (k : Int) : Prop := -9223372036854775808 ≤ k ∧ k ≤ 9223372036854775807
def Itm.good (x : Itm) : Prop := I64 x.kind ∧ I64 x.at_ ∧ x.body.size ≤ maxLen
structure Op22 where
  kind : Nat
  x : Itm
  n : Nat
def opR22 (o : Op22) : List Value := [.int .u8 o.kind, .int .i64 o.x.kind, .int .i64 o.x.at_, .string o.x.body, .int .u8 o.n]
def Op22.good (o : Op22) : Prop := o.kind ≤ 255 ∧ o.x.good ∧ o.n ≤ 255
section
variable {H : Type} {enc : TypeId × Value → H} {P : Program} {w : World} {base : Nat} {spare : Nat → Bool} {held : Bool}
theorem item_of {e : TypeId} {cs : List Value} {fuel : Nat} {y : DataW H × List MemPlace} {f0 f1 f2 : Field} (he : P.underlying e = some (.struct #[f0, f1, f2])) (hone : oneCellFields P #[f0, f1, f2] = true)
    (hc : P.cellsOf e = 3) (h0 : P.underlying f0.type = some (.int .i64)) (h1 : P.underlying f1.type = some (.int .i64)) (h2 : P.underlying f2.type = some .string)
    (hd : DataW.trod enc P w base spare held fuel e cs = some y) : ∃ x : Itm, cs = itmR x ∧ x.good := by
  obtain ⟨xs, k, _, _, hlen, hxl, hf⟩ := DataW.trod_struct he hd
  have hxl : xs.length = 3 := hxl
  rw [hc] at hlen
  match cs, hlen with
  | [v0, v1, v2], _ =>
    obtain ⟨o0, k0⟩ := hone_of hone 0 f0 rfl
    obtain ⟨o1, k1⟩ := hone_of hone 1 f1 rfl
    obtain ⟨o2, k2⟩ := hone_of hone 2 f2 rfl
    have e0 := hf 0 f0 rfl
    have e1 := hf 1 f1 rfl
    have e2 := hf 2 f2 rfl
    rw [o0, k0] at e0
    rw [o1, k1] at e1
    rw [o2, k2] at e2
    simp only [List.drop_zero, List.drop_succ_cons, List.take_succ_cons, List.take_zero] at e0 e1 e2
    rw [List.getElem?_eq_getElem (by omega)] at e0 e1 e2
    obtain ⟨n0, hv0, _, w0⟩ := DataW.trod_int h0 e0
    obtain ⟨n1, hv1, _, w1⟩ := DataW.trod_int h1 e1
    obtain ⟨s2, hv2, _, w2⟩ := DataW.trod_string h2 e2
    have hb0 : -9223372036854775808 ≤ n0 ∧ n0 ≤ 9223372036854775807 := by simpa [Lit.wf, IntKind.min, IntKind.max, IntKind.signed, IntKind.bits] using w0
    have hb1 : -9223372036854775808 ≤ n1 ∧ n1 ≤ 9223372036854775807 := by simpa [Lit.wf, IntKind.min, IntKind.max, IntKind.signed, IntKind.bits] using w1
    injection hv0 with hv0
    injection hv1 with hv1
    injection hv2 with hv2
    subst hv0 hv1 hv2
    exact ⟨⟨n0, n1, s2⟩, rfl, hb0, hb1, w2⟩
/-- fields, where they stand and how many cells they have -/
def fieldsAt (P : Program) (fs : Array Field) (l : List (Nat × Nat)) : Bool := (List.range fs.size).all fun i => match fs[i]?, l[i]? with
  | some f, some p => decide (f.offset = p.1) && decide (P.cellsOf f.type = p.2)
  | _, _ => false
theorem fields_of {P : Program} {fs : Array Field} {l : List (Nat × Nat)} (h : fieldsAt P fs l = true) : ∀ (i : Nat) (f : Field) (p : Nat × Nat), fs[i]? = some f → l[i]? = some p → f.offset = p.1 ∧ P.cellsOf f.type = p.2 := by
  intro i f p hf hp
  have hi : i < fs.size := (Array.getElem?_eq_some_iff.1 hf).1
  have := List.all_eq_true.1 h i (List.mem_range.2 hi)
  simp only [hf, hp] at this
  simpa using this
theorem op22_of {e : TypeId} {cs : List Value} {fuel : Nat} {y : DataW H × List MemPlace} {f0 f1 f2 g0 g1 g2 : Field} (he : P.underlying e = some (.struct #[f0, f1, f2])) (hfl : fieldsAt P #[f0, f1, f2] [(0, 1), (1, 3), (4, 1)] = true)
    (hc : P.cellsOf e = 5) (h0 : P.underlying f0.type = some (.int .u8)) (h2 : P.underlying f2.type = some (.int .u8))
    (h1 : P.underlying f1.type = some (.struct #[g0, g1, g2])) (gone : oneCellFields P #[g0, g1, g2] = true) (gc : P.cellsOf f1.type = 3) (k0 : P.underlying g0.type = some (.int .i64)) (k1 : P.underlying g1.type = some (.int .i64)) (k2 : P.underlying g2.type = some .string)
    (hd : DataW.trod enc P w base spare held fuel e cs = some y) : ∃ o : Op22, cs = opR22 o ∧ o.good := by
  obtain ⟨xs, k, _, _, hlen, hxl, hf⟩ := DataW.trod_struct he hd
  have hxl : xs.length = 3 := hxl
  rw [hc] at hlen
  match cs, hlen with
  | [v0, v1, v2, v3, v4], _ =>
    obtain ⟨o0, c0⟩ := fields_of hfl 0 f0 _ rfl rfl
    obtain ⟨o1, c1⟩ := fields_of hfl 1 f1 _ rfl rfl
    obtain ⟨o2, c2⟩ := fields_of hfl 2 f2 _ rfl rfl
    have e0 := hf 0 f0 rfl
    have e1 := hf 1 f1 rfl
    have e2 := hf 2 f2 rfl
    rw [o0, c0] at e0
    rw [o1, c1] at e1
    rw [o2, c2] at e2
    simp only [List.drop_zero, List.drop_succ_cons, List.take_succ_cons, List.take_zero] at e0 e1 e2
    rw [List.getElem?_eq_getElem (by omega)] at e0 e1 e2
    obtain ⟨n0, hv0, _, w0⟩ := DataW.trod_int h0 e0
    obtain ⟨x, hv1, hx⟩ := item_of h1 gone gc k0 k1 k2 e1
    obtain ⟨n2, hv2, _, w2⟩ := DataW.trod_int h2 e2
    have hb0 : 0 ≤ n0 ∧ n0 ≤ 255 := by simpa [Lit.wf, IntKind.min, IntKind.max, IntKind.signed, IntKind.bits] using w0
    have hb2 : 0 ≤ n2 ∧ n2 ≤ 255 := by simpa [Lit.wf, IntKind.min, IntKind.max, IntKind.signed, IntKind.bits] using w2
    obtain ⟨m0, rfl⟩ := Int.eq_ofNat_of_zero_le hb0.1
    obtain ⟨m2, rfl⟩ := Int.eq_ofNat_of_zero_le hb2.1
    unfold itmR at hv1
    injection hv0 with hv0
    injection hv2 with hv2
    injection hv1 with hv1 hv1'
    injection hv1' with hv1' hv1''
    injection hv1'' with hv1''
    subst hv0 hv2 hv1 hv1' hv1''
    exact ⟨⟨m0, x, m2⟩, rfl, by show m0 ≤ 255; omega, hx, by show m2 ≤ 255; omega⟩
theorem ops22_of {t e : TypeId} {a : Option Addr} {n c : Nat} {d : DataW H} {ps : List MemPlace} {f0 f1 f2 g0 g1 g2 : Field} (ht : P.underlying t = some (.slice e)) (he : P.underlying e = some (.struct #[f0, f1, f2])) (hfl : fieldsAt P #[f0, f1, f2] [(0, 1), (1, 3), (4, 1)] = true)
    (hc : P.cellsOf e = 5) (h0 : P.underlying f0.type = some (.int .u8)) (h2 : P.underlying f2.type = some (.int .u8))
    (h1 : P.underlying f1.type = some (.struct #[g0, g1, g2])) (gone : oneCellFields P #[g0, g1, g2] = true) (gc : P.cellsOf f1.type = 3) (k0 : P.underlying g0.type = some (.int .i64)) (k1 : P.underlying g1.type = some (.int .i64)) (k2 : P.underlying g2.type = some .string)
    (h : DataW.Trod enc P w base spare held t (.slice a n c) d ps) : ∃ l : List Op22, SlAt opR22 5 w a n l ∧ ∀ x ∈ l, x.good :=
  sl_of opR22 Op22.good 5 ht hc (by omega) (fun _ => rfl) (fun fuel cs y hd => op22_of he hfl hc h0 h2 h1 gone gc k0 k1 k2 hd) h
theorem items_of {t e : TypeId} {a : Option Addr} {n c : Nat} {d : DataW H} {ps : List MemPlace} {f0 f1 f2 : Field} (ht : P.underlying t = some (.slice e)) (he : P.underlying e = some (.struct #[f0, f1, f2])) (hone : oneCellFields P #[f0, f1, f2] = true)
    (hc : P.cellsOf e = 3) (h0 : P.underlying f0.type = some (.int .i64)) (h1 : P.underlying f1.type = some (.int .i64)) (h2 : P.underlying f2.type = some .string)
    (h : DataW.Trod enc P w base spare held t (.slice a n c) d ps) : ∃ l : List Itm, SlAt itmR 3 w a n l ∧ ∀ x ∈ l, x.good :=
  sl_of itmR Itm.good 3 ht hc (by omega) (fun _ => rfl) (fun fuel cs y hd => item_of he hone hc h0 h1 h2 hd) h
/-- .. and how many there may be at most -/
theorem itemsB_of {t e : TypeId} {a : Option Addr} {n c : Nat} {d : DataW H} {ps : List MemPlace} {f0 f1 f2 : Field} (ht : P.underlying t = some (.slice e)) (he : P.underlying e = some (.struct #[f0, f1, f2])) (hone : oneCellFields P #[f0, f1, f2] = true)
    (hc : P.cellsOf e = 3) (h0 : P.underlying f0.type = some (.int .i64)) (h1 : P.underlying f1.type = some (.int .i64)) (h2 : P.underlying f2.type = some .string)
    (h : DataW.Trod enc P w base spare held t (.slice a n c) d ps) : ∃ l : List Itm, SlAt itmR 3 w a n l ∧ (∀ x ∈ l, x.good) ∧ n ≤ maxLen := by
  obtain ⟨l, h3, h4⟩ := items_of ht he hone hc h0 h1 h2 h
  refine ⟨l, h3, h4, ?_⟩
  obtain ⟨fuel, hf⟩ := h
  rcases open_slice ht hf with ⟨hcs, _⟩ | ⟨a', len, cap, m, k, D, Pl, hcs, hb, hl, hm, hmm, hx, hi⟩
  · simp [Value.cells] at hcs
    omega
  · simp [Value.cells] at hcs
    omega
end
end Go.Proofs.YtdbnalocmjkncaaGreatDoor
