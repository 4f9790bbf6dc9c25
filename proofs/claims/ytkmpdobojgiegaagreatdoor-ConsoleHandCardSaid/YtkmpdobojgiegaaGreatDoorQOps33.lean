/-
  The acts of law33's statements, read out of an argument: rows of five cells, the last a slice of steps. No program in sight.
-/
import Derived.Test.YtkmpdobojgiegaaGreatDoorQOps11
import Derived.Test.YtkmpdobojgiegaaGreatDoorQGround1
namespace Go.Proofs.YtkmpdobojgiegaaGreatDoor
open Go.RowKit Go.ChangeShapes Go.WideShapes Go.Deep

structure Op33 where
  kind : Nat
  s : ByteArray
  id : Nat
  ok : Bool
  a : Option Addr
  n : Nat
  c : Nat
  l : List Stp
def opR33 (x : Op33) : List Value := [.int .u8 x.kind, .string x.s, .int .u8 x.id, .bool x.ok, .slice x.a x.n x.c]
def Op33.good (w : World) (x : Op33) : Prop := x.kind ≤ 255 ∧ x.s.size ≤ maxLen ∧ x.id ≤ 255 ∧ x.n ≤ maxLen ∧ SlAt stpR 3 w x.a x.n x.l ∧ ∀ y ∈ x.l, y.s.length ≤ maxLen ∧ IntB y.kind ∧ IntB y.n
section
variable {H : Type} {enc : TypeId × Value → H} {P : Program} {w : World} {base : Nat} {spare : Nat → Bool} {held : Bool}
theorem stp_of {e : TypeId} {cs : List Value} {fuel : Nat} {y : DataW H × List MemPlace} {f0 f1 f2 : Field} (he : P.underlying e = some (.struct #[f0, f1, f2])) (hone : oneCellFields P #[f0, f1, f2] = true)
    (hc : P.cellsOf e = 3) (h0 : P.underlying f0.type = some (.int .i64)) (h1 : P.underlying f1.type = some .string) (h2 : P.underlying f2.type = some (.int .i64))
    (hd : DataW.trod enc P w base spare held fuel e cs = some y) : ∃ x : Stp, cs = stpR x ∧ x.s.length ≤ maxLen ∧ IntB x.kind ∧ IntB x.n := by
  obtain ⟨xs, k, _, _, hlen, hxl, hf⟩ := DataW.trod_struct he hd
  have hxl : xs.length = 3 := hxl
  rw [hc] at hlen
  match cs, hlen with
  | [v0, v1, v2], _ =>
    obtain ⟨o0, k0⟩ := hone_of hone 0 f0 rfl
    obtain ⟨o1, k1⟩ := hone_of hone 1 f1 rfl
    obtain ⟨o2, k2⟩ := hone_of hone 2 f2 rfl
    have e0 := hf 0 f0 rfl
    have e1 := hf 1 f1 rfl
    have e2 := hf 2 f2 rfl
    rw [o0, k0] at e0
    rw [o1, k1] at e1
    rw [o2, k2] at e2
    simp only [List.drop_zero, List.drop_succ_cons, List.take_succ_cons, List.take_zero] at e0 e1 e2
    rw [List.getElem?_eq_getElem (by omega)] at e0 e1 e2
    obtain ⟨n0, hv0, _, w0⟩ := DataW.trod_int h0 e0
    obtain ⟨s1, hv1, _, w1⟩ := DataW.trod_string h1 e1
    obtain ⟨n2, hv2, _, w2⟩ := DataW.trod_int h2 e2
    have hb0 : -9223372036854775808 ≤ n0 ∧ n0 ≤ 9223372036854775807 := by simpa [Lit.wf, IntKind.min, IntKind.max, IntKind.signed, IntKind.bits] using w0
    have hb2 : -9223372036854775808 ≤ n2 ∧ n2 ≤ 9223372036854775807 := by simpa [Lit.wf, IntKind.min, IntKind.max, IntKind.signed, IntKind.bits] using w2
    injection hv0 with hv0
    injection hv1 with hv1
    injection hv2 with hv2
    subst hv0 hv1 hv2
    exact ⟨⟨n0, s1.data.toList, n2⟩, rfl, by show s1.data.toList.length ≤ maxLen; rw [show s1.data.toList.length = s1.size by simp]; exact w1, hb0, hb2⟩
theorem stpsV_of {t e : TypeId} {cs : List Value} {fuel : Nat} {y : DataW H × List MemPlace} {f0 f1 f2 : Field} (ht : P.underlying t = some (.slice e)) (he : P.underlying e = some (.struct #[f0, f1, f2])) (hone : oneCellFields P #[f0, f1, f2] = true)
    (hc : P.cellsOf e = 3) (h0 : P.underlying f0.type = some (.int .i64)) (h1 : P.underlying f1.type = some .string) (h2 : P.underlying f2.type = some (.int .i64))
    (h : DataW.trod enc P w base spare held fuel t cs = some y) : ∃ a n c l, cs = [.slice a n c] ∧ n ≤ maxLen ∧ SlAt stpR 3 w a n l ∧ ∀ x ∈ l, x.s.length ≤ maxLen ∧ IntB x.kind ∧ IntB x.n := by
  have hh := h
  rcases open_slice ht h with ⟨hcs, _⟩ | ⟨a', len, cap, m, k, D, Pl, hcs, hb, hl, hm, hmm, hx, hi⟩
  · subst hcs
    exact ⟨none, 0, 0, [], rfl, Nat.zero_le _, ⟨rfl, fun h => absurd h (by simp)⟩, by simp⟩
  · subst hcs
    obtain ⟨l, hl1, hl2⟩ := sl_of (a := some a') (n := len) (c := cap) (d := y.1) (ps := y.2) stpR (fun x : Stp => x.s.length ≤ maxLen ∧ IntB x.kind ∧ IntB x.n) 3 ht hc (by omega) (fun _ => rfl) (fun fuel cs y hd => stp_of he hone hc h0 h1 h2 hd) ⟨fuel, hh⟩
    exact ⟨_, _, _, l, rfl, by omega, hl1, hl2⟩
theorem op33_of {e u : TypeId} {cs : List Value} {fuel : Nat} {y : DataW H × List MemPlace} {f0 f1 f2 f3 f4 g0 g1 g2 : Field} (he : P.underlying e = some (.struct #[f0, f1, f2, f3, f4])) (hone : oneCellFields P #[f0, f1, f2, f3, f4] = true)
    (hc : P.cellsOf e = 5) (h0 : P.underlying f0.type = some (.int .u8)) (h1 : P.underlying f1.type = some .string) (h2 : P.underlying f2.type = some (.int .u8)) (h3 : P.underlying f3.type = some .bool) (h4 : P.underlying f4.type = some (.slice u))
    (hu : P.underlying u = some (.struct #[g0, g1, g2])) (gone : oneCellFields P #[g0, g1, g2] = true) (huc : P.cellsOf u = 3) (k0' : P.underlying g0.type = some (.int .i64)) (k1' : P.underlying g1.type = some .string) (k2' : P.underlying g2.type = some (.int .i64))
    (hd : DataW.trod enc P w base spare held fuel e cs = some y) : ∃ x : Op33, cs = opR33 x ∧ x.good w := by
  obtain ⟨xs, k, _, _, hlen, hxl, hf⟩ := DataW.trod_struct he hd
  have hxl : xs.length = 5 := hxl
  rw [hc] at hlen
  match cs, hlen with
  | [v0, v1, v2, v3, v4], _ =>
    obtain ⟨o0, k0⟩ := hone_of hone 0 f0 rfl
    obtain ⟨o1, k1⟩ := hone_of hone 1 f1 rfl
    obtain ⟨o2, k2⟩ := hone_of hone 2 f2 rfl
    obtain ⟨o3, k3⟩ := hone_of hone 3 f3 rfl
    obtain ⟨o4, k4⟩ := hone_of hone 4 f4 rfl
    have e0 := hf 0 f0 rfl
    have e1 := hf 1 f1 rfl
    have e2 := hf 2 f2 rfl
    have e3 := hf 3 f3 rfl
    have e4 := hf 4 f4 rfl
    rw [o0, k0] at e0
    rw [o1, k1] at e1
    rw [o2, k2] at e2
    rw [o3, k3] at e3
    rw [o4, k4] at e4
    simp only [List.drop_zero, List.drop_succ_cons, List.take_succ_cons, List.take_zero] at e0 e1 e2 e3 e4
    rw [List.getElem?_eq_getElem (by omega)] at e0 e1 e2 e3 e4
    obtain ⟨n0, hv0, _, w0⟩ := DataW.trod_int h0 e0
    obtain ⟨s1, hv1, _, w1⟩ := DataW.trod_string h1 e1
    obtain ⟨n2, hv2, _, w2⟩ := DataW.trod_int h2 e2
    obtain ⟨b3, hv3, _⟩ := DataW.trod_bool h3 e3
    obtain ⟨a, n, c, l, hv4, b4, s4, g4⟩ := stpsV_of h4 hu gone huc k0' k1' k2' e4
    have hb0 : 0 ≤ n0 ∧ n0 ≤ 255 := by simpa [Lit.wf, IntKind.min, IntKind.max, IntKind.signed, IntKind.bits] using w0
    have hb2 : 0 ≤ n2 ∧ n2 ≤ 255 := by simpa [Lit.wf, IntKind.min, IntKind.max, IntKind.signed, IntKind.bits] using w2
    injection hv0 with hv0
    injection hv1 with hv1
    injection hv2 with hv2
    injection hv3 with hv3
    injection hv4 with hv4
    subst hv0 hv1 hv2 hv3 hv4
    obtain ⟨m0, rfl⟩ := Int.eq_ofNat_of_zero_le hb0.1
    obtain ⟨m2, rfl⟩ := Int.eq_ofNat_of_zero_le hb2.1
    exact ⟨⟨m0, s1, m2, b3, a, n, c, l⟩, rfl, by show m0 ≤ 255; omega, w1, by show m2 ≤ 255; omega, b4, s4, g4⟩
theorem ops33_of {t e u : TypeId} {a : Option Addr} {n c : Nat} {d : DataW H} {ps : List MemPlace} {f0 f1 f2 f3 f4 g0 g1 g2 : Field} (ht : P.underlying t = some (.slice e)) (he : P.underlying e = some (.struct #[f0, f1, f2, f3, f4])) (hone : oneCellFields P #[f0, f1, f2, f3, f4] = true)
    (hc : P.cellsOf e = 5) (h0 : P.underlying f0.type = some (.int .u8)) (h1 : P.underlying f1.type = some .string) (h2 : P.underlying f2.type = some (.int .u8)) (h3 : P.underlying f3.type = some .bool) (h4 : P.underlying f4.type = some (.slice u))
    (hu : P.underlying u = some (.struct #[g0, g1, g2])) (gone : oneCellFields P #[g0, g1, g2] = true) (huc : P.cellsOf u = 3) (k0' : P.underlying g0.type = some (.int .i64)) (k1' : P.underlying g1.type = some .string) (k2' : P.underlying g2.type = some (.int .i64))
    (h : DataW.Trod enc P w base spare held t (.slice a n c) d ps) : ∃ l : List Op33, SlAt opR33 5 w a n l ∧ ∀ x ∈ l, x.good w :=
  sl_of opR33 (Op33.good w) 5 ht hc (by omega) (fun _ => rfl) (fun fuel cs y hd => op33_of he hone hc h0 h1 h2 h3 h4 hu gone huc k0' k1' k2' hd) h
end
theorem op33_at {w : World} {a : Option Addr} {n : Nat} {l : List Op33} (h : SlAt opR33 5 w a n l) {i : Nat} (hi : i < n) : ∃ x b off, l[i]? = some x ∧ a = some ⟨b, off, none⟩ ∧ b < w.heap.size ∧ ∀ W, Keeps (fun _ => False) w W →
    (W.cell? ⟨b, off + i * 5, none⟩ = some (.int .u8 x.kind) ∧ W.cell? ⟨b, off + i * 5 + 1, none⟩ = some (.string x.s) ∧ W.cell? ⟨b, off + i * 5 + 2, none⟩ = some (.int .u8 x.id) ∧ W.cell? ⟨b, off + i * 5 + 3, none⟩ = some (.bool x.ok) ∧ W.cell? ⟨b, off + i * 5 + 4, none⟩ = some (.slice x.a x.n x.c)) := by
  obtain ⟨x, hx⟩ : ∃ x, l[i]? = some x := ⟨_, List.getElem?_eq_getElem (by rw [h.1]; exact hi)⟩
  obtain ⟨b, off, ha, hb, hc⟩ := h.2 (by omega)
  have hh : ∀ W, Keeps (fun _ => False) w W → ∀ j v, (opR33 x)[j]? = some v → W.cell? ⟨b, off + i * 5 + j, none⟩ = some v := fun W k j v hj => (World.cell?_of_block (w := w) (k.block b hb id)).trans (hc i x j v hx hj)
  exact ⟨x, b, off, hx, ha, hb, fun W k => ⟨hh W k 0 _ rfl, hh W k 1 _ rfl, hh W k 2 _ rfl, hh W k 3 _ rfl, hh W k 4 _ rfl⟩⟩
end Go.Proofs.YtkmpdobojgiegaaGreatDoor
