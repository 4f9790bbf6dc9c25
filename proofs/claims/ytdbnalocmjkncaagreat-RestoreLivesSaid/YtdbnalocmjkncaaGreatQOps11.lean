/-
  The acts of law11's statements, read out of an argument: rows of six cells, the last a slice of ints. No program in sight.
-/
import Derived.Test.YtdbnalocmjkncaaGreatQFitA
namespace Go.Proofs.YtdbnalocmjkncaaGreat
open Go.RowKit Go.ChangeShapes Go.WideShapes Go.Deep

def opR11 (x : Op11) : List Value := [.int .u8 x.kind, .string x.a, .string x.b, .string x.s, .int .i64 x.n, .slice x.ka x.kn x.kc]
def IntB (k : Int) : Prop := -9223372036854775808 ≤ k ∧ k ≤ 9223372036854775807
def Op11.good (w : World) (x : Op11) : Prop := x.kind ≤ 255 ∧ x.a.size ≤ maxLen ∧ x.b.size ≤ maxLen ∧ x.s.size ≤ maxLen ∧ IntB x.n ∧ x.kn ≤ maxLen ∧ SlAt intR 1 w x.ka x.kn x.keep ∧ ∀ k ∈ x.keep, IntB k
theorem Op11.good.keeps {w w' : World} {x : Op11} (h : x.good w) (k : Keeps (fun i => w.heap.size ≤ i) w w') : x.good w' :=
  ⟨h.1, h.2.1, h.2.2.1, h.2.2.2.1, h.2.2.2.2.1, h.2.2.2.2.2.1, h.2.2.2.2.2.2.1.keeps k (fun _ hi e => by omega), h.2.2.2.2.2.2.2⟩

section
variable {H : Type} {enc : TypeId × Value → H} {P : Program} {w : World} {base : Nat} {spare : Nat → Bool} {held : Bool}
theorem ints_of {t e : TypeId} {a : Option Addr} {n c : Nat} {d : DataW H} {ps : List MemPlace} (ht : P.underlying t = some (.slice e)) (he : P.underlying e = some (.int .i64)) (hc : P.cellsOf e = 1)
    (h : DataW.Trod enc P w base spare held t (.slice a n c) d ps) : ∃ l : List Int, SlAt intR 1 w a n l ∧ ∀ k ∈ l, IntB k :=
  sl_of intR IntB 1 ht hc (by omega) (fun _ => rfl) (fun fuel cs y hd => by
    obtain ⟨n0, hcs, _, w0⟩ := DataW.trod_int he hd
    exact ⟨n0, hcs, by unfold IntB; simpa [Lit.wf, IntKind.min, IntKind.max, IntKind.signed, IntKind.bits] using w0⟩) h
theorem intsV_of {t e : TypeId} {cs : List Value} {fuel : Nat} {y : DataW H × List MemPlace} (ht : P.underlying t = some (.slice e)) (he : P.underlying e = some (.int .i64)) (hc : P.cellsOf e = 1)
    (h : DataW.trod enc P w base spare held fuel t cs = some y) : ∃ a n c l, cs = [.slice a n c] ∧ n ≤ maxLen ∧ SlAt intR 1 w a n l ∧ ∀ k ∈ l, IntB k := by
  have hh := h
  rcases open_slice ht h with ⟨hcs, _⟩ | ⟨a', len, cap, m, k, D, Pl, hcs, hb, hl, hm, hmm, hx, hi⟩
  · subst hcs
    exact ⟨none, 0, 0, [], rfl, Nat.zero_le _, ⟨rfl, fun h => absurd h (by simp)⟩, by simp⟩
  · subst hcs
    obtain ⟨l, hl1, hl2⟩ := ints_of (a := some a') (n := len) (c := cap) (d := y.1) (ps := y.2) ht he hc ⟨fuel, hh⟩
    exact ⟨_, _, _, l, rfl, by omega, hl1, hl2⟩
theorem op11_of {e u : TypeId} {cs : List Value} {fuel : Nat} {y : DataW H × List MemPlace} {f0 f1 f2 f3 f4 f5 : Field} (he : P.underlying e = some (.struct #[f0, f1, f2, f3, f4, f5])) (hone : oneCellFields P #[f0, f1, f2, f3, f4, f5] = true)
    (hc : P.cellsOf e = 6) (h0 : P.underlying f0.type = some (.int .u8)) (h1 : P.underlying f1.type = some .string) (h2 : P.underlying f2.type = some .string) (h3 : P.underlying f3.type = some .string) (h4 : P.underlying f4.type = some (.int .i64)) (h5 : P.underlying f5.type = some (.slice u)) (hu : P.underlying u = some (.int .i64)) (huc : P.cellsOf u = 1)
    (hd : DataW.trod enc P w base spare held fuel e cs = some y) : ∃ x : Op11, cs = opR11 x ∧ x.good w := by
  obtain ⟨xs, k, _, _, hlen, hxl, hf⟩ := DataW.trod_struct he hd
  have hxl : xs.length = 6 := hxl
  rw [hc] at hlen
  match cs, hlen with
  | [v0, v1, v2, v3, v4, v5], _ =>
    obtain ⟨o0, k0⟩ := hone_of hone 0 f0 rfl
    obtain ⟨o1, k1⟩ := hone_of hone 1 f1 rfl
    obtain ⟨o2, k2⟩ := hone_of hone 2 f2 rfl
    obtain ⟨o3, k3⟩ := hone_of hone 3 f3 rfl
    obtain ⟨o4, k4⟩ := hone_of hone 4 f4 rfl
    obtain ⟨o5, k5⟩ := hone_of hone 5 f5 rfl
    have e0 := hf 0 f0 rfl
    have e1 := hf 1 f1 rfl
    have e2 := hf 2 f2 rfl
    have e3 := hf 3 f3 rfl
    have e4 := hf 4 f4 rfl
    have e5 := hf 5 f5 rfl
    rw [o0, k0] at e0
    rw [o1, k1] at e1
    rw [o2, k2] at e2
    rw [o3, k3] at e3
    rw [o4, k4] at e4
    rw [o5, k5] at e5
    simp only [List.drop_zero, List.drop_succ_cons, List.take_succ_cons, List.take_zero] at e0 e1 e2 e3 e4 e5
    rw [List.getElem?_eq_getElem (by omega)] at e0 e1 e2 e3 e4 e5
    obtain ⟨n0, hv0, _, w0⟩ := DataW.trod_int h0 e0
    obtain ⟨s1, hv1, _, w1⟩ := DataW.trod_string h1 e1
    obtain ⟨s2, hv2, _, w2⟩ := DataW.trod_string h2 e2
    obtain ⟨s3, hv3, _, w3⟩ := DataW.trod_string h3 e3
    obtain ⟨n4, hv4, _, w4⟩ := DataW.trod_int h4 e4
    obtain ⟨ka, kn, kc, l, hv5, b5, s5, g5⟩ := intsV_of h5 hu huc e5
    have hb : 0 ≤ n0 ∧ n0 ≤ 255 := by simpa [Lit.wf, IntKind.min, IntKind.max, IntKind.signed, IntKind.bits] using w0
    have hb4 : -9223372036854775808 ≤ n4 ∧ n4 ≤ 9223372036854775807 := by simpa [Lit.wf, IntKind.min, IntKind.max, IntKind.signed, IntKind.bits] using w4
    injection hv0 with hv0
    injection hv1 with hv1
    injection hv2 with hv2
    injection hv3 with hv3
    injection hv4 with hv4
    injection hv5 with hv5
    subst hv0 hv1 hv2 hv3 hv4 hv5
    obtain ⟨m0, rfl⟩ := Int.eq_ofNat_of_zero_le hb.1
    exact ⟨⟨m0, s1, s2, s3, n4, ka, kn, kc, l⟩, rfl, by show m0 ≤ 255; omega, w1, w2, w3, hb4, b5, s5, g5⟩
theorem ops11_of {t e u : TypeId} {a : Option Addr} {n c : Nat} {d : DataW H} {ps : List MemPlace} {f0 f1 f2 f3 f4 f5 : Field} (ht : P.underlying t = some (.slice e)) (he : P.underlying e = some (.struct #[f0, f1, f2, f3, f4, f5])) (hone : oneCellFields P #[f0, f1, f2, f3, f4, f5] = true)
    (hc : P.cellsOf e = 6) (h0 : P.underlying f0.type = some (.int .u8)) (h1 : P.underlying f1.type = some .string) (h2 : P.underlying f2.type = some .string) (h3 : P.underlying f3.type = some .string) (h4 : P.underlying f4.type = some (.int .i64)) (h5 : P.underlying f5.type = some (.slice u)) (hu : P.underlying u = some (.int .i64)) (huc : P.cellsOf u = 1)
    (h : DataW.Trod enc P w base spare held t (.slice a n c) d ps) : ∃ l : List Op11, SlAt opR11 6 w a n l ∧ ∀ x ∈ l, x.good w :=
  sl_of opR11 (Op11.good w) 6 ht hc (by omega) (fun _ => rfl) (fun fuel cs y hd => op11_of he hone hc h0 h1 h2 h3 h4 h5 hu huc hd) h
theorem op11V_of {e u : TypeId} {v : Value} {d : DataW H} {ps : List MemPlace} {r : Reach} {f0 f1 f2 f3 f4 f5 : Field} (he : P.underlying e = some (.struct #[f0, f1, f2, f3, f4, f5])) (hone : oneCellFields P #[f0, f1, f2, f3, f4, f5] = true)
    (hc : P.cellsOf e = 6) (h0 : P.underlying f0.type = some (.int .u8)) (h1 : P.underlying f1.type = some .string) (h2 : P.underlying f2.type = some .string) (h3 : P.underlying f3.type = some .string) (h4 : P.underlying f4.type = some (.int .i64)) (h5 : P.underlying f5.type = some (.slice u)) (hu : P.underlying u = some (.int .i64)) (huc : P.cellsOf u = 1)
    (hok : Value.okWide P w r base e v) (h : DataW.Trod enc P w 0 spare held e v d ps) : ∃ x : Op11, v = .agg #[.int .u8 x.kind, .string x.a, .string x.b, .string x.s, .int .i64 x.n, .slice x.ka x.kn x.kc] ∧ x.good w := by
  obtain ⟨cs, rfl, _⟩ := okWide_struct he hok
  obtain ⟨fuel, hf⟩ := h
  obtain ⟨x, hx, hg⟩ := op11_of (cs := cs.toList) he hone hc h0 h1 h2 h3 h4 h5 hu huc hf
  refine ⟨x, ?_, hg⟩
  congr 1
  exact Array.ext' (by rw [hx]; rfl)
end
end Go.Proofs.YtdbnalocmjkncaaGreat
