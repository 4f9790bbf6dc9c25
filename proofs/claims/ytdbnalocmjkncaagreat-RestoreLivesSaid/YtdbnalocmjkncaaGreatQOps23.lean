/-
  Lives of law23's statements, read out of an argument. No program in sight.
-/
import Derived.Test.YtdbnalocmjkncaaGreatQOps22
import Derived.Test.YtdbnalocmjkncaaGreatQOps11
namespace Go.Proofs.YtdbnalocmjkncaaGreat
open Go.RowKit Go.ChangeShapes Go.WideShapes Go.Deep

structure Life23 where
  a : Option Addr
  n : Nat
  c : Nat
  l : List Op22
  ka : Option Addr
  kn : Nat
  kc : Nat
  keep : List Int
def lifeR23 (o : Life23) : List Value := [.slice o.a o.n o.c, .slice o.ka o.kn o.kc]
def Life23.good (w : World) (o : Life23) : Prop := (o.n ≤ maxLen ∧ SlAt opR22 5 w o.a o.n o.l ∧ ∀ x ∈ o.l, x.good) ∧ (o.kn ≤ maxLen ∧ SlAt intR 1 w o.ka o.kn o.keep ∧ ∀ k ∈ o.keep, IntB k)
section
variable {H : Type} {enc : TypeId × Value → H} {P : Program} {w : World} {base : Nat} {spare : Nat → Bool} {held : Bool}
theorem ops22V_of {t e : TypeId} {cs : List Value} {fuel : Nat} {y : DataW H × List MemPlace} {f0 f1 f2 g0 g1 g2 : Field} (ht : P.underlying t = some (.slice e)) (he : P.underlying e = some (.struct #[f0, f1, f2])) (hfl : fieldsAt P #[f0, f1, f2] [(0, 1), (1, 3), (4, 1)] = true)
    (hc : P.cellsOf e = 5) (h0 : P.underlying f0.type = some (.int .u8)) (h2 : P.underlying f2.type = some (.int .u8))
    (h1 : P.underlying f1.type = some (.struct #[g0, g1, g2])) (gone : oneCellFields P #[g0, g1, g2] = true) (gc : P.cellsOf f1.type = 3) (k0 : P.underlying g0.type = some (.int .i64)) (k1 : P.underlying g1.type = some (.int .i64)) (k2 : P.underlying g2.type = some .string)
    (h : DataW.trod enc P w base spare held fuel t cs = some y) : ∃ a n c l, cs = [.slice a n c] ∧ n ≤ maxLen ∧ SlAt opR22 5 w a n l ∧ ∀ k ∈ l, k.good := by
  have hh := h
  rcases open_slice ht h with ⟨hcs, _⟩ | ⟨a', len, cap, m, k, D, Pl, hcs, hb, hl, hm, hmm, hx, hi⟩
  · subst hcs
    exact ⟨none, 0, 0, [], rfl, Nat.zero_le _, ⟨rfl, fun h => absurd h (by simp)⟩, by simp⟩
  · subst hcs
    obtain ⟨l, hl1, hl2⟩ := ops22_of (a := some a') (n := len) (c := cap) (d := y.1) (ps := y.2) ht he hfl hc h0 h2 h1 gone gc k0 k1 k2 ⟨fuel, hh⟩
    exact ⟨_, _, _, l, rfl, by omega, hl1, hl2⟩
theorem life_of {e u v : TypeId} {cs : List Value} {fuel : Nat} {y : DataW H × List MemPlace} {p0 p1 f0 f1 f2 g0 g1 g2 : Field} (hs : P.underlying e = some (.struct #[p0, p1])) (hone : oneCellFields P #[p0, p1] = true) (hcc : P.cellsOf e = 2)
    (ht : P.underlying p0.type = some (.slice u)) (he : P.underlying u = some (.struct #[f0, f1, f2])) (hfl : fieldsAt P #[f0, f1, f2] [(0, 1), (1, 3), (4, 1)] = true)
    (hc : P.cellsOf u = 5) (h0 : P.underlying f0.type = some (.int .u8)) (h2 : P.underlying f2.type = some (.int .u8))
    (h1 : P.underlying f1.type = some (.struct #[g0, g1, g2])) (gone : oneCellFields P #[g0, g1, g2] = true) (gc : P.cellsOf f1.type = 3) (k0 : P.underlying g0.type = some (.int .i64)) (k1 : P.underlying g1.type = some (.int .i64)) (k2 : P.underlying g2.type = some .string)
    (hv : P.underlying p1.type = some (.slice v)) (hui : P.underlying v = some (.int .i64)) (huc : P.cellsOf v = 1)
    (hd : DataW.trod enc P w base spare held fuel e cs = some y) : ∃ x : Life23, cs = lifeR23 x ∧ x.good w := by
  obtain ⟨xs, k, _, _, hlen, hxl, hf⟩ := DataW.trod_struct hs hd
  have hxl : xs.length = 2 := hxl
  rw [hcc] at hlen
  match cs, hlen with
  | [v0, v1], _ =>
    obtain ⟨o0, n0⟩ := hone_of hone 0 p0 rfl
    obtain ⟨o1, n1⟩ := hone_of hone 1 p1 rfl
    have e0 := hf 0 p0 rfl
    have e1 := hf 1 p1 rfl
    rw [o0, n0] at e0
    rw [o1, n1] at e1
    simp only [List.drop_zero, List.drop_succ_cons, List.take_succ_cons, List.take_zero] at e0 e1
    rw [List.getElem?_eq_getElem (by omega)] at e0 e1
    obtain ⟨a, n, c, l, hv0, m0, s0, b0⟩ := ops22V_of ht he hfl hc h0 h2 h1 gone gc k0 k1 k2 e0
    obtain ⟨ka, kn, kc, keep, hv1, b1, s1, g1⟩ := intsV_of hv hui huc e1
    injection hv0 with hv0
    injection hv1 with hv1
    subst hv0 hv1
    exact ⟨⟨a, n, c, l, ka, kn, kc, keep⟩, rfl, ⟨m0, s0, b0⟩, b1, s1, g1⟩
theorem lives_of {t e u v : TypeId} {a : Option Addr} {n c : Nat} {d : DataW H} {ps : List MemPlace} {p0 p1 f0 f1 f2 g0 g1 g2 : Field} (htt : P.underlying t = some (.slice e)) (hs : P.underlying e = some (.struct #[p0, p1])) (hone : oneCellFields P #[p0, p1] = true) (hcc : P.cellsOf e = 2)
    (ht : P.underlying p0.type = some (.slice u)) (he : P.underlying u = some (.struct #[f0, f1, f2])) (hfl : fieldsAt P #[f0, f1, f2] [(0, 1), (1, 3), (4, 1)] = true)
    (hc : P.cellsOf u = 5) (h0 : P.underlying f0.type = some (.int .u8)) (h2 : P.underlying f2.type = some (.int .u8))
    (h1 : P.underlying f1.type = some (.struct #[g0, g1, g2])) (gone : oneCellFields P #[g0, g1, g2] = true) (gc : P.cellsOf f1.type = 3) (k0 : P.underlying g0.type = some (.int .i64)) (k1 : P.underlying g1.type = some (.int .i64)) (k2 : P.underlying g2.type = some .string)
    (hv : P.underlying p1.type = some (.slice v)) (hui : P.underlying v = some (.int .i64)) (huc : P.cellsOf v = 1)
    (h : DataW.Trod enc P w base spare held t (.slice a n c) d ps) : ∃ l : List Life23, SlAt lifeR23 2 w a n l ∧ ∀ x ∈ l, x.good w :=
  sl_of lifeR23 (Life23.good w) 2 htt hcc (by omega) (fun _ => rfl) (fun fuel cs y hd => life_of hs hone hcc ht he hfl hc h0 h2 h1 gone gc k0 k1 k2 hv hui huc hd) h
end
end Go.Proofs.YtdbnalocmjkncaaGreat
