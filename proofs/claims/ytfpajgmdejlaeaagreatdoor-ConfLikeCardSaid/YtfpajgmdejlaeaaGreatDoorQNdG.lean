/-
  The nodes of a text: lines above 0, few and short arguments.
-/
import Derived.Test.YtfpajgmdejlaeaaGreatDoorQGround3
import Derived.Test.YtfpajgmdejlaeaaGreatDoorQGround1
import Derived.Test.YtfpajgmdejlaeaaGreatDoorQGround2
namespace Go.Proofs.YtfpajgmdejlaeaaGreatDoor
open Go.RowKit

def PcG (p : Pc) : Prop := 0 < p.line ∧ p.text.size ≤ 65536
mutual
def NdG : Nd → Prop
  | .mk _ aa _ l line => 0 < line ∧ aa.length ≤ 16 ∧ (∀ s ∈ aa, s.size ≤ 65536) ∧ NdsG l
def NdsG : List Nd → Prop
  | [] => True
  | x :: xs => NdG x ∧ NdsG xs
end
theorem NdsG.snoc : ∀ {l : List Nd} {x : Nd}, NdsG l → NdG x → NdsG (l ++ [x])
  | [], x, _, hx => by rw [List.nil_append, NdsG, NdsG]; exact ⟨hx, trivial⟩
  | y :: l, x, h, hx => by
    rw [NdsG] at h
    rw [List.cons_append, NdsG]
    exact ⟨h.1, NdsG.snoc h.2 hx⟩
theorem NdsG.of_mem : ∀ {l : List Nd} {x : Nd}, NdsG l → x ∈ l → NdG x
  | [], x, _, hx => by cases hx
  | y :: l, x, h, hx => by
    rw [NdsG] at h
    rcases List.mem_cons.1 hx with rfl | hx
    · exact h.1
    · exact NdsG.of_mem h.2 hx
theorem readP_good : ∀ (f : Nat) (ln : Int) (l : List UInt8) (out xs : List Pc), 0 < ln → l.length ≤ 65536 → (∀ p ∈ out, PcG p) → readP f ln l out = .inr xs → ∀ p ∈ xs, PcG p
  | 0, ln, l, out, xs, h0, hl, h, he => by rw [readP] at he; injection he with he; subst he; exact h
  | f + 1, ln, l, out, xs, h0, hl, h, he => by
    rw [readP] at he
    have hs := skipP_line l false ln
    have hs2 := skipP_len l false ln
    obtain ⟨q, hq⟩ : ∃ q, q = skipP false ln l := ⟨_, rfl⟩
    rw [← hq] at he hs hs2
    obtain ⟨q1, q2⟩ := q
    simp only at he hs hs2
    by_cases h1 : q2 = []
    · rw [if_pos h1] at he; injection he with he; subst he; exact h
    · rw [if_neg h1] at he
      by_cases h2 : out.length = 8192
      · rw [if_pos h2] at he; cases he
      · rw [if_neg h2] at he
        cases hh : oneP q2 with
        | none => rw [hh] at he; cases he
        | some p =>
          obtain ⟨k, t, r⟩ := p
          rw [hh] at he
          have hp := oneP_len _ _ _ _ hh
          refine readP_good f q1 r _ xs (by omega) (by omega) (fun p hp' => ?_) he
          rcases List.mem_append.1 hp' with hp' | hp'
          · exact h p hp'
          · obtain rfl := List.mem_singleton.1 hp'
            refine ⟨by show 0 < q1; omega, ?_⟩
            have : (str t).size = t.length := ba_len (str_list t)
            show (str t).size ≤ 65536
            omega
theorem lexP_good {s : List UInt8} {xs : List Pc} (h : lexP s = .inr xs) : ∀ p ∈ xs, PcG p := by
  unfold lexP at h
  split at h
  · cases h
  · exact readP_good _ _ _ _ _ (by omega) (by omega) (by simp) h
theorem argsP_good : ∀ (l : List Pc) (acc aa : List ByteArray) (t : List Pc), (∀ p ∈ l, PcG p) → acc.length ≤ 16 → (∀ s ∈ acc, s.size ≤ 65536) → argsP acc l = .inr (aa, t) → aa.length ≤ 16 ∧ (∀ s ∈ aa, s.size ≤ 65536) ∧ ∀ p ∈ t, PcG p
  | [], acc, aa, t, hl, h0, ha, h => by rw [argsP] at h; injection h with h; injection h with h1 h2; subst h1 h2; exact ⟨h0, ha, hl⟩
  | x :: l, acc, aa, t, hl, h0, ha, h => by
    rw [argsP] at h
    split at h
    · split at h
      · cases h
      · refine argsP_good l _ _ _ (fun p hp => hl p (by simp [hp])) (by rw [List.length_append]; simp only [List.length_cons, List.length_nil]; omega) (fun s hs => ?_) h
        rcases List.mem_append.1 hs with hs | hs
        · exact ha s hs
        · obtain rfl := List.mem_singleton.1 hs; exact (hl x (by simp)).2
    · injection h with h; injection h with h1 h2; subst h1 h2; exact ⟨h0, ha, hl⟩
theorem oneP_t_good {last : Int} {go : List Pc → (Int × Int) ⊕ (List Nd × List Pc)} {depth : Nat} {l : List Pc} {x : Nd} {t : List Pc} (hl : ∀ p ∈ l, PcG p) (hg : ∀ a b c, (∀ p ∈ a, PcG p) → go a = .inr (b, c) → NdsG b ∧ ∀ p ∈ c, PcG p) (h : oneP_t last go depth l = .inr (x, t)) : NdG x ∧ ∀ p ∈ t, PcG p := by
  cases l with
  | nil => cases h
  | cons y l =>
    rw [oneP_t] at h
    have hy := hl y (by simp)
    split at h
    · cases h
    · cases ha : argsP [] l with
      | inl e => rw [ha] at h; cases h
      | inr p =>
        obtain ⟨aa, t2⟩ := p
        rw [ha] at h
        obtain ⟨h1, h2, h3⟩ := argsP_good _ _ _ _ (fun p hp => hl p (by simp [hp])) (by simp) (by simp) ha
        simp only at h
        split at h
        · injection h with h; injection h with h4 h5; subst h4 h5
          rw [NdG, NdsG]
          exact ⟨⟨hy.1, h1, h2, trivial⟩, fun p hp => h3 p (List.mem_of_mem_tail hp)⟩
        · split at h
          · split at h
            · cases h
            · cases hq : go t2.tail with
              | inl e => rw [hq] at h; cases h
              | inr p =>
                obtain ⟨b, t3⟩ := p
                rw [hq] at h
                obtain ⟨h6, h7⟩ := hg _ _ _ (fun p hp => h3 p (List.mem_of_mem_tail hp)) hq
                simp only at h
                injection h with h; injection h with h4 h5; subst h4 h5
                rw [NdG]
                exact ⟨⟨hy.1, h1, h2, h6⟩, fun p hp => h7 p (List.mem_of_mem_tail hp)⟩
          · cases h
theorem listP_good (last : Int) : ∀ (f depth : Nat) (out : List Nd) (l : List Pc) (xs : List Nd) (t : List Pc), NdsG out → (∀ p ∈ l, PcG p) → listP last f depth out l = .inr (xs, t) → NdsG xs ∧ ∀ p ∈ t, PcG p
  | 0, depth, out, l, xs, t, ho, hl, h => by rw [listP] at h; injection h with h; injection h with h1 h2; subst h1 h2; exact ⟨ho, hl⟩
  | f + 1, depth, out, l, xs, t, ho, hl, h => by
    rw [listP] at h
    split at h
    · injection h with h; injection h with h1 h2; subst h1 h2; exact ⟨ho, hl⟩
    · cases hq : oneP_t last (listP last f (depth + 1) []) depth l with
      | inl e => rw [hq] at h; cases h
      | inr p =>
        obtain ⟨x, t2⟩ := p
        rw [hq] at h
        obtain ⟨h1, h2⟩ := oneP_t_good hl (fun a b c ha hh => listP_good last f _ _ _ _ _ (by rw [NdsG]; trivial) ha hh) hq
        exact listP_good last f _ _ _ _ _ (ho.snoc h1) h2 h
theorem treeP_good {s : List UInt8} {xs : List Nd} (h : treeP s = .inr xs) : NdsG xs := by
  unfold treeP at h
  cases hl : lexP s with
  | inl e => rw [hl] at h; cases h
  | inr l =>
    rw [hl] at h
    simp only at h
    cases hq : listP (lastP l) (l.length + 1) 0 [] l with
    | inl e => rw [hq] at h; cases h
    | inr p =>
      obtain ⟨out, t⟩ := p
      rw [hq] at h
      simp only at h
      injection h with h
      subst h
      exact (listP_good _ _ _ _ _ _ _ (by rw [NdsG]; trivial) (lexP_good hl) hq).1
theorem readP_line0 : ∀ (f : Nat) (ln : Int) (l : List UInt8) (out : List Pc) (c n : Int), 0 ≤ ln → readP f ln l out = .inl (c, n) → 0 ≤ n
  | 0, ln, l, out, c, n, h0, he => by rw [readP] at he; cases he
  | f + 1, ln, l, out, c, n, h0, he => by
    rw [readP] at he
    have hs := skipP_line l false ln
    obtain ⟨q, hq⟩ : ∃ q, q = skipP false ln l := ⟨_, rfl⟩
    rw [← hq] at he hs
    obtain ⟨q1, q2⟩ := q
    simp only at he hs
    by_cases h1 : q2 = []
    · rw [if_pos h1] at he; cases he
    · rw [if_neg h1] at he
      by_cases h2 : out.length = 8192
      · rw [if_pos h2] at he; injection he with he; injection he with _ he; omega
      · rw [if_neg h2] at he
        cases hh : oneP q2 with
        | none => rw [hh] at he; injection he with he; injection he with _ he; omega
        | some p =>
          obtain ⟨k, t, r⟩ := p
          rw [hh] at he
          exact readP_line0 f q1 r _ c n (by omega) he
theorem argsP_line : ∀ (l : List Pc) (acc : List ByteArray) (c n : Int), (∀ p ∈ l, PcG p) → argsP acc l = .inl (c, n) → 0 ≤ n
  | [], acc, c, n, hl, h => by rw [argsP] at h; cases h
  | x :: l, acc, c, n, hl, h => by
    rw [argsP] at h
    split at h
    · split at h
      · injection h with h; injection h with _ h; have := (hl x (by simp)).1; omega
      · exact argsP_line l _ c n (fun p hp => hl p (by simp [hp])) h
    · cases h
theorem lineP_line {last : Int} {l : List Pc} (h0 : 0 ≤ last) (hl : ∀ p ∈ l, PcG p) : 0 ≤ lineP last l := by
  cases l with
  | nil => exact h0
  | cons x l => exact Int.le_of_lt (hl x (by simp)).1
theorem oneP_t_line {last : Int} {go : List Pc → (Int × Int) ⊕ (List Nd × List Pc)} {depth : Nat} {l : List Pc} {c n : Int} (h0 : 0 ≤ last) (hl : ∀ p ∈ l, PcG p) (hg : ∀ a c n, (∀ p ∈ a, PcG p) → go a = .inl (c, n) → 0 ≤ n) (h : oneP_t last go depth l = .inl (c, n)) : 0 ≤ n := by
  cases l with
  | nil => injection h with h; injection h with _ h; omega
  | cons y l =>
    rw [oneP_t] at h
    have hy := hl y (by simp)
    split at h
    · injection h with h; injection h with _ h; have := hy.1; omega
    · cases ha : argsP [] l with
      | inl e =>
        rw [ha] at h
        injection h with h
        subst h
        exact argsP_line _ _ _ _ (fun p hp => hl p (by simp [hp])) ha
      | inr p =>
        obtain ⟨aa, t2⟩ := p
        rw [ha] at h
        obtain ⟨h1, h2, h3⟩ := argsP_good _ _ _ _ (fun p hp => hl p (by simp [hp])) (by simp) (by simp) ha
        simp only at h
        split at h
        · cases h
        · split at h
          · split at h
            · injection h with h; injection h with _ h; have := lineP_line h0 h3; omega
            · cases hq : go t2.tail with
              | inl e =>
                rw [hq] at h
                injection h with h
                subst h
                exact hg _ _ _ (fun p hp => h3 p (List.mem_of_mem_tail hp)) hq
              | inr p =>
                obtain ⟨b, t3⟩ := p
                rw [hq] at h
                cases h
          · injection h with h; injection h with _ h; have := lineP_line h0 h3; omega
theorem listP_line (last : Int) (h0 : 0 ≤ last) : ∀ (f depth : Nat) (out : List Nd) (l : List Pc) (c n : Int), NdsG out → (∀ p ∈ l, PcG p) → listP last f depth out l = .inl (c, n) → 0 ≤ n
  | 0, depth, out, l, c, n, ho, hl, h => by rw [listP] at h; cases h
  | f + 1, depth, out, l, c, n, ho, hl, h => by
    rw [listP] at h
    split at h
    · cases h
    · cases hq : oneP_t last (listP last f (depth + 1) []) depth l with
      | inl e =>
        rw [hq] at h
        injection h with h
        subst h
        exact oneP_t_line h0 hl (fun a c n ha hh => listP_line last h0 f _ _ _ _ _ (by rw [NdsG]; trivial) ha hh) hq
      | inr p =>
        obtain ⟨x, t2⟩ := p
        rw [hq] at h
        obtain ⟨h1, h2⟩ := oneP_t_good hl (fun a b c ha hh => listP_good last f _ _ _ _ _ (by rw [NdsG]; trivial) ha hh) hq
        exact listP_line last h0 f _ _ _ _ _ (ho.snoc h1) h2 h
theorem treeP_line {s : List UInt8} {c n : Int} (h : treeP s = .inl (c, n)) : 0 ≤ n := by
  unfold treeP at h
  cases hl : lexP s with
  | inl e =>
    rw [hl] at h
    injection h with h
    subst h
    unfold lexP at hl
    split at hl
    · injection hl with hl; injection hl with _ hl; omega
    · exact readP_line0 _ _ _ _ _ _ (by omega) hl
  | inr l =>
    rw [hl] at h
    simp only at h
    have hg := lexP_good hl
    have h0 : 0 ≤ lastP l := by
      unfold lastP
      cases hq : l.getLast? with
      | none => exact Int.le_refl _
      | some x => exact Int.le_of_lt (hg x (List.mem_of_getLast? hq)).1
    cases hq : listP (lastP l) (l.length + 1) 0 [] l with
    | inl e =>
      rw [hq] at h
      injection h with h
      subst h
      exact listP_line _ h0 _ _ _ _ _ _ (by rw [NdsG]; trivial) hg hq
    | inr p =>
      obtain ⟨out, t⟩ := p
      rw [hq] at h
      cases h
/-- what a statement asks of its node -/
theorem NdG.stmt {x : Nd} (h : NdG x) : 0 < lineN x ∧ (argsN x).length ≤ 1099511627776 ∧ (∀ s ∈ argsN x, s.size ≤ 1073741824) ∧ ∀ y ∈ subN x, 0 < lineN y ∧ ∀ s ∈ argsN y, s.size ≤ 1073741824 := by
  obtain ⟨key, as_, b, sub, line⟩ := x
  rw [NdG] at h
  obtain ⟨h1, h2, h3, h4⟩ := h
  refine ⟨h1, by show as_.length ≤ _; omega, fun s hs => Nat.le_trans (h3 s hs) (by omega), fun y hy => ?_⟩
  have hy2 := NdsG.of_mem h4 hy
  obtain ⟨key2, as2, b2, sub2, line2⟩ := y
  rw [NdG] at hy2
  exact ⟨hy2.1, fun s hs => Nat.le_trans (hy2.2.2.1 s hs) (by omega)⟩
end Go.Proofs.YtfpajgmdejlaeaaGreatDoor
