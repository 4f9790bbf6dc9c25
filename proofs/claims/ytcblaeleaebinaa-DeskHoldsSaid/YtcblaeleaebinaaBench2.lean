/-
  A desk that holds what waits, and a past that goes on.
-/
import Derived.Test.YtcblaeleaebinaaWorks32
import Derived.Test.YtcblaeleaebinaaDeskS
namespace Go.Proofs.Ytcblaeleaebinaa
open Go.RowKit

structure Bench2 (w0 w : World) (p g b m d : Nat) (A : List UInt8) (most : Nat) (torn : Bool) (bg : List UInt8) (FL : Flow) : Prop where
  kk : Keeps (fun i => w0.heap.size ≤ i) w0 w
  past : IsPast w p g b m A
  lo : w0.heap.size ≤ p ∧ w0.heap.size ≤ g ∧ w0.heap.size ≤ b
  lim : A.length ≤ 1073741824
  desk : ∃ E F l v, DeskAt w E d F most torn bg l v ∧ flowP E bg l = FL ∧ PastsOk w E F l ∧ (∀ q ∈ l, q.kept E) ∧ (∀ i, F i → w0.heap.size ≤ i ∧ i ≠ p ∧ i ≠ g ∧ i ≠ b) ∧
    ∀ x p' f t, DPart.pc x p' f t ∈ l → (p' ≠ p ∧ p' ≠ g ∧ p' ≠ b) ∧ ((E p').g ≠ p ∧ (E p').g ≠ g ∧ (E p').g ≠ b) ∧ ((E p').b ≠ p ∧ (E p').b ≠ g ∧ (E p').b ≠ b)

section
variable {w0 w w' : World} {p g b m d B : Nat} {A : List UInt8} {most : Nat} {torn : Bool} {bg : List UInt8} {FL : Flow}
theorem Bench2.same (h : Bench2 w0 w p g b m d A most torn bg FL) (k : Keeps (fun _ => False) w w') : Bench2 w0 w' p g b m d A most torn bg FL where
  kk := h.kk.trans k.none_
  past := h.past.keeps k id id id
  lo := h.lo
  lim := h.lim
  desk := by
    obtain ⟨E, F, l, v, h1, h2, h3, h4, h5, h6⟩ := h.desk
    exact ⟨E, F, l, v, h1.keeps k (fun _ _ => id), h2, h3.keeps k (fun _ _ h => h.elim), h4, h5, h6⟩

theorem bhold (h : Bench w0 w p g b m d B A most torn bg FL) (hA : A.length ≤ m) :
    Calls Try.prog 25 #[.pointer (some ⟨d, 0, none⟩)] w fun e w' => e = .returned (.tuple #[]) ∧ Bench2 w0 w' p g b m d A most torn bg FL := by
  obtain ⟨l, v, h1, h2, h3⟩ := h.desk
  have hl := h.lim
  have hhi := h.hi
  have hne := h.ne
  have hlo := h.lo
  have hsz := h.sz
  refine (dhold_any w (E1 g b m A) d _ most torn bg l v h1 (fun x p' f t hq => by
    obtain rfl := h3 _ _ _ _ hq
    exact ⟨h.past, (show A.length ≤ _ by omega), (by omega), (show ¬ (g = d ∨ B ≤ g) by omega), (show ¬ (b = d ∨ B ≤ b) by omega)⟩) (fun q hq => by
    cases q with
    | rep s => trivial
    | pc x p f t => show A.length - m ≤ f; omega)).mono ?_
  rintro e w' ⟨rfl, E', F', cur, hH⟩
  have hkk := hH.kk
  refine ⟨rfl, {
    kk := h.kk.trans (hkk.mono fun i _ e => by omega)
    past := h.past.keeps hkk (by omega) (by omega) (by omega)
    lo := ⟨hlo.1, hlo.2.1, hlo.2.2.1⟩
    lim := hl
    desk := ⟨E', F', cur, v, hH.desk, by rw [hH.flow]; exact h2, hH.past, hH.kept, fun i hi => ?_, fun x p' f t hq => ?_⟩ }⟩
  · rcases hH.more i hi with h7 | h7 <;> omega
  · obtain ⟨j, hj, hjq⟩ := List.mem_iff_getElem.1 hq
    have := hH.own j (by rw [hH.len] at hj; exact hj) x p' f t (by rw [List.getElem?_eq_getElem hj, hjq])
    omega

theorem badd2 (s : ByteArray) (h : Bench2 w0 w p g b m d A most torn bg FL) (hs : A.length + s.size ≤ 1073741824) :
    Calls Try.prog 11 #[.pointer (some ⟨p, 0, none⟩), .string s] w fun e w' => e = .returned (.tuple #[]) ∧ Bench2 w0 w' p g b m d (A ++ s.data.toList) most torn bg FL := by
  obtain ⟨E, F, l, v, h1, h2, h3, h4, h5, h6⟩ := h.desk
  refine (padd_any w p g b m A s h.past (by unfold maxLen; omega) (by omega)).mono ?_
  rintro e w' ⟨rfl, k, h'⟩
  have hlo := h.lo
  have hsl : s.data.toList.length = s.size := by simp
  refine ⟨rfl, {
    kk := h.kk.trans (k.mono fun i _ e => by omega)
    past := h'
    lo := hlo
    lim := by rw [List.length_append]; omega
    desk := ⟨E, F, l, v, h1.keeps k (fun i hi e => by have := h5 i hi; omega), h2, fun x p' f t hq => ?_, h4, h5, h6⟩ }⟩
  obtain ⟨t1, t2, t3, t4, t5⟩ := h3 _ _ _ _ hq
  have := h6 _ _ _ _ hq
  exact ⟨t1.keeps k (by omega) (by omega) (by omega), t2, t3, t4, t5⟩

theorem btell2 (s : ByteArray) (h : Bench2 w0 w p g b m d A most torn bg FL) (hs : s.size ≤ 1073741824) (hz : FL.length ≤ 8589934592) :
    Calls Try.prog 19 #[.pointer (some ⟨d, 0, none⟩), .string s] w fun e w' => e = .returned (.tuple #[]) ∧ Bench2 w0 w' p g b m d A most torn bg (FL ++ markP (toldP s.data.toList)) := by
  obtain ⟨E, F, l, v, h1, h2, h3, h4, h5, h6⟩ := h.desk
  have hf := h1.few
  rw [h2] at hf
  refine (dtell_any w E d _ most torn bg l v s h1 hs (by rw [h2]; omega)).mono ?_
  rintro e w' ⟨rfl, k, v', h'⟩
  have hpl := h.past.lt
  have hsz := h.kk.size
  have hin : ∀ x p' f t, DPart.pc x p' f t ∈ l ++ [.rep (toldP s.data.toList)] → DPart.pc x p' f t ∈ l := fun x p' f t hq => by
    rcases List.mem_append.1 hq with hq | hq
    · exact hq
    · rw [List.mem_singleton] at hq; cases hq
  refine ⟨rfl, {
    kk := h.kk.trans (k.mono fun i _ e => (h5 i e).1)
    past := h.past.keeps k (fun e => by have := h5 _ e; omega) (fun e => by have := h5 _ e; omega) (fun e => by have := h5 _ e; omega)
    lo := h.lo
    lim := h.lim
    desk := ⟨E, _, _, v', h', by rw [flowP_snoc, h2]; rfl, fun x p' f t hq => ?_, fun q hq => ?_, fun i hi => ?_, fun x p' f t hq => h6 x p' f t (hin _ _ _ _ hq)⟩ }⟩
  · obtain ⟨t1, t2, t3, t4, t5⟩ := h3 _ _ _ _ (hin _ _ _ _ hq)
    have hl := t1.lt
    exact ⟨t1.keeps k t3 t4 t5, t2, fun e => e.elim t3 (by omega), fun e => e.elim t4 (by omega), fun e => e.elim t5 (by omega)⟩
  · rcases List.mem_append.1 hq with hq | hq
    · exact h4 q hq
    · rw [List.mem_singleton] at hq; subst hq; trivial
  · rcases hi with hi | hi
    · exact h5 i hi
    · omega

theorem bemit2 (n : Int) (h : Bench2 w0 w p g b m d A most torn bg FL) (hn : -9223372036854775808 ≤ n ∧ n ≤ 9223372036854775807) (hall : (FL.length : Int) ≤ n) (ht : torn = false) :
    Calls Try.prog 13 #[.pointer (some ⟨d, 0, none⟩), .int .i64 n] w fun e w' => e = .returned (.string (str (FL.map Prod.fst))) ∧ Keeps (fun i => w0.heap.size ≤ i) w0 w' ∧
      ∀ w2, Keeps (fun _ => False) w' w2 → Calls Try.prog 15 #[.pointer (some ⟨d, 0, none⟩)] w2 (Qt (.bool false) w2) ∧ Calls Try.prog 22 #[.pointer (some ⟨d, 0, none⟩)] w2 (Qt (.int .i64 0) w2) := by
  obtain ⟨E, F, l, v, h1, h2, h3, h4, h5, h6⟩ := h.desk
  refine (demit_any w E d F most torn bg l v n h1 h3 hn).mono ?_
  rintro e w' ⟨k, torn', bg', l', v', rfl, kk, h', hfr, hk, hs, hfl, ht2⟩
  rw [h2] at hs hfl ht2 ⊢
  have hkf : k = FL.length ∧ torn' = false := by
    rcases ht2 with ⟨t1, t2⟩ | ⟨_, t2⟩
    · exact ⟨by omega, by rw [t2, ht]⟩
    · exact absurd h4 t2
  obtain ⟨rfl, rfl⟩ := hkf
  rw [List.drop_eq_nil_of_le (Nat.le_refl _)] at hfl
  refine ⟨by rw [List.take_of_length_le (Nat.le_refl _)], h.kk.trans (kk.mono fun i _ e => (h5 i e).1), fun w2 k2 => ?_⟩
  have h7 := h'.keeps k2 (fun _ _ => id)
  have t1 := dlate_yes w2 E d F most false bg' l' v' h7
  have t2 := dwaits_yes w2 E d F most false bg' l' v' h7
  rw [hfl] at t1 t2
  exact ⟨by simpa using t1, t2⟩
end
end Go.Proofs.Ytcblaeleaebinaa
