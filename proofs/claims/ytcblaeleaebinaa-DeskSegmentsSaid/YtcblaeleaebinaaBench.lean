/-
  A desk and the one past that it shows, as the laws use them.
-/
import Derived.Test.YtcblaeleaebinaaDeskP
import Derived.Test.YtcblaeleaebinaaDeskD
import Derived.Test.YtcblaeleaebinaaDeskG
import Derived.Test.YtcblaeleaebinaaDeskE
namespace Go.Proofs.Ytcblaeleaebinaa
open Go.RowKit

def E1 (g b m : Nat) (A : List UInt8) : Nat → PastD := fun _ => ⟨g, b, m, A⟩

/-- blocks p, g, b: the past; d: the desk; all made since w0; what waits is FL, of which bg is begun -/
structure Bench (w0 w : World) (p g b m d B : Nat) (A : List UInt8) (most : Nat) (torn : Bool) (bg : List UInt8) (FL : Flow) : Prop where
  kk : Keeps (fun i => w0.heap.size ≤ i) w0 w
  past : IsPast w p g b m A
  lo : w0.heap.size ≤ p ∧ w0.heap.size ≤ g ∧ w0.heap.size ≤ b ∧ w0.heap.size ≤ d
  hi : p < B ∧ g < B ∧ b < B
  ne : p ≠ d ∧ g ≠ d ∧ b ≠ d
  sz : B ≤ w.heap.size
  lim : A.length ≤ 1073741824
  desk : ∃ l v, DeskAt w (E1 g b m A) d (fun i => i = d ∨ B ≤ i) most torn bg l v ∧ flowP (E1 g b m A) bg l = FL ∧ ∀ x p' f t, DPart.pc x p' f t ∈ l → p' = p

theorem DeskAt.few {w : World} {E : Nat → PastD} {d : Nat} {F : Nat → Prop} {most : Nat} {torn : Bool} {bg : List UInt8} {l : List DPart} {v : Value} (h : DeskAt w E d F most torn bg l v) : l.length ≤ (flowP E bg l).length := by
  have h1 : ∀ l : List DPart, (∀ q ∈ l, q.ok E) → l.length ≤ (l.flatMap (DPart.flow E)).length := fun l => by
    induction l with
    | nil => intro _; simp
    | cons q r ih =>
      intro hq
      rw [List.flatMap_cons, List.length_append, List.length_cons]
      have := DPart.flow_pos (hq q List.mem_cons_self)
      have := ih fun q h => hq q (List.mem_cons_of_mem _ h)
      omega
  have := h1 l fun q hq => (h.pcs q hq).2
  unfold flowP
  rw [List.length_append]; omega

section
variable {w0 w w' : World} {p g b m d B : Nat} {A : List UInt8} {most : Nat} {torn : Bool} {bg : List UInt8} {FL : Flow}
theorem Bench.keeps {S : Nat → Prop} (h : Bench w0 w p g b m d B A most torn bg FL) (k : Keeps S w w') (hS : ∀ i, w0.heap.size ≤ i → i < w.heap.size → ¬ S i) (hS2 : ∀ i, i < w0.heap.size → ¬ S i) : Bench w0 w' p g b m d B A most torn bg FL := by
  have k0 : Keeps (fun _ => False) w w' := k.mono fun i hi e => by
    rcases Nat.lt_or_ge i w0.heap.size with h1 | h1
    · exact hS2 i h1 e
    · exact hS i h1 hi e
  exact {
    kk := (h.kk.trans k0.none_)
    past := h.past.keeps k0 id id id
    lo := h.lo
    hi := h.hi
    ne := h.ne
    sz := Nat.le_trans h.sz k0.size
    lim := h.lim
    desk := by
      obtain ⟨l, v, h1, h2, h3⟩ := h.desk
      exact ⟨l, v, h1.keeps k0 (fun _ _ => id), h2, h3⟩ }
theorem Bench.same (h : Bench w0 w p g b m d B A most torn bg FL) (k : Keeps (fun _ => False) w w') : Bench w0 w' p g b m d B A most torn bg FL := h.keeps k (fun _ _ _ => id) (fun _ _ => id)
theorem Bench.lt (h : Bench w0 w p g b m d B A most torn bg FL) : w0.heap.size < B := by have := h.lo; have := h.hi; omega

/-- what a step of the desk's own leaves -/
theorem Bench.next {w2 : World} {F' : Nat → Prop} {l' : List DPart} {v' : Value} {torn' : Bool} {bg' : List UInt8} (h : Bench w0 w p g b m d B A most torn bg FL) (k : Keeps (fun i => i = d ∨ B ≤ i) w w2)
    (hd : DeskAt w2 (E1 g b m A) d F' most torn' bg' l' v') (hF : ∀ i, F' i → i = d ∨ B ≤ i) (hp : ∀ x p' f t, DPart.pc x p' f t ∈ l' → p' = p) : Bench w0 w2 p g b m d B A most torn' bg' (flowP (E1 g b m A) bg' l') where
  kk := h.kk.trans (k.mono fun i _ e => by have := h.lt; have := h.lo; omega)
  past := h.past.keeps k (by have := h.hi; have := h.ne; omega) (by have := h.hi; have := h.ne; omega) (by have := h.hi; have := h.ne; omega)
  lo := h.lo
  hi := h.hi
  ne := h.ne
  sz := Nat.le_trans h.sz k.size
  lim := h.lim
  desk := ⟨l', v', hd.more hF, rfl, hp⟩

theorem btell (s : ByteArray) (h : Bench w0 w p g b m d B A most torn bg FL) (hs : s.size ≤ 1073741824) (hz : FL.length ≤ 8589934592) :
    Calls Try.prog 19 #[.pointer (some ⟨d, 0, none⟩), .string s] w fun e w' => e = .returned (.tuple #[]) ∧ Bench w0 w' p g b m d B A most torn bg (FL ++ markP (toldP s.data.toList)) := by
  obtain ⟨l, v, h1, h2, h3⟩ := h.desk
  have hf := h1.few
  rw [h2] at hf
  refine (dtell_any w (E1 g b m A) d _ most torn bg l v s h1 hs (by rw [h2]; omega)).mono ?_
  rintro e w' ⟨rfl, k, v', h'⟩
  refine ⟨rfl, ?_⟩
  have := h.next k h' (fun i e => by have := h.sz; rcases e with e | e; exact e; exact .inr (by omega)) (fun x p' f t hq => by
    rcases List.mem_append.1 hq with hq | hq
    · exact h3 x p' f t hq
    · rw [List.mem_singleton] at hq; cases hq)
  rw [flowP_snoc, h2] at this
  exact this

theorem bcut (h : Bench w0 w p g b m d B A most torn bg FL) :
    Calls Try.prog 16 #[.pointer (some ⟨d, 0, none⟩)] w fun e w' => e = .returned (.tuple #[]) ∧ Bench w0 w' p g b m d B A most torn bg (markP bg) := by
  obtain ⟨l, v, h1, h2, h3⟩ := h.desk
  refine (dcut_any w (E1 g b m A) d _ most torn bg l v h1).mono ?_
  rintro e w' ⟨rfl, k, v', h'⟩
  refine ⟨rfl, ?_⟩
  have := h.next k h' (fun i e => e) (fun x p' f t hq => by cases hq)
  have e0 : flowP (E1 g b m A) bg [] = markP bg := by unfold flowP; simp
  rw [e0] at this
  exact this

theorem bshow (x y : Nat) (h : Bench w0 w p g b m d B A most torn bg FL) (hx : A.length - m ≤ x) (hxy : x ≤ y) (hy : y ≤ A.length) (hz : FL.length ≤ 8589934592) :
    Calls Try.prog 12 #[.pointer (some ⟨d, 0, none⟩), .pointer (some ⟨p, 0, none⟩), .int .i64 x, .int .i64 y] w fun e w' => e = .returned (.bool true) ∧ Bench w0 w' p g b m d B A most torn bg (FL ++ dblF ((A.drop x).take (y - x))) := by
  obtain ⟨l, v, h1, h2, h3⟩ := h.desk
  have hf := h1.few
  rw [h2] at hf
  have hl := h.lim
  refine (dshow_yes w (E1 g b m A) d _ most torn bg l v p x y h1 h.past (show A.length ≤ _ by omega) hx hxy hy (by rw [h2]; omega) (by omega) (fun x1 p1 f1 t1 hq => by rw [h3 _ _ _ _ hq]; exact ⟨_, h.past.top⟩)).mono ?_
  rintro e w' ⟨rfl, k, v', l', h', h4, h5, h6⟩
  refine ⟨rfl, ?_⟩
  have := h.next k h' (fun i e => by have := h.sz; rcases e with e | e; exact e; exact .inr (by omega)) (fun x p' f t hq => by
    rcases h6 _ hq x p' f t rfl with ⟨h7, _⟩ | ⟨x0, t0, h7⟩
    · exact h7
    · exact h3 _ _ _ _ h7)
  rw [h4, h2] at this
  exact this

theorem bshow_no (x y : Int) (h : Bench w0 w p g b m d B A most torn bg FL) (hx : x < (A.length - m : Nat) ∨ y < x ∨ (A.length : Int) < y) :
    Calls Try.prog 12 #[.pointer (some ⟨d, 0, none⟩), .pointer (some ⟨p, 0, none⟩), .int .i64 x, .int .i64 y] w fun e w' => e = .returned (.bool false) ∧ Bench w0 w' p g b m d B A most torn bg FL := by
  obtain ⟨l, v, h1, h2, h3⟩ := h.desk
  have hl := h.lim
  refine (dshow_no w (E1 g b m A) d _ most torn bg l v p x y h1 h.past (show A.length ≤ _ by omega) hx).mono ?_
  rintro e w' ⟨rfl, n, rfl⟩
  exact ⟨rfl, h.same ((Keeps.refl _ _).drewN n)⟩

theorem badd (s : ByteArray) (h : Bench w0 w p g b m d B A most torn bg FL) (hs : A.length + s.size ≤ 1073741824) :
    Calls Try.prog 11 #[.pointer (some ⟨p, 0, none⟩), .string s] w fun e w' => e = .returned (.tuple #[]) ∧ Bench w0 w' p g b m d B (A ++ s.data.toList) most torn bg FL := by
  obtain ⟨l, v, h1, h2, h3⟩ := h.desk
  refine (padd_any w p g b m A s h.past (by unfold maxLen; omega) (by omega)).mono ?_
  rintro e w' ⟨rfl, k, h'⟩
  have hlo := h.lo
  have hhi := h.hi
  have hne := h.ne
  have hsl : s.data.toList.length = s.size := by simp
  have hgr : ∀ q ∈ l, ∀ x p f t, q = DPart.pc x p f t → Grown (E1 g b m A) (E1 g b m (A ++ s.data.toList)) p := fun q hq x p f t he => ⟨s.data.toList, rfl⟩
  refine ⟨rfl, {
    kk := h.kk.trans (k.mono fun i _ e => by omega)
    past := h'
    lo := hlo
    hi := hhi
    ne := h.ne
    sz := Nat.le_trans h.sz k.size
    lim := by rw [List.length_append]; omega
    desk := ⟨l, v, (h1.keeps k (fun i hi e => by omega)).grown hgr, by rw [flowP_grown bg (fun q hq => (h1.pcs q hq).2) hgr]; exact h2, h3⟩ }⟩

theorem bemit (n : Int) (h : Bench w0 w p g b m d B A most torn bg FL) (hn : -9223372036854775808 ≤ n ∧ n ≤ 9223372036854775807) :
    Calls Try.prog 13 #[.pointer (some ⟨d, 0, none⟩), .int .i64 n] w fun e w' => ∃ k torn' bg', e = .returned (.string (str ((FL.take k).map Prod.fst))) ∧ Bench w0 w' p g b m d B A most torn' bg' (FL.drop k) ∧ k ≤ n.toNat ∧ SentP FL bg k bg' ∧ (k = min n.toNat FL.length ∧ torn' = torn ∨ torn' = true ∧ ¬ A.length ≤ m) := by
  obtain ⟨l, v, h1, h2, h3⟩ := h.desk
  have hl := h.lim
  have hhi := h.hi
  have hne := h.ne
  refine (demit_any w (E1 g b m A) d _ most torn bg l v n h1 (fun x p' f t hq => by
    obtain rfl := h3 _ _ _ _ hq
    exact ⟨h.past, (show A.length ≤ _ by omega), (by omega), (show ¬ (g = d ∨ B ≤ g) by omega), (show ¬ (b = d ∨ B ≤ b) by omega)⟩) hn).mono ?_
  rintro e w' ⟨k, torn', bg', l', v', rfl, kk, h', hfr, hk, hs, hfl, ht⟩
  rw [h2] at hs hfl ht ⊢
  refine ⟨k, torn', bg', rfl, ?_, hk, hs, ht.imp id fun ⟨t1, t2⟩ => ⟨t1, fun hle => t2 fun q hq => ?_⟩⟩
  · have := h.next kk h' (fun i e => e) (fun x p' f t hq => by
      obtain ⟨q0, h0, h1⟩ := hfr _ hq
      cases q0 with
      | rep s => exact h1.elim
      | pc x0 p0 f0 t0 =>
        obtain ⟨rfl, rfl, rfl, _⟩ := h1
        exact h3 _ _ _ _ h0)
    rw [hfl] at this
    exact this
  · cases q with
    | rep s => trivial
    | pc x p f t =>
      show A.length - m ≤ f
      omega

theorem bwaits (h : Bench w0 w p g b m d B A most torn bg FL) : Calls Try.prog 22 #[.pointer (some ⟨d, 0, none⟩)] w (Qt (.int .i64 FL.length) w) := by
  obtain ⟨l, v, h1, h2, h3⟩ := h.desk
  have := dwaits_yes w (E1 g b m A) d _ most torn bg l v h1
  rw [h2] at this
  exact this
theorem blate (h : Bench w0 w p g b m d B A most torn bg FL) : Calls Try.prog 15 #[.pointer (some ⟨d, 0, none⟩)] w (Qt (.bool (decide (most < FL.length) || torn)) w) := by
  obtain ⟨l, v, h1, h2, h3⟩ := h.desk
  have := dlate_yes w (E1 g b m A) d _ most torn bg l v h1
  rw [h2] at this
  exact this
/-- a new desk next to a new past -/
theorem bnew (k0 : Keeps (fun i => w0.heap.size ≤ i) w0 w) (hp : IsPast w p g b m A) (hlo : w0.heap.size ≤ p ∧ w0.heap.size ≤ g ∧ w0.heap.size ≤ b) (hA : A.length ≤ 1073741824) (h1 : 1 ≤ most) (h2 : most ≤ 1048576) :
    Calls Try.prog 9 #[.int .i64 most] w fun e w' => e = .returned (.tuple #[.pointer (some ⟨w.heap.size, 0, none⟩), .int .i64 0]) ∧ Bench w0 w' p g b m w.heap.size w.heap.size A most false [] [] := by
  refine (dnew_ok w (E1 g b m A) most h1 h2).mono ?_
  rintro e w' ⟨rfl, k, h'⟩
  have hl := hp.lt
  exact ⟨rfl, {
    kk := k0.trans k.none_
    past := hp.keeps k id id id
    lo := ⟨hlo.1, hlo.2.1, hlo.2.2, k0.size⟩
    hi := hl
    ne := by omega
    sz := k.size
    lim := hA
    desk := ⟨[], _, h'.more (fun i e => .inl e), rfl, fun x p' f t hq => by cases hq⟩ }⟩
/-- a new past next to a desk that is there -/
theorem bpast (k : Nat) (k0 : Keeps (fun i => w0.heap.size ≤ i) w0 w) (hd : ∀ E : Nat → PastD, DeskAt w E d (fun i => i = d) most false [] [] (.slice none 0 0)) (hlo : w0.heap.size ≤ d) (h1 : 1 ≤ k) (h2 : k ≤ 1048576) :
    Calls Try.prog 8 #[.int .i64 k] w fun e w' => ∃ p g b, e = .returned (.tuple #[.pointer (some ⟨p, 0, none⟩), .int .i64 0]) ∧ Bench w0 w' p g b k d w'.heap.size [] most false [] [] := by
  refine (pnew_ok w k h1 h2).mono ?_
  rintro e w' ⟨p, g, b, rfl, l1, l2, l3, k1, hp⟩
  have hl := hp.lt
  have hdl := (hd (E1 g b k [])).top.lt
  have hs := k0.size
  exact ⟨p, g, b, rfl, {
    kk := k0.trans k1.none_
    past := hp
    lo := by omega
    hi := hl
    ne := by omega
    sz := Nat.le_refl _
    lim := by decide
    desk := ⟨[], _, ((hd (E1 g b k [])).keeps k1 (fun _ _ => id)).more (fun i e => .inl e), rfl, fun x p' f t hq => by cases hq⟩ }⟩
end
end Go.Proofs.Ytcblaeleaebinaa
