/-
  A desk and the one past that it shows, with the blocks that are the desk's own.
-/
import Derived.Test.YtcblaeleaebinaaWorks32
namespace Go.Proofs.Ytcblaeleaebinaa
open Go.RowKit

theorem DeskAt.anyE' {w : World} {E : Nat → PastD} {d : Nat} {F : Nat → Prop} {most : Nat} {torn : Bool} {bg : List UInt8} {v : Value} (h : DeskAt w E d F most torn bg [] v) (E2 : Nat → PastD) : DeskAt w E2 d F most torn bg [] v :=
  ⟨h.top, h.own, (fun q hq => by cases hq), h.dist, h.inD, h.inV, h.inX, h.mst, h.fit⟩

structure BenchF (w0 w : World) (p g b m d : Nat) (F : Nat → Prop) (A : List UInt8) (most : Nat) (bg : List UInt8) (FL : Flow) : Prop where
  kk : Keeps (fun i => w0.heap.size ≤ i) w0 w
  past : IsPast w p g b m A
  lo : w0.heap.size ≤ p ∧ w0.heap.size ≤ g ∧ w0.heap.size ≤ b
  lim : A.length ≤ m
  nF : ¬ F p ∧ ¬ F g ∧ ¬ F b
  F0 : ∀ i, F i → w0.heap.size ≤ i
  desk : ∃ l v, DeskAt w (E1 g b m A) d F most false bg l v ∧ flowP (E1 g b m A) bg l = FL ∧ ∀ x p' f t, DPart.pc x p' f t ∈ l → p' = p

section
variable {w0 w w' : World} {p g b m d : Nat} {F : Nat → Prop} {A : List UInt8} {most : Nat} {bg : List UInt8} {FL : Flow}
theorem BenchF.keeps {S : Nat → Prop} (h : BenchF w0 w p g b m d F A most bg FL) (k : Keeps S w w') (h0 : ∀ i, i < w0.heap.size → ¬ S i) (h1 : ∀ i, F i → ¬ S i) (h2 : ¬ S p ∧ ¬ S g ∧ ¬ S b) : BenchF w0 w' p g b m d F A most bg FL where
  kk := h.kk.trans (k.mono fun i _ e => by
    rcases Nat.lt_or_ge i w0.heap.size with h3 | h3
    · exact absurd e (h0 i h3)
    · exact h3)
  past := h.past.keeps k h2.1 h2.2.1 h2.2.2
  lo := h.lo
  lim := h.lim
  nF := h.nF
  F0 := h.F0
  desk := by
    obtain ⟨l, v, h3, h4, h5⟩ := h.desk
    exact ⟨l, v, h3.keeps k h1, h4, h5⟩
theorem BenchF.same (h : BenchF w0 w p g b m d F A most bg FL) (k : Keeps (fun _ => False) w w') : BenchF w0 w' p g b m d F A most bg FL := h.keeps k (fun _ _ => id) (fun _ _ => id) ⟨id, id, id⟩
theorem BenchF.below (h : BenchF w0 w p g b m d F A most bg FL) : BenchF w0 w p g b m d (fun i => F i ∧ i < w.heap.size) A most bg FL := by
  obtain ⟨l, v, h3, h4, h5⟩ := h.desk
  have hz := h3.z.below
  exact {
    kk := h.kk
    past := h.past
    lo := h.lo
    lim := h.lim
    nF := ⟨fun e => h.nF.1 e.1, fun e => h.nF.2.1 e.1, fun e => h.nF.2.2 e.1⟩
    F0 := fun i hi => h.F0 i hi.1
    desk := ⟨l, v, { h3 with inD := hz.inD, inV := hz.inV, inX := hz.inX }, h4, h5⟩ }
theorem BenchF.next {w2 : World} {F' : Nat → Prop} {l' : List DPart} {v' : Value} {bg' : List UInt8} (h : BenchF w0 w p g b m d F A most bg FL) (k : Keeps F w w2)
    (hd : DeskAt w2 (E1 g b m A) d F' most false bg' l' v') (hF : ∀ i, F' i → F i ∨ w.heap.size ≤ i) (hp : ∀ x p' f t, DPart.pc x p' f t ∈ l' → p' = p) : BenchF w0 w2 p g b m d F' A most bg' (flowP (E1 g b m A) bg' l') where
  kk := h.kk.trans (k.mono fun i _ e => h.F0 i e)
  past := h.past.keeps k h.nF.1 h.nF.2.1 h.nF.2.2
  lo := h.lo
  lim := h.lim
  nF := by
    have hl := h.past.lt
    have hn := h.nF
    exact ⟨fun e => (hF _ e).elim hn.1 (by omega), fun e => (hF _ e).elim hn.2.1 (by omega), fun e => (hF _ e).elim hn.2.2 (by omega)⟩
  F0 := fun i hi => (hF i hi).elim (h.F0 i) (fun e => Nat.le_trans h.kk.size e)
  desk := ⟨l', v', hd, rfl, hp⟩

theorem btellF (s : ByteArray) (h : BenchF w0 w p g b m d F A most bg FL) (hs : s.size ≤ 1073741824) (hz : FL.length ≤ 8589934592) :
    Calls Try.prog 19 #[.pointer (some ⟨d, 0, none⟩), .string s] w fun e w' => e = .returned (.tuple #[]) ∧ Keeps F w w' ∧ BenchF w0 w' p g b m d (fun i => F i ∨ w.heap.size ≤ i) A most bg (FL ++ markP (toldP s.data.toList)) := by
  obtain ⟨l, v, h1, h2, h3⟩ := h.desk
  have hf := h1.few
  rw [h2] at hf
  refine (dtell_any w (E1 g b m A) d _ most false bg l v s h1 hs (by rw [h2]; omega)).mono ?_
  rintro e w' ⟨rfl, k, v', h'⟩
  refine ⟨rfl, k, ?_⟩
  have := h.next k h' (fun i e => e) (fun x p' f t hq => by
    rcases List.mem_append.1 hq with hq | hq
    · exact h3 x p' f t hq
    · rw [List.mem_singleton] at hq; cases hq)
  rw [flowP_snoc, h2] at this
  exact this
theorem bcutF (h : BenchF w0 w p g b m d F A most bg FL) :
    Calls Try.prog 16 #[.pointer (some ⟨d, 0, none⟩)] w fun e w' => e = .returned (.tuple #[]) ∧ Keeps F w w' ∧ BenchF w0 w' p g b m d F A most bg (markP bg) ∧ ∃ rest, FL = markP bg ++ rest := by
  obtain ⟨l, v, h1, h2, h3⟩ := h.desk
  refine (dcut_any w (E1 g b m A) d _ most false bg l v h1).mono ?_
  rintro e w' ⟨rfl, k, v', h'⟩
  refine ⟨rfl, k, ?_, ⟨_, h2.symm⟩⟩
  have := h.next k h' (fun i e => .inl e) (fun x p' f t hq => by cases hq)
  have e0 : flowP (E1 g b m A) bg [] = markP bg := by unfold flowP; simp
  rw [e0] at this
  exact this
theorem bshowF (x y : Nat) (h : BenchF w0 w p g b m d F A most bg FL) (hxy : x ≤ y) (hy : y ≤ A.length) (hz : FL.length ≤ 8589934592) :
    Calls Try.prog 12 #[.pointer (some ⟨d, 0, none⟩), .pointer (some ⟨p, 0, none⟩), .int .i64 x, .int .i64 y] w fun e w' => e = .returned (.bool true) ∧ Keeps F w w' ∧ BenchF w0 w' p g b m d (fun i => F i ∨ w.heap.size ≤ i) A most bg (FL ++ dblF ((A.drop x).take (y - x))) := by
  obtain ⟨l, v, h1, h2, h3⟩ := h.desk
  have hf := h1.few
  rw [h2] at hf
  have hl := h.lim
  have hpos := h.past.pos
  refine (dshow_yes w (E1 g b m A) d _ most false bg l v p x y h1 h.past (show A.length ≤ _ by omega) (show A.length - m ≤ x by omega) hxy hy (by rw [h2]; omega) (by omega) (fun x1 p1 f1 t1 hq => by rw [h3 _ _ _ _ hq]; exact ⟨_, h.past.top⟩)).mono ?_
  rintro e w' ⟨rfl, k, v', l', h', h4, h5, h6⟩
  refine ⟨rfl, k, ?_⟩
  have := h.next k h' (fun i e => e) (fun x p' f t hq => by
    rcases h6 _ hq x p' f t rfl with ⟨h7, _⟩ | ⟨x0, t0, h7⟩
    · exact h7
    · exact h3 _ _ _ _ h7)
  rw [h4, h2] at this
  exact this
theorem bshow_noF (x y : Int) (h : BenchF w0 w p g b m d F A most bg FL) (hx : y < x ∨ (A.length : Int) < y) :
    Calls Try.prog 12 #[.pointer (some ⟨d, 0, none⟩), .pointer (some ⟨p, 0, none⟩), .int .i64 x, .int .i64 y] w (Qt (.bool false) w) := by
  obtain ⟨l, v, h1, h2, h3⟩ := h.desk
  have hl := h.lim
  have hpos := h.past.pos
  exact dshow_no w (E1 g b m A) d _ most false bg l v p x y h1 h.past (show A.length ≤ _ by omega) (.inr hx)
theorem baddF (s : ByteArray) (h : BenchF w0 w p g b m d F A most bg FL) (hs : A.length + s.size ≤ m) :
    Calls Try.prog 11 #[.pointer (some ⟨p, 0, none⟩), .string s] w fun e w' => e = .returned (.tuple #[]) ∧ Keeps (fun i => i = p ∨ i = g ∨ i = b) w w' ∧ BenchF w0 w' p g b m d F (A ++ s.data.toList) most bg FL := by
  obtain ⟨l, v, h1, h2, h3⟩ := h.desk
  have hpos := h.past.pos
  refine (padd_any w p g b m A s h.past (by unfold maxLen; omega) (by omega)).mono ?_
  rintro e w' ⟨rfl, k, h'⟩
  have hlo := h.lo
  have hsl : s.data.toList.length = s.size := by simp
  have hgr : ∀ q ∈ l, ∀ x p f t, q = DPart.pc x p f t → Grown (E1 g b m A) (E1 g b m (A ++ s.data.toList)) p := fun q hq x p f t he => ⟨s.data.toList, rfl⟩
  refine ⟨rfl, k, {
    kk := h.kk.trans (k.mono fun i _ e => by omega)
    past := h'
    lo := hlo
    lim := by rw [List.length_append]; omega
    nF := h.nF
    F0 := h.F0
    desk := ⟨l, v, (h1.keeps k (fun i hi e => by
      rcases e with rfl | rfl | rfl
      · exact h.nF.1 hi
      · exact h.nF.2.1 hi
      · exact h.nF.2.2 hi)).grown hgr, by rw [flowP_grown bg (fun q hq => (h1.pcs q hq).2) hgr]; exact h2, h3⟩ }⟩
theorem bemitF (n : Int) (h : BenchF w0 w p g b m d F A most bg FL) (hn : -9223372036854775808 ≤ n ∧ n ≤ 9223372036854775807) :
    Calls Try.prog 13 #[.pointer (some ⟨d, 0, none⟩), .int .i64 n] w fun e w' => ∃ bg', e = .returned (.string (str ((FL.take n.toNat).map Prod.fst))) ∧ Keeps F w w' ∧ BenchF w0 w' p g b m d F A most bg' (FL.drop n.toNat) ∧ SentP FL bg (min n.toNat FL.length) bg' := by
  obtain ⟨l, v, h1, h2, h3⟩ := h.desk
  have hl := h.lim
  have hpos := h.past.pos
  refine (demit_any w (E1 g b m A) d _ most false bg l v n h1 (fun x p' f t hq => by
    obtain rfl := h3 _ _ _ _ hq
    exact ⟨h.past, (show A.length ≤ _ by omega), h.nF.1, h.nF.2.1, h.nF.2.2⟩) hn).mono ?_
  rintro e w' ⟨k, torn', bg', l', v', rfl, kk, h', hfr, hk, hs, hfl, ht⟩
  rw [h2] at hs hfl ht ⊢
  have hkt : k = min n.toNat FL.length ∧ torn' = false := by
    rcases ht with ht | ⟨_, ht⟩
    · exact ht
    · refine absurd (fun q hq => ?_) ht
      cases q with
      | rep s => trivial
      | pc x p f t => show A.length - m ≤ f; omega
  obtain ⟨rfl, rfl⟩ := hkt
  have e1 : FL.take (min n.toNat FL.length) = FL.take n.toNat := by
    rcases Nat.le_total n.toNat FL.length with h | h
    · rw [Nat.min_eq_left h]
    · rw [Nat.min_eq_right h, List.take_of_length_le h, List.take_of_length_le (Nat.le_refl _)]
  have e2 : FL.drop (min n.toNat FL.length) = FL.drop n.toNat := by
    rcases Nat.le_total n.toNat FL.length with h | h
    · rw [Nat.min_eq_left h]
    · rw [Nat.min_eq_right h, List.drop_eq_nil_of_le h, List.drop_eq_nil_of_le (Nat.le_refl _)]
  have := h.next kk h' (fun i e => .inl e) (fun x p' f t hq => by
    obtain ⟨q0, h0, h1⟩ := hfr _ hq
    cases q0 with
    | rep s => exact h1.elim
    | pc x0 p0 f0 t0 =>
      obtain ⟨rfl, rfl, rfl, _⟩ := h1
      exact h3 _ _ _ _ h0)
  rw [hfl, e2] at this
  exact ⟨bg', by rw [e1], kk, this, hs⟩
theorem bwaitsF (h : BenchF w0 w p g b m d F A most bg FL) : Calls Try.prog 22 #[.pointer (some ⟨d, 0, none⟩)] w (Qt (.int .i64 FL.length) w) := by
  obtain ⟨l, v, h1, h2, h3⟩ := h.desk
  have := dwaits_yes w (E1 g b m A) d _ most false bg l v h1
  rw [h2] at this
  exact this
theorem blateF (h : BenchF w0 w p g b m d F A most bg FL) : Calls Try.prog 15 #[.pointer (some ⟨d, 0, none⟩)] w (Qt (.bool (decide (most < FL.length))) w) := by
  obtain ⟨l, v, h1, h2, h3⟩ := h.desk
  have := dlate_yes w (E1 g b m A) d _ most false bg l v h1
  rw [h2, Bool.or_false] at this
  exact this
end

/-- what the document's Cut leaves is what is begun -/
theorem cut_same {AF rest : Flow} {bg : List UInt8} {k q : Nat} (hs : SentP AF [] k bg) (hf : AF.drop k = markP bg ++ rest) (h1 : k ≤ q) (h2 : q ≤ AF.length)
    (h3 : ∀ j, k ≤ j → j < q → 0 < j ∧ ∀ c, AF[j - 1]? = some c → c.2 = false) (h4 : q = 0 ∨ q = AF.length ∨ ∃ c, AF[q - 1]? = some c ∧ c.2 = true) :
    (AF.take q).drop k = markP bg ∧ SentP (AF.take q) [] k bg := by
  have hlen : AF.length - k = bg.length + rest.length := by rw [← List.length_drop, hf, List.length_append, markP_len]
  have hget : ∀ j, j < bg.length → AF[k + j]? = (markP bg)[j]? := fun j hj => by
    rw [← List.getElem?_drop, hf, List.getElem?_append_left (by rw [markP_len]; exact hj)]
  have hq : q = k + bg.length := by
    have hle := hs.le
    by_cases hb : bg = []
    · subst hb
      simp only [List.length_nil, Nat.add_zero]
      by_cases hqk : q = k
      · exact hqk
      · obtain ⟨t1, t2⟩ := h3 k (Nat.le_refl _) (by omega)
        obtain ⟨c, hc⟩ : ∃ c, AF[k - 1]? = some c := ⟨_, List.getElem?_eq_getElem (by omega)⟩
        have t3 := t2 c hc
        have t4 := (hs.mark c t1 hc).1 rfl
        rw [t3] at t4; cases t4
    · have hbp : 0 < bg.length := List.length_pos_iff.2 hb
      have hkp : 0 < k := by
        rcases Nat.eq_zero_or_pos k with h | h
        · exact absurd (hs.zero h) hb
        · exact h
      rcases Nat.lt_trichotomy q (k + bg.length) with hlt | heq | hgt
      · exfalso
        rcases h4 with h4 | h4 | ⟨c, hc, hc2⟩
        · omega
        · omega
        · by_cases hqk : q = k
          · subst hqk
            exact hb ((hs.mark c hkp hc).2 hc2)
          · have e1 : q - 1 = k + (q - 1 - k) := by omega
            rw [e1, hget _ (by omega)] at hc
            have := (markP_get bg _ c hc).1 hc2
            omega
      · exact heq
      · exfalso
        obtain ⟨t1, t2⟩ := h3 (k + bg.length) (by omega) hgt
        have e1 : k + bg.length - 1 = k + (bg.length - 1) := by omega
        rw [e1] at t2
        obtain ⟨c, hc⟩ : ∃ c, (markP bg)[bg.length - 1]? = some c := ⟨_, List.getElem?_eq_getElem (by rw [markP_len]; omega)⟩
        have t3 := t2 c (by rw [hget _ (by omega)]; exact hc)
        have t4 := (markP_get bg _ c hc).2 (by omega)
        rw [t3] at t4; cases t4
  subst hq
  refine ⟨?_, ⟨by rw [List.length_take]; have := hs.le; omega, fun c h5 h6 => hs.mark c h5 (by rw [List.getElem?_take] at h6; split at h6; exact h6; cases h6), hs.zero⟩⟩
  rw [List.drop_take, hf, Nat.add_sub_cancel_left, ← markP_len bg, List.take_left]
/-- more behind it -/
theorem SentP.more {AF : Flow} {k : Nat} {bg : List UInt8} (hs : SentP AF [] k bg) (x : Flow) : SentP (AF ++ x) [] k bg where
  le := by rw [List.length_append]; have := hs.le; omega
  mark := fun c h1 h2 => hs.mark c h1 (by rw [List.getElem?_append_left (by have := hs.le; omega)] at h2; exact h2)
  zero := hs.zero
/-- and some of it sent -/
theorem SentP.sent {AF FL : Flow} {k j : Nat} {bg bg' : List UInt8} (hs : SentP AF [] k bg) (hf : AF.drop k = FL) (h : SentP FL bg j bg') : SentP AF [] (k + j) bg' where
  le := by have h1 := h.le; rw [← hf, List.length_drop] at h1; have := hs.le; omega
  mark := fun c h1 h2 => by
    by_cases hj : j = 0
    · subst hj
      rw [h.zero rfl]
      exact hs.mark c (by omega) h2
    · refine h.mark c (by omega) ?_
      rw [← hf, List.getElem?_drop]
      rw [← h2]; congr 1; omega
  zero := fun h1 => by
    have hj : j = 0 := by omega
    have hk : k = 0 := by omega
    rw [h.zero hj]
    exact hs.zero hk
end Go.Proofs.Ytcblaeleaebinaa
