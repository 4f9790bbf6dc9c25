/-
  law33: a store made, a console made over it, another one that may not be, a crash.
-/
import Derived.Test.YtkmpdobojgiegaaGreatDoorQK33
namespace Go.Proofs.YtkmpdobojgiegaaGreatDoor
open Go.RowKit Go.Maps

theorem tailP_len (b n : Nat) : ∀ l : List UInt8, (tailP b n l).length ≤ b
  | [] => Nat.zero_le _
  | c :: t => by
    rw [tailP]
    split
    · rename_i h
      unfold fitB at h
      simp only [Bool.and_eq_true, decide_eq_true_eq] at h
      exact h.1
    · exact tailP_len b n t
theorem again_len (c : Con) (bad : Nat) (l : List SFile) : (againC c bad l).2.2.2.length ≤ 65536 := by
  unfold againC
  split
  · rename_i h
    have := (tailOk_iff.1 h).2.2.2
    split
    · have h2 := tailP_len c.bytes.toNat c.lines.toNat (dataP (itemsC c l))
      show (tailP c.bytes.toNat c.lines.toNat (dataP (itemsC c l))).length ≤ _
      omega
    · exact Nat.zero_le _
  · exact Nat.zero_le _
theorem new_len (c : Con) (m : Int) (bad : Nat) (l : List SFile) : (newC c m bad l).2.2.2.length ≤ 65536 := by
  unfold newC
  split
  · exact Nat.zero_le _
  · split
    · exact Nat.zero_le _
    · split
      · exact Nat.zero_le _
      · exact again_len c bad l
/-! what a part is made of bears no block of another type -/
section
variable {w : World} {F G : Nat → Prop} {tag : Nat → Nat} {xb st lb sb pb g b jb q : Nat} {x : Cns} {m : Ln} {s : Sea}
theorem LineAt.only (h : LineAt w F lb m) (hG : ∀ i t cs, Blk w i t cs → t ≠ 98 → F i → G i) (hI : In G w) : LineAt w G lb m := by
  obtain ⟨wb, fv, nv, hv, h⟩ := h
  refine ⟨wb, fv, nv, hv, h.top, h.wait, h.first, fun i hi => ?_, h.held, fun i hi => ?_, ⟨fun hs => ?_, h.run.2⟩, hG _ _ _ h.top (by decide) h.fl, hG _ _ _ h.wait (by decide) h.fw, hI⟩
  · obtain ⟨cs, hb⟩ := h.first.ownBlk i hi; exact hG _ _ _ hb (by decide) (h.ffirst i hi)
  · obtain ⟨cs, hb⟩ := h.held.row i hi; exact hG _ _ _ hb (by decide) (h.fheld i hi)
  · obtain ⟨rb, v, h1, h2, h3, h4⟩ := h.run.1 hs
    exact ⟨rb, v, h1, h2, hG _ _ _ h2.1 (by decide) h3, fun i hi => by obtain ⟨cs, hb⟩ := h2.2.ownBlk i hi; exact hG _ _ _ hb (by decide) (h4 i hi)⟩
theorem SeatAt.only (h : SeatAt w F sb s) (hG : ∀ i t cs, Blk w i t cs → t ≠ 98 → F i → G i) (hI : In G w) : SeatAt w G sb s := by
  obtain ⟨v, q, h⟩ := h
  exact ⟨v, q, h.top, h.row, fun i hi => by obtain ⟨cs, hb⟩ := h.row.ownBlk i hi; exact hG _ _ _ hb (by decide) (h.frow i hi), h.que.only (fun i t cs hb ht hi => ⟨hG _ _ _ hb (by rcases ht with rfl | rfl <;> decide) hi.1, hi.2⟩), hG _ _ _ h.top (by decide) h.fs, hI, h.ok⟩
theorem ConsV.only (h : ConsV w F tag xb st x lb sb pb g b jb) (hG : ∀ i t cs, Blk w i t cs → t ≠ 98 → F i → G i) (hI : In G w) : ConsV w G tag xb st x lb sb pb g b jb := by
  have hp : ∀ k i t cs, Blk w i t cs → t ≠ 98 → Pt F tag k i → Pt G tag k i := fun k i t cs hb ht hi => ⟨hG i t cs hb ht hi.1, hi.2⟩
  obtain ⟨rf, arr, hr⟩ := h.past.ring
  exact ⟨h.top, h.line.only (hp 1) hI.pt, h.seat.only (hp 2) hI.pt, h.past, h.log, ⟨hp 3 _ _ _ h.past.top (by decide) h.pp.1, hp 3 _ _ _ hr.top (by decide) h.pp.2.1, hp 3 _ _ _ hr.row (by decide) h.pp.2.2⟩, hp 4 _ _ _ h.log.blk (by decide) h.pj, hp 5 _ _ _ h.top (by decide) h.px, hI, h.ok⟩
end
section
variable {w0 w w' : World} {FT : Nat → Prop} {st xb bad t n : Nat} {most mostS : Int} {x : Cns} {l : List SFile} {c : Con} {G : Nat → Prop}
theorem snewF (he : Ety w0) (k0 : Keeps (fun _ => False) w0 w) (h1 : 1 ≤ most) (h2 : most ≤ 16777216) : Calls Tryz.prog 8 #[.int .i64 most] w fun e w' => ∃ s FT, e = .returned (.tuple #[.pointer (some ⟨s, 0, none⟩), .nilIface]) ∧ StoF w0 w' FT s most 0 [] 0 ∧ Keeps (fun _ => False) w w' := by
  letI : Res := resF w (fun _ => False)
  refine (snew_ok (w := w) he k0 h1 h2 (fun i (hi : i < w.heap.size ∧ ¬ False) => hi.1)).mono ?_
  rintro e w' ⟨s, M, he', hS, k⟩
  have := Sto.foot hS (fun i hi => hi.elim) k.size k0.size
  exact ⟨s, _, he', this, k⟩
theorem K33.make {R : Int × Nat × List SFile × List UInt8} (h : Fin5 w0 w FT st most n c mostS R xb w') (h0 : w0.heap.size ≤ w.heap.size) (hF : In FT w) (t0 : Nat) (ht : t0 ≤ 10000) (hn : n ≤ 1000 + 19 * t0) (hp : R.2.2.2.length ≤ 65536) (hb : (baseOf c).size ≤ 64) : K33 w0 w' (Ext FT w w') st most xb ⟨c, lnOf c, Sea.new mostS, R.2.2.2, false, 0⟩ R.2.1 R.2.2.1 t0 := by
  obtain ⟨F, FT', tag, lb, sb, pb, g, b, jb, hV, hS, hap, hlo, hE, k⟩ := h
  exact ⟨F, FT', tag, lb, sb, pb, g, b, jb, hV, hS.le_n (by omega) (by omega), hap, fun i hi => Nat.le_trans h0 (hlo i hi), ⟨Nat.zero_le _, Nat.zero_le _, by show R.2.2.2.length ≤ _; omega, hb⟩, fun i hi => hi.elim (fun e => .inr ⟨hlo i e, hV.inn i e⟩) (hE i), hF.ext k.size⟩
theorem knew (hS : StoF w0 w FT st most bad l n) (t0 : Nat) (ht : t0 ≤ 10000) (hn : n + 17 ≤ 1000 + 19 * t0) (hnm : c.name.size ≤ 60) (hi : c.init.size ≤ 1073741824) (hlen : (itemsC c l).length ≤ 1048576) (hz : ∀ x ∈ itemsC c l, x.body.size ≤ 1048576) (h0 : (newC c mostS bad l).1 = 0) :
    Calls Tryz.prog 9 #[conV c, .pointer (some ⟨st, 0, none⟩), .int .i64 mostS] w fun e w' => ∃ xb, e = .returned (.tuple #[.pointer (some ⟨xb, 0, none⟩), .int .i64 0]) ∧ K33 w0 w' (Ext FT w w') st most xb ⟨c, lnOf c, Sea.new mostS, (newC c mostS bad l).2.2.2, false, 0⟩ (newC c mostS bad l).2.1 (newC c mostS bad l).2.2.1 t0 ∧ Keeps FT w w' := by
  refine (cnew_any hS (by omega) (by omega) hi hlen hz).mono ?_
  rintro e w' (⟨xb, hr, he, hF⟩ | ⟨hr, -⟩)
  · have hk : Keeps FT w w' := by obtain ⟨_, _, _, _, _, _, _, _, _, _, _, _, _, _, k⟩ := hF; exact k
    refine ⟨xb, he, K33.make hF hS.from_.size hS.inn t0 ht (by omega) (new_len _ _ _ _) ?_, hk⟩
    unfold baseOf
    have : (⟨#[46, 108, 111, 103]⟩ : ByteArray).size = 4 := rfl
    simp
    omega
  · exact absurd h0 hr
theorem kother (h : K33 w0 w G st most xb x bad l t) (ht : t ≤ 10000) (hnm : c.name.size ≤ 60) (hi : c.init.size ≤ 1073741824) (hlen : (itemsC c l).length ≤ 1048576) (hz : ∀ x ∈ itemsC c l, x.body.size ≤ 1048576) (h0 : (newC c mostS bad l).1 ≠ 0) :
    Calls Tryz.prog 9 #[conV c, .pointer (some ⟨st, 0, none⟩), .int .i64 mostS] w fun e w' => e = .returned (.tuple #[.pointer none, .int .i64 (newC c mostS bad l).1]) ∧ K33 w0 w' (Ext G w w') st most xb x (newC c mostS bad l).2.1 (newC c mostS bad l).2.2.1 (t + 1) ∧ Keeps G w w' := by
  obtain ⟨F, FT, tag, lb, sb, pb, g, b, jb, hV, hS, h1, h2, hb, hG⟩ := h
  refine (cnew_any hS (by omega) (by omega) hi hlen hz).mono ?_
  rintro e w' (⟨xb, hr, -⟩ | ⟨-, he, FT', hS', hE, k⟩)
  · exact absurd hr h0
  · exact ⟨he, K33.logged (hV.keeps k (fun i hi e => h1 i hi e)) hS (hS'.le_n (by omega) (by omega)) h1 hV.inn hE h2 ⟨by omega, by omega, by omega, hb.2.2.2⟩ hG k.size, k.mono fun i _ e => hG.1 i (.inr e)⟩
theorem scrashF (h : StoF w0 w FT st most bad l n) (keep : List Int) (a : Option Addr) (m cp : Nat) (hk : SlAt intR 1 w0 a m keep) (hkb : ∀ k ∈ keep, -9223372036854775808 ≤ k ∧ k ≤ 9223372036854775807) (hm : m ≤ 4611686018427387904) :
    Calls Tryz.prog 16 #[.pointer (some ⟨st, 0, none⟩), .slice a m cp] w fun e w' => e = .returned (.tuple #[]) ∧ StoF w0 w' (Ext FT w w') st most 0 (crashP keep l) n ∧ Keeps FT w w' := by
  obtain ⟨M, L, hL, hF, hS⟩ := h
  have hw := (@Sto.keeps (resF w FT) _ _ _ _ _ _ _ _ hS).size
  letI : Res := resF w FT
  refine (scrash hS keep a m cp hk hkb hm).mono ?_
  rintro e w' ⟨L', he, hS', hl, k⟩
  have := Sto.foot hS' hF k.size hw
  rw [hl, hL] at this
  exact ⟨he, this, k.foot (fun _ h => h)⟩
theorem kcrash (h : K33 w0 w G st most xb x bad l t) (keep : List Int) (a : Option Addr) (m cp : Nat) (hk : SlAt intR 1 w0 a m keep) (hkb : ∀ k ∈ keep, -9223372036854775808 ≤ k ∧ k ≤ 9223372036854775807) (hm : m ≤ 4611686018427387904) :
    Calls Tryz.prog 16 #[.pointer (some ⟨st, 0, none⟩), .slice a m cp] w fun e w' => e = .returned (.tuple #[]) ∧ (∃ FT, StoF w0 w' FT st most 0 (crashP keep l) (1000 + 19 * t) ∧ ∀ i, FT i → Ext G w w' i) ∧ Keeps G w w' := by
  obtain ⟨F, FT, tag, lb, sb, pb, g, b, jb, hV, hS, h1, h2, hb, hG⟩ := h
  refine (scrashF hS keep a m cp hk hkb hm).mono ?_
  rintro e w' ⟨he, hS', k⟩
  exact ⟨he, ⟨_, hS', fun i hi => hi.mono fun i h => hG.1 i (.inr h)⟩, k.mono fun i _ e => hG.1 i (.inr e)⟩
theorem kname (h : K33 w0 w G st most xb x bad l t) : Calls Tryz.prog 38 #[.pointer (some ⟨xb, 0, none⟩)] w fun e w' => e = .returned (.string x.c.name) ∧ w' = w := by
  obtain ⟨F, FT, tag, lb, sb, pb, g, b, jb, hV, hS, -⟩ := h
  exact cname hV
theorem kpast (h : K33 w0 w G st most xb x bad l t) (ht : t ≤ 10000) : ∃ pb, (Calls Tryz.prog 21 #[.pointer (some ⟨xb, 0, none⟩)] w fun e w' => e = .returned (.pointer (some ⟨pb, 0, none⟩)) ∧ w' = w) ∧
    (∀ W, Keeps (fun _ => False) w W → Calls Tryz.prog 23 #[.pointer (some ⟨pb, 0, none⟩)] W fun e w' => e = .returned (.int .i64 x.past.length) ∧ Keeps (fun _ => False) W w') ∧
    (∀ W, Keeps (fun _ => False) w W → Calls Tryz.prog 71 #[.pointer (some ⟨pb, 0, none⟩)] W fun e w' => e = .returned (.int .i64 (x.past.length - 32768 : Nat)) ∧ Keeps (fun _ => False) W w') ∧
    (∀ W, Keeps (fun _ => False) w W → ∀ y : Int, (x.past.length - 32768 : Nat) ≤ y → y ≤ x.past.length → Calls Tryz.prog 22 #[.pointer (some ⟨pb, 0, none⟩), .int .i64 y, .int .i64 x.past.length] W fun e w' => e = .returned (.tuple #[.string (str (x.past.drop y.toNat)), .bool true]) ∧ Keeps (fun _ => False) W w') := by
  obtain ⟨F, FT, tag, lb, sb, pb, g, b, jb, hV, hS, h1, h2, hb, hG⟩ := h
  have hp := fun W (k : Keeps (fun _ => False) w W) => hV.past.keeps k (fun h => h) (fun h => h) (fun h => h)
  refine ⟨pb, cpast hV, fun W k => Qt.k (pcame_yes W pb g b 32768 x.past (hp W k)), fun W k => Qt.k (pfrom_yes W pb g b 32768 x.past (hp W k) (by omega)), fun W k y hy1 hy2 => ?_⟩
  refine (pslice_yes W pb g b 32768 x.past y x.past.length (hp W k) (by omega) hy1 hy2 (Int.le_refl _)).mono ?_
  rintro e w' ⟨he, k'⟩
  refine ⟨?_, k'⟩
  rw [he, List.take_of_length_le (by rw [List.length_drop]; omega)]
/-- .. and what is told to be done to the line is no part of it -/
theorem ktype2 (h : K33 w0 w G st most xb x bad l t) (ht : t ≤ 10000) (who : Int) (s : List UInt8) (hs : s.length ≤ 1048576) : Calls Tryz.prog 30 #[.pointer (some ⟨xb, 0, none⟩), .int .i64 who, .string (str s)] w fun e w' =>
    ∃ v, e = .returned (.tuple #[v, .int .i64 (typeC x who s).2.2]) ∧ OwnS outR 2 w' w.heap.size 98 v (typeC x who s).2.1 ∧ K33 w0 w' (fun i => Ext G w w' i ∧ v.ownBlock ≠ some i) st most xb (typeC x who s).1 bad l (t + 1) ∧ Keeps G w w' := by
  refine (ktype h ht who s hs).mono ?_
  rintro e w' ⟨v, he, hO, hK, k⟩
  refine ⟨v, he, hO, ?_, k⟩
  have hno : ∀ i t cs, Blk w' i t cs → t ≠ 98 → v.ownBlock ≠ some i := fun i t cs hb hne e => by
    obtain ⟨ds, hd⟩ := hO.ownBlk i e
    exact Blk.ne_ hb hd hne rfl
  obtain ⟨F, FT, tag, lb, sb, pb, g, b, jb, hV, hS, h1, h2, hb, hG, hI⟩ := hK
  refine ⟨fun i => F i ∧ v.ownBlock ≠ some i, fun i => FT i ∧ v.ownBlock ≠ some i, tag, lb, sb, pb, g, b, jb, hV.only (fun i t cs hb ht hi => ⟨hi, hno i t cs hb ht⟩) (fun i hi => hV.inn i hi.1), ?_, fun i hi e => h1 i hi.1 e.1, fun i hi => h2 i hi.1, hb, fun i hi => hi.elim (fun e => ⟨hG i (.inl e.1), e.2⟩) (fun e => ⟨hG i (.inr e.1), e.2⟩), fun i hi => hI i hi.1⟩
  obtain ⟨M, L, hL, hF, ⟨ety, keeps, store, res, fit, len, hn, hbd, m1, m2⟩⟩ := hS
  refine ⟨M, L, hL, fun i hi => hF i hi.1, @Sto.mk (resF w' fun i => FT i ∧ v.ownBlock ≠ some i) _ _ _ _ _ _ _ _ ety keeps (store.shrink.mono fun i hi => ⟨hi.1.1, fun e => e.2 ⟨?_, ?_⟩⟩) (fun i hi => hi.1) fit len hn hbd m1 m2⟩
  · by_cases h2 : FT i
    · exact h2
    · exact absurd ⟨hi.2.lt, h2⟩ hi.1.2
  · intro e
    obtain ⟨ds, hd⟩ := hO.ownBlk i e
    exact hi.2.not hd (by decide) (by decide) (by decide)
end
/-- a row that lies beside G -/
def SlOut {α : Type} (R : α → List Value) (size : Nat) (w : World) (G : Nat → Prop) (a : Option Addr) (n : Nat) (l : List α) : Prop := SlAt R size w a n l ∧ ∀ ad, a = some ad → ad.block < w.heap.size ∧ ¬ G ad.block
section
variable {α : Type} {R : α → List Value} {size : Nat} {w w' : World} {G : Nat → Prop} {a : Option Addr} {n : Nat} {l : List α}
theorem SlOut.act (h : SlOut R size w G a n l) (k : Keeps G w w') : SlOut R size w' (Ext G w w') a n l := by
  refine ⟨⟨h.1.1, fun hn => ?_⟩, fun ad e => ?_⟩
  · obtain ⟨b, off, ha, hb, hc⟩ := h.1.2 hn
    refine ⟨b, off, ha, Nat.lt_of_lt_of_le hb k.size, fun i x j v hx hv => ?_⟩
    have h2 := (h.2 _ ha).2
    exact (World.cell?_of_block (w := w) (k.block b hb h2)).trans (hc i x j v hx hv)
  · obtain ⟨h1, h2⟩ := h.2 ad e
    exact ⟨Nat.lt_of_lt_of_le h1 k.size, fun e => e.elim h2 (fun e => by have := e.1; omega)⟩
theorem SlOut.same (h : SlOut R size w G a n l) (k : Keeps (fun _ => False) w w') : SlOut R size w' G a n l := ⟨h.1.keeps k (fun _ _ h => h), fun ad e => ⟨Nat.lt_of_lt_of_le (h.2 ad e).1 k.size, (h.2 ad e).2⟩⟩
theorem SlOut.mono {G' : Nat → Prop} (h : SlOut R size w G a n l) (hG : ∀ i, G' i → G i) : SlOut R size w G' a n l := ⟨h.1, fun ad e => ⟨(h.2 ad e).1, fun e2 => (h.2 ad e).2 (hG _ e2)⟩⟩
end
end Go.Proofs.YtkmpdobojgiegaaGreatDoor
