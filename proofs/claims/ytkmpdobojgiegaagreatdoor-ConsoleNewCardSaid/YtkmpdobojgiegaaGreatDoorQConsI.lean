/-
  console: New.
-/
import Derived.Test.YtkmpdobojgiegaaGreatDoorQConsH
namespace Go.Proofs.YtkmpdobojgiegaaGreatDoor
open Go.RowKit Go.Maps

/-- what New's steps find and leave as it is -/
structure StgB (W : World) (cb b4 b5 fb x8 e9 st : Nat) (c : Con) (mostS : Int) : Prop where
  hc : Blk W cb 23 (conR c).toArray
  h4 : Blk W b4 25 #[.pointer (some ⟨st, 0, none⟩)]
  h5 : Blk W b5 3 #[.int .i64 mostS]
  hf : Blk W fb 1 #[.func (.func 40) #[] #[.pointer (some ⟨cb, 0, none⟩), .pointer (some ⟨x8, 0, none⟩), .pointer (some ⟨e9, 0, none⟩)], .func (.func 42) #[] #[.pointer (some ⟨b5, 0, none⟩), .pointer (some ⟨x8, 0, none⟩), .pointer (some ⟨e9, 0, none⟩)],
    .func (.func 44) #[] #[.pointer (some ⟨b4, 0, none⟩), .pointer (some ⟨cb, 0, none⟩), .pointer (some ⟨x8, 0, none⟩), .pointer (some ⟨e9, 0, none⟩)], .func (.func 46) #[] #[.pointer (some ⟨x8, 0, none⟩), .pointer (some ⟨e9, 0, none⟩)],
    .func (.func 48) #[] #[.pointer (some ⟨x8, 0, none⟩), .pointer (some ⟨b4, 0, none⟩), .pointer (some ⟨e9, 0, none⟩)]]
def LineP (W : World) (c : Con) (lv : Value) (a b : Nat) : Prop := ∃ lb, lv = .pointer (some ⟨lb, 0, none⟩) ∧ LineAt W (Rng a b) lb (lnOf c) ∧ lineC0 c = 0
def SeatP (W : World) (mostS : Int) (sv : Value) (a b : Nat) : Prop := ∃ sb, sv = .pointer (some ⟨sb, 0, none⟩) ∧ SeatAt W (Rng a b) sb (Sea.new mostS) ∧ seatC0 mostS = 0
def LogP (W : World) (st : Nat) (c : Con) (jv : Value) (a b : Nat) : Prop := ∃ jb, jv = .pointer (some ⟨jb, 0, none⟩) ∧ JourB W jb st (baseOf c) c.gens.toNat c.size.toNat false 0 ∧ Rng a b jb ∧ logC0 c = 0
def PastP (W : World) (pv : Value) (a b : Nat) (A : List UInt8) : Prop := ∃ p g q, pv = .pointer (some ⟨p, 0, none⟩) ∧ IsPast W p g q 32768 A ∧ Rng a b p ∧ Rng a b g ∧ Rng a b q
section
variable {w0 w W W' : World} {FT S : Nat → Prop} {cb b4 b5 fb xb x8 e9 st n bad a b : Nat} {most mostS : Int} {l : List SFile} {c : Con} {lv sv pv jv : Value} {A : List UInt8}
theorem StgB.keeps (h : StgB W cb b4 b5 fb x8 e9 st c mostS) (k : Keeps S W W') (h1 : ¬ S cb) (h2 : ¬ S b4) (h3 : ¬ S b5) (h4 : ¬ S fb) : StgB W' cb b4 b5 fb x8 e9 st c mostS := ⟨h.hc.keeps k h1, h.h4.keeps k h2, h.h5.keeps k h3, h.hf.keeps k h4⟩
theorem LineP.keeps (h : LineP W c lv a b) (k : Keeps S W W') (hS : ∀ i, Rng a b i → ¬ S i) : LineP W' c lv a b := by obtain ⟨lb, h1, h2, h3⟩ := h; exact ⟨lb, h1, h2.keeps k hS, h3⟩
theorem SeatP.keeps (h : SeatP W mostS sv a b) (k : Keeps S W W') (hS : ∀ i, Rng a b i → ¬ S i) : SeatP W' mostS sv a b := by obtain ⟨lb, h1, h2, h3⟩ := h; exact ⟨lb, h1, h2.keeps k hS, h3⟩
theorem LogP.keeps (h : LogP W st c jv a b) (k : Keeps S W W') (hS : ∀ i, Rng a b i → ¬ S i) : LogP W' st c jv a b := by obtain ⟨jb, h1, h2, h3, h4⟩ := h; exact ⟨jb, h1, h2.keeps k (hS _ h3), h3, h4⟩
theorem PastP.keeps (h : PastP W pv a b A) (k : Keeps S W W') (hS : ∀ i, Rng a b i → ¬ S i) : PastP W' pv a b A := by obtain ⟨p, g, q, h1, h2, h3, h4, h5⟩ := h; exact ⟨p, g, q, h1, h2.keeps k (hS _ h3) (hS _ h4) (hS _ h5), h3, h4, h5⟩
end
/-- where things lie while New runs -/
structure Lies (w : World) (cb b4 b5 fb xb x8 e9 s0 : Nat) : Prop where
  cb : Rng w.heap.size s0 cb
  b4 : Rng w.heap.size s0 b4
  b5 : Rng w.heap.size s0 b5
  fb : Rng w.heap.size s0 fb
  xb : Rng w.heap.size s0 xb
  x8 : Rng w.heap.size s0 x8
  e9 : Rng w.heap.size s0 e9
/-- behind i of New's steps -/
structure Stg (w0 w : World) (FT : Nat → Prop) (st : Nat) (most : Int) (bad : Nat) (l : List SFile) (n : Nat) (c : Con) (mostS : Int) (cb b4 b5 fb xb x8 e9 s0 : Nat) (i : Nat) (W : World) (lv sv pv jv : Value) (s1 s2 s3 s4 : Nat) : Prop where
  blk : StgB W cb b4 b5 fb x8 e9 st c mostS
  mkk : Mk W xb x8 e9 c lv sv pv jv 0
  lies : Lies w cb b4 b5 fb xb x8 e9 s0
  ord : s0 ≤ s1 ∧ s1 ≤ s2 ∧ s2 ≤ s3 ∧ s3 ≤ s4 ∧ s4 ≤ W.heap.size
  line : 1 ≤ i → LineP W c lv s0 s1
  seat : 2 ≤ i → SeatP W mostS sv s1 s2
  log : 3 ≤ i → LogP W st c jv s2 s3
  past : 4 ≤ i → PastP W pv s3 s4 []
  sto : StoF w0 W FT st most bad l n
  base : Keeps (fun _ => False) w W
  lo0 : w0.heap.size ≤ w.heap.size
section
variable {w0 w W W' : World} {FT S : Nat → Prop} {cb b4 b5 fb xb x8 e9 s0 s1 s2 s3 s4 st n bad i : Nat} {most mostS : Int} {l : List SFile} {c : Con} {lv sv pv jv lv' sv' pv' jv' : Value}
/-- a step that wrote but the console and the code -/
theorem Stg.step (h : Stg w0 w FT st most bad l n c mostS cb b4 b5 fb xb x8 e9 s0 i W lv sv pv jv s1 s2 s3 s4) (hF : In FT w) (k : Keeps (fun k => k = xb ∨ k = e9) W W') (hm : Mk W' xb x8 e9 c lv' sv' pv' jv' 0) :
    StgB W' cb b4 b5 fb x8 e9 st c mostS ∧ StoF w0 W' FT st most bad l n ∧ Keeps (fun _ => False) w W' ∧ (∀ a b i, s0 ≤ a → Rng a b i → ¬ (i = xb ∨ i = e9)) := by
  have L := h.lies
  have n1 : ∀ {g t cs}, Blk W g t cs → t ≠ 60 → t ≠ 31 → ¬ (g = xb ∨ g = e9) := fun hb h1 h2 e => e.elim (Blk.ne_ hb h.mkk.t h1) (Blk.ne_ hb h.mkk.e h2)
  have hx := L.xb.1
  have he := L.e9.1
  refine ⟨h.blk.keeps k (n1 h.blk.hc (by decide) (by decide)) (n1 h.blk.h4 (by decide) (by decide)) (n1 h.blk.h5 (by decide) (by decide)) (n1 h.blk.hf (by decide) (by decide)), h.sto.keeps k (fun i hi e => by have := hF i hi; rcases e with rfl | rfl <;> omega) (fun i hi e => ?_), h.base.and_ k (fun i hi e => by rcases e with rfl | rfl <;> omega), fun a b i ha hi e => ?_⟩
  · have := h.lo0
    rcases e with rfl | rfl <;> omega
  · have h1 := hi.1
    have h2 := L.xb.2
    have h3 := L.e9.2
    rcases e with rfl | rfl <;> omega
/-- a step that failed -/
theorem Stg.fail {e : Int} (h : Stg w0 w FT st most bad l n c mostS cb b4 b5 fb xb x8 e9 s0 i W lv sv pv jv s1 s2 s3 s4) (hF : In FT w) (k : Keeps (fun k => k = xb ∨ k = e9) W W') (_hm : Mk W' xb x8 e9 c lv' sv' pv' jv' e) :
    True ∧ StoF w0 W' FT st most bad l n ∧ Keeps (fun _ => False) w W' := by
  have L := h.lies
  have hx := L.xb.1
  have he := L.e9.1
  refine ⟨trivial, h.sto.keeps k (fun i hi e => by have := hF i hi; rcases e with rfl | rfl <;> omega) (fun i hi e => ?_), h.base.and_ k (fun i hi e => by rcases e with rfl | rfl <;> omega)⟩
  have := h.lo0
  rcases e with rfl | rfl <;> omega
theorem Rng.mono_ {a b a' b' i : Nat} (h : Rng a b i) (h1 : a' ≤ a) (h2 : b ≤ b') : Rng a' b' i := ⟨Nat.le_trans h1 h.1, Nat.lt_of_lt_of_le h.2 h2⟩
theorem Rng.ext {i : Nat} (h : Ext (fun _ => False) W W' i) : Rng W.heap.size W'.heap.size i := h.elim (fun e => e.elim) (fun e => e)
theorem Rng.inn {a : Nat} : In (Rng a W.heap.size) W := fun _ h => h.2
theorem Stg.one (h : Stg w0 w FT st most bad l n c mostS cb b4 b5 fb xb x8 e9 s0 0 W lv sv pv jv s1 s2 s3 s4) (hF : In FT w) (k : Keeps (fun k => k = xb ∨ k = e9) W W') {lb : Nat} (hm : Mk W' xb x8 e9 c (.pointer (some ⟨lb, 0, none⟩)) sv pv jv 0) (hl : LineAt W' (Ext (fun _ => False) W W') lb (lnOf c)) (h0 : lineC0 c = 0) :
    Stg w0 w FT st most bad l n c mostS cb b4 b5 fb xb x8 e9 s0 1 W' (.pointer (some ⟨lb, 0, none⟩)) sv pv jv W'.heap.size W'.heap.size W'.heap.size W'.heap.size := by
  obtain ⟨a1, a2, a3, a4⟩ := h.step hF k hm
  obtain ⟨o1, o2, o3, o4, o5⟩ := h.ord
  have hs := k.size
  exact ⟨a1, hm, h.lies, ⟨by omega, Nat.le_refl _, Nat.le_refl _, Nat.le_refl _, Nat.le_refl _⟩, fun _ => ⟨lb, rfl, hl.mono (fun i hi => (Rng.ext hi).mono_ (by omega) (Nat.le_refl _)) Rng.inn, h0⟩, fun hh => by omega, fun hh => by omega, fun hh => by omega, a2, a3, h.lo0⟩
theorem Stg.two (h : Stg w0 w FT st most bad l n c mostS cb b4 b5 fb xb x8 e9 s0 1 W lv sv pv jv s1 s2 s3 s4) (hF : In FT w) (k : Keeps (fun k => k = xb ∨ k = e9) W W') {sb : Nat} (hm : Mk W' xb x8 e9 c lv (.pointer (some ⟨sb, 0, none⟩)) pv jv 0) (hl : SeatAt W' (Ext (fun _ => False) W W') sb (Sea.new mostS)) (h0 : seatC0 mostS = 0) :
    Stg w0 w FT st most bad l n c mostS cb b4 b5 fb xb x8 e9 s0 2 W' lv (.pointer (some ⟨sb, 0, none⟩)) pv jv s1 W'.heap.size W'.heap.size W'.heap.size := by
  obtain ⟨a1, a2, a3, a4⟩ := h.step hF k hm
  obtain ⟨o1, o2, o3, o4, o5⟩ := h.ord
  have hs := k.size
  exact ⟨a1, hm, h.lies, ⟨by omega, by omega, Nat.le_refl _, Nat.le_refl _, Nat.le_refl _⟩, fun _ => (h.line (Nat.le_refl _)).keeps k (fun i hi => a4 s0 s1 i (Nat.le_refl _) hi), fun _ => ⟨sb, rfl, hl.mono (fun i hi => (Rng.ext hi).mono_ (by omega) (Nat.le_refl _)) Rng.inn, h0⟩, fun hh => by omega, fun hh => by omega, a2, a3, h.lo0⟩
theorem Stg.three (h : Stg w0 w FT st most bad l n c mostS cb b4 b5 fb xb x8 e9 s0 2 W lv sv pv jv s1 s2 s3 s4) (hF : In FT w) (k : Keeps (fun k => k = xb ∨ k = e9) W W') {jb : Nat} (hm : Mk W' xb x8 e9 c lv sv pv (.pointer (some ⟨jb, 0, none⟩)) 0) (hl : JourB W' jb st (baseOf c) c.gens.toNat c.size.toNat false 0) (hj : W.heap.size ≤ jb) (h0 : logC0 c = 0) :
    Stg w0 w FT st most bad l n c mostS cb b4 b5 fb xb x8 e9 s0 3 W' lv sv pv (.pointer (some ⟨jb, 0, none⟩)) s1 s2 W'.heap.size W'.heap.size := by
  obtain ⟨a1, a2, a3, a4⟩ := h.step hF k hm
  obtain ⟨o1, o2, o3, o4, o5⟩ := h.ord
  have hs := k.size
  exact ⟨a1, hm, h.lies, ⟨by omega, by omega, by omega, Nat.le_refl _, Nat.le_refl _⟩, fun _ => (h.line (by omega)).keeps k (fun i hi => a4 s0 s1 i (Nat.le_refl _) hi), fun _ => (h.seat (Nat.le_refl _)).keeps k (fun i hi => a4 s1 s2 i (by omega) hi), fun _ => ⟨jb, rfl, hl, ⟨by omega, hl.blk.lt⟩, h0⟩, fun hh => by omega, a2, a3, h.lo0⟩
theorem Stg.four (h : Stg w0 w FT st most bad l n c mostS cb b4 b5 fb xb x8 e9 s0 3 W lv sv pv jv s1 s2 s3 s4) (hF : In FT w) (k : Keeps (fun k => k = xb ∨ k = e9) W W') {p g b : Nat} (hm : Mk W' xb x8 e9 c lv sv (.pointer (some ⟨p, 0, none⟩)) jv 0) (hl : IsPast W' p g b 32768 []) (hj : W.heap.size ≤ p ∧ W.heap.size ≤ g ∧ W.heap.size ≤ b) :
    Stg w0 w FT st most bad l n c mostS cb b4 b5 fb xb x8 e9 s0 4 W' lv sv (.pointer (some ⟨p, 0, none⟩)) jv s1 s2 s3 W'.heap.size := by
  obtain ⟨a1, a2, a3, a4⟩ := h.step hF k hm
  obtain ⟨o1, o2, o3, o4, o5⟩ := h.ord
  have hs := k.size
  obtain ⟨l1, l2, l3⟩ := hl.lt
  exact ⟨a1, hm, h.lies, ⟨by omega, by omega, by omega, by omega, Nat.le_refl _⟩, fun _ => (h.line (by omega)).keeps k (fun i hi => a4 s0 s1 i (Nat.le_refl _) hi), fun _ => (h.seat (by omega)).keeps k (fun i hi => a4 s1 s2 i (by omega) hi), fun _ => (h.log (Nat.le_refl _)).keeps k (fun i hi => a4 s2 s3 i (by omega) hi), fun _ => ⟨p, g, b, rfl, hl, ⟨by omega, l1⟩, ⟨by omega, l2⟩, ⟨by omega, l3⟩⟩, a2, a3, h.lo0⟩
/-- a console that was made, and its store -/
def Fin5 (w0 w : World) (FT : Nat → Prop) (st : Nat) (most : Int) (n : Nat) (c : Con) (mostS : Int) (R : Int × Nat × List SFile × List UInt8) (xb : Nat) (W : World) : Prop :=
  ∃ F FT' tag lb sb pb g b jb, ConsV W F tag xb st ⟨c, lnOf c, Sea.new mostS, R.2.2.2, false, 0⟩ lb sb pb g b jb ∧ StoF w0 W FT' st most R.2.1 R.2.2.1 n ∧ Apart F FT' ∧ (∀ i, F i → w.heap.size ≤ i) ∧ (∀ i, FT' i → Ext FT w W i) ∧ Keeps FT w W
theorem Stg.five (h : Stg w0 w FT st most bad l n c mostS cb b4 b5 fb xb x8 e9 s0 4 W lv sv pv jv s1 s2 s3 s4) (hF : In FT w) {R : Int × Nat × List SFile × List UInt8} {p g b : Nat} (hpv : pv = .pointer (some ⟨p, 0, none⟩)) (hpp : Rng s3 s4 p ∧ Rng s3 s4 g ∧ Rng s3 s4 b)
    (k : Keeps (fun i => FT i ∨ i = p ∨ i = g ∨ i = b ∨ i = e9) W W') (hm : Mk W' xb x8 e9 c lv sv (.pointer (some ⟨p, 0, none⟩)) jv 0) (hp : IsPast W' p g b 32768 R.2.2.2) (hS : StoF w0 W' (Ext FT W W') st most R.2.1 R.2.2.1 (n + 17)) : Fin5 w0 w FT st most (n + 17) c mostS R xb W' := by
  obtain ⟨o1, o2, o3, o4, o5⟩ := h.ord
  have L := h.lies
  have hs := k.size
  have hb := h.base.size
  obtain ⟨⟨p1, p1'⟩, ⟨p2, p2'⟩, ⟨p3, p3'⟩⟩ := hpp
  have e9l := L.e9.2
  have s0l : w.heap.size ≤ s0 := Nat.le_of_lt (Nat.lt_of_le_of_lt L.e9.1 L.e9.2)
  have hlow : ∀ a b' i, s0 ≤ a → b' ≤ s3 → Rng a b' i → ¬ (FT i ∨ i = p ∨ i = g ∨ i = b ∨ i = e9) := fun a b' i ha hb' hi e => by
    have h1 := hi.1
    have h2 := hi.2
    rcases e with e | e | e | e | e
    · have := hF i e; omega
    · omega
    · omega
    · omega
    · omega
  obtain ⟨lb, rfl, hl, -⟩ := (h.line (by omega)).keeps k (fun i hi => hlow s0 s1 i (Nat.le_refl _) (by omega) hi)
  obtain ⟨sb, rfl, hsx, -⟩ := (h.seat (by omega)).keeps k (fun i hi => hlow s1 s2 i (by omega) (by omega) hi)
  obtain ⟨jb, rfl, hj, hjr, -⟩ := (h.log (by omega)).keeps k (fun i hi => hlow s2 s3 i (by omega) (by omega) hi)
  subst hpv
  have hlc : lineC0 c = 0 := by obtain ⟨_, _, _, e⟩ := h.line (by omega); exact e
  refine ⟨fun i => Rng w.heap.size s4 i, Ext FT W W', tagN s0 s1 s2 s3, lb, sb, p, g, b, jb, ⟨hm.t, ?_, ?_, hp, hj, ?_, ?_, ?_, fun i hi => Nat.lt_of_lt_of_le hi.2 (by omega), lnOf_ok hlc⟩, hS, fun i hi e => ?_, fun i hi => hi.1, fun i hi => hi.imp (fun h => h) (fun e => ⟨Nat.le_trans hb e.1, e.2⟩), (h.base.none_ : Keeps FT w W).and_ k (fun i hi e => ?_)⟩
  · exact hl.mono (fun i hi => ⟨hi.mono_ s0l (by omega), by have h1 := hi.1; have h2 := hi.2; unfold tagN; rw [if_neg (by omega), if_pos h2]⟩) (fun i hi => Nat.lt_of_lt_of_le hi.1.2 (by omega))
  · exact hsx.mono (fun i hi => ⟨hi.mono_ (by omega) (by omega), by have h1 := hi.1; have h2 := hi.2; unfold tagN; rw [if_neg (by omega), if_neg (by omega), if_pos h2]⟩) (fun i hi => Nat.lt_of_lt_of_le hi.1.2 (by omega))
  · exact ⟨⟨⟨by omega, p1'⟩, by unfold tagN; rw [if_neg (by omega), if_neg (by omega), if_neg (by omega), if_neg (by omega)]⟩, ⟨⟨by omega, p2'⟩, by unfold tagN; rw [if_neg (by omega), if_neg (by omega), if_neg (by omega), if_neg (by omega)]⟩, ⟨⟨by omega, p3'⟩, by unfold tagN; rw [if_neg (by omega), if_neg (by omega), if_neg (by omega), if_neg (by omega)]⟩⟩
  · have h1 := hjr.1
    have h2 := hjr.2
    exact ⟨⟨by omega, by omega⟩, by unfold tagN; rw [if_neg (by omega), if_neg (by omega), if_neg (by omega), if_pos h2]⟩
  · have h1 := L.xb.1
    have h2 := L.xb.2
    exact ⟨⟨h1, by omega⟩, by unfold tagN; rw [if_pos h2]⟩
  · have h1 := hi.1
    have h2 := hi.2
    rcases e with e | e
    · have := hF i e; omega
    · have := e.1; omega
  · have h9 := L.e9.1
    rcases e with e | e | e | e | e
    · exact e
    · omega
    · omega
    · omega
    · omega
end
end Go.Proofs.YtkmpdobojgiegaaGreatDoor
