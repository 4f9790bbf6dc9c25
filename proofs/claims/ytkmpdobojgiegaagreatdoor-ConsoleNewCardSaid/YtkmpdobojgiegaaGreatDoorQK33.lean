/-
  law33: a console over its store, while acts go on.
-/
import Derived.Test.YtkmpdobojgiegaaGreatDoorQConsN
import Derived.Test.YtkmpdobojgiegaaGreatDoorQGround3
namespace Go.Proofs.YtkmpdobojgiegaaGreatDoor
open Go.RowKit Go.Maps

/-- a console and its store behind t acts, all of it new since w0, made of the blocks of G -/
def K33 (w0 w : World) (G : Nat → Prop) (st : Nat) (most : Int) (xb : Nat) (x : Cns) (bad : Nat) (l : List SFile) (t : Nat) : Prop :=
  ∃ F FT tag lb sb pb g b jb, ConsV w F tag xb st x lb sb pb g b jb ∧ StoF w0 w FT st most bad l (1000 + 19 * t) ∧ Apart F FT ∧ (∀ i, F i → w0.heap.size ≤ i) ∧ (x.lost ≤ t ∧ x.m.n ≤ t ∧ x.past.length ≤ 65536 + 300 * t ∧ (baseOf x.c).size ≤ 64) ∧ (∀ i, F i ∨ FT i → G i) ∧ In G w
section
variable {w0 w w' : World} {st xb bad t : Nat} {most : Int} {x : Cns} {l : List SFile} {G : Nat → Prop}
theorem K33.base (h : K33 w0 w G st most xb x bad l t) : Keeps (fun _ => False) w0 w := by obtain ⟨F, FT, tag, lb, sb, pb, g, b, jb, hV, hS, -⟩ := h; exact hS.from_
theorem K33.ety (h : K33 w0 w G st most xb x bad l t) : Ety w := by obtain ⟨F, FT, tag, lb, sb, pb, g, b, jb, hV, hS, -⟩ := h; exact hS.ety
theorem K33.same (h : K33 w0 w G st most xb x bad l t) (k : Keeps (fun _ => False) w w') : K33 w0 w' G st most xb x bad l t := by
  obtain ⟨F, FT, tag, lb, sb, pb, g, b, jb, hV, hS, h1, h2, h3, h4, h5⟩ := h
  exact ⟨F, FT, tag, lb, sb, pb, g, b, jb, hV.keeps k (fun _ _ h => h), hS.keeps k (fun _ _ h => h) (fun _ _ h => h), h1, h2, h3, h4, h5.later k⟩
theorem K33.wide {G' : Nat → Prop} (h : K33 w0 w G st most xb x bad l t) (hG : ∀ i, G i → G' i) (hI : In G' w) : K33 w0 w G' st most xb x bad l t := by
  obtain ⟨F, FT, tag, lb, sb, pb, g, b, jb, hV, hS, h1, h2, h3, h4, h5⟩ := h
  exact ⟨F, FT, tag, lb, sb, pb, g, b, jb, hV, hS, h1, h2, h3, fun i hi => hG i (h4 i hi), hI⟩
theorem K33.inn (h : K33 w0 w G st most xb x bad l t) : In G w := by
  obtain ⟨F, FT, tag, lb, sb, pb, g, b, jb, hV, hS, h1, h2, h3, h4, h5⟩ := h
  exact h5
theorem K33.next (h : K33 w0 w G st most xb x bad l t) (ht : t ≤ 10000) : K33 w0 w G st most xb x bad l (t + 1) := by
  obtain ⟨F, FT, tag, lb, sb, pb, g, b, jb, hV, hS, h1, h2, ⟨h3, h4, h5, h6⟩, h7⟩ := h
  exact ⟨F, FT, tag, lb, sb, pb, g, b, jb, hV, hS.le_n (by omega) (by omega), h1, h2, ⟨by omega, by omega, by omega, h6⟩, h7⟩
theorem kcells (h : K33 w0 w G st most xb x bad l t) : ∃ lb, w.cell? ⟨xb, 0, none⟩ = some (.pointer (some ⟨lb, 0, none⟩)) ∧ Calls Tryz.prog 26 #[.pointer (some ⟨lb, 0, none⟩)] w fun e w' => e = .returned (.int .i64 x.m.st) ∧ w' = w := by
  obtain ⟨F, FT, tag, lb, sb, pb, g, b, jb, hV, hS, -⟩ := h
  exact ⟨lb, hV.cells.1, lstate hV.line⟩
/-- the line acted -/
theorem K33.lined {F FT : Nat → Prop} {tag : Nat → Nat} {lb sb pb g b jb : Nat} {m : Ln} (hV : ConsV w F tag xb st x lb sb pb g b jb) (hS : StoF w0 w FT st most bad l (1000 + 19 * t)) (hap : Apart F FT) (hlo : ∀ i, F i → w0.heap.size ≤ i) (hb : x.lost ≤ t ∧ x.m.n ≤ t ∧ x.past.length ≤ 65536 + 300 * t ∧ (baseOf x.c).size ≤ 64) (hG : (∀ i, F i ∨ FT i → G i) ∧ In G w) (ht : t ≤ 10000)
    (hl : LineAt w' (Ext (Pt F tag 1) w w') lb m) (k : Keeps (Pt F tag 1) w w') (ok : LnOk m) (hm : m.n ≤ t + 1) : K33 w0 w' (Ext G w w') st most xb { x with m := m } bad l (t + 1) := by
  have hsz := hS.from_.size
  refine ⟨_, FT, _, lb, sb, pb, g, b, jb, hV.lined hl k ok, (hS.keeps k (fun i hi e => hap i e.1 hi) (fun i hi e => by have := hlo i e.1; omega)).le_n (by omega) (by omega), fun i hi e => ?_, fun i hi => hi.elim (hlo i) (fun e => by have := e.1; omega), ⟨by show x.lost ≤ t + 1; omega, hm, by show x.past.length ≤ 65536 + 300 * (t + 1); omega, hb.2.2.2⟩, fun i hi => hi.elim (fun e => e.mono (fun i h => hG.1 i (.inl h))) (fun e => .inl (hG.1 i (.inr e))), hG.2.ext k.size⟩
  rcases hi with hi | hi
  · exact hap i hi e
  · have := hS.inn i e; have := hi.1; omega
theorem K33.seated {F FT : Nat → Prop} {tag : Nat → Nat} {lb sb pb g b jb : Nat} {s : Sea} (hV : ConsV w F tag xb st x lb sb pb g b jb) (hS : StoF w0 w FT st most bad l (1000 + 19 * t)) (hap : Apart F FT) (hlo : ∀ i, F i → w0.heap.size ≤ i) (hb : x.lost ≤ t ∧ x.m.n ≤ t ∧ x.past.length ≤ 65536 + 300 * t ∧ (baseOf x.c).size ≤ 64) (hG : (∀ i, F i ∨ FT i → G i) ∧ In G w) (ht : t ≤ 10000)
    (hl : SeatAt w' (Ext (Pt F tag 2) w w') sb s) (k : Keeps (Pt F tag 2) w w') : K33 w0 w' (Ext G w w') st most xb { x with s := s } bad l (t + 1) := by
  have hsz := hS.from_.size
  refine ⟨_, FT, _, lb, sb, pb, g, b, jb, hV.seated hl k, (hS.keeps k (fun i hi e => hap i e.1 hi) (fun i hi e => by have := hlo i e.1; omega)).le_n (by omega) (by omega), fun i hi e => ?_, fun i hi => hi.elim (hlo i) (fun e => by have := e.1; omega), ⟨by show x.lost ≤ t + 1; omega, by show x.m.n ≤ t + 1; omega, by show x.past.length ≤ 65536 + 300 * (t + 1); omega, hb.2.2.2⟩, fun i hi => hi.elim (fun e => e.mono (fun i h => hG.1 i (.inl h))) (fun e => .inl (hG.1 i (.inr e))), hG.2.ext k.size⟩
  rcases hi with hi | hi
  · exact hap i hi e
  · have := hS.inn i e; have := hi.1; omega
theorem kstart (h : K33 w0 w G st most xb x bad l t) (ht : t ≤ 10000) : ∃ lb, w.cell? ⟨xb, 0, none⟩ = some (.pointer (some ⟨lb, 0, none⟩)) ∧ Calls Tryz.prog 12 #[.pointer (some ⟨lb, 0, none⟩)] w fun e w' => ∃ v, e = .returned v ∧ OwnS outR 2 w' w.heap.size 98 v (startL x.m).2 ∧ K33 w0 w' (Ext G w w') st most xb { x with m := (startL x.m).1 } bad l (t + 1) ∧ Keeps G w w' := by
  obtain ⟨F, FT, tag, lb, sb, pb, g, b, jb, hV, hS, h1, h2, hb, hG⟩ := h
  refine ⟨lb, hV.cells.1, (lstart hV.line hV.ok.rule).mono ?_⟩
  rintro e w' ⟨v, he, hO, hl, k⟩
  refine ⟨v, he, hO, K33.lined hV hS h1 h2 hb hG ht hl k hV.ok.start ?_, k.mono fun i _ e => hG.1 i (.inl e.1)⟩
  unfold startL
  split
  · exact Nat.zero_le _
  · show x.m.n ≤ t + 1; omega
theorem kopened (h : K33 w0 w G st most xb x bad l t) (ht : t ≤ 10000) (now r : Int) (ok : Bool) : ∃ lb, w.cell? ⟨xb, 0, none⟩ = some (.pointer (some ⟨lb, 0, none⟩)) ∧ Calls Tryz.prog 13 #[.pointer (some ⟨lb, 0, none⟩), .int .i64 now, .bool ok, .int .i64 r] w fun e w' => ∃ v, e = .returned v ∧ OwnS outR 2 w' w.heap.size 98 v (openedL x.m now ok r).2 ∧ K33 w0 w' (Ext G w w') st most xb { x with m := (openedL x.m now ok r).1 } bad l (t + 1) ∧ Keeps G w w' := by
  obtain ⟨F, FT, tag, lb, sb, pb, g, b, jb, hV, hS, h1, h2, hb, hG⟩ := h
  refine ⟨lb, hV.cells.1, (lopened hV.line hV.ok (by omega) now r ok).mono ?_⟩
  rintro e w' ⟨v, he, hO, hl, k⟩
  have := opened_n x.m now r ok
  exact ⟨v, he, hO, K33.lined hV hS h1 h2 hb hG ht hl k (hV.ok.opened (by omega) now r ok) (by omega), k.mono fun i _ e => hG.1 i (.inl e.1)⟩
theorem kseat (h : K33 w0 w G st most xb x bad l t) : ∃ sb, (Calls Tryz.prog 24 #[.pointer (some ⟨xb, 0, none⟩)] w fun e w' => e = .returned (.pointer (some ⟨sb, 0, none⟩)) ∧ w' = w) ∧
    (∀ W, Keeps (fun _ => False) w W → Calls Tryz.prog 25 #[.pointer (some ⟨sb, 0, none⟩)] W fun e w' => e = .returned (.tuple #[.int .i64 (if x.s.wr = -1 then 0 else x.s.wr), .bool (decide (x.s.wr ≠ -1))]) ∧ w' = W) ∧
    (∀ W, Keeps (fun _ => False) w W → Calls Tryz.prog 104 #[.pointer (some ⟨sb, 0, none⟩)] W fun e w' => ∃ o, e = .returned o ∧ OwnS intR 1 w' W.heap.size 3 o (listS x.s) ∧ Keeps (fun _ => False) W w') := by
  obtain ⟨F, FT, tag, lb, sb, pb, g, b, jb, hV, hS, -⟩ := h
  exact ⟨sb, cseat hV, fun W k => swriter (hV.seat.keeps k (fun _ _ h => h)), fun W k => slist (hV.seat.keeps k (fun _ _ h => h))⟩
theorem kcall (h : K33 w0 w G st most xb x bad l t) (ht : t ≤ 10000) (who lvl : Int) (hh : who ≤ 9223372036854775807) (hl : lvl ≤ 9223372036854775807) : ∃ sb, (Calls Tryz.prog 24 #[.pointer (some ⟨xb, 0, none⟩)] w fun e w' => e = .returned (.pointer (some ⟨sb, 0, none⟩)) ∧ w' = w) ∧ Calls Tryz.prog 32 #[.pointer (some ⟨sb, 0, none⟩), .int .i64 who, .int .i64 lvl] w fun e w' =>
    ∃ o, e = .returned (.tuple #[o, .int .i64 (comeS x.s who lvl true).2.2]) ∧ K33 w0 w' (Ext G w w') st most xb { x with s := (comeS x.s who lvl true).1 } bad l (t + 1) ∧ Keeps G w w' := by
  obtain ⟨F, FT, tag, lb, sb, pb, g, b, jb, hV, hS, h1, h2, hb, hG⟩ := h
  refine ⟨sb, cseat hV, (scall hV.seat who lvl hh hl).mono ?_⟩
  rintro e w' ⟨o, he, -, hl, k⟩
  exact ⟨o, he, K33.seated hV hS h1 h2 hb hG ht hl k, k.mono fun i _ e => hG.1 i (.inl e.1)⟩
/-- the log acted -/
theorem K33.logged {F FT FT' : Nat → Prop} {tag : Nat → Nat} {lb sb pb g b jb bad' : Nat} {l' : List SFile} {x' : Cns} (hV : ConsV w' F tag xb st x' lb sb pb g b jb) (_hS : StoF w0 w FT st most bad l (1000 + 19 * t)) (hS' : StoF w0 w' FT' st most bad' l' (1000 + 19 * (t + 1))) (hap : Apart F FT) (hF : In F w) (hE : ∀ i, FT' i → Ext FT w w' i) (hlo : ∀ i, F i → w0.heap.size ≤ i)
    (hb : x'.lost ≤ t + 1 ∧ x'.m.n ≤ t + 1 ∧ x'.past.length ≤ 65536 + 300 * (t + 1) ∧ (baseOf x'.c).size ≤ 64) (hG : (∀ i, F i ∨ FT i → G i) ∧ In G w) (hsz : w.heap.size ≤ w'.heap.size) : K33 w0 w' (Ext G w w') st most xb x' bad' l' (t + 1) :=
  ⟨F, FT', tag, lb, sb, pb, g, b, jb, hV, hS', fun i hi e => (hE i e).elim (hap i hi) (fun e => by have := hF i hi; have := e.1; omega), hlo, hb, fun i hi => hi.elim (fun e => .inl (hG.1 i (.inl e))) (fun e => (hE i e).mono (fun i h => hG.1 i (.inr h))), hG.2.ext hsz⟩
theorem sync_lost (base : ByteArray) (j : Jp) : (syncJ base j).1.lost = j.lost := by
  unfold syncJ
  split
  · rfl
  · split <;> rfl
theorem ksave (h : K33 w0 w G st most xb x bad l t) (ht : t ≤ 10000) : Calls Tryz.prog 14 #[.pointer (some ⟨xb, 0, none⟩)] w fun e w' =>
    e = .returned (.bool (syncJ (baseOf x.c) ⟨bad, l, x.rest, x.lost⟩).2) ∧ K33 w0 w' (Ext G w w') st most xb (x.log (syncJ (baseOf x.c) ⟨bad, l, x.rest, x.lost⟩).1) (syncJ (baseOf x.c) ⟨bad, l, x.rest, x.lost⟩).1.bad (syncJ (baseOf x.c) ⟨bad, l, x.rest, x.lost⟩).1.l (t + 1) ∧ Keeps G w w' := by
  obtain ⟨F, FT, tag, lb, sb, pb, g, b, jb, hV, hS, h1, h2, hb, hG⟩ := h
  refine (csave hV hS h1 h2 (by omega)).mono ?_
  rintro e w' ⟨he, hV', hS', k⟩
  rw [show 1000 + 19 * t + 19 = 1000 + 19 * (t + 1) by omega] at hS'
  refine ⟨he, K33.logged hV' hS hS' h1 hV.inn (fun i hi => hi) h2 ⟨?_, ?_, ?_, hb.2.2.2⟩ hG k.size, k.mono fun i _ e => hG.1 i (e.elim .inr (fun e => .inl (by rw [e]; exact hV.pj.1)))⟩
  · have := sync_lost (baseOf x.c) ⟨bad, l, x.rest, x.lost⟩
    show (syncJ (baseOf x.c) ⟨bad, l, x.rest, x.lost⟩).1.lost ≤ t + 1
    rw [this]
    have : x.lost ≤ t := hb.1
    show x.lost ≤ t + 1
    omega
  · show x.m.n ≤ t + 1; omega
  · show x.past.length ≤ 65536 + 300 * (t + 1); omega
theorem chunks_one {s : List UInt8} (hs : s.length ≤ 4096) : (chunksOf s).length ≤ 1 := by
  unfold chunksOf
  cases hn : s.length with
  | zero => exact Nat.zero_le _
  | succ n =>
    rw [chunks]
    split
    · exact Nat.zero_le _
    · rw [List.drop_of_length_le (by omega)]
      cases n <;> simp [chunks]
theorem puts_lost (mst : Int) (base : ByteArray) (k size : Nat) (now : Int) : ∀ (l : List (List UInt8)) (j : Jp), (putsJ mst base k size now j l).lost ≤ j.lost + l.length
  | [], j => by simp [putsJ]
  | c :: l, j => by
    have h1 := puts_lost mst base k size now l (addJ mst base k size j ⟨1, now, str c⟩).1
    have h2 := add_lost mst base k size j ⟨1, now, str c⟩
    rw [List.length_cons]
    show (putsJ mst base k size now (addJ mst base k size j ⟨1, now, str c⟩).1 l).lost ≤ _
    omega
theorem kcame (h : K33 w0 w G st most xb x bad l t) (ht : t ≤ 10000) (now : Int) (hnow : 0 ≤ now ∧ now ≤ 1099511627776) (s : List UInt8) (hs : s.length ≤ 300) : Calls Tryz.prog 15 #[.pointer (some ⟨xb, 0, none⟩), .int .i64 now, .string (str s)] w fun e w' =>
    e = .returned (.bool (cameC most now bad l x s).2.2) ∧ K33 w0 w' (Ext G w w') st most xb (cameC most now bad l x s).1 (cameC most now bad l x s).2.1.bad (cameC most now bad l x s).2.1.l (t + 1) ∧ Keeps G w w' := by
  obtain ⟨F, FT, tag, lb, sb, pb, g, b, jb, hV, hS, h1, h2, hb, hG⟩ := h
  have hc := chunks_one (s := s) (by omega)
  have hlt : x.lost ≤ t := hb.1
  refine (ccame hV hS h1 h2 hb.2.2.2 now hnow s (by omega) (by omega) (by omega) (by omega)).mono ?_
  rintro e w' ⟨he, hV', hS', k⟩
  refine ⟨he, K33.logged hV' hS (hS'.le_n (by omega) (by omega)) h1 hV.inn (fun i hi => hi) h2 ?_ hG k.size, k.mono fun i _ e => hG.1 i e.symm⟩
  unfold cameC
  split
  · exact ⟨by show x.lost ≤ t + 1; omega, by show x.m.n ≤ t + 1; omega, by show x.past.length ≤ _; omega, hb.2.2.2⟩
  · have := puts_lost most (baseOf x.c) x.c.gens.toNat x.c.size.toNat now (chunksOf s) ⟨bad, l, x.rest, x.lost⟩
    refine ⟨Nat.le_trans this (by show x.lost + (chunksOf s).length ≤ t + 1; omega), by show x.m.n ≤ t + 1; omega, ?_, hb.2.2.2⟩
    show (x.past ++ s).length ≤ _
    rw [List.length_append]; omega
theorem send_n (m : Ln) (s : List UInt8) : (sendL m s).1.n = m.n := by
  unfold sendL
  split
  · rfl
  · split <;> rfl
theorem ktype (h : K33 w0 w G st most xb x bad l t) (ht : t ≤ 10000) (who : Int) (s : List UInt8) (hs : s.length ≤ 1048576) : Calls Tryz.prog 30 #[.pointer (some ⟨xb, 0, none⟩), .int .i64 who, .string (str s)] w fun e w' =>
    ∃ v, e = .returned (.tuple #[v, .int .i64 (typeC x who s).2.2]) ∧ OwnS outR 2 w' w.heap.size 98 v (typeC x who s).2.1 ∧ K33 w0 w' (Ext G w w') st most xb (typeC x who s).1 bad l (t + 1) ∧ Keeps G w w' := by
  obtain ⟨F, FT, tag, lb, sb, pb, g, b, jb, hV, hS, h1, h2, hb, hG⟩ := h
  refine (ctype hV who s hs).mono ?_
  rintro e w' ⟨v, he, hO, hV', k⟩
  have hsz := hS.from_.size
  refine ⟨v, he, hO, ⟨_, FT, _, lb, sb, pb, g, b, jb, hV', (hS.keeps k (fun i hi e => h1 i e hi) (fun i hi e => by have := h2 i e; omega)).le_n (by omega) (by omega), fun i hi e => ?_, fun i hi => hi.elim (h2 i) (fun e => by have := e.1; omega), ?_, fun i hi => hi.elim (fun e => e.mono (fun i h => hG.1 i (.inl h))) (fun e => .inl (hG.1 i (.inr e))), hG.2.ext k.size⟩, k.mono fun i _ e => hG.1 i (.inl e)⟩
  · rcases hi with hi | hi
    · exact h1 i hi e
    · have := hS.inn i e; have := hi.1; omega
  · have hsn := send_n x.m s
    unfold typeC
    split
    · exact ⟨by show x.lost ≤ t + 1; omega, by show x.m.n ≤ t + 1; omega, by show x.past.length ≤ _; omega, hb.2.2.2⟩
    · split
      · exact ⟨by show x.lost ≤ t + 1; omega, by show (sendL x.m s).1.n ≤ t + 1; omega, by show x.past.length ≤ _; omega, hb.2.2.2⟩
      · split
        · exact ⟨by show x.lost ≤ t + 1; omega, by show (sendL x.m s).1.n ≤ t + 1; omega, by show x.past.length ≤ _; omega, hb.2.2.2⟩
        · exact ⟨by show x.lost ≤ t + 1; omega, by show (sendL x.m s).1.n ≤ t + 1; omega, by show x.past.length ≤ _; omega, hb.2.2.2⟩
theorem kreplay (h : K33 w0 w G st most xb x bad l t) (ht : t ≤ 10000) (lines : Int) (hL : lines ≤ 4611686018427387904) : Calls Tryz.prog 36 #[.pointer (some ⟨xb, 0, none⟩), .int .i64 lines] w fun e w' =>
    e = .returned (.tuple #[.int .i64 (backC x.past lines : Nat), .int .i64 x.past.length]) ∧ Keeps (fun _ => False) w w' := by
  obtain ⟨F, FT, tag, lb, sb, pb, g, b, jb, hV, hS, h1, h2, hb, hG⟩ := h
  exact creplay hV lines (by omega) hL
end
end Go.Proofs.YtkmpdobojgiegaaGreatDoor
