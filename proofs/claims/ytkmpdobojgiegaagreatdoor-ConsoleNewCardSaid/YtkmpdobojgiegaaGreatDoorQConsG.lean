/-
  console: again: what its log tells, and a log begun anew.
-/
import Derived.Test.YtkmpdobojgiegaaGreatDoorQGround5
import Derived.Test.YtkmpdobojgiegaaGreatDoorQGround4
import Derived.Test.YtkmpdobojgiegaaGreatDoorQResE
namespace Go.Proofs.YtkmpdobojgiegaaGreatDoor
open Go.RowKit Go.Maps

section
variable {w0 w w' : World} {F : Nat → Prop} {s n bad : Nat} {most : Int} {l : List SFile}
theorem StoF.ety (h : StoF w0 w F s most bad l n) : Ety w := by
  obtain ⟨M, L, hL, hF, hS⟩ := h
  letI : Res := resF w F
  exact hS.etyw
theorem resloadF (h : StoF w0 w F s most bad l n) (base : ByteArray) (k : Int) (hb : base.size ≤ 1048576) :
    Calls Tryz.prog 113 #[.pointer (some ⟨s, 0, none⟩), .string base, .int .i64 k] w fun e w' => (∃ v t c, e = .returned (.agg #[v, .int .i64 t, .int .i64 c]) ∧ OwnI w' w.heap.size v (loadP (allP l base (heldP k)))) ∧ Keeps (fun _ => False) w w' := by
  obtain ⟨M, L, hL, hF, hS⟩ := h
  refine (@resload_any (resF w F) _ _ _ _ _ _ _ _ hS base k hb).mono ?_
  rintro e w' ⟨⟨v, he, hO⟩, k⟩
  rw [hL] at hO
  exact ⟨⟨v, _, _, he, hO⟩, k⟩
theorem resbeginF (h : StoF w0 w F s most bad l n) (hn : n ≤ 1000000) (base : ByteArray) (k : Int) (hb : base.size ≤ 1048576) :
    Calls Tryz.prog 115 #[.pointer (some ⟨s, 0, none⟩), .string base, .int .i64 k] w fun e w' => (∃ v, e = .returned v ∧ ErrV w' (beginP base (heldP k - 1) bad l).1 v) ∧ StoF w0 w' (Ext F w w') s most (beginP base (heldP k - 1) bad l).2.1 (beginP base (heldP k - 1) bad l).2.2 (n + 17) ∧ Keeps F w w' := by
  obtain ⟨M, L, hL, hF, hS⟩ := h
  have hw := (@Sto.keeps (resF w F) _ _ _ _ _ _ _ _ hS).size
  refine (@resbegin_any (resF w F) _ _ _ _ _ _ _ _ hS hn base k hb).mono ?_
  rw [hL]
  rintro e w' ⟨v, L', he, hE, hS', hl, kk⟩
  have := Sto.foot hS' hF kk.size hw
  rw [hl] at this
  exact ⟨⟨v, he, hE⟩, this, kk.foot (fun _ h => h)⟩
end
/-- may a past be made again so? -/
def tailOk (lines bytes : Int) : Bool := decide (1 ≤ lines) && decide (lines ≤ 1024) && decide (1 ≤ bytes) && decide (bytes ≤ 65536)
theorem tailOk_iff {k size : Int} : tailOk k size = true ↔ 1 ≤ k ∧ k ≤ 1024 ∧ 1 ≤ size ∧ size ≤ 65536 := by unfold tailOk; simp [and_assoc]
def itemsC (c : Con) (l : List SFile) : List Itm := loadP (allP l (baseOf c) (heldP c.gens))
/-- what is behind again: a code, how many calls fail, the files, the past -/
def againC (c : Con) (bad : Nat) (l : List SFile) : Int × Nat × List SFile × List UInt8 :=
  if tailOk c.lines c.bytes = true then
    (if (beginP (baseOf c) (heldP c.gens - 1) bad l).1 = 0 then (0, (beginP (baseOf c) (heldP c.gens - 1) bad l).2.1, (beginP (baseOf c) (heldP c.gens - 1) bad l).2.2, tailP c.bytes.toNat c.lines.toNat (dataP (itemsC c l)))
     else ((beginP (baseOf c) (heldP c.gens - 1) bad l).1, (beginP (baseOf c) (heldP c.gens - 1) bad l).2.1, (beginP (baseOf c) (heldP c.gens - 1) bad l).2.2, []))
  else (2, bad, l, [])
section
variable {w0 w w' : World} {FT : Nat → Prop} {xb st pb g b n bad : Nat} {most : Int} {l : List SFile} {c : Con} {lv sv jv : Value}
set_option maxRecDepth 100000 in
set_option maxHeartbeats 1000000 in
theorem cagain (hb : Blk w xb 60 (makeC c lv sv (.pointer (some ⟨pb, 0, none⟩)) jv)) (hp : IsPast w pb g b 32768 []) (hS : StoF w0 w FT st most bad l n) (hn : n ≤ 1000000) (hx : ¬ FT xb) (hpp : ¬ FT pb ∧ ¬ FT g ∧ ¬ FT b) (hx2 : xb ≠ pb ∧ xb ≠ g ∧ xb ≠ b) (hlo : w0.heap.size ≤ pb ∧ w0.heap.size ≤ g ∧ w0.heap.size ≤ b) (hnm : c.name.size ≤ 1048000)
    (hlen : (itemsC c l).length ≤ 1048576) (hz : ∀ x ∈ itemsC c l, x.body.size ≤ 1048576) :
    Calls Tryz.prog 49 #[.pointer (some ⟨xb, 0, none⟩), .pointer (some ⟨st, 0, none⟩)] w fun e w' =>
    e = .returned (.int .i64 (againC c bad l).1) ∧ IsPast w' pb g b 32768 (againC c bad l).2.2.2 ∧ StoF w0 w' (Ext FT w w') st most (againC c bad l).2.1 (againC c bad l).2.2.1 (n + 17) ∧ Keeps (fun i => FT i ∨ i = pb ∨ i = g ∨ i = b) w w' := by
  have hbz : (baseOf c).size ≤ 1048576 := by unfold baseOf; simp; have : (⟨#[46, 108, 111, 103]⟩ : ByteArray).size = 4 := rfl; omega
  obtain ⟨B, hB⟩ : ∃ B, B = baseOf c := ⟨_, rfl⟩
  have HBASE := Lib.hid (show ∀ W, Calls Tryz.prog 20 #[.string c.name] W fun e w' => e = .returned (.string B) ∧ w' = W from fun W => by rw [hB]; exact cbase W c.name (by omega))
  obtain ⟨I, hI⟩ : ∃ I, I = itemsC c l := ⟨_, rfl⟩
  have HL := Lib.hid (show ∀ W, Keeps (fun _ => False) w W → Calls Tryz.prog 113 #[.pointer (some ⟨st, 0, none⟩), .string B, .int .i64 c.gens] W fun e w' => (∃ v t c, e = .returned (.agg #[v, .int .i64 t, .int .i64 c]) ∧ OwnI w' W.heap.size v I) ∧ Keeps (fun _ => False) W w' from fun W k => by rw [hI, hB]; exact resloadF (hS.keeps k (fun _ _ h => h) (fun _ _ h => h)) (baseOf c) c.gens hbz)
  obtain ⟨T, hT⟩ : ∃ T, T = beginP (baseOf c) (heldP c.gens - 1) bad l := ⟨_, rfl⟩
  have HBG := Lib.hid (show ∀ W, Keeps (fun _ => False) w W → Calls Tryz.prog 115 #[.pointer (some ⟨st, 0, none⟩), .string B, .int .i64 c.gens] W fun e w' => (∃ v, e = .returned v ∧ ErrV w' T.1 v) ∧ StoF w0 w' (Ext FT W w') st most T.2.1 T.2.2 (n + 17) ∧ Keeps FT W w' from fun W k => by rw [hT, hB]; exact resbeginF (hS.keeps k (fun _ _ h => h) (fun _ _ h => h)) hn (baseOf c) c.gens hbz)
  obtain ⟨R, hR⟩ : ∃ R, R = againC c bad l := ⟨_, rfl⟩
  rw [← hR]
  have HR := Lib.hid (show R = if tailOk c.lines c.bytes = true then (if T.1 = 0 then (0, T.2.1, T.2.2, tailP c.bytes.toNat c.lines.toNat (dataP I)) else (T.1, T.2.1, T.2.2, [])) else (2, bad, l, []) from by rw [hR, hT, hI]; rfl)
  rw [← hI] at hlen hz
  have HS := Lib.hid hS
  have HP := Lib.hid hp
  have HB := Lib.hid hb
  have HLEN := Lib.hid hlen
  have HZ := Lib.hid hz
  have HX := Lib.hid (And.intro hx (And.intro hpp (And.intro hx2 hlo)))
  have HN := Lib.hid hn
  clear hR hT hI hlen hz hS hp hx hpp hx2 hlo hnm hbz hB hn
  have hcl : ∀ W, Keeps (fun _ => False) w W → W.cell? ⟨xb, 1, none⟩ = some (.string c.name) ∧ W.cell? ⟨xb, 3, none⟩ = some (.int .i64 c.lines) ∧ W.cell? ⟨xb, 4, none⟩ = some (.int .i64 c.bytes) ∧ W.cell? ⟨xb, 5, none⟩ = some (.int .i64 c.gens) ∧ W.cell? ⟨xb, 12, none⟩ = some (.pointer (some ⟨pb, 0, none⟩)) := fun W k => by
    have h := hb.keeps k (fun h => h)
    exact ⟨h.cell 1, h.cell 3, h.cell 4, h.cell 5, h.cell 12⟩
  have HCL := Lib.hid hcl
  obtain ⟨c1, -, -, c5, -⟩ := hcl w (Keeps.refl _ _)
  clear hb hcl
  go_enter Tryz.func49, Tryz.ntmps49
  go_wp2_with fail
  refine (HBASE.out _).mono ?_
  rintro e w2 ⟨rfl, hw⟩
  obtain rfl : w = w2 := hw.symm
  go_wp2_with fail
  refine (HL.out _ (Keeps.refl _ _)).mono ?_
  rintro e w2 ⟨⟨v, t, q, rfl, hO⟩, k2⟩
  obtain ⟨a, cp, rfl, hsl⟩ := hO.slat
  obtain ⟨m, hm⟩ : ∃ m, m = I.length := ⟨_, rfl⟩
  rw [← hm] at hO hsl ⊢
  have HM := Lib.hid hm
  have HK2 := Lib.hid k2
  have HSL := Lib.hid hsl
  clear c1 c5 k2 hm hsl hO
  go_wp2_with fail
  obtain ⟨W3, hW3⟩ : ∃ W3, W3 = w2.alloc (.cells #[.slice a m cp, .int .i64 t, .int .i64 q] 212) := ⟨_, rfl⟩
  have k23 : Keeps (fun _ => False) w2 W3 := by rw [hW3]; exact (Keeps.refl _ _).alloc _
  have hb3 : Blk W3 w2.heap.size 212 #[.slice a m cp, .int .i64 t, .int .i64 q] := by rw [hW3]; exact Blk.new _ _ _
  rw [← hW3]
  have HK3 := Lib.hid (HK2.out.trans k23)
  have hc3 : ∀ W, Keeps (fun _ => False) W3 W → W.cell? ⟨xb, 3, none⟩ = some (.int .i64 c.lines) ∧ W.cell? ⟨xb, 4, none⟩ = some (.int .i64 c.bytes) ∧ W.cell? ⟨w2.heap.size, 0, none⟩ = some (.slice a m cp) := fun W k => ⟨(HCL.out W (HK3.out.trans k)).2.1, (HCL.out W (HK3.out.trans k)).2.2.1, (hb3.keeps k (fun h => h)).cell 0⟩
  obtain ⟨lp, hlp⟩ : ∃ lp, lp = w2.heap.size := ⟨_, rfl⟩
  rw [← hlp] at hc3 ⊢
  have HTL : Hid (∀ W, Keeps (fun _ => False) W3 W → Calls Tryz.prog 114 #[.slice a m cp, .int .i64 c.lines, .int .i64 c.bytes] W fun e w' => (∃ o, e = .returned (.tuple #[.pointer o, .int .i64 (if tailOk c.lines c.bytes = true then 0 else 2)]) ∧ (tailOk c.lines c.bytes = true → ∃ tt tg tb cm, o = some ⟨tt, 0, none⟩ ∧ W.heap.size ≤ tt ∧ W.heap.size ≤ tg ∧ W.heap.size ≤ tb ∧ TailAt w' tt tg tb c.bytes.toNat c.lines.toNat (tailP c.bytes.toNat c.lines.toNat (dataP I)) cm)) ∧ Keeps (fun _ => False) W w') := Lib.hid fun W k => by
    cases ht : tailOk c.lines c.bytes with
    | true =>
      obtain ⟨e1, e2, e3, e4⟩ := tailOk_iff.1 ht
      rw [if_pos rfl]
      have hc := restail_ok W a m cp I ((HSL.out.keeps k23 (fun _ _ h => h)).keeps k (fun _ _ h => h)) (by rw [HM.out]; exact HLEN.out) HZ.out c.lines.toNat c.bytes.toNat ⟨by omega, by omega⟩ ⟨by omega, by omega⟩
      rw [show ((c.lines.toNat : Nat) : Int) = c.lines by omega, show ((c.bytes.toNat : Nat) : Int) = c.bytes by omega] at hc
      refine hc.mono ?_
      rintro e w' ⟨⟨tt, tg, tb, he, l1, l2, l3, hT⟩, kk⟩
      exact ⟨⟨_, he, fun _ => ⟨tt, tg, tb, _, rfl, l1, l2, l3, hT⟩⟩, kk⟩
    | false =>
      rw [if_neg (by decide)]
      have hn : ¬ (1 ≤ c.lines ∧ c.lines ≤ 1024 ∧ 1 ≤ c.bytes ∧ c.bytes ≤ 65536) := fun e => by rw [tailOk_iff.2 e] at ht; cases ht
      refine (restail_bad W (.slice a m cp) c.lines c.bytes (by omega)).mono ?_
      rintro e w' ⟨he, rfl⟩
      exact ⟨⟨_, he, fun h => by cases h⟩, Keeps.refl _ _⟩
  obtain ⟨K, hK⟩ : ∃ K : Int, K = if tailOk c.lines c.bytes = true then 0 else 2 := ⟨_, rfl⟩
  rw [← hK] at HTL
  have HKK := Lib.hid hK
  obtain ⟨x1, x2, x3⟩ := hc3 W3 (Keeps.refl _ _)
  have HC3 := Lib.hid hc3
  have HLP := Lib.hid hlp
  clear hW3 k23 hb3 hlp hK hc3
  go_region_held3 (fun W => W.cell? ⟨xb, 3, none⟩ = some (.int .i64 c.lines) ∧ W.cell? ⟨xb, 4, none⟩ = some (.int .i64 c.bytes) ∧ W.cell? ⟨lp, 0, none⟩ = some (.slice a m cp))
    ((first | exact ⟨x1, x2, x3⟩ | exact ⟨y1, y2, y3⟩))
    ((go_at_call 114; refine (HTL.out _ (by (repeat (first | (with_reducible assumption) | (with_reducible exact Keeps.refl _ _) | refine Keeps.drew ?_ | refine Keeps.drewN ?_ _ | refine Keeps.setCell ?_ (by simp) _ | refine Keeps.setRow ?_ (by simp) _ | refine Keeps.alloc ?_ _)))).mono ?_; rintro e w4 ⟨⟨o, rfl, ho⟩, k4⟩; have k4 : Keeps (fun _ => False) W3 w4 := k4.from_drew; obtain ⟨y1, y2, y3⟩ := HC3.out _ k4; have HO := Lib.hid ho; have HK4 := Lib.hid k4; clear ho k4))
  clear x1 x2 x3
  by_cases hk0 : K = 0
  · subst hk0
    have ht : tailOk c.lines c.bytes = true := by
      cases ht : tailOk c.lines c.bytes with
      | true => rfl
      | false => have := HKK.out; rw [ht] at this; cases this
    obtain ⟨tt, tg, tb, cm, rfl, l1, l2, l3, hT⟩ := HO.out ht
    have HTT := Lib.hid hT
    have HLO := Lib.hid (And.intro l1 (And.intro l2 l3))
    have hk04 := HK3.out.trans HK4.out
    have z5 := (HCL.out _ hk04).2.2.2.1
    have HK04 := Lib.hid hk04
    have HTO := Lib.hid ht
    clear hT l1 l2 l3 hk04 ht
    go_wp2_with fail
    refine (HBG.out _ HK04.out).mono ?_
    rintro e w5 ⟨⟨v5, rfl, hE⟩, hS5, k5⟩
    have HS5 := Lib.hid hS5
    have HK5 := Lib.hid k5
    have HE5 := Lib.hid hE
    clear hS5 k5 z5
    by_cases ht0 : T.1 = 0
    · rw [ht0] at hE
      obtain rfl := hE.nil_
      have HT0 := Lib.hid ht0
      clear hE ht0
      obtain ⟨hx, hpp, hx2, hlo⟩ := HX.out
      obtain ⟨l1, l2, l3⟩ := HLO.out
      have l1 : W3.heap.size ≤ tt := l1
      have l2 : W3.heap.size ≤ tg := l2
      have l3 : W3.heap.size ≤ tb := l3
      have hin : ∀ i, FT i → i < w4.heap.size := fun i hi => Nat.lt_of_lt_of_le (HS.out.inn i hi) HK04.out.size
      have hinw : ∀ i, FT i → i < w.heap.size := HS.out.inn
      have hs3 := HK3.out.size
      have HTT5 := Lib.hid (HTT.out.keeps HK5.out (fun e => by have := hinw _ e; omega) (fun e => by have := hinw _ e; omega) (fun e => by have := hinw _ e; omega))
      have HP5 := Lib.hid ((HP.out.keeps HK04.out (fun h => h) (fun h => h) (fun h => h)).keeps HK5.out hpp.1 hpp.2.1 hpp.2.2)
      have hc12 := (HCL.out _ HK04.out).2.2.2.2
      have hx12 : w5.cell? ⟨xb, 12, none⟩ = some (.pointer (some ⟨pb, 0, none⟩)) := (World.cell?_of_block (w := w4) (HK5.out.block xb (block_lt_of_cell hc12) hx)).trans hc12
      have hx5 : ∀ W, Keeps (fun i => i = pb ∨ i = g ∨ i = b) w5 W → W.cell? ⟨xb, 12, none⟩ = some (.pointer (some ⟨pb, 0, none⟩)) := fun W k => (World.cell?_of_block (w := w5) (k.block xb (block_lt_of_cell hx12) (fun e => by rcases e with e | e | e; exact hx2.1 e; exact hx2.2.1 e; exact hx2.2.2 e))).trans hx12
      have HX5 := Lib.hid hx5
      obtain ⟨tx, htx⟩ : ∃ tx, tx = tailP c.bytes.toNat c.lines.toNat (dataP I) := ⟨_, rfl⟩
      rw [← htx] at HTT5 HR
      have htxl : tx.length ≤ 65536 := by
        have := (tailOk_iff.1 HTO.out).2.2.2
        obtain ⟨gone, hr, -⟩ := HTT5.out.ring
        have h2 := hr.fits.1
        omega
      have HTX := Lib.hid htxl
      have HT9 := Lib.hid (fun W (k : Keeps (fun _ => False) w5 W) => ttext (HTT5.out.same k))
      have HA9 := Lib.hid (fun W (k : Keeps (fun _ => False) w5 W) => padd_any W pb g b 32768 [] (str tx) (HP5.out.keeps k (fun h => h) (fun h => h) (fun h => h)) (by rw [str_size]; unfold maxLen; have := HTX.out; omega) (by rw [str_size]; have := HTX.out; simp; omega))
      clear hx hpp hx2 hlo l1 l2 l3 hin hinw hs3 hc12 hx5 htx htxl
      go_wp2_with fail
      go_region_held3 (fun W => W.cell? ⟨xb, 12, none⟩ = some (.pointer (some ⟨pb, 0, none⟩)))
        ((first | exact hx12 | exact hy12 | exact hz12))
        ((first
          | (go_at_call 117; refine (HT9.out _ (by (repeat (first | (with_reducible assumption) | (with_reducible exact Keeps.refl _ _) | refine Keeps.drew ?_ | refine Keeps.drewN ?_ _ | refine Keeps.setCell ?_ (by simp) _ | refine Keeps.setRow ?_ (by simp) _ | refine Keeps.alloc ?_ _)))).mono ?_; rintro e w6 ⟨rfl, k6⟩; have k6 : Keeps (fun _ => False) w5 w6 := (by first | exact k6 | exact k6.from_drew); have hy12 := HX5.out _ k6.none_; have HK6 := Lib.hid k6)
          | (go_at_call 63; refine (HA9.out _ (by (repeat (first | (with_reducible assumption) | (with_reducible exact Keeps.refl _ _) | refine Keeps.drew ?_ | refine Keeps.drewN ?_ _ | refine Keeps.setCell ?_ (by simp) _ | refine Keeps.setRow ?_ (by simp) _ | refine Keeps.alloc ?_ _)))).mono ?_; rintro e w7 ⟨rfl, k7, hP7⟩; have k7 : Keeps (fun i => i = pb ∨ i = g ∨ i = b) w5 w7 := (HK6.out.none_).trans k7; have hz12 := HX5.out _ k7; have HK7 := Lib.hid k7; have HP7 := Lib.hid hP7; clear k7 hP7)))
      go_wp2_with fail
      go_ret
      have HRR : R = (0, T.2.1, T.2.2, tx) := by rw [HR.out, if_pos HTO.out, if_pos HT0.out]
      rw [HRR]
      obtain ⟨hx, hpp, hx2, hlo⟩ := HX.out
      have hs7 := HS5.out.keeps HK7.out (fun i hi e => by
        have hi2 : i < w.heap.size ∨ w4.heap.size ≤ i := hi.elim (fun e => .inl (HS.out.inn i e)) (fun e => .inr e.1)
        have hnp := HP.out.lt
        have hsz := HK04.out.size
        rcases hi with hi | hi
        · rcases e with rfl | rfl | rfl
          · exact hpp.1 hi
          · exact hpp.2.1 hi
          · exact hpp.2.2 hi
        · have := hi.1
          rcases e with rfl | rfl | rfl <;> omega) (fun i hi e => by rcases e with rfl | rfl | rfl <;> omega)
      have hsz4 := HK04.out.size
      have hsz5 := HK5.out.size
      have hsz7 := HK7.out.size
      refine ⟨rfl, HP7.out, hs7.mono (fun i hi => hi.imp (fun h => h) (fun e => ⟨by omega, by omega⟩)) (fun i hi => ⟨hi.elim (fun e => HS.out.lo i e) (fun e => Nat.le_trans HS.out.from_.size e.1), hi.elim (fun e => by have := HS.out.inn i e; omega) (·.2)⟩), ((HK04.out.none_).trans (HK5.out.mono fun i _ e => .inl e)).trans (HK7.out.mono fun i _ e => .inr e)⟩
    · obtain ⟨ty, x', rfl⟩ := hE.iface ht0
      have HT0 := Lib.hid ht0
      have HOF := Lib.hid (of_err w5 HE5.out HS5.out.ety)
      clear hE ht0
      go_wp2_with fail
      refine HOF.out.mono ?_
      rintro e w6 ⟨rfl, k6⟩
      have HK6 := Lib.hid k6
      clear k6
      go_wp2_with fail
      go_ret
      have HRR : R = (T.1, T.2.1, T.2.2, []) := by rw [HR.out, if_pos HTO.out, if_neg HT0.out]
      rw [HRR]
      obtain ⟨hx, hpp, hx2, hlo⟩ := HX.out
      have hsz4 := HK04.out.size
      have hsz5 := HK5.out.size
      have hsz6 := HK6.out.size
      refine ⟨rfl, (((HP.out.keeps HK04.out (fun h => h) (fun h => h) (fun h => h)).keeps HK5.out hpp.1 hpp.2.1 hpp.2.2).keeps HK6.out (fun h => h) (fun h => h) (fun h => h)), (HS5.out.keeps HK6.out (fun _ _ h => h) (fun _ _ h => h)).mono (fun i hi => hi.imp (fun h => h) (fun e => ⟨by omega, by omega⟩)) (fun i hi => ⟨hi.elim (fun e => HS.out.lo i e) (fun e => Nat.le_trans HS.out.from_.size e.1), hi.elim (fun e => by have := HS.out.inn i e; omega) (·.2)⟩), ((HK04.out.none_).trans (HK5.out.mono fun i _ e => .inl e)).trans HK6.out.none_⟩
  · have hb : (K != 0) = true := by simpa using hk0
    have ht : tailOk c.lines c.bytes = false := by
      cases ht : tailOk c.lines c.bytes with
      | false => rfl
      | true => have := HKK.out; rw [ht] at this; exact absurd this hk0
    have HRR : Hid (R = (2, bad, l, [])) := Lib.hid (by rw [HR.out, ht]; rfl)
    have HK2' : Hid (K = 2) := Lib.hid (by rw [HKK.out, ht]; rfl)
    clear hk0 ht
    go_wp2_with fail
    go_ret
    rw [HRR.out, HK2'.out]
    have hk04 := HK3.out.trans HK4.out
    exact ⟨rfl, HP.out.keeps hk04 (fun h => h) (fun h => h) (fun h => h), ((HS.out.keeps hk04 (fun _ _ h => h) (fun _ _ h => h)).mono (fun i hi => .inl hi) (fun i hi => hi.elim (fun e => ⟨HS.out.lo i e, Nat.lt_of_lt_of_le (HS.out.inn i e) hk04.size⟩) (fun e => ⟨Nat.le_trans HS.out.from_.size e.1, e.2⟩))).le_n (by omega) (by have := HN.out; omega), hk04.none_⟩
end
end Go.Proofs.YtkmpdobojgiegaaGreatDoor
