/-
  console: New, walked.
-/
import Derived.Test.YtkmpdobojgiegaaGreatDoorQConsI
namespace Go.Proofs.YtkmpdobojgiegaaGreatDoor
open Go.RowKit Go.Maps

/-- behind New -/
def CnewPost (w0 w : World) (FT : Nat → Prop) (st : Nat) (most : Int) (n : Nat) (c : Con) (mostS : Int) (R : Int × Nat × List SFile × List UInt8) (e : Ending) (w' : World) : Prop :=
  (∃ xb, R.1 = 0 ∧ e = .returned (.tuple #[.pointer (some ⟨xb, 0, none⟩), .int .i64 0]) ∧ Fin5 w0 w FT st most n c mostS R xb w') ∨
  (R.1 ≠ 0 ∧ e = .returned (.tuple #[.pointer none, .int .i64 R.1]) ∧ ∃ FT', StoF w0 w' FT' st most R.2.1 R.2.2.1 n ∧ (∀ i, FT' i → Ext FT w w' i) ∧ Keeps FT w w')
/-- behind i of New's steps; behind all of them the console is there -/
def AllS (w0 w : World) (FT : Nat → Prop) (st : Nat) (most : Int) (bad : Nat) (l : List SFile) (n : Nat) (c : Con) (mostS : Int) (R : Int × Nat × List SFile × List UInt8) (cb b4 b5 fb xb x8 e9 s0 : Nat) (i : Nat) (W : World) : Prop :=
  (i ≤ 4 ∧ ∃ lv sv pv jv s1 s2 s3 s4, Stg w0 w FT st most bad l n c mostS cb b4 b5 fb xb x8 e9 s0 i W lv sv pv jv s1 s2 s3 s4) ∨ (i = 5 ∧ R.1 = 0 ∧ W.cell? ⟨x8, 0, none⟩ = some (.pointer (some ⟨xb, 0, none⟩)) ∧ Fin5 w0 w FT st most (n + 17) c mostS R xb W)
section
variable {w0 w : World} {FT : Nat → Prop} {st n bad : Nat} {most mostS : Int} {l : List SFile} {c : Con}
set_option maxRecDepth 100000 in
set_option maxHeartbeats 1000000 in
theorem cnew_any (hS : StoF w0 w FT st most bad l n) (hn : n ≤ 999000) (hnm : c.name.size ≤ 1048000) (hi : c.init.size ≤ 1073741824) (hlen : (itemsC c l).length ≤ 1048576) (hz : ∀ x ∈ itemsC c l, x.body.size ≤ 1048576) :
    Calls Tryz.prog 9 #[conV c, .pointer (some ⟨st, 0, none⟩), .int .i64 mostS] w (CnewPost w0 w FT st most (n + 17) c mostS (newC c mostS bad l)) := by
  obtain ⟨R, hR⟩ : ∃ R, R = newC c mostS bad l := ⟨_, rfl⟩
  rw [← hR]
  have HR := Lib.hid hR
  have HS := Lib.hid hS
  have HN := Lib.hid (And.intro hn (And.intro hnm (And.intro hi (And.intro hlen hz))))
  clear hR hS hn hnm hi hlen hz
  have hmf : ∀ (fn : Fn) (first cap : Array Value) (w : World), (Instr.makeFunc fn first cap).run Tryz.prog w = .ok (.func fn first cap) w := fun _ _ _ _ => rfl
  unfold conV conR
  go_enter Tryz.func9, Tryz.ntmps9
  go_wp2_with fail
  obtain ⟨fb, hfb⟩ : ∃ fb, fb = w.heap.size + 1 + 1 + 1 + 1 + 1 + 1 := ⟨_, rfl⟩
  rw [← hfb]
  obtain ⟨e9, he9⟩ : ∃ e9, e9 = w.heap.size + 1 + 1 + 1 + 1 + 1 := ⟨_, rfl⟩
  rw [← he9]
  obtain ⟨x8, hx8⟩ : ∃ x8, x8 = w.heap.size + 1 + 1 + 1 + 1 := ⟨_, rfl⟩
  rw [← hx8]
  obtain ⟨xb, hxb⟩ : ∃ xb, xb = w.heap.size + 1 + 1 + 1 := ⟨_, rfl⟩
  rw [← hxb]
  obtain ⟨b5, hb5⟩ : ∃ b5, b5 = w.heap.size + 1 + 1 := ⟨_, rfl⟩
  rw [← hb5]
  obtain ⟨b4, hb4⟩ : ∃ b4, b4 = w.heap.size + 1 := ⟨_, rfl⟩
  rw [← hb4]
  obtain ⟨cb, hcb⟩ : ∃ cb, cb = w.heap.size := ⟨_, rfl⟩
  rw [← hcb]
  obtain ⟨W0, hW0⟩ : ∃ W0, W0 = (((((((w.alloc (.cells (conR c).toArray 23)).alloc (.cells #[.pointer (some ⟨st, 0, none⟩)] 25)).alloc (.cells #[.int .i64 mostS] 3)).alloc (.cells (makeC c (.pointer none) (.pointer none) (.pointer none) (.pointer none)) 60)).alloc (.cells #[.pointer (some ⟨xb, 0, none⟩)] 30)).alloc (.cells #[.int .i64 0] 31)).alloc (.cells #[.func (.func 40) #[] #[.pointer (some ⟨cb, 0, none⟩), .pointer (some ⟨x8, 0, none⟩), .pointer (some ⟨e9, 0, none⟩)], .func (.func 42) #[] #[.pointer (some ⟨b5, 0, none⟩), .pointer (some ⟨x8, 0, none⟩), .pointer (some ⟨e9, 0, none⟩)], .func (.func 44) #[] #[.pointer (some ⟨b4, 0, none⟩), .pointer (some ⟨cb, 0, none⟩), .pointer (some ⟨x8, 0, none⟩), .pointer (some ⟨e9, 0, none⟩)], .func (.func 46) #[] #[.pointer (some ⟨x8, 0, none⟩), .pointer (some ⟨e9, 0, none⟩)], .func (.func 48) #[] #[.pointer (some ⟨x8, 0, none⟩), .pointer (some ⟨b4, 0, none⟩), .pointer (some ⟨e9, 0, none⟩)]] 1)) := ⟨_, rfl⟩
  change Code.wp _ _ _ _ (((((((w.alloc (.cells (conR c).toArray 23)).alloc (.cells #[.pointer (some ⟨st, 0, none⟩)] 25)).alloc (.cells #[.int .i64 mostS] 3)).alloc (.cells (makeC c (.pointer none) (.pointer none) (.pointer none) (.pointer none)) 60)).alloc (.cells #[.pointer (some ⟨xb, 0, none⟩)] 30)).alloc (.cells #[.int .i64 0] 31)).alloc (.cells #[.func (.func 40) #[] #[.pointer (some ⟨cb, 0, none⟩), .pointer (some ⟨x8, 0, none⟩), .pointer (some ⟨e9, 0, none⟩)], .func (.func 42) #[] #[.pointer (some ⟨b5, 0, none⟩), .pointer (some ⟨x8, 0, none⟩), .pointer (some ⟨e9, 0, none⟩)], .func (.func 44) #[] #[.pointer (some ⟨b4, 0, none⟩), .pointer (some ⟨cb, 0, none⟩), .pointer (some ⟨x8, 0, none⟩), .pointer (some ⟨e9, 0, none⟩)], .func (.func 46) #[] #[.pointer (some ⟨x8, 0, none⟩), .pointer (some ⟨e9, 0, none⟩)], .func (.func 48) #[] #[.pointer (some ⟨x8, 0, none⟩), .pointer (some ⟨b4, 0, none⟩), .pointer (some ⟨e9, 0, none⟩)]] 1))
  rw [← hW0]
  have hkcb : Blk W0 cb 23 (conR c).toArray := by rw [hW0]; exact (((((((Blk.newAt (by first | omega | (simp; omega)))).alloc _).alloc _).alloc _).alloc _).alloc _).alloc _
  have hkb4 : Blk W0 b4 25 #[.pointer (some ⟨st, 0, none⟩)] := by rw [hW0]; exact ((((((Blk.newAt (by first | omega | (simp; omega)))).alloc _).alloc _).alloc _).alloc _).alloc _
  have hkb5 : Blk W0 b5 3 #[.int .i64 mostS] := by rw [hW0]; exact (((((Blk.newAt (by first | omega | (simp; omega)))).alloc _).alloc _).alloc _).alloc _
  have hkxb : Blk W0 xb 60 (makeC c (.pointer none) (.pointer none) (.pointer none) (.pointer none)) := by rw [hW0]; exact ((((Blk.newAt (by first | omega | (simp; omega)))).alloc _).alloc _).alloc _
  have hkx8 : Blk W0 x8 30 #[.pointer (some ⟨xb, 0, none⟩)] := by rw [hW0]; exact (((Blk.newAt (by first | omega | (simp; omega)))).alloc _).alloc _
  have hke9 : Blk W0 e9 31 #[.int .i64 0] := by rw [hW0]; exact ((Blk.newAt (by first | omega | (simp; omega)))).alloc _
  have hkfb : Blk W0 fb 1 #[.func (.func 40) #[] #[.pointer (some ⟨cb, 0, none⟩), .pointer (some ⟨x8, 0, none⟩), .pointer (some ⟨e9, 0, none⟩)], .func (.func 42) #[] #[.pointer (some ⟨b5, 0, none⟩), .pointer (some ⟨x8, 0, none⟩), .pointer (some ⟨e9, 0, none⟩)], .func (.func 44) #[] #[.pointer (some ⟨b4, 0, none⟩), .pointer (some ⟨cb, 0, none⟩), .pointer (some ⟨x8, 0, none⟩), .pointer (some ⟨e9, 0, none⟩)], .func (.func 46) #[] #[.pointer (some ⟨x8, 0, none⟩), .pointer (some ⟨e9, 0, none⟩)], .func (.func 48) #[] #[.pointer (some ⟨x8, 0, none⟩), .pointer (some ⟨b4, 0, none⟩), .pointer (some ⟨e9, 0, none⟩)]] := by rw [hW0]; exact (Blk.newAt (by first | omega | (simp; omega)))
  have k0 : Keeps (fun _ => False) w W0 := by rw [hW0]; (repeat (first | (with_reducible assumption) | (with_reducible exact Keeps.refl _ _) | refine Keeps.drew ?_ | refine Keeps.drewN ?_ _ | refine Keeps.setCell ?_ (by simp) _ | refine Keeps.setRow ?_ (by simp) _ | refine Keeps.alloc ?_ _))
  have hsz : W0.heap.size = w.heap.size + 7 := by rw [hW0]; simp
  have hg0 : Stg w0 w FT st most bad l n c mostS cb b4 b5 fb xb x8 e9 W0.heap.size 0 W0 (.pointer none) (.pointer none) (.pointer none) (.pointer none) W0.heap.size W0.heap.size W0.heap.size W0.heap.size :=
    ⟨⟨hkcb, hkb4, hkb5, hkfb⟩, ⟨hkx8, hke9, hkxb⟩, ⟨⟨by omega, by omega⟩, ⟨by omega, by omega⟩, ⟨by omega, by omega⟩, ⟨by omega, by omega⟩, ⟨by omega, by omega⟩, ⟨by omega, by omega⟩, ⟨by omega, by omega⟩⟩, ⟨Nat.le_refl _, Nat.le_refl _, Nat.le_refl _, Nat.le_refl _, Nat.le_refl _⟩, fun h => by omega, fun h => by omega, fun h => by omega, fun h => by omega, HS.out.keeps k0 (fun _ _ h => h) (fun _ _ h => h), k0, HS.out.from_.size⟩
  have HG0 := Lib.hid hg0
  obtain ⟨s0, hs0⟩ : ∃ s0, s0 = W0.heap.size := ⟨_, rfl⟩
  rw [← hs0] at HG0
  clear hkcb hkb4 hkb5 hkxb hkx8 hke9 hkfb k0 hsz hg0 hW0 hfb he9 hx8 hxb hb5 hb4 hcb hs0
  go_loopw [22] (fun u22 W => ∃ i : Nat, u22 = .int .i64 i ∧ Hid (AllS w0 w FT st most bad l n c mostS R cb b4 b5 fb xb x8 e9 s0 i W)) (fun u22 _ => 5 - (intOf u22).toNat)
  case atStart => exact ⟨0, rfl, Lib.hid (.inl ⟨by omega, _, _, _, _, _, _, _, _, HG0.out⟩)⟩
  case round =>
    obtain ⟨i, rfl, HI⟩ := hrel
    rcases HI.out with ⟨hi4, lv, sv, pv, jv, s1, s2, s3, s4, hg⟩ | ⟨rfl, hr0, hx, hfin⟩
    · clear HI
      have y0 := hg.blk.hf.cell 0
      have y1 := hg.blk.hf.cell 1
      have y2 := hg.blk.hf.cell 2
      have y3 := hg.blk.hf.cell 3
      have y4 := hg.blk.hf.cell 4
      have ye := hg.mkk.e.cell 0
      simp only [List.getElem?_toArray, List.getElem?_cons_zero, List.getElem?_cons_succ] at y0 y1 y2 y3 y4 ye
      have HL0 : Hid (1 ≤ i → lineC0 c = 0) := Lib.hid (fun h => by obtain ⟨_, _, _, e⟩ := hg.line h; exact e)
      have HL1 : Hid (2 ≤ i → seatC0 mostS = 0) := Lib.hid (fun h => by obtain ⟨_, _, _, e⟩ := hg.seat h; exact e)
      have HL2 : Hid (3 ≤ i → logC0 c = 0) := Lib.hid (fun h => by obtain ⟨_, _, _, _, e⟩ := hg.log h; exact e)
      obtain rfl | rfl | rfl | rfl | rfl : i = 0 ∨ i = 1 ∨ i = 2 ∨ i = 3 ∨ i = 4 := by omega
      · have hC := cnew1 hg.mkk cb hg.blk.hc HN.out.2.2.1
        have HG := Lib.hid hg
        clear hg
        go_wp2_with fail
        refine hC.mono ?_
        rintro e W' ⟨rfl, (⟨h0, lb, hm, hl⟩ | ⟨h0, hm⟩), k⟩
        · have hg2 := HG.out.one HS.out.inn k hm hl h0
          obtain ⟨⟨-, d1, -⟩, -⟩ := hm.cells
          have HG2 := Lib.hid hg2
          clear hg2 hC k hm y0 y1 y2 y3 y4 ye hl h0
          go_wp2_with fail
          go_roundw
          case rel => exact ⟨1, by go_num, Lib.hid (.inl ⟨by omega, _, _, _, _, _, _, _, _, HG2.out⟩)⟩
          case measure => simp [intOf]
        · obtain ⟨⟨-, d1, -⟩, -⟩ := hm.cells
          obtain ⟨a1, a2, a3⟩ := HG.out.fail HS.out.inn k hm
          have HA := Lib.hid (And.intro a2 a3)
          have HRR : Hid (R = (lineC0 c, bad, l, [])) := Lib.hid (by
            rw [HR.out]
            unfold newC
            rw [if_pos h0])
          obtain ⟨K, hK⟩ : ∃ K, K = lineC0 c := ⟨_, rfl⟩
          rw [← hK] at d1 h0 HRR
          have hne : (K != 0) = true := by simpa using h0
          have H0 := Lib.hid h0
          clear hC k hm y0 y1 y2 y3 y4 ye hK h0 a1 a2 a3
          go_wp2_with fail
          go_region
          go_wp2_with fail
          go_ret2
          rw [HRR.out]
          exact .inr ⟨H0.out, rfl, FT, (HA.out.1.keeps (Keeps.refl (fun _ => False) _).drew (fun _ _ h => h) (fun _ _ h => h)).le_n (by omega) (by have := HN.out.1; omega), fun i hi => .inl hi, (HA.out.2.none_ : Keeps FT w W').drew⟩
      · have hC := cnew2 hg.mkk b5 mostS (hg.blk.h5.cell 0)
        have HG := Lib.hid hg
        clear hg
        go_wp2_with fail
        refine hC.mono ?_
        rintro e W' ⟨rfl, (⟨h0, sb, hm, hl⟩ | ⟨h0, hm⟩), k⟩
        · have hg2 := HG.out.two HS.out.inn k hm hl h0
          obtain ⟨⟨-, d1, -⟩, -⟩ := hm.cells
          have HG2 := Lib.hid hg2
          clear hg2 hC k hm y0 y1 y2 y3 y4 ye hl h0
          go_wp2_with fail
          go_roundw
          case rel => exact ⟨2, by go_num, Lib.hid (.inl ⟨by omega, _, _, _, _, _, _, _, _, HG2.out⟩)⟩
          case measure => simp [intOf]
        · obtain ⟨⟨-, d1, -⟩, -⟩ := hm.cells
          obtain ⟨a1, a2, a3⟩ := HG.out.fail HS.out.inn k hm
          have HA := Lib.hid (And.intro a2 a3)
          have HRR : Hid (R = (seatC0 mostS, bad, l, [])) := Lib.hid (by
            rw [HR.out]
            unfold newC
            rw [if_neg (by rw [HL0.out (by omega)]; simp), if_pos h0])
          obtain ⟨K, hK⟩ : ∃ K, K = seatC0 mostS := ⟨_, rfl⟩
          rw [← hK] at d1 h0 HRR
          have hne : (K != 0) = true := by simpa using h0
          have H0 := Lib.hid h0
          clear hC k hm y0 y1 y2 y3 y4 ye hK h0 a1 a2 a3
          go_wp2_with fail
          go_region
          go_wp2_with fail
          go_ret2
          rw [HRR.out]
          exact .inr ⟨H0.out, rfl, FT, (HA.out.1.keeps (Keeps.refl (fun _ => False) _).drew (fun _ _ h => h) (fun _ _ h => h)).le_n (by omega) (by have := HN.out.1; omega), fun i hi => .inl hi, (HA.out.2.none_ : Keeps FT w W').drew⟩
      · have hC := cnew3 hg.mkk b4 cb st hg.blk.h4 hg.blk.hc HN.out.2.1
        have HG := Lib.hid hg
        clear hg
        go_wp2_with fail
        refine hC.mono ?_
        rintro e W' ⟨rfl, (⟨h0, jb, hm, hl, hj⟩ | ⟨h0, hm⟩), k⟩
        · have hg2 := HG.out.three HS.out.inn k hm hl hj h0
          obtain ⟨⟨-, d1, -⟩, -⟩ := hm.cells
          have HG2 := Lib.hid hg2
          clear hg2 hC k hm y0 y1 y2 y3 y4 ye hl h0 hj
          go_wp2_with fail
          go_roundw
          case rel => exact ⟨3, by go_num, Lib.hid (.inl ⟨by omega, _, _, _, _, _, _, _, _, HG2.out⟩)⟩
          case measure => simp [intOf]
        · obtain ⟨⟨-, d1, -⟩, -⟩ := hm.cells
          obtain ⟨a1, a2, a3⟩ := HG.out.fail HS.out.inn k hm
          have HA := Lib.hid (And.intro a2 a3)
          have HRR : Hid (R = (logC0 c, bad, l, [])) := Lib.hid (by
            rw [HR.out]
            unfold newC
            rw [if_neg (by rw [HL0.out (by omega)]; simp), if_neg (by rw [HL1.out (by omega)]; simp), if_pos h0])
          obtain ⟨K, hK⟩ : ∃ K, K = logC0 c := ⟨_, rfl⟩
          rw [← hK] at d1 h0 HRR
          have hne : (K != 0) = true := by simpa using h0
          have H0 := Lib.hid h0
          clear hC k hm y0 y1 y2 y3 y4 ye hK h0 a1 a2 a3
          go_wp2_with fail
          go_region
          go_wp2_with fail
          go_ret2
          rw [HRR.out]
          exact .inr ⟨H0.out, rfl, FT, (HA.out.1.keeps (Keeps.refl (fun _ => False) _).drew (fun _ _ h => h) (fun _ _ h => h)).le_n (by omega) (by have := HN.out.1; omega), fun i hi => .inl hi, (HA.out.2.none_ : Keeps FT w W').drew⟩
      · have hC := cnew4 hg.mkk
        have HG := Lib.hid hg
        clear hg
        go_wp2_with fail
        refine hC.mono ?_
        rintro e W' ⟨rfl, ⟨p, g, b, hm, hl, hj⟩, k⟩
        have hg2 := HG.out.four HS.out.inn k hm hl hj
        obtain ⟨⟨-, d1, -⟩, -⟩ := hm.cells
        have HG2 := Lib.hid hg2
        clear hg2 hC k hm y0 y1 y2 y3 y4 ye hl hj
        go_wp2_with fail
        go_roundw
        case rel => exact ⟨4, by go_num, Lib.hid (.inl ⟨by omega, _, _, _, _, _, _, _, _, HG2.out⟩)⟩
        case measure => simp [intOf]
      · have HG := Lib.hid hg
        obtain ⟨p, g, b, rfl, hp, r1, r2, r3⟩ := hg.past (by omega)
        have hRR : R = againC c bad l := by
          rw [HR.out]
          unfold newC
          rw [if_neg (by rw [HL0.out (by omega)]; simp), if_neg (by rw [HL1.out (by omega)]; simp), if_neg (by rw [HL2.out (by omega)]; simp)]
        obtain ⟨o1, o2, o3, o4, o5⟩ := hg.ord
        have L := hg.lies
        have hfl := HS.out.inn
        have hp1 := r1.1
        have hp2 := r2.1
        have hp3 := r3.1
        have lx := L.xb
        have l8 := L.x8
        have l9 := L.e9
        have hl0 := hg.lo0
        have hC := cnew5 hg.mkk b4 hg.blk.h4 hp hg.sto (by have := HN.out.1; omega) ⟨fun e => by have := hfl _ e; have := lx.1; omega, fun e => by have := hfl _ e; have := l8.1; omega, fun e => by have := hfl _ e; have := l9.1; omega⟩ ⟨fun e => by have := hfl _ e; have := lx.1; have := lx.2; omega, fun e => by have := hfl _ e; have := lx.1; have := lx.2; omega, fun e => by have := hfl _ e; have := lx.1; have := lx.2; omega⟩
          (fun i hi => by have := lx.2; have := l8.2; have := l9.2; rcases hi with rfl | rfl | rfl <;> exact ⟨by omega, by omega, by omega⟩) ⟨by have := lx.1; have := lx.2; omega, by have := lx.1; have := lx.2; omega, by have := lx.1; have := lx.2; omega⟩ (by have := l9.1; omega) HN.out.2.1 HN.out.2.2.2.1 HN.out.2.2.2.2
        rw [← hRR] at hC
        have HR3 := Lib.hid (And.intro r1 (And.intro r2 r3))
        clear o1 o2 o3 o4 o5 L hfl hp1 hp2 hp3 lx l8 l9 hl0 r1 r2 r3 hg hp hRR
        go_wp2_with fail
        refine hC.mono ?_
        rintro e W' ⟨rfl, hm, hp', hS', k⟩
        obtain ⟨⟨dx, d1, -⟩, -⟩ := hm.cells
        obtain ⟨K, hK⟩ : ∃ K, K = R.1 := ⟨_, rfl⟩
        rw [← hK] at d1
        have HK := Lib.hid hK
        have HKK := Lib.hid k
        have HS' := Lib.hid hS'
        by_cases h0 : K = 0
        · subst h0
          have hm0 : Mk W' xb x8 e9 c lv sv (.pointer (some ⟨p, 0, none⟩)) jv 0 := by rw [← hK] at hm; exact hm
          have HFIN := Lib.hid (HG.out.five HS.out.inn rfl HR3.out k hm0 hp' hS')
          clear hC k hm hm0 hp' hS' y0 y1 y2 y3 y4 ye hK
          go_wp2_with fail
          go_roundw
          case rel => exact ⟨5, by go_num, Lib.hid (.inr ⟨rfl, HK.out.symm, dx, HFIN.out⟩)⟩
          case measure => simp [intOf]
        · have hne : (K != 0) = true := by simpa using h0
          have H0 := Lib.hid h0
          clear hC k hm hp' hS' y0 y1 y2 y3 y4 ye hK h0
          go_wp2_with fail
          go_region
          go_wp2_with fail
          go_ret2
          have hb := HG.out.base
          have l9 := HG.out.lies.e9.1
          have lxx := HG.out.lies.xb
          obtain ⟨o1, o2, o3, o4, o5⟩ := HG.out.ord
          obtain ⟨r1, r2, r3⟩ := HR3.out
          have r1 := r1.1
          have r2 := r2.1
          have r3 := r3.1
          have hl1 := lxx.1
          have hl2 := lxx.2
          have kw : Keeps FT w W' := (hb.none_ : Keeps FT w wr).and_ HKK.out (fun i hi e => by
            rcases e with e | e | e | e | e
            · exact e
            · omega
            · omega
            · omega
            · omega)
          exact .inr ⟨by rw [← HK.out]; exact H0.out, by rw [← HK.out]; rfl, _, HS'.out.keeps (Keeps.refl (fun _ => False) _).drew (fun _ _ h => h) (fun _ _ h => h), fun i hi => hi.imp (fun h => h) (fun e => ⟨Nat.le_trans hb.size e.1, e.2⟩), kw.drew⟩
    · have HF := Lib.hid hfin
      have HR0 := Lib.hid hr0
      clear HI hfin hr0
      go_wp2_with fail
      go_ret2
      exact .inl ⟨xb, HR0.out, rfl, HF.out⟩
end
end Go.Proofs.YtkmpdobojgiegaaGreatDoor
