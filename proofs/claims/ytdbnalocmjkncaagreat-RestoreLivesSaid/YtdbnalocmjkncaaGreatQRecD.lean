/-
  The document's record of an item (wheelhouseref08.Put).
-/
import Derived.Test.YtdbnalocmjkncaaGreatQRecC
namespace Go.Proofs.YtdbnalocmjkncaaGreat
open Go.RowKit

theorem str_cat2 (a b : List UInt8) : str a ++ str b = str (a ++ b) := by apply ba_ext; simp [str]
theorem div_pow (n i : Nat) : ((n / 256 ^ i : Nat) : Int) / 256 = ((n / 256 ^ (i + 1) : Nat) : Int) := by rw [Nat.pow_succ, ← Nat.div_div_eq_div_mul]; omega
theorem cell_one {w : World} {x : Int} {c : UInt8} (h : (c.toNat : Int) = x) : ∀ (j : Nat) (v : UInt8), ([c] : List UInt8)[j]? = some v → (w.alloc (.cells #[.int .u8 x] 5)).cell? ⟨w.heap.size, 0 + j, none⟩ = some (.int .u8 (v.toNat : Int)) := by
  intro j v hj
  rw [Nat.zero_add, (Blk.new w 5 _).cell j]
  match j, hj with
  | 0, hj => simp at hj; subst hj; simp [h]
  | j + 1, hj => simp at hj
theorem cell_two {w : World} {o : Obj} {n : Nat} (hn : n ≤ 4096) : ∀ (j : Nat) (v : UInt8), (beP 2 n)[j]? = some v → ((w.alloc o).alloc (.cells #[.int .u8 ((n : Int) / 256), .int .u8 ((n : Int) % 256)] 5)).cell? ⟨w.heap.size + 1, 0 + j, none⟩ = some (.int .u8 (v.toNat : Int)) := by
  have e : beP 2 n = [UInt8.ofNat (n / 256 % 256), UInt8.ofNat (n % 256)] := by
    rw [beP_cons, beP_cons]
    simp [beP]
  intro j v hj
  have hb := Blk.new (w.alloc o) 5 #[.int .u8 ((n : Int) / 256), .int .u8 ((n : Int) % 256)]
  rw [show (w.alloc o).heap.size = w.heap.size + 1 by simp] at hb
  rw [Nat.zero_add, hb.cell j]
  rw [e] at hj
  match j, hj with
  | 0, hj => simp at hj; subst hj; simp; omega
  | 1, hj => simp at hj; subst hj; simp
  | j + 2, hj => simp at hj
theorem head_str {k0 t0 : Nat} {body s6 : ByteArray} {kb : UInt8} (h1 : kb = UInt8.ofNat k0) (h2 : s6 = str (beP 6 t0)) : (⟨#[87]⟩ : ByteArray) ++ str [kb] ++ s6 ++ str (beP 2 body.size) ++ body = str (headP ⟨(k0 : Nat), (t0 : Nat), body⟩) := by
  apply ba_ext
  rw [h1, h2]
  unfold headP
  simp [str]
set_option maxRecDepth 100000 in
set_option maxHeartbeats 1000000 in
theorem r8put_ok (w : World) (x : Itm) (h : x.ok) : Calls Tryz.prog 96 #[itmV x] w fun e w' => e = .returned (.tuple #[.string (str (recP x)), .int .i64 0]) ∧ Keeps (fun _ => False) w w' := by
  have hc0 := check_ok (e1 := 1) (e2 := 2) (e3 := 5) h
  have HC := Lib.hid (fun W => r8check_any W x)
  rw [hc0] at HC
  obtain ⟨⟨a, b⟩, ⟨c, d⟩, e⟩ := h
  obtain ⟨kind, at_, body⟩ := x
  simp only at a b c d e
  unfold itmV at *
  obtain ⟨k0, rfl⟩ := Int.eq_ofNat_of_zero_le (show 0 ≤ kind by omega)
  obtain ⟨t0, rfl⟩ := Int.eq_ofNat_of_zero_le c
  have HB := Lib.hid (Blk.new w 42 #[.int .i64 (k0 : Nat), .int .i64 (t0 : Nat), .string body])
  clear hc0
  simp only at HC ⊢
  go_enter Tryz.func96, Tryz.ntmps96
  go_wp2_with fail
  refine (HC.out _).mono ?_
  rintro e w2 ⟨rfl, k2⟩
  have hb := HB.out.keeps k2 id
  have HB2 := Lib.hid hb
  have HK2 := Lib.hid (Keeps.trans (a := w) (S := fun _ => False) (by (repeat (first | (with_reducible assumption) | (with_reducible exact Keeps.refl _ _) | refine Keeps.drew ?_ | refine Keeps.drewN ?_ _ | refine Keeps.setCell ?_ (by simp) _ | refine Keeps.setRow ?_ (by simp) _ | refine Keeps.alloc ?_ _))) k2)
  obtain ⟨c0, c1, c2⟩ := hb.cells3
  clear k2 hb
  go_wp2_with fail
  go_loopw [5, 6, 7] (fun u5 u6 u7 wr => ∃ i : Nat, u7 = .int .i64 i ∧ i ≤ 6 ∧ u6 = .int .i64 ((t0 / 256 ^ i : Nat) : Int) ∧ u5 = .string (str (beP i t0)) ∧ Hid (Keeps (fun _ => False) w2 wr)) (fun _ _ u7 _ => 6 - (intOf u7).toNat)
  case atStart => exact ⟨0, rfl, by omega, by simp, rfl, Lib.hid (Keeps.refl _ _)⟩
  case round =>
    obtain ⟨i, rfl, hi, rfl, rfl, HI⟩ := hrel
    rename World => wr
    by_cases hlt : i < 6
    · have hcons := beP_cons i t0
      have hdiv := div_pow t0 i
      obtain ⟨q, hq⟩ : ∃ q, q = t0 / 256 ^ i := ⟨_, rfl⟩
      have hqb : q ≤ t0 := by rw [hq]; exact Nat.div_le_self _ _
      obtain ⟨cb, hcb⟩ : ∃ cb, cb = UInt8.ofNat (t0 / 256 ^ i % 256) := ⟨_, rfl⟩
      have hcv : (cb.toNat : Int) = (q : Int) % 256 := by rw [hcb, byte_mod, ← hq]; omega
      rw [← hcb] at hcons
      rw [← hq] at hdiv ⊢
      have hs1 : (str [cb]).size = 1 := rfl
      have hs2 : (str (beP i t0)).size ≤ 6 := by rw [str_size, beP_len]; omega
      have HCO := Lib.hid hcons
      have HDI := Lib.hid hdiv
      have HCV := Lib.hid hcv
      clear hcons hdiv hq hcb hcv
      go_wp2_with ((with_reducible show wpList _ _ _ (⟨some 23, _, _, _, _, _⟩ :: _) _ _); go_must (refine wpList_string_bytes _ rfl _ _ _ rfl 5 Tryz.underlying115 Tryz.underlying5 Tryz.underlying9 wr.heap.size 0 1 1 rfl [cb] rfl (cell_one HCV.out) ?_))
      go_roundw
      case rel => exact ⟨i + 1, by go_num, by omega, by rw [HDI.out], by rw [HCO.out, str_cat2]; rfl, Lib.hid (HI.out.alloc _)⟩
      case measure => simp [intOf]; omega
    · obtain rfl : i = 6 := by omega
      obtain ⟨c0', c1', c2'⟩ := (HB2.out.keeps HI.out id).cells3
      have hb1 := (HB2.out.keeps HI.out id).alloc (.cells #[.int .u8 (k0 : Nat)] 5)
      obtain ⟨d0, d1, d2⟩ := hb1.cells3
      obtain ⟨f0, f1, f2⟩ := (hb1.alloc (.cells #[.int .u8 ((body.size : Int) / 256), .int .u8 ((body.size : Int) % 256)] 5)).cells3
      have hkb : (((UInt8.ofNat k0).toNat : Nat) : Int) = (k0 : Int) := by rw [UInt8.toNat_ofNat_of_lt' (by show k0 < 256; omega)]
      obtain ⟨kb, hkb2⟩ : ∃ kb, kb = UInt8.ofNat k0 := ⟨_, rfl⟩
      rw [← hkb2] at hkb
      have HKB := Lib.hid hkb
      have HKB2 := Lib.hid hkb2
      obtain ⟨s6, hs6⟩ : ∃ s6, s6 = str (beP 6 t0) := ⟨_, rfl⟩
      have hs6l : s6.size ≤ 6 := by rw [hs6, str_size, beP_len]; omega
      rw [← hs6]
      have HS6 := Lib.hid hs6
      have hs1 : (str [kb]).size = 1 := rfl
      have hs2 : (str (beP 2 body.size)).size ≤ 2 := by rw [str_size, beP_len]; omega
      have hlt := hb1.lt
      clear hkb hkb2 hs6 hb1 c0 c1 c2
      go_wp2_with (first
        | ((with_reducible show wpList _ _ _ (⟨some 32, _, _, _, _, _⟩ :: _) _ _); go_must (refine wpList_string_bytes _ rfl _ _ _ rfl 5 Tryz.underlying115 Tryz.underlying5 Tryz.underlying9 wr.heap.size 0 1 1 rfl [kb] rfl (cell_one HKB.out) ?_))
        | ((with_reducible show wpList _ _ _ (⟨some 47, _, _, _, _, _⟩ :: _) _ _); go_must (refine wpList_string_bytes _ rfl _ _ _ rfl 5 Tryz.underlying115 Tryz.underlying5 Tryz.underlying9 (wr.heap.size + 1) 0 2 2 rfl (beP 2 body.size) (beP_len _ _) (cell_two e) ?_)))
      have hhd := head_str HKB2.out HS6.out (body := body)
      obtain ⟨sx, hsx⟩ : ∃ sx, sx = str (headP ⟨(k0 : Nat), (t0 : Nat), body⟩) := ⟨_, rfl⟩
      rw [← hsx] at hhd
      rw [hhd]
      have hsz : sx.size = 10 + body.size := by rw [hsx, str_size, headP_len]
      have hsl : sx.size ≤ 4106 := by omega
      have HSX := Lib.hid hsx
      clear hsx hsz hhd c0' c1' c2' d0 d1 d2 f0 f1 f2
      refine (rof_any _ sx (by omega)).mono ?_
      have hsm := sumP_lt sx.data.toList
      obtain ⟨sm, hsm2⟩ : ∃ sm, sm = sumP sx.data.toList := ⟨_, rfl⟩
      rw [← hsm2] at hsm ⊢
      rintro e w7 ⟨rfl, hw⟩
      have hk7 : Keeps (fun _ => False) w w7 := by rw [hw]; exact ((HK2.out.trans HI.out).alloc _).alloc _
      have HK7 := Lib.hid hk7
      have hs4 : (str (beP 4 sm)).size = 4 := by rw [str_size, beP_len]
      have HSP := Lib.hid (rsput_any w7 sm (by omega))
      have HSM := Lib.hid hsm2
      obtain ⟨s4, hs4e⟩ : ∃ s4, s4 = str (beP 4 sm) := ⟨_, rfl⟩
      rw [← hs4e] at hs4 HSP
      have hs4l : s4.size ≤ 4 := by omega
      have HS4 := Lib.hid hs4e
      clear hs4 hs4e hsm hsm2 hw hk7
      go_wp2_with fail
      refine HSP.out.mono ?_
      rintro e w8 ⟨rfl, k8⟩
      have HK8 := Lib.hid (HK7.out.trans k8)
      clear k8
      go_wp2_with fail
      go_ret2
      refine ⟨?_, HK8.out⟩
      rw [HS4.out, HSM.out, HSX.out, str_cat2]
      rfl
end Go.Proofs.YtdbnalocmjkncaaGreat
