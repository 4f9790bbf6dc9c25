/-
  What the console told, of items (wheelhouseref20.Data), its tail (wheelhouseref23.Tail), and restore.Tail.
-/
import Derived.Test.YtkmpdobojgiegaaGreatDoorQTailC
namespace Go.Proofs.YtkmpdobojgiegaaGreatDoor
open Go.RowKit

theorem str_body (a : List UInt8) (s : ByteArray) : str a ++ s = str (a ++ s.data.toList) := by apply ba_ext; simp [str]
set_option maxRecDepth 100000 in
theorem rdata_any (w : World) (a : Option Addr) (n c : Nat) (l : List Itm) (h : SlAt itmR 3 w a n l) (hn : n ≤ 1048576) (hz : ∀ x ∈ l, x.body.size ≤ 1048576) :
    Calls Tryz.prog 17 #[.slice a n c] w fun e w' => e = .returned (.string (str (dataP l))) ∧ w' = w := by
  have HL := Lib.hid h
  have HN := Lib.hid h.1
  have HZ := Lib.hid hz
  clear h hz
  go_enter Tryz.func17, Tryz.ntmps17
  go_wp2_with fail
  go_loopw [3, 4] (fun u3 u4 wr => w = wr ∧ ∃ (i : Nat) (d : List UInt8), u4 = .int .i64 i ∧ u3 = .string (str d) ∧ i ≤ n ∧ d.length ≤ 1048576 * i ∧ Hid (d = dataP (l.take i))) (fun _ u4 _ => n - (intOf u4).toNat)
  case atStart => exact ⟨rfl, 0, [], rfl, rfl, Nat.zero_le _, by simp, Lib.hid rfl⟩
  case round =>
    obtain ⟨rfl, i, d, rfl, rfl, hi, hd, HH⟩ := hrel
    by_cases hlt : i < n
    · obtain ⟨x, hx⟩ : ∃ x, l[i]? = some x := ⟨_, List.getElem?_eq_getElem (by rw [HN.out]; exact hlt)⟩
      obtain ⟨b, off, rfl, _, hc⟩ := itm_at HL.out hx
      obtain ⟨x0, x1, x2⟩ := hc w (Keeps.refl _ _)
      have hst := dataP_take hx
      rw [← HH.out] at hst
      have hxb := HZ.out x (List.mem_of_getElem? hx)
      by_cases hk : x.kind = 1
      · rw [if_pos hk] at hst
        have hkb : (x.kind == 1) = true := by rw [beq_iff_eq]; exact hk
        have hss : (str d).size ≤ 1048576 * 1048576 := by rw [str_size]; omega
        have HST := Lib.hid hst
        have hbl : x.body.data.toList.length = x.body.size := by simp
        have HBL := Lib.hid hbl
        clear hx hc hst hbl
        obtain ⟨xk, xt, xb⟩ := x
        simp only at hk x0 x1 x2 hkb hxb
        subst hk
        go_wp2_with fail
        exact ⟨⟨trivial, i + 1, d ++ xb.data.toList, by go_num, by rw [str_body], by omega, by have := HBL.out; simp only at this; rw [List.length_append]; omega, HST.out.symm⟩, by simp [intOf]; omega⟩
      · rw [if_neg hk, List.append_nil] at hst
        have hkb : (x.kind == 1) = false := by rw [beq_eq_false_iff_ne]; exact hk
        have HST := Lib.hid hst
        clear hx hc hst hk
        go_wp2_with fail
        exact ⟨⟨trivial, i + 1, d, by go_num, rfl, by omega, by omega, HST.out.symm⟩, by simp [intOf]; omega⟩
    · have hh : d = dataP l := by rw [HH.out, List.take_of_length_le (by rw [HN.out]; omega)]
      have HX := Lib.hid hh
      clear hh
      go_wp2_with fail
      go_ret
      exact ⟨by rw [← HX.out]; rfl, rfl⟩
set_option maxRecDepth 100000 in
theorem restail_bad (w : World) (v : Value) (lines bytes : Int) (h : lines < 1 ∨ (¬ lines < 1 ∧ (1024 < lines ∨ (¬ 1024 < lines ∧ (bytes < 1 ∨ (¬ bytes < 1 ∧ 65536 < bytes)))))) : Calls Tryz.prog 114 #[v, .int .i64 lines, .int .i64 bytes] w fun e w' => e = .returned (.tuple #[.pointer none, .int .i64 2]) ∧ w' = w := by
  have HN := Lib.hid (tnew_bad w lines bytes h)
  clear h
  go_enter Tryz.func114, Tryz.ntmps114
  go_wp2_with fail
  refine HN.out.mono ?_
  rintro e w2 ⟨rfl, hw⟩
  obtain rfl : w = w2 := hw.symm
  go_wp2_with fail
  go_ret2
  exact ⟨rfl, rfl⟩
set_option maxRecDepth 100000 in
set_option maxHeartbeats 1000000 in
theorem restail_ok (w : World) (a : Option Addr) (n c : Nat) (l : List Itm) (h : SlAt itmR 3 w a n l) (hn : n ≤ 1048576) (hz : ∀ x ∈ l, x.body.size ≤ 1048576) (lines m : Nat) (hl : 1 ≤ lines ∧ lines ≤ 1024) (hm : 1 ≤ m ∧ m ≤ 65536) :
    Calls Tryz.prog 114 #[.slice a n c, .int .i64 lines, .int .i64 m] w fun e w' => (∃ t g b, e = .returned (.tuple #[.pointer (some ⟨t, 0, none⟩), .int .i64 0]) ∧ w.heap.size ≤ t ∧ w.heap.size ≤ g ∧ w.heap.size ≤ b ∧ TailAt w' t g b m lines (tailP m lines (dataP l)) (dataP l).length) ∧ Keeps (fun _ => False) w w' := by
  have HL := Lib.hid h
  have HNL := Lib.hid h.1
  have HZ := Lib.hid hz
  have HN := Lib.hid (tnew_ok w lines m hl hm)
  clear h hz hl hm
  go_enter Tryz.func114, Tryz.ntmps114
  go_wp2_with fail
  refine HN.out.mono ?_
  rintro e w2 ⟨⟨t, g, b, rfl, ht, hg, hb, T2⟩, k2⟩
  have HT2 := Lib.hid T2
  have HK2 := Lib.hid k2
  clear T2 k2
  go_wp2_with fail
  go_loopw [23] (fun u23 wr => ∃ (i : Nat) (d : List UInt8), u23 = .int .i64 i ∧ i ≤ n ∧ d.length ≤ 1048576 * i ∧ Hid (d = dataP (l.take i) ∧ TailAt wr t g b m lines (tailP m lines d) d.length ∧ Keeps (fun _ => False) w wr)) (fun u23 _ => n - (intOf u23).toNat)
  case atStart => exact ⟨0, [], rfl, Nat.zero_le _, by simp, Lib.hid ⟨rfl, HT2.out, HK2.out⟩⟩
  case round =>
    obtain ⟨i, d, rfl, hi, hd, HI⟩ := hrel
    rename World => wr
    by_cases hlt : i < n
    · obtain ⟨x, hx⟩ : ∃ x, l[i]? = some x := ⟨_, List.getElem?_eq_getElem (by rw [HNL.out]; exact hlt)⟩
      obtain ⟨b2, off, rfl, _, hc⟩ := itm_at HL.out hx
      obtain ⟨x0, x1, x2⟩ := hc wr HI.out.2.2
      have hst := dataP_take hx
      rw [← HI.out.1] at hst
      have hxb := HZ.out x (List.mem_of_getElem? hx)
      obtain ⟨xk, xt, xb⟩ := x
      simp only at x0 x1 x2 hst hxb
      have ka : Keeps (fun _ => False) wr (wr.alloc (.cells #[.int .i64 xk, .int .i64 xt, .string xb] 136)) := (Keeps.refl _ _).alloc _
      have HKA := Lib.hid ka
      clear hx hc ka
      by_cases hk : xk = 1
      · subst hk
        rw [if_pos rfl] at hst
        have HF := Lib.hid (tfeed (HI.out.2.1.same HKA.out) xb (by omega) (by omega))
        rw [tail_app] at HF
        have HST := Lib.hid hst
        have hbl : xb.data.toList.length = xb.size := by simp
        have HBL := Lib.hid hbl
        clear hst hbl
        go_wp2_with fail
        refine HF.out.mono ?_
        rintro e w3 ⟨rfl, T3, k3⟩
        have HT3 := Lib.hid T3
        have HK3 := Lib.hid (Keeps.and_ (HI.out.2.2.trans HKA.out) k3 (fun j hj e => by rcases e with e | e | e <;> omega))
        clear T3 k3
        go_wp2_with fail
        exact ⟨⟨i + 1, d ++ xb.data.toList, by go_num, by omega, by have := HBL.out; rw [List.length_append]; omega, HST.out.symm, by rw [List.length_append, HBL.out]; exact HT3.out, HK3.out⟩, by simp [intOf]; omega⟩
      · rw [if_neg hk, List.append_nil] at hst
        have hkb : (xk == 1) = false := by rw [beq_eq_false_iff_ne]; exact hk
        have HST := Lib.hid hst
        clear hst hk
        go_wp2_with fail
        exact ⟨⟨i + 1, d, by go_num, by omega, by omega, HST.out.symm, HI.out.2.1.same HKA.out, HI.out.2.2.trans HKA.out⟩, by simp [intOf]; omega⟩
    · have hh : d = dataP l := by rw [HI.out.1, List.take_of_length_le (by rw [HNL.out]; omega)]
      have HX := Lib.hid hh
      clear hh
      go_wp2_with fail
      go_ret2
      exact ⟨⟨t, g, b, rfl, ht, hg, hb, by rw [← HX.out]; exact HI.out.2.1⟩, HI.out.2.2⟩
end Go.Proofs.YtkmpdobojgiegaaGreatDoor
