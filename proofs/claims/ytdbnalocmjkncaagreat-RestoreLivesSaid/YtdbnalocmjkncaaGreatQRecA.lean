/-
  record: which items may be, and an item as bytes.
-/
import Derived.Test.YtdbnalocmjkncaaGreatQSumB
namespace Go.Proofs.YtdbnalocmjkncaaGreat
open Go.RowKit

def itmV (x : Itm) : Value := .agg #[.int .i64 x.kind, .int .i64 x.at_, .string x.body]
set_option maxRecDepth 100000 in
theorem rcheck_any (w : World) (x : Itm) : Calls Tryz.prog 97 #[itmV x] w fun e w' => e = .returned (.int .i64 (checkI 1 2 5 x)) ∧ Keeps (fun _ => False) w w' := by
  obtain ⟨kind, at_, body⟩ := x
  unfold itmV checkI
  simp only
  have HK := Lib.hid (fun (o : Obj) => (Keeps.refl (fun _ => False) w).alloc o)
  obtain ⟨r, hr⟩ : ∃ r : Int, r = (if kind < 1 ∨ 15 < kind then 1 else if at_ < 0 ∨ 1099511627776 < at_ then 2 else if 4096 < body.size then 5 else 0 : Int) := ⟨_, rfl⟩
  rw [← hr]
  by_cases h1 : kind < 1
  · rw [if_pos (.inl h1)] at hr
    have HR := Lib.hid hr
    clear hr
    go_enter Tryz.func97, Tryz.ntmps97
    go_wp2_with fail
    go_ret
    exact ⟨by rw [HR.out]; rfl, HK.out _⟩
  by_cases h2 : 15 < kind
  · rw [if_pos (.inr h2)] at hr
    have HR := Lib.hid hr
    clear hr
    go_enter Tryz.func97, Tryz.ntmps97
    go_wp2_with fail
    go_ret
    exact ⟨by rw [HR.out]; rfl, HK.out _⟩
  rw [if_neg (by omega)] at hr
  by_cases h3 : at_ < 0 ∨ 1099511627776 < at_
  · rw [if_pos h3] at hr
    have HR := Lib.hid hr
    have HT := Lib.hid (fun W => isTick_any W at_ false (by
      symm
      rcases h3 with h | h
      · rw [decide_eq_false (by omega), Bool.false_and]
      · rw [decide_eq_false (by omega : ¬ at_ ≤ 1099511627776), Bool.and_false]))
    clear hr h3
    go_enter Tryz.func97, Tryz.ntmps97
    go_wp2_with fail
    refine (HT.out _).mono ?_
    rintro e w2 ⟨rfl, hw⟩
    have hk : Keeps (fun _ => False) w w2 := by rw [hw]; exact HK.out _
    have HK2 := Lib.hid hk
    clear hw hk
    go_wp2_with fail
    go_ret
    exact ⟨by rw [HR.out]; rfl, HK2.out⟩
  rw [if_neg h3] at hr
  have HT := Lib.hid (fun W => isTick_any W at_ true (by
    symm
    rw [decide_eq_true (by omega), decide_eq_true (by omega)]; rfl))
  have HB := Lib.hid (Blk.new w 42 #[.int .i64 kind, .int .i64 at_, .string body])
  clear h3
  by_cases h4 : 4096 < body.size
  · rw [if_pos h4] at hr
    have HR := Lib.hid hr
    clear hr
    go_enter Tryz.func97, Tryz.ntmps97
    go_wp2_with fail
    refine (HT.out _).mono ?_
    rintro e w2 ⟨rfl, hw⟩
    have hk : Keeps (fun _ => False) w w2 := by rw [hw]; exact HK.out _
    have hb : Blk w2 w.heap.size 42 #[.int .i64 kind, .int .i64 at_, .string body] := by rw [hw]; exact HB.out
    obtain ⟨c0, c1, c2⟩ := hb.cells3
    have HK2 := Lib.hid hk
    clear hw hk hb
    go_wp2_with fail
    go_ret
    exact ⟨by rw [HR.out]; rfl, HK2.out⟩
  · rw [if_neg h4] at hr
    have HR := Lib.hid hr
    clear hr
    go_enter Tryz.func97, Tryz.ntmps97
    go_wp2_with fail
    refine (HT.out _).mono ?_
    rintro e w2 ⟨rfl, hw⟩
    have hk : Keeps (fun _ => False) w w2 := by rw [hw]; exact HK.out _
    have hb : Blk w2 w.heap.size 42 #[.int .i64 kind, .int .i64 at_, .string body] := by rw [hw]; exact HB.out
    obtain ⟨c0, c1, c2⟩ := hb.cells3
    have HK2 := Lib.hid hk
    clear hw hk hb
    go_wp2_with fail
    go_ret
    exact ⟨by rw [HR.out]; rfl, HK2.out⟩
theorem check_ok {e1 e2 e3 : Int} {x : Itm} (h : x.ok) : checkI e1 e2 e3 x = 0 := by
  obtain ⟨⟨a, b⟩, ⟨c, d⟩, e⟩ := h
  unfold checkI
  rw [if_neg (by omega), if_neg (by omega), if_neg (by omega)]
theorem check_no {e1 e2 e3 : Int} (h1 : e1 ≠ 0) (h2 : e2 ≠ 0) (h3 : e3 ≠ 0) {x : Itm} (h : ¬ x.ok) : checkI e1 e2 e3 x ≠ 0 := by
  unfold checkI
  split
  · exact h1
  · split
    · exact h2
    · split
      · exact h3
      · exfalso
        exact h ⟨by omega, by omega, by omega⟩

theorem ownq_cap {w : World} {e : TypeId} {a : Option Addr} {n c : Nat} {vs : List Value} (h : OwnQ w e (.slice a n c) vs) : n ≤ c ∧ n = vs.length := by
  rcases h with ⟨h1, b, hv⟩ | ⟨g, off, cap, cur, hv, _, h1, _⟩
  · injection hv with e1 e2 e3
    subst h1
    exact ⟨by omega, by simpa using e2⟩
  · injection hv with e1 e2 e3
    exact ⟨by omega, e2⟩
set_option maxRecDepth 100000 in
theorem rput_no (w : World) (x : Itm) (h : ¬ x.ok) : Calls Tryz.prog 66 #[itmV x] w fun e w' => (∃ c, c ≠ 0 ∧ e = .returned (.tuple #[.string ⟨#[]⟩, .int .i64 c])) ∧ Keeps (fun _ => False) w w' := by
  have hc := check_no (e1 := 1) (e2 := 2) (e3 := 5) (by omega) (by omega) (by omega) h
  have HC := Lib.hid (fun W => rcheck_any W x)
  obtain ⟨c, hcc⟩ : ∃ c, c = checkI 1 2 5 x := ⟨_, rfl⟩
  rw [← hcc] at hc HC
  unfold itmV at *
  have hb : (c != 0) = true := by rw [bne_iff_ne]; exact hc
  have HCC := Lib.hid hc
  clear hcc h hc
  go_enter Tryz.func66, Tryz.ntmps66
  go_wp2_with fail
  refine (HC.out _).mono ?_
  rintro e w2 ⟨rfl, k2⟩
  have HK := Lib.hid (Keeps.trans (a := w) (S := fun _ => False) (by (repeat (first | (with_reducible assumption) | (with_reducible exact Keeps.refl _ _) | refine Keeps.drew ?_ | refine Keeps.drewN ?_ _ | refine Keeps.setCell ?_ (by simp) _ | refine Keeps.setRow ?_ (by simp) _ | refine Keeps.alloc ?_ _))) k2)
  clear k2
  go_wp2_with fail
  go_ret2
  exact ⟨⟨c, HCC.out, rfl⟩, HK.out⟩
theorem cut_str {w : World} {a : Option Addr} {m k0 t0 : Nat} {body : ByteArray} (h : OwnQ w 5 (.slice a m m) (u8Vs ([87, UInt8.ofNat k0] ++ beP 6 t0 ++ beP 2 body.size) ++ u8Vs body.data.toList)) :
    (convert 115 9 (.slice a m m)).run Tryz.prog w = .ok (.string (str (headP ⟨(k0 : Nat), (t0 : Nat), body⟩))) w := by
  rw [← u8Vs_app] at h
  have e : headP ⟨(k0 : Nat), (t0 : Nat), body⟩ = [87, UInt8.ofNat k0] ++ beP 6 t0 ++ beP 2 body.size ++ body.data.toList := by
    unfold headP
    simp
  rw [e]
  exact run_string_q w _ _ 5 _ _ Tryz.underlying115 Tryz.underlying5 Tryz.underlying9 h
set_option maxRecDepth 100000 in
set_option maxHeartbeats 1000000 in
theorem rput_ok (w : World) (x : Itm) (h : x.ok) : Calls Tryz.prog 66 #[itmV x] w fun e w' => e = .returned (.tuple #[.string (str (recP x)), .int .i64 0]) ∧ Keeps (fun _ => False) w w' := by
  have hc0 := check_ok (e1 := 1) (e2 := 2) (e3 := 5) h
  have HC := Lib.hid (fun W => rcheck_any W x)
  rw [hc0] at HC
  obtain ⟨⟨a, b⟩, ⟨c, d⟩, e⟩ := h
  have hx := Lib.hid (show headP x = headP x from rfl)
  obtain ⟨kind, at_, body⟩ := x
  simp only at a b c d e
  unfold itmV at *
  obtain ⟨k0, rfl⟩ := Int.eq_ofNat_of_zero_le (show 0 ≤ kind by omega)
  obtain ⟨t0, rfl⟩ := Int.eq_ofNat_of_zero_le c
  have HB := Lib.hid (Blk.new w 42 #[.int .i64 (k0 : Nat), .int .i64 (t0 : Nat), .string body])
  clear hc0 hx
  simp only at HC ⊢
  go_enter Tryz.func66, Tryz.ntmps66
  go_wp2_with fail
  refine (HC.out _).mono ?_
  rintro e w2 ⟨rfl, k2⟩
  have hb := HB.out.keeps k2 id
  have HB2 := Lib.hid hb
  have HK2 := Lib.hid (Keeps.trans (a := w) (S := fun _ => False) (by (repeat (first | (with_reducible assumption) | (with_reducible exact Keeps.refl _ _) | refine Keeps.drew ?_ | refine Keeps.drewN ?_ _ | refine Keeps.setCell ?_ (by simp) _ | refine Keeps.setRow ?_ (by simp) _ | refine Keeps.alloc ?_ _))) k2)
  obtain ⟨c0, c1, c2⟩ := hb.cells3
  clear k2 hb
  have ho3 := (HB2.out.alloc (.cells #[.int .u8 87, .int .u8 (k0 : Nat)] 5))
  obtain ⟨d0, d1, d2⟩ := ho3.cells3
  have hkb : (((UInt8.ofNat k0).toNat : Nat) : Int) = (k0 : Int) := by rw [UInt8.toNat_ofNat_of_lt' (by show k0 < 256; omega)]
  have hq3 : OwnQ (w2.alloc (.cells #[.int .u8 87, .int .u8 (k0 : Nat)] 5)) 5 (.slice (some ⟨w2.heap.size, 0, none⟩) 2 2) (u8Vs [87, UInt8.ofNat k0]) := by
    refine .inr ⟨w2.heap.size, 0, 2, _, rfl, Blk.new _ _ _, by simp [u8Vs], by simp, by unfold maxLen; omega, fun j u hj => ?_⟩
    unfold u8Vs at hj
    simp only [List.map_cons, List.map_nil, hkb] at hj
    rw [Nat.zero_add]
    simpa using hj
  have HQ3 := Lib.hid hq3
  have HO3 := Lib.hid ho3
  have hlt2 := HB2.out.lt
  clear hkb hq3 ho3
  go_wp2_with fail
  refine (number_any _ (.slice (some ⟨w2.heap.size, 0, none⟩) 2 2) [87, UInt8.ofNat k0] t0 6 HQ3.out (by omega) (by simp)).mono ?_
  rintro e w4 ⟨v4, rfl, hq4, hr4, k4⟩
  have hb4 : Blk w4 w.heap.size 42 #[.int .i64 (k0 : Nat), .int .i64 (t0 : Nat), .string body] := HO3.out.keeps k4 (fun e => by simp [rowB] at e; omega)
  have HQ4 := Lib.hid hq4
  have HB4 := Lib.hid hb4
  have hr4' : ∃ r, rowB v4 = some r ∧ w2.heap.size ≤ r := by
    rcases hr4 with h | ⟨r, h1, h2⟩
    · exact ⟨w2.heap.size, h.trans rfl, Nat.le_refl _⟩
    · exact ⟨r, h1, by simp at h2; omega⟩
  have HR4 := Lib.hid hr4'
  have HK4 := Lib.hid ((HK2.out.alloc (.cells #[.int .u8 87, .int .u8 (k0 : Nat)] 5)).and_ k4 (fun i hi e => by have := HK2.out.size; simp [rowB] at e; omega))
  clear c0 c1 c2 d0 d1 d2 hq4 hr4 hr4' k4
  obtain ⟨c0, c1, c2⟩ := hb4.cells3
  clear hb4
  go_wp2_with fail
  refine (number_any _ v4 ([87, UInt8.ofNat k0] ++ beP 6 t0) body.size 2 HQ4.out (by omega) (by rw [List.length_append, beP_len]; simp)).mono ?_
  rintro e w5 ⟨v5, rfl, hq5, hr5, k5⟩
  obtain ⟨r4, hr41, hr42⟩ := HR4.out
  have hb5 : Blk w5 w.heap.size 42 #[.int .i64 (k0 : Nat), .int .i64 (t0 : Nat), .string body] := HB4.out.keeps k5 (fun e => by rw [hr41] at e; injection e with e; omega)
  have HQ5 := Lib.hid hq5
  have hw4 := HK4.out.size
  have hr5' : ∃ r, rowB v5 = some r ∧ w.heap.size ≤ r := by
    rcases hr5 with h | ⟨r, h1, h2⟩
    · exact ⟨r4, h.trans hr41, by omega⟩
    · exact ⟨r, h1, by omega⟩
  have HR5 := Lib.hid hr5'
  have HK5 := Lib.hid (HK4.out.and_ k5 (fun i hi e => by rw [hr41] at e; injection e with e; omega))
  clear c0 c1 c2 hq5 hr5 hr5' k5 hr41 hr42
  obtain ⟨c0, c1, c2⟩ := hb5.cells3
  obtain ⟨a5, q5, hv5⟩ := HQ5.out.sl
  have hl5 : (u8Vs ([87, UInt8.ofNat k0] ++ beP 6 t0 ++ beP 2 body.size)).length = 10 := by rw [u8Vs_len, List.length_append, List.length_append, beP_len, beP_len]; rfl
  rw [hl5] at hv5
  subst hv5
  have HL5 := Lib.hid hl5
  clear hb5 hl5
  go_wp2_with ((with_reducible show wpList _ _ _ (⟨some 28, _, _, _, _, _⟩ :: _) _ _); go_must (refine wpList_append_qs rfl (.tmp 25) (.tmp 27) 115 9 rfl 5 Tryz.underlying115 Tryz.underlying9 (by kernel_rfl) (.slice a5 10 q5) (u8Vs ([87, UInt8.ofNat k0] ++ beP 6 t0 ++ beP 2 body.size)) rfl HQ5.out body rfl (by rw [HL5.out]; omega) ?_; intro v6 w6 ha; obtain ⟨hq6, hk6, hr6⟩ := ha; obtain ⟨a6, m6, q6, hv6⟩ := hq6.sl3; subst hv6; obtain ⟨hcap, hm6⟩ := ownq_cap hq6; have hcut := (hq6.cut (n := m6) (Nat.le_of_eq hm6)).1; rw [hm6, List.take_length, ← hm6] at hcut; have HCUT := Lib.hid hcut; have HM6 := Lib.hid hm6; have HK6 := Lib.hid hk6; clear hq6 hk6 hr6 hm6 hcut; have hcv := cut_str HCUT.out; obtain ⟨sx, hsx⟩ : ∃ sx, sx = str (headP ⟨(k0 : Nat), (t0 : Nat), body⟩) := ⟨_, rfl⟩; rw [← hsx] at hcv; have HSX := Lib.hid hsx; have hsz : sx.size = 10 + body.size := (by rw [hsx, str_size, headP_len]); have hsl : sx.size ≤ 4106 := (by omega); have HSZ := Lib.hid hsz; clear hsx hsz))
  refine (sof_any _ sx (by omega)).mono ?_
  have hsm := sumP_lt sx.data.toList
  obtain ⟨sm, hsm2⟩ : ∃ sm, sm = sumP sx.data.toList := ⟨_, rfl⟩
  rw [← hsm2] at hsm ⊢
  rintro e w7 ⟨rfl, hw⟩
  obtain rfl : w6 = w7 := hw.symm
  have hs4 : (str (beP 4 sm)).size = 4 := by rw [str_size, beP_len]
  have HSP := Lib.hid (sput_any w6 sm (by omega))
  have HSM := Lib.hid hsm2
  obtain ⟨s4, hs4e⟩ : ∃ s4, s4 = str (beP 4 sm) := ⟨_, rfl⟩
  rw [← hs4e] at hs4 HSP
  have hs4l : s4.size ≤ 4 := by omega
  have HS4 := Lib.hid hs4e
  clear hs4 hs4e hsm hsm2
  go_wp2_with fail
  refine HSP.out.mono ?_
  rintro e w8 ⟨rfl, k8⟩
  have HK8 := Lib.hid k8
  clear k8
  go_wp2_with fail
  go_ret2
  obtain ⟨r5, hr51, hr52⟩ := HR5.out
  refine ⟨?_, (HK5.out.and_ HK6.out (fun i hi e => by rw [hr51] at e; injection e with e; omega)).trans HK8.out⟩
  rw [HS4.out, HSM.out, HSX.out]
  rfl
end Go.Proofs.YtdbnalocmjkncaaGreat
