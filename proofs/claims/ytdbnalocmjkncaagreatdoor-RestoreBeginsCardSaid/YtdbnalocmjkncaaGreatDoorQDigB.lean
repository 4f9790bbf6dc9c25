/-
  The number that a text tells in decimal: the document's Read, and digit.Read.
-/
import Derived.Test.YtdbnalocmjkncaaGreatDoorQGround2
namespace Go.Proofs.YtdbnalocmjkncaaGreatDoor
open Go.RowKit

def valI (l : List UInt8) : Int := l.foldl (fun n c => 10 * n + (c.toNat : Int) - 48) 0
theorem valI_snoc (l : List UInt8) (c : UInt8) : valI (l ++ [c]) = 10 * valI l + (c.toNat : Int) - 48 := by simp [valI]
theorem valI_take {l : List UInt8} {i : Nat} {c : UInt8} (h : l[i]? = some c) : valI (l.take (i + 1)) = 10 * valI (l.take i) + (c.toNat : Int) - 48 := by
  rw [List.take_add_one, h, Option.toList_some, valI_snoc]
theorem valI_bound : ∀ (n : Nat) (l : List UInt8), l.length = n → -(23 * (10 ^ n - 1) : Int) ≤ valI l ∧ valI l ≤ 23 * (10 ^ n - 1)
  | 0, l, h => by
    obtain rfl := List.eq_nil_of_length_eq_zero h
    simp [valI]
  | n + 1, l, h => by
    obtain ⟨m, c, rfl⟩ : ∃ m c, l = m ++ [c] := ⟨l.dropLast, l.getLast (by intro e; rw [e] at h; cases h), (List.dropLast_concat_getLast _).symm⟩
    have hm : m.length = n := by simpa using h
    have ih := valI_bound n m hm
    have hc := c.toNat_lt
    rw [valI_snoc]
    have e : (10 : Int) ^ (n + 1) = 10 * 10 ^ n := by rw [Int.pow_succ]; omega
    rw [e]
    omega
theorem valI_le {l : List UInt8} (h : l.length ≤ 14) : -2300000000000000 ≤ valI l ∧ valI l ≤ 2300000000000000 := by
  have hb := valI_bound l.length l rfl
  have hp : (10 : Int) ^ l.length ≤ 10 ^ 14 := by
    have h2 := Nat.pow_le_pow_right (show 0 < 10 by omega) h
    have e : ((10 ^ l.length : Nat) : Int) = (10 : Int) ^ l.length := by simp
    have e2 : ((10 ^ 14 : Nat) : Int) = (10 : Int) ^ 14 := by simp
    rw [← e, ← e2]
    exact_mod_cast h2
  have e3 : (10 : Int) ^ 14 = 100000000000000 := by decide
  omega
/-- does a text tell a tick, and as it is put -/
def tickB (l : List UInt8) : Bool := decide (0 ≤ valI (l.take 14)) && decide (valI (l.take 14) ≤ 1099511627776) && decide (dec (valI (l.take 14)) = l)
def tickV (l : List UInt8) : Value := if tickB l then .tuple #[.int .i64 (valI (l.take 14)), .int .i64 0] else .tuple #[.int .i64 0, .int .i64 3]
theorem valI_dig : ∀ (n : Nat), valI (decN n) = n := by
  intro n
  induction n using Nat.strongRecOn with
  | ind n ih =>
    by_cases h : n < 10
    · rw [decN_small h]
      simp only [valI, List.foldl_cons, List.foldl_nil, digc_nat h]
      omega
    · rw [decN_big (by omega), valI_snoc, ih (n / 10) (by omega), digc_nat (show n % 10 < 10 by omega)]
      omega
/-- a tick that is put is read -/
theorem tick_dec {n : Nat} (h : n ≤ 1099511627776) : tickB (dec n) = true ∧ valI ((dec n).take 14) = n := by
  have hd : dec (n : Int) = decN n := by rw [dec_pos (by omega), Int.toNat_natCast]
  have hl := decN_len n 12 (by have e : 10 ^ (12 + 1) = 10000000000000 := by decide
                               omega)
  have ht : (decN n).take 14 = decN n := List.take_of_length_le (by omega)
  unfold tickB
  rw [hd, ht, valI_dig, hd]
  refine ⟨?_, rfl⟩
  rw [decide_eq_true (by omega : (0 : Int) ≤ n), decide_eq_true (by omega : (n : Int) ≤ 1099511627776), decide_eq_true rfl]
  rfl
theorem tickV_dec {n : Nat} (h : n ≤ 1099511627776) : tickV (dec n) = .tuple #[.int .i64 n, .int .i64 0] := by
  unfold tickV
  rw [if_pos (tick_dec h).1, (tick_dec h).2]
set_option maxRecDepth 100000 in
set_option maxHeartbeats 1000000 in
theorem r2read_any (w : World) (s : ByteArray) (hs : s.size ≤ 4611686018427387904) : Calls Tryz.prog 186 #[.string s] w fun e w' => e = .returned (tickV s.data.toList) ∧ Keeps (fun _ => False) w w' := by
  have hlen : s.data.toList.length = s.size := by simp
  obtain ⟨l, hl⟩ : ∃ l, l = s.data.toList := ⟨_, rfl⟩
  rw [← hl] at hlen ⊢
  have hget : ∀ (k : Nat) c, l[k]? = some c → ∀ h, s[k]'h = c := by
    intro k c hc h
    rw [hl] at hc
    rw [← (List.getElem?_eq_some_iff.1 hc).2]; rfl
  obtain ⟨V, hV⟩ : ∃ V, V = tickV l := ⟨_, rfl⟩
  rw [← hV]
  have HV := Lib.hid hV
  have HL := Lib.hid hl
  have HN := Lib.hid hlen
  have HG := Lib.hid hget
  clear hV hl hlen hget
  go_enter Tryz.func186, Tryz.ntmps186
  go_wp2_with fail
  go_loopw [4, 5] (fun u4 u5 wr => w = wr ∧ ∃ (i : Nat) (h : Int), u5 = .int .i64 i ∧ u4 = .int .i64 h ∧ i ≤ s.size ∧ i ≤ 14 ∧ -2300000000000000 ≤ h ∧ h ≤ 2300000000000000 ∧ Hid (h = valI (l.take i))) (fun _ u5 _ => s.size - (intOf u5).toNat)
  case atStart => exact ⟨rfl, 0, 0, rfl, rfl, Nat.zero_le _, by omega, by omega, by omega, Lib.hid rfl⟩
  case round =>
    obtain ⟨rfl, i, h, rfl, rfl, hi, hi14, hb1, hb2, HH⟩ := hrel
    by_cases hlt : i < s.size ∧ i < 14
    · obtain ⟨hlt, hlt2⟩ := hlt
      obtain ⟨c, hc⟩ : ∃ c, l[i]? = some c := ⟨_, List.getElem?_eq_getElem (by rw [HN.out]; exact hlt)⟩
      have hsc := HG.out i c hc
      have hst := valI_take hc
      have hbb := valI_le (l := l.take (i + 1)) (by rw [List.length_take]; omega)
      rw [← HH.out] at hst
      have hcl := c.toNat_lt
      have hcl2 : (c.toNat : Int) ≤ 255 := by omega
      have HST := Lib.hid hst
      have HBB := Lib.hid hbb
      clear hc hst hbb hcl
      go_wp2_with fail
      refine ⟨⟨trivial, i + 1, 10 * h + (c.toNat : Int) - 48, by go_num, by first | rfl | go_num, by omega, by omega, ?_, ?_, Lib.hid HST.out.symm⟩, by simp [intOf]; omega⟩
      · rw [← HST.out]; exact HBB.out.1
      · rw [← HST.out]; exact HBB.out.2
    · have ht : l.take i = l.take 14 := by
        by_cases h14 : i = 14
        · rw [h14]
        · rw [List.take_of_length_le (by rw [HN.out]; omega), List.take_of_length_le (by rw [HN.out]; omega)]
      have hh : h = valI (l.take 14) := by rw [HH.out, ht]
      have hV := HV.out
      unfold tickV tickB at hV
      rw [← hh] at hV
      have HV2 := Lib.hid hV
      clear ht hh hV
      have hoff : ¬ (i : Int) < s.size ∨ ((i : Int) < s.size ∧ ¬ (i : Int) < 14) := by omega
      clear hlt
      rcases hoff with ho | ⟨ho, ho2⟩
      all_goals
        by_cases h0 : h < 0
        · have HX := Lib.hid h0
          go_wp2_with fail
          go_ret2
          refine ⟨?_, Keeps.refl _ _⟩
          rw [HV2.out, if_neg (by simp; omega)]
          rfl
        · by_cases h1 : 1099511627776 < h
          · go_wp2_with fail
            go_ret2
            refine ⟨?_, Keeps.refl _ _⟩
            rw [HV2.out, if_neg (by simp; omega)]
            rfl
          · have HP := Lib.hid (fun W => rput_any h.natAbs W h (Nat.le_refl _) (by omega) (by omega))
            obtain ⟨sd, hsd⟩ : ∃ sd, sd = str (dec h) := ⟨_, rfl⟩
            rw [← hsd] at HP
            have hq : sd = s ↔ dec h = l := by
              rw [hsd, HL.out]
              constructor
              · intro e; rw [← e, str_list]
              · intro e; rw [e, str_of]
            have HQ := Lib.hid hq
            clear hq hsd
            by_cases he : sd = s
            · have hbq : (sd.toList == s.toList) = true := by rw [he]; exact beq_self_eq_true _
              have hde := HQ.out.1 he
              have HDE := Lib.hid hde
              have HB0 := Lib.hid h0
              have HB1 := Lib.hid h1
              clear he hde
              go_wp2_with fail
              refine (HP.out _).mono ?_
              rintro e w2 ⟨rfl, k2⟩
              have HK := Lib.hid k2
              clear k2
              go_wp2_with fail
              go_ret2
              refine ⟨?_, HK.out⟩
              rw [HV2.out, if_pos (by rw [HDE.out]; simp; have := HB0.out; have := HB1.out; omega)]
              rfl
            · have hbq : (sd.toList == s.toList) = false := by
                rw [beq_eq_false_iff_ne, ByteArray.toList_eq, ByteArray.toList_eq]
                exact fun e => he (ba_ext e)
              have hde := fun e => he (HQ.out.2 e)
              have HDE := Lib.hid hde
              clear he hde
              go_wp2_with fail
              refine (HP.out _).mono ?_
              rintro e w2 ⟨rfl, k2⟩
              have HK := Lib.hid k2
              clear k2
              go_wp2_with fail
              go_ret2
              refine ⟨?_, HK.out⟩
              rw [HV2.out, if_neg (by rw [decide_eq_false HDE.out]; simp)]
              rfl
end Go.Proofs.YtdbnalocmjkncaaGreatDoor
