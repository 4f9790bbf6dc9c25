/-
  digit.Read: the number that a text tells in decimal.
-/
import Derived.Test.YtkmpdobojgiegaaGreatDoorQGround1
import Derived.ScopeJumps
import Derived.WalkMore
namespace Go.Proofs.YtkmpdobojgiegaaGreatDoor
open Go.RowKit

def digB (c : UInt8) : Bool := decide (48 ≤ c.toNat) && decide (c.toNat ≤ 57)
theorem digB_iff {c : UInt8} : digB c = true ↔ 48 ≤ c.toNat ∧ c.toNat ≤ 57 := by unfold digB; simp
theorem decN_all (n : Nat) : (decN n).all digB = true := List.all_eq_true.2 fun c hc => digB_iff.2 (decN_dig n c hc)
theorem decN_head : ∀ (n : Nat), 1 ≤ n → (decN n)[0]? ≠ some 48 := by
  intro n
  induction n using Nat.strongRecOn with
  | ind n ih =>
    intro hn
    by_cases h : n < 10
    · rw [decN_small h]
      simp only [List.getElem?_cons_zero, ne_eq, Option.some.injEq]
      intro e
      have := congrArg UInt8.toNat e
      rw [digc_nat h] at this
      have h48 : (48 : UInt8).toNat = 48 := rfl
      omega
    · rw [decN_big (by omega), List.getElem?_append_left (decN_pos _)]
      exact ih (n / 10) (by omega) (by omega)
theorem valI_all : ∀ (k : Nat) (l : List UInt8), l.length = k → l.all digB = true → 0 ≤ valI l
  | 0, l, h, _ => by obtain rfl := List.eq_nil_of_length_eq_zero h; exact Int.le_refl _
  | k + 1, l, h, ha => by
    obtain ⟨m, c, rfl⟩ : ∃ m c, l = m ++ [c] := ⟨l.dropLast, l.getLast (by intro e; rw [e] at h; cases h), (List.dropLast_concat_getLast _).symm⟩
    rw [List.all_append, Bool.and_eq_true] at ha
    have ih := valI_all k m (by simpa using h) ha.1
    have hc := digB_iff.1 (by simpa using ha.2)
    rw [valI_snoc]
    omega
/-- digits, without a nought ahead, are those of the number that they tell -/
theorem dec_val : ∀ (k : Nat) (l : List UInt8), l.length = k + 1 → l.all digB = true → (k = 0 ∨ l[0]? ≠ some 48) → decN (valI l).toNat = l ∧ (l[0]? ≠ some 48 → 1 ≤ valI l)
  | 0, l, h, ha, _ => by
    obtain ⟨c, rfl⟩ := List.length_eq_one_iff.1 h
    have hc := digB_iff.1 (by simpa using ha)
    have e : valI [c] = (c.toNat : Int) - 48 := by simp [valI]
    have hn : (valI [c]).toNat < 10 := by rw [e]; omega
    refine ⟨?_, fun h48 => ?_⟩
    · rw [decN_small hn]
      congr 1
      apply UInt8.toNat_inj.1
      rw [digc_nat hn, e]
      omega
    · rw [e]
      have : c.toNat ≠ 48 := fun e2 => h48 (by simp; exact UInt8.toNat_inj.1 e2)
      omega
  | k + 1, l, h, ha, h0 => by
    obtain ⟨m, c, rfl⟩ : ∃ m c, l = m ++ [c] := ⟨l.dropLast, l.getLast (by intro e; rw [e] at h; cases h), (List.dropLast_concat_getLast _).symm⟩
    have hm : m.length = k + 1 := by simpa using h
    have h48 : m[0]? ≠ some 48 := by
      rcases h0 with h0 | h0
      · omega
      · rwa [List.getElem?_append_left (by omega)] at h0
    rw [List.all_append, Bool.and_eq_true] at ha
    have hc := digB_iff.1 (by simpa using ha.2)
    obtain ⟨i1, i2⟩ := dec_val k m hm ha.1 (.inr h48)
    have hv := i2 h48
    have e := valI_snoc m c
    have e10 : (valI (m ++ [c])).toNat = 10 * (valI m).toNat + (c.toNat - 48) := by rw [e]; omega
    refine ⟨?_, fun _ => by rw [e]; omega⟩
    rw [e10, decN_big (by omega), show (10 * (valI m).toNat + (c.toNat - 48)) / 10 = (valI m).toNat by omega, show (10 * (valI m).toNat + (c.toNat - 48)) % 10 = c.toNat - 48 by omega, i1]
    congr 2
    apply UInt8.toNat_inj.1
    rw [digc_nat (by omega)]
    omega
/-! what digit.Read tells, by its tests -/
theorem tickV_bad {l : List UInt8} (h : tickB l = false) : tickV l = .tuple #[.int .i64 0, .int .i64 3] := by unfold tickV; rw [if_neg (by rw [h]; simp)]
theorem tick_no {l : List UInt8} (h : ∀ v : Nat, v ≤ 1099511627776 → decN v ≠ l) : tickB l = false := by
  unfold tickB
  by_cases h0 : 0 ≤ valI (l.take 14)
  · by_cases h1 : valI (l.take 14) ≤ 1099511627776
    · have := h (valI (l.take 14)).toNat (by omega)
      rw [decide_eq_false (p := dec (valI (l.take 14)) = l) (by rw [dec_pos h0]; exact this)]
      simp
    · rw [decide_eq_false h1]; simp
  · rw [decide_eq_false h0]; simp
theorem decN_13 {v : Nat} (h : v ≤ 1099511627776) : (decN v).length ≤ 13 := decN_len v 12 (by have e : 10 ^ (12 + 1) = 10000000000000 := by decide
                                                                                              omega)
theorem tick_nil {l : List UInt8} (h : l.length = 0) : tickB l = false := tick_no fun v _ e => by have := decN_pos v; rw [e] at this; omega
theorem tick_long {l : List UInt8} (h : 13 < l.length) : tickB l = false := tick_no fun v hv e => by have := decN_13 hv; rw [e] at this; omega
theorem tick_nought {l : List UInt8} (h : l[0]? = some 48) (h1 : 1 < l.length) : tickB l = false := tick_no fun v hv e => by
  rcases Nat.eq_zero_or_pos v with h0 | h0
  · rw [h0, decN_small (by omega)] at e
    rw [← e] at h1
    simp at h1
  · exact decN_head v h0 (by rw [e]; exact h)
theorem tick_odd {l : List UInt8} {i : Nat} {c : UInt8} (h : l[i]? = some c) (hc : digB c = false) : tickB l = false := tick_no fun v hv e => by
  have := List.all_eq_true.1 (decN_all v) c (by rw [e]; exact List.mem_of_getElem? h)
  rw [hc] at this
  cases this
theorem tick_big {l : List UInt8} (hl : l.length ≤ 13) (h : 1099511627776 < valI l) : tickB l = false := by
  unfold tickB
  rw [List.take_of_length_le (by omega), decide_eq_false (p := valI l ≤ 1099511627776) (by omega)]
  simp
theorem tick_good {l : List UInt8} {k : Nat} (hk : l.length = k + 1) (hl : l.length ≤ 13) (ha : l.all digB = true) (h0 : k = 0 ∨ l[0]? ≠ some 48) (h : valI l ≤ 1099511627776) : tickV l = .tuple #[.int .i64 (valI l), .int .i64 0] := by
  have hp := valI_all l.length l rfl ha
  have hd := (dec_val k l hk ha h0).1
  have ht : tickB l = true := by
    unfold tickB
    rw [List.take_of_length_le (by omega), decide_eq_true hp, decide_eq_true h, decide_eq_true (by rw [dec_pos hp]; exact hd)]
    rfl
  unfold tickV
  rw [if_pos ht, List.take_of_length_le (by omega)]
def ReadJ (w : World) (s : ByteArray) (l : List UInt8) (a : Act) (w' : World) : Prop :=
  ∃ (i : Nat) (h : Int) (u1 u2 u3 u6 u7 u8 u9 u10 u11 u12 u13 u14 u15 u16 u17 u18 u19 u20 u21 u22 u23 u24 u25 u26 u27 u28 u29 u30 u31 u32 u33 u34 u35 u36 u37 u38 u39 u40 u41 u42 u43 u44 u45 u46 u47 u48 u49 : Value), a = ⟨#[.string s, u1, u2, u3, .int .i64 h, .int .i64 (i : Nat), u6, u7, u8, u9, u10, u11, u12, u13, u14, u15, u16, u17, u18, u19, u20, u21, u22, u23, u24, u25, u26, u27, u28, u29, u30, u31, u32, u33, u34, u35, u36, u37, u38, u39, u40, u41, u42, u43, u44, u45, u46, u47, u48, u49], []⟩ ∧ w = w' ∧ i < s.size ∧ 0 ≤ h ∧ h ≤ 2300000000000000 ∧ h = valI (l.take i) ∧ (l.take i).all digB = true
def ReadM (s : ByteArray) (a : Act) (_w : World) : Nat := s.size - (intOf (a.tmps.getD 5 undef)).toNat
set_option maxRecDepth 100000 in
set_option maxHeartbeats 2000000 in
theorem dread_any (w : World) (s : ByteArray) (hs : s.size ≤ 4611686018427387904) : Calls Tryz.prog 217 #[.string s] w fun e w' => e = .returned (tickV s.data.toList) ∧ w' = w := by
  have hlen : s.data.toList.length = s.size := by simp
  obtain ⟨l, hl⟩ : ∃ l, l = s.data.toList := ⟨_, rfl⟩
  rw [← hl] at hlen ⊢
  have hget : ∀ (k : Nat) c, l[k]? = some c → ∀ h, s[k]'h = c := by
    intro k c hc h
    rw [hl] at hc
    rw [← (List.getElem?_eq_some_iff.1 hc).2]; rfl
  obtain ⟨V, hV⟩ : ∃ V, V = tickV l := ⟨_, rfl⟩
  rw [← hV]
  have HV := Lib.hid hV
  have HL := Lib.hid hl
  have HN := Lib.hid hlen
  have HG := Lib.hid hget
  clear hV hl hlen hget
  have hbad : tickB l = false → V = .tuple #[.int .i64 0, .int .i64 3] := fun h => by rw [HV.out]; exact tickV_bad h
  have HB := Lib.hid hbad
  clear hbad
  by_cases h0 : s.size = 0
  · obtain rfl : s = ⟨#[]⟩ := by apply ba_ext; exact List.eq_nil_of_length_eq_zero (by simpa using h0)
    have HV2 := Lib.hid (HB.out (tick_nil (by rw [HN.out]; exact h0)))
    clear h0
    go_enter Tryz.func217, Tryz.ntmps217
    go_wp2_with fail
    (try go_step3)
    go_wp2_with fail
    (try rw [Exit.noGoto_ret])
    go_ret2
    exact ⟨by rw [HV2.out]; rfl, rfl⟩
  · have hsne : s.toList.isEmpty = false := by
      rw [ByteArray.toList_eq, ← HL.out]
      cases hq : l with
      | nil => rw [hq] at HN; exact absurd HN.out.symm h0
      | cons a t => rfl
    by_cases h13 : 13 < s.size
    · have HV2 := Lib.hid (HB.out (tick_long (by rw [HN.out]; exact h13)))
      have h13i : (13 : Int) < s.size := by omega
      clear h0 h13
      go_enter Tryz.func217, Tryz.ntmps217
      go_wp2_with fail
      (try go_step3)
      go_wp2_with fail
      (try rw [Exit.noGoto_ret])
      go_ret2
      exact ⟨by rw [HV2.out]; rfl, rfl⟩
    · have h13i : ¬ (13 : Int) < s.size := by omega
      obtain ⟨c, hc⟩ : ∃ c, l[0]? = some c := ⟨_, List.getElem?_eq_getElem (by rw [HN.out]; omega)⟩
      have hsc := HG.out 0 c hc
      have HC := Lib.hid hc
      clear hc
      by_cases hz : c = 48 ∧ 1 < s.size
      · obtain ⟨rfl, hz⟩ := hz
        have HV2 := Lib.hid (HB.out (tick_nought HC.out (by rw [HN.out]; exact hz)))
        have hzi : (1 : Int) < s.size := by omega
        clear h0 h13 hz
        go_enter Tryz.func217, Tryz.ntmps217
        go_wp2_with fail
        (try go_step3)
        go_wp2_with fail
        (try rw [Exit.noGoto_ret])
        go_ret2
        exact ⟨by rw [HV2.out]; rfl, rfl⟩
      · have hzz : ((c.toNat : Int) == 48) = false ∨ (c = 48 ∧ ¬ (1 : Int) < s.size) := by
          by_cases h48 : c = 48
          · exact .inr ⟨h48, by have : ¬ 1 < s.size := fun hh => hz ⟨h48, hh⟩; omega⟩
          · left; rw [beq_eq_false_iff_ne]; intro e; exact h48 (UInt8.toNat_inj.1 (by show c.toNat = 48; omega))
        have hk0 : s.size - 1 = 0 ∨ l[0]? ≠ some 48 := by
          by_cases h48 : c = 48
          · left; have : ¬ 1 < s.size := fun hh => hz ⟨h48, hh⟩; omega
          · right; rw [HC.out]; exact fun e => h48 (Option.some.inj e)
        have HK0 := Lib.hid hk0
        have h13n : s.size ≤ 13 := by omega
        have hs1 : 1 ≤ s.size := by omega
        clear h0 h13 hz hk0
        rcases hzz with hzz | ⟨rfl, hzz⟩
        all_goals
          go_enter Tryz.func217, Tryz.ntmps217
          go_wp2_with fail
          refine wp_scope_both 0 (ReadJ w s l) (ReadM s) rfl ?pass ?first
          case pass =>
            rintro a w1 ⟨i, h, u1, u2, u3, u6, u7, u8, u9, u10, u11, u12, u13, u14, u15, u16, u17, u18, u19, u20, u21, u22, u23, u24, u25, u26, u27, u28, u29, u30, u31, u32, u33, u34, u35, u36, u37, u38, u39, u40, u41, u42, u43, u44, u45, u46, u47, u48, u49, rfl, rfl, hi, hh0, hh1, hhv, hall⟩
            have HHV := Lib.hid hhv
            have HAL := Lib.hid hall
            obtain ⟨d, hd⟩ : ∃ d, l[i]? = some d := ⟨_, List.getElem?_eq_getElem (by rw [HN.out]; exact hi)⟩
            have hsd := HG.out i d hd
            have HD := Lib.hid hd
            have hdl := d.toNat_lt
            have hdl2 : (d.toNat : Int) ≤ 255 := by omega
            clear hhv hall hd hsc hdl
            by_cases hlo : (d.toNat : Int) < 48
            · have HV2 := Lib.hid (HB.out (tick_odd HD.out (by unfold digB; rw [decide_eq_false (by omega)]; rfl)))
              go_wp2_with fail
              simp only [Exit.jump]
              go_ret2
              exact ⟨by rw [HV2.out]; rfl, rfl⟩
            · by_cases hhi : (57 : Int) < d.toNat
              · have HV2 := Lib.hid (HB.out (tick_odd HD.out (by unfold digB; rw [decide_eq_false (p := d.toNat ≤ 57) (by omega)]; simp)))
                go_wp2_with fail
                simp only [Exit.jump]
                go_ret2
                exact ⟨by rw [HV2.out]; rfl, rfl⟩
              · have hst := valI_take HD.out
                rw [← HHV.out] at hst
                have hbb := valI_le (l := l.take (i + 1)) (by rw [List.length_take]; omega)
                rw [hst] at hbb
                have hal2 : (l.take (i + 1)).all digB = true := by
                  rw [List.take_add_one, HD.out, List.all_append, HAL.out]
                  simp only [Option.toList_some, List.all_cons, List.all_nil, Bool.and_true, Bool.true_and]
                  exact digB_iff.2 ⟨by omega, by omega⟩
                have hu8 : IntKind.u8.wrap ((d.toNat : Int) - 48) = (d.toNat : Int) - 48 := by
                  rw [IntKind.wrap_u8]; omega
                have HST := Lib.hid hst
                have HAL2 := Lib.hid hal2
                obtain ⟨hb1, hb2⟩ := hbb
                clear hst hal2
                by_cases hmore : i + 1 < s.size
                · have hmi : (i : Int) + 1 < s.size := by omega
                  go_wp2_with fail
                  go_step3
                  refine And.intro rfl (And.intro ⟨i + 1, 10 * h + ((d.toNat : Int) - 48), _, _, _, _, _, _, _, _, _, _, _, _, _, _, _, _, _, _, _, _, _, _, _, _, _, _, _, _, _, _, _, _, _, _, _, _, _, _, _, _, _, _, _, _, _, _, _, rfl, rfl, by omega, by omega, by omega, by rw [HST.out]; omega, HAL2.out⟩ ?_)
                  simp [ReadM, intOf]
                  omega
                · have hmi : ¬ (i : Int) + 1 < s.size := by omega
                  have hfull : l.take (i + 1) = l := List.take_of_length_le (by rw [HN.out]; omega)
                  have hst2 := HST.out
                  rw [hfull] at hst2
                  have hal3 := HAL2.out
                  rw [hfull] at hal3
                  have HST2 := Lib.hid hst2
                  have HAL3 := Lib.hid hal3
                  clear hst2 hal3 hfull
                  by_cases hbig : 1099511627776 < 10 * h + (d.toNat : Int) - 48
                  · have HV2 := Lib.hid (HB.out (tick_big (by rw [HN.out]; omega) (by rw [HST2.out]; omega)))
                    have hbig2 : 1099511627776 < 10 * h + ((d.toNat : Int) - 48) := by omega
                    go_wp2_with fail
                    simp only [Exit.jump]
                    go_ret2
                    exact ⟨by rw [HV2.out]; rfl, rfl⟩
                  · have hV2 : V = .tuple #[.int .i64 (10 * h + ((d.toNat : Int) - 48)), .int .i64 0] := by
                      rw [HV.out, tick_good (k := s.size - 1) (by rw [HN.out]; omega) (by rw [HN.out]; omega) HAL3.out HK0.out (by rw [HST2.out]; omega), HST2.out]
                      rw [show 10 * h + ((d.toNat : Int) - 48) = 10 * h + (d.toNat : Int) - 48 by omega]
                    have HV2 := Lib.hid hV2
                    have hbig2 : ¬ 1099511627776 < 10 * h + ((d.toNat : Int) - 48) := by omega
                    clear hV2
                    go_wp2_with fail
                    simp only [Exit.jump]
                    go_ret2
                    exact ⟨by rw [HV2.out]; rfl, rfl⟩
          case first =>
            intro hpass
            go_wp2_with fail
            refine wp_label ?_
            rename_i hk
            exact hk _ _ (hpass.out _ _ ⟨0, 0, _, _, _, _, _, _, _, _, _, _, _, _, _, _, _, _, _, _, _, _, _, _, _, _, _, _, _, _, _, _, _, _, _, _, _, _, _, _, _, _, _, _, _, _, _, _, _, rfl, rfl, by omega, by omega, by omega, rfl, rfl⟩)
end Go.Proofs.YtkmpdobojgiegaaGreatDoor
