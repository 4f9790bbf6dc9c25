/-
  The document's answer on a tail (wheelhouseref05, wheelhouseref20, wheelhouseref23), and restore.Tail.
-/
import Derived.Test.YtkmpdobojgiegaaGreatDoorQGround1
import Derived.Test.YtkmpdobojgiegaaGreatDoorQGround3
namespace Go.Proofs.YtkmpdobojgiegaaGreatDoor
open Go.RowKit

/-- what the console told -/
def dataP (xs : List Itm) : List UInt8 := xs.flatMap fun x => if x.kind = 1 then x.body.data.toList else []
theorem dataP_snoc (xs : List Itm) (x : Itm) : dataP (xs ++ [x]) = dataP xs ++ (if x.kind = 1 then x.body.data.toList else []) := by unfold dataP; simp
theorem dataP_take {l : List Itm} {i : Nat} {x : Itm} (h : l[i]? = some x) : dataP (l.take (i + 1)) = dataP (l.take i) ++ (if x.kind = 1 then x.body.data.toList else []) := by rw [itm_take h, dataP_snoc]
set_option maxRecDepth 100000 in
theorem rmany_any (w : World) (s : ByteArray) (hs : s.size ≤ 4611686018427387904) : Calls Tryz.prog 143 #[.string s] w fun e w' => e = .returned (.int .i64 (manyT s.data.toList : Nat)) ∧ w' = w := by
  have hlen : s.data.toList.length = s.size := by simp
  obtain ⟨l, hl⟩ : ∃ l, l = s.data.toList := ⟨_, rfl⟩
  rw [← hl] at hlen ⊢
  have hget : ∀ (k : Nat) c, l[k]? = some c → ∀ h, s[k]'h = c := by
    intro k c hc h
    rw [hl] at hc
    rw [← (List.getElem?_eq_some_iff.1 hc).2]; rfl
  have HN := Lib.hid hlen
  have HG := Lib.hid hget
  clear hl hlen hget
  go_enter Tryz.func143, Tryz.ntmps143
  go_wp2_with fail
  go_loopw [3, 4] (fun u3 u4 wr => w = wr ∧ ∃ i n : Nat, u4 = .int .i64 i ∧ u3 = .int .i64 n ∧ i ≤ s.size ∧ n ≤ i ∧ Hid (n = manyT (l.take i))) (fun _ u4 _ => s.size - (intOf u4).toNat)
  case atStart => exact ⟨rfl, 0, 0, rfl, rfl, Nat.zero_le _, Nat.le_refl _, Lib.hid rfl⟩
  case round =>
    obtain ⟨rfl, i, n, rfl, rfl, hi, hni, HH⟩ := hrel
    by_cases hlt : i < s.size
    · have hst := many_take (l := l) (i := i) (by rw [HN.out]; exact hlt)
      rw [← HH.out] at hst
      have HST := Lib.hid hst
      clear hst
      rcases Nat.eq_zero_or_pos i with h0 | h0
      · subst h0
        have hst := HST.out
        rw [if_pos (.inl rfl)] at hst
        have HST2 := Lib.hid hst
        clear hst
        go_wp2_with fail
        exact ⟨⟨trivial, 1, n + 1, by go_num, by go_num, by omega, by omega, HST2.out.symm⟩, by simp [intOf]; omega⟩
      · obtain ⟨c, hc⟩ : ∃ c, l[i - 1]? = some c := ⟨_, List.getElem?_eq_getElem (by rw [HN.out]; omega)⟩
        have hsc := HG.out (i - 1) c hc
        have hi0 : ((i : Int) == 0) = false := by rw [beq_eq_false_iff_ne]; omega
        have hi1 : ((i : Int) - 1).toNat = i - 1 := by omega
        have hst := HST.out
        rw [hc] at hst
        by_cases h10 : c = 10
        · subst h10
          rw [if_pos (.inr rfl)] at hst
          have HST2 := Lib.hid hst
          clear hst hc
          go_wp2_with fail
          exact ⟨⟨trivial, i + 1, n + 1, by go_num, by go_num, by omega, by omega, HST2.out.symm⟩, by simp [intOf]; omega⟩
        · rw [if_neg (by rintro (h | h); exact absurd h (by omega); exact h10 (Option.some.inj h))] at hst
          have HST2 := Lib.hid hst
          have b10 : ((c.toNat : Int) == 10) = false := by rw [beq_eq_false_iff_ne]; intro e; exact h10 (UInt8.toNat_inj.1 (by show c.toNat = 10; omega))
          clear hst hc
          go_wp2_with fail
          exact ⟨⟨trivial, i + 1, n, by go_num, by first | rfl | go_num, by omega, by omega, HST2.out.symm⟩, by simp [intOf]; omega⟩
    · have hh : n = manyT l := by rw [HH.out, List.take_of_length_le (by rw [HN.out]; omega)]
      have HX := Lib.hid hh
      clear hh
      go_wp2_with fail
      go_ret
      exact ⟨by rw [← HX.out]; rfl, rfl⟩
set_option maxRecDepth 100000 in
theorem rfits_any (w : World) (s : ByteArray) (n b : Nat) (hs : s.size ≤ 4611686018427387904) (r : Bool) (hr : r = fitB b n s.data.toList) : Calls Tryz.prog 76 #[.string s, .int .i64 n, .int .i64 b] w fun e w' => e = .returned (.bool r) ∧ w' = w := by
  have hlen : s.data.toList.length = s.size := by simp
  have HM := Lib.hid (rmany_any w s hs)
  unfold fitB at hr
  rw [hlen] at hr
  obtain ⟨q, hq⟩ : ∃ q, q = manyT s.data.toList := ⟨_, rfl⟩
  rw [← hq] at hr HM
  clear hlen hq
  by_cases h1 : s.size ≤ b
  · have h1i : (s.size : Int) ≤ b := by omega
    by_cases h2 : q ≤ n
    · have h2i : (q : Int) ≤ n := by omega
      have hd2 : decide (q ≤ n) = true := decide_eq_true h2
      have hrt : r = true := by rw [hr, decide_eq_true h1, decide_eq_true h2]; rfl
      subst hrt
      clear h1 h2 hr
      go_enter Tryz.func76, Tryz.ntmps76
      go_wp2_with (go_at_call 143; refine HM.out.mono ?_; rintro e w2 ⟨rfl, hw⟩; obtain rfl : w = w2 := hw.symm)
      go_ret
      exact ⟨rfl, rfl⟩
    · have h2i : ¬ (q : Int) ≤ n := by omega
      have hd2 : decide (q ≤ n) = false := decide_eq_false h2
      have hrt : r = false := by rw [hr, decide_eq_false h2]; simp
      subst hrt
      clear h1 h2 hr
      go_enter Tryz.func76, Tryz.ntmps76
      go_wp2_with (go_at_call 143; refine HM.out.mono ?_; rintro e w2 ⟨rfl, hw⟩; obtain rfl : w = w2 := hw.symm)
      go_ret
      exact ⟨rfl, rfl⟩
  · have h1i : ¬ (s.size : Int) ≤ b := by omega
    have hrt : r = false := by rw [hr, decide_eq_false h1]; simp
    subst hrt
    clear h1 hr
    go_enter Tryz.func76, Tryz.ntmps76
    go_wp2_with fail
    go_ret
    exact ⟨rfl, rfl⟩
theorem tail_skip {b n : Nat} {l : List UInt8} {i : Nat} (hi : i < l.length) (h : fitB b n (l.drop i) = false) : tailP b n (l.drop i) = tailP b n (l.drop (i + 1)) := by
  have e := List.drop_eq_getElem_cons hi
  rw [e] at h ⊢
  rw [tailP, if_neg (by rw [h]; simp)]
theorem tail_hit {b n : Nat} {l : List UInt8} {i : Nat} (hi : i < l.length) (h : fitB b n (l.drop i) = true) : tailP b n (l.drop i) = l.drop i := by
  have e := List.drop_eq_getElem_cons hi
  rw [e] at h ⊢
  rw [tailP, if_pos h]
set_option maxRecDepth 100000 in
set_option maxHeartbeats 1000000 in
theorem rtail_any (w : World) (s : ByteArray) (n b : Nat) (hs : s.size ≤ 1099511627776) : Calls Tryz.prog 27 #[.string s, .int .i64 n, .int .i64 b] w fun e w' => e = .returned (.string (str (tailP b n s.data.toList))) ∧ w' = w := by
  have hlen : s.data.toList.length = s.size := by simp
  obtain ⟨l, hl⟩ : ∃ l, l = s.data.toList := ⟨_, rfl⟩
  rw [← hl] at hlen ⊢
  obtain ⟨V, hV⟩ : ∃ V, V = str (tailP b n l) := ⟨_, rfl⟩
  rw [← hV]
  have HV := Lib.hid hV
  have HL := Lib.hid hl
  have HN := Lib.hid hlen
  clear hV hl hlen
  go_enter Tryz.func27, Tryz.ntmps27
  go_wp2_with fail
  go_loopw [7] (fun u7 wr => w = wr ∧ ∃ i : Nat, u7 = .int .i64 i ∧ i ≤ s.size ∧ Hid (tailP b n (l.drop i) = tailP b n l)) (fun u7 _ => s.size - (intOf u7).toNat)
  case atStart => exact ⟨rfl, 0, rfl, Nat.zero_le _, Lib.hid (by rw [List.drop_zero])⟩
  case round =>
    obtain ⟨rfl, i, rfl, hi, HI⟩ := hrel
    by_cases hlt : i < s.size
    · have hll : i < l.length := by rw [HN.out]; exact hlt
      have HHIT := Lib.hid (fun h => tail_hit (b := b) (n := n) hll h)
      have HSKIP := Lib.hid (fun h => tail_skip (b := b) (n := n) hll h)
      have hex : s.extract i s.size = str (l.drop i) := by
        apply ba_ext
        rw [ext_list, ← HL.out, str_list]
      obtain ⟨sx, hsx⟩ : ∃ sx, sx = s.extract i s.size := ⟨_, rfl⟩
      have hsx' := hsx.symm
      rw [hex] at hsx
      have hxz : sx.size = s.size - i := by rw [hsx, str_size, List.length_drop, HN.out]
      have hFI := fun r hr => rfits_any w sx n b (by omega) r hr
      rw [hsx, str_list] at hFI
      rw [← hsx] at hFI
      obtain ⟨r, hr⟩ : ∃ r, r = fitB b n (l.drop i) := ⟨_, rfl⟩
      have hFI2 := hFI r hr
      have HFI := Lib.hid hFI2
      have HR := Lib.hid hr
      have HSX := Lib.hid hsx
      have hw : IntKind.i64.wrap ((s.size : Int) - i) = (s.size : Int) - i := wrap_in (by omega) (by omega)
      have hbz : ¬ (s.size : Int) - i ≤ b → r = false := fun hnb => by
        rw [hr]
        unfold fitB
        rw [decide_eq_false (by rw [List.length_drop, HN.out]; omega)]
        simp
      have HBZ := Lib.hid hbz
      clear hll hex hsx hxz hFI hFI2 hr hbz
      cases r with
      | true =>
        have hV2 : V = sx := by rw [HV.out, ← HI.out, HHIT.out HR.out.symm, HSX.out]
        have HV2 := Lib.hid hV2
        have hle : (s.size : Int) - i ≤ b := by
          by_cases h : (s.size : Int) - i ≤ b
          · exact h
          · exact absurd (HBZ.out h) (by simp)
        clear hV2
        go_wp2_with (go_at_call 76; refine HFI.out.mono ?_; rintro e w2 ⟨rfl, hw⟩; obtain rfl : w = w2 := hw.symm)
        go_ret
        exact ⟨by rw [HV2.out]; rfl, rfl⟩
      | false =>
        have hsk := HSKIP.out HR.out.symm
        have HSK := Lib.hid (hsk.symm.trans HI.out)
        clear hsk
        by_cases hle : (s.size : Int) - i ≤ b
        · go_wp2_with (go_at_call 76; refine HFI.out.mono ?_; rintro e w2 ⟨rfl, hw⟩; obtain rfl : w = w2 := hw.symm)
          exact ⟨⟨trivial, i + 1, by go_num, by omega, HSK.out⟩, by simp [intOf]; omega⟩
        · go_wp2_with fail
          exact ⟨⟨trivial, i + 1, by go_num, by omega, HSK.out⟩, by simp [intOf]; omega⟩
    · have hV2 : V = ⟨#[]⟩ := by rw [HV.out, ← HI.out, List.drop_eq_nil_of_le (by rw [HN.out]; omega)]; rfl
      have HV2 := Lib.hid hV2
      clear hV2
      go_wp2_with fail
      go_ret
      exact ⟨by rw [HV2.out]; rfl, rfl⟩
end Go.Proofs.YtkmpdobojgiegaaGreatDoor
