/-
  The document's break sequences: one step.
-/
import Derived.Test.YtkmpdobojgiegaaGreatDoorQR14P
namespace Go.Proofs.YtkmpdobojgiegaaGreatDoor
open Go.RowKit

theorem r14_set3 {w : World} {g : Nat} {t : TypeId} {a b c : Value} (h : Blk w g t #[a, b, c]) (x y z : Value) : Blk (((w.setCell ⟨g, 0, none⟩ x).setCell ⟨g, 1, none⟩ y).setCell ⟨g, 2, none⟩ z) g t #[x, y, z] := ((h.set_ 0 x).set_ 1 y).set_ 2 z
set_option maxRecDepth 100000 in
set_option maxHeartbeats 2000000 in
theorem r14one_any (w : World) (s : ByteArray) (c : UInt8) (t : List UInt8) (hst : s.data.toList = c :: t) (hl : s.size ≤ 1048576) :
    Calls Tryz.prog 174 #[.string s] w fun e w' => e = .returned (oneV (stepP (c :: t))) ∧ Keeps (fun _ => False) w w' := by
  have hs : s.size = t.length + 1 := by rw [ba_len hst]; rfl
  have hcl := c.toNat_lt
  have hc0 : ∀ h, s[0]'h = c := fun h => by
    have : s.data.toList[0]? = some c := by rw [hst]; rfl
    rw [← (List.getElem?_eq_some_iff.1 this).2]; rfl
  have HST := Lib.hid hst
  have hs1 : 1 ≤ s.size := by omega
  have HS := Lib.hid hs
  clear hs hst
  by_cases h92 : c.toNat = 92
  · obtain rfl : c = 92 := UInt8.toNat_inj.1 (by simpa using h92)
    clear h92
    cases t with
    | nil =>
      have hs2 : s.size = 1 := by rw [HS.out]; rfl
      obtain ⟨l, hl0⟩ : ∃ l : List UInt8, l = [92] := ⟨_, rfl⟩
      have HL0 := Lib.hid hl0
      rw [← hl0] at HST ⊢
      clear hl0
      have HLE : Hid (s.size = l.length) := Lib.hid (ba_len HST.out)
      have HB0 : Hid (Keeps (fun _ => False) w (w.alloc (.cells #[.int .i64 0, .string ⟨#[]⟩, .int .i64 0] 272)) ∧ Blk (w.alloc (.cells #[.int .i64 0, .string ⟨#[]⟩, .int .i64 0] 272)) w.heap.size 272 #[.int .i64 0, .string ⟨#[]⟩, .int .i64 0]) := Lib.hid ⟨(Keeps.refl _ _).alloc _, Blk.new _ _ _⟩
      go_enter Tryz.func174, Tryz.ntmps174
      go_wp2_with fail
      go_loopw [4] (fun u4 wr => u4 = .int .i64 1 ∧ Hid (Keeps (fun _ => False) w wr ∧ Blk wr w.heap.size 272 #[.int .i64 0, .string ⟨#[]⟩, .int .i64 0])) (fun _ _ => 0)
      case atStart => exact ⟨rfl, HB0⟩
      case round =>
        obtain ⟨rfl, HB⟩ := hrel
        go_wp2_with fail
        go_loopw [5] (fun u5 wq => ∃ n : Nat, n ≤ 256 ∧ u5 = .int .i64 n ∧ Hid (Keeps (fun _ => False) w wq ∧ Blk wq w.heap.size 272 #[.int .i64 0, .string ⟨#[]⟩, .int .i64 0]) ∧ Hid (∀ m, m < n → ¬ isX14 l m ∧ ¬ isS14 l m)) (fun u5 _ => 256 - (intOf u5).toNat)
        case atStart => exact ⟨0, by omega, rfl, HB, Lib.hid (fun m h => by omega)⟩
        case round =>
          obtain ⟨n, hn2, rfl, HB, HN⟩ := hrel
          by_cases hlt : n < 256
          · have hnn := u8_nat n hlt
            obtain ⟨e, he⟩ : ∃ e, e = UInt8.ofNat n := ⟨_, rfl⟩
            rw [← he] at hnn
            have HE := Lib.hid he
            have HX := Lib.hid (fun W => rhexP_any W e)
            have HS2 := Lib.hid (fun W => rshow_any W (str [e]) (by rw [str_size]; simp))
            rw [str_list] at HS2
            rw [hnn] at HX
            have hsh : showL [e] = signL e := by simp [showL]
            rw [hsh] at HS2
            have hxz : (str (hexL e)).size = 2 := rfl
            clear he hsh
            go_wp2_with (with_reducible show wpList _ _ _ (⟨some 66, _, _, _, _, _⟩ :: _) _ _; go_must (refine wpList_string_bytes _ rfl (.tmp 65) 126 9 rfl 5 Tryz.underlying126 Tryz.underlying5 Tryz.underlying9 wr.heap.size 0 1 1 rfl [e] rfl (const_cell wr 5 e n (by rw [hnn])) ?_))
            refine (HX.out _).mono ?_
            rintro e2 w2 ⟨rfl, k2⟩
            go_wp2_with fail
            refine (HS2.out _).mono ?_
            rintro e3 w3 ⟨rfl, k3⟩
            have kk : Keeps (fun _ => False) wr w3 := (((Keeps.refl _ wr).alloc _).trans k2).trans k3
            have HBW := Lib.hid (And.intro (HB.out.1.trans kk) (HB.out.2.keeps kk id))
            clear k2 k3 kk
            have HNX : Hid (¬ isX14 l n) := Lib.hid (fun h => by have h1 := h.1; have h2 := HLE.out; omega)
            by_cases hsg : (signL e).length = 2
            · have hz8 : (str (signL e)).size = 2 := by rw [str_size]; exact hsg
              have HNS : Hid (¬ isS14 l n) := Lib.hid (fun h => by have h1 := h.2.1; have h2 := HLE.out; omega)
              clear hsg
              have HN2 : Hid (∀ m, m < n + 1 → ¬ isX14 l m ∧ ¬ isS14 l m) := Lib.hid (fun m h1 => by
                by_cases em : m = n
                · rw [em]; exact ⟨HNX.out, HNS.out⟩
                · exact HN.out m (by omega))
              go_wp2_with fail
              go_roundw
              case rel => first | exact ⟨n + 1, by omega, by go_num, HBW, HN2.out⟩ | exact ⟨n + 1, by omega, by go_num, HN2.out⟩
              case measure => simp [intOf] <;> omega
            · have hz8 : (((str (signL e)).size : Int) == 2) = false := by rw [beq_eq_false_iff_ne, str_size]; omega
              have HNS : Hid (¬ isS14 l n) := Lib.hid (fun h => hsg (by rw [HE.out]; exact h.1))
              clear hsg
              have HN2 : Hid (∀ m, m < n + 1 → ¬ isX14 l m ∧ ¬ isS14 l m) := Lib.hid (fun m h1 => by
                by_cases em : m = n
                · rw [em]; exact ⟨HNX.out, HNS.out⟩
                · exact HN.out m (by omega))
              go_wp2_with fail
              go_roundw
              case rel => first | exact ⟨n + 1, by omega, by go_num, HBW, HN2.out⟩ | exact ⟨n + 1, by omega, by go_num, HN2.out⟩
              case measure => simp [intOf] <;> omega
          · have HV : Hid (stepP l = none) := Lib.hid (by rw [HL0.out]; rfl)
            obtain ⟨⟨g0, g1, g2⟩, f0, f1, f2⟩ := HB.out.2.all3
            have HK := Lib.hid HB.out.1
            have HBB := Lib.hid HB.out.2
            have hge : (256 : Int) ≤ n := by omega
            clear hlt hn2
            go_wp2_with fail
            refine ret_cell_tmp rfl w.heap.size 272 _ _ rfl (r14_set3 HBB.out _ _ _) Tryz.underlying272 rfl (by kernel_rfl) rfl ?_
            exact ⟨by rw [HV.out]; rfl, ((HK.out.setNew (Nat.le_refl _) _).setNew (Nat.le_refl _) _).setNew (Nat.le_refl _) _⟩
    | cons d u =>
      have hs2 : 2 ≤ s.size := by rw [HS.out]; simp
      have hdl := d.toNat_lt
      have hc1 : ∀ h, s[1]'h = d := fun h => by
        have : s.data.toList[1]? = some d := by rw [HST.out]; rfl
        rw [← (List.getElem?_eq_some_iff.1 this).2]; rfl
      by_cases h100 : d.toNat = 100
      · obtain rfl : d = 100 := UInt8.toNat_inj.1 (by simpa using h100)
        clear h100
        go_enter Tryz.func174, Tryz.ntmps174
        go_wp2_with fail
        refine ret_cell_tmp rfl w.heap.size 272 _ _ rfl (Blk.new _ _ _) Tryz.underlying272 rfl (by kernel_rfl) rfl ?_
        exact ⟨rfl, (Keeps.refl _ _).alloc _⟩
      · have b100 : ((d.toNat : Int) == 100) = false := by rw [beq_eq_false_iff_ne]; omega
        by_cases h122 : d.toNat = 122
        · obtain rfl : d = 122 := UInt8.toNat_inj.1 (by simpa using h122)
          clear h122 h100 b100
          go_enter Tryz.func174, Tryz.ntmps174
          go_wp2_with fail
          refine ret_cell_tmp rfl w.heap.size 272 _ _ rfl (Blk.new _ _ _) Tryz.underlying272 rfl (by kernel_rfl) rfl ?_
          exact ⟨rfl, (Keeps.refl _ _).alloc _⟩
        · have b122 : ((d.toNat : Int) == 122) = false := by rw [beq_eq_false_iff_ne]; omega
          have H100 := Lib.hid h100
          have H122 := Lib.hid h122
          clear h100 h122
          obtain ⟨l, hl0⟩ : ∃ l, l = 92 :: d :: u := ⟨_, rfl⟩
          have HL0 := Lib.hid hl0
          rw [← hl0] at HST ⊢
          clear hl0
          have ht4 := take_ext s l HST.out 4
          have ht2 := take_ext s l HST.out 2
          have HLE : Hid (s.size = l.length) := Lib.hid (ba_len HST.out)
          go_enter Tryz.func174, Tryz.ntmps174
          go_wp2_with fail
          go_loopw [4] (fun u4 wr => ∃ n : Nat, 1 ≤ n ∧ n ≤ 100 ∧ u4 = .int .i64 n ∧ Hid (Keeps (fun _ => False) w wr ∧ Blk wr w.heap.size 272 #[.int .i64 0, .string ⟨#[]⟩, .int .i64 0]) ∧ Hid (∀ m, 1 ≤ m → m < n → ¬ isW14 l m)) (fun u4 _ => 100 - (intOf u4).toNat)
          case atStart => exact ⟨1, Nat.le_refl _, by omega, rfl, Lib.hid ⟨(Keeps.refl _ _).alloc _, Blk.new _ _ _⟩, Lib.hid (fun m h1 h2 => by omega)⟩
          case round =>
            obtain ⟨n, hn1, hn2, rfl, HB, HN⟩ := hrel
            by_cases hlt : n < 100 ∧ 4 ≤ s.size
            · obtain ⟨hlt1, hlt2⟩ := hlt
              have HP := Lib.hid (fun W => rpad_any W n 2 (by omega) (by omega))
              have hpz : (str (padL (decN n) 2)).size = 2 := by rw [str_size]; exact congrArg List.length (pad2_at n hlt1)
              by_cases hw : isW14 l n
              · have HV : Hid (stepP l = some (⟨2, [], n⟩, 4)) := Lib.hid (stepP_w hn1 hlt1 hw)
                have hq : ((str (List.take 4 l)).toList == (({ data := #[92, 119] } : ByteArray) ++ str (padL (decN n) 2)).toList) = true := by
                  rw [ByteArray.toList_eq, ByteArray.toList_eq, append_str', str_list, str_list, beq_iff_eq]
                  exact hw
                clear hw
                go_wp2_with fail
                go_region_held3 (fun W => Keeps (fun _ => False) wr W)
                  ((first | exact (Keeps.refl _ _).drew | exact kk))
                  ((go_at_call 229; rename_i hh _ _; refine (HP.out _).mono ?_; rintro e w3 ⟨rfl, k3⟩; have kk := hh.trans k3))
                rename_i hh
                obtain ⟨⟨g0, g1, g2⟩, f0, f1, f2⟩ := (HB.out.2.keeps hh id).all3
                have HK := Lib.hid (HB.out.1.trans hh)
                have HBB := Lib.hid (HB.out.2.keeps hh id)
                clear hh kk
                go_wp2_with fail
                refine ret_cell_tmp rfl w.heap.size 272 _ _ rfl (r14_set3 HBB.out _ _ _) Tryz.underlying272 rfl (by kernel_rfl) rfl ?_
                exact ⟨by rw [HV.out]; rfl, ((HK.out.setNew (Nat.le_refl _) _).setNew (Nat.le_refl _) _).setNew (Nat.le_refl _) _⟩
              · have HN2 : Hid (∀ m, 1 ≤ m → m < n + 1 → ¬ isW14 l m) := Lib.hid (fun m h1 h2 => by
                  by_cases e : m = n
                  · rw [e]; exact hw
                  · exact HN.out m h1 (by omega))
                have hq : ((str (List.take 4 l)).toList == (({ data := #[92, 119] } : ByteArray) ++ str (padL (decN n) 2)).toList) = false := by
                  rw [ByteArray.toList_eq, ByteArray.toList_eq, append_str', str_list, str_list, beq_eq_false_iff_ne]
                  exact hw
                clear hw
                go_wp2_with fail
                go_region_held3 (fun W => Keeps (fun _ => False) wr W)
                  ((first | exact (Keeps.refl _ _).drew | exact kk))
                  ((go_at_call 229; rename_i hh _ _; refine (HP.out _).mono ?_; rintro e w3 ⟨rfl, k3⟩; have kk := hh.trans k3))
                rename_i hh
                have HBB := Lib.hid (And.intro (HB.out.1.trans hh) (HB.out.2.keeps hh id))
                clear hh kk
                go_wp2_with fail
                go_roundw
                case rel => exact ⟨n + 1, by omega, by omega, by go_num, HBB, HN2.out⟩
                case measure => simp [intOf] <;> omega
            · have HNW : Hid (∀ m, 1 ≤ m → m < 100 → 4 ≤ l.length → ¬ isW14 l m) := Lib.hid (fun m h1 h2 h3 => HN.out m h1 (by
                have := HLE.out
                omega))
              have hlt' : 100 ≤ n ∨ s.size < 4 := by omega
              have he : (decide (n < 100) && decide (4 ≤ s.size)) = false := by simp; omega
              have hd : n < 100 → s.size < 4 := fun h => by omega
              clear hlt HN
              by_cases h100 : n < 100
              · have h4 := hd h100
                clear hd hlt' he
                go_wp2_with fail
                go_loopw [5] (fun u5 wq => ∃ n : Nat, n ≤ 256 ∧ u5 = .int .i64 n ∧ Hid (Keeps (fun _ => False) w wq ∧ Blk wq w.heap.size 272 #[.int .i64 0, .string ⟨#[]⟩, .int .i64 0]) ∧ Hid (∀ m, m < n → ¬ isX14 l m ∧ ¬ isS14 l m)) (fun u5 _ => 256 - (intOf u5).toNat)
                case atStart => exact ⟨0, by omega, rfl, HB, Lib.hid (fun m h => by omega)⟩
                case round =>
                  obtain ⟨n, hn2, rfl, HB, HN⟩ := hrel
                  by_cases hlt : n < 256
                  · have hnn := u8_nat n hlt
                    obtain ⟨e, he⟩ : ∃ e, e = UInt8.ofNat n := ⟨_, rfl⟩
                    rw [← he] at hnn
                    have HE := Lib.hid he
                    have HX := Lib.hid (fun W => rhexP_any W e)
                    have HS2 := Lib.hid (fun W => rshow_any W (str [e]) (by rw [str_size]; simp))
                    rw [str_list] at HS2
                    rw [hnn] at HX
                    have hsh : showL [e] = signL e := by simp [showL]
                    rw [hsh] at HS2
                    have hxz : (str (hexL e)).size = 2 := rfl
                    clear he hsh
                    go_wp2_with (with_reducible show wpList _ _ _ (⟨some 66, _, _, _, _, _⟩ :: _) _ _; go_must (refine wpList_string_bytes _ rfl (.tmp 65) 126 9 rfl 5 Tryz.underlying126 Tryz.underlying5 Tryz.underlying9 wr.heap.size 0 1 1 rfl [e] rfl (const_cell wr 5 e n (by rw [hnn])) ?_))
                    refine (HX.out _).mono ?_
                    rintro e2 w2 ⟨rfl, k2⟩
                    go_wp2_with fail
                    refine (HS2.out _).mono ?_
                    rintro e3 w3 ⟨rfl, k3⟩
                    have kk : Keeps (fun _ => False) wr w3 := (((Keeps.refl _ wr).alloc _).trans k2).trans k3
                    have HBW := Lib.hid (And.intro (HB.out.1.trans kk) (HB.out.2.keeps kk id))
                    clear k2 k3 kk
                    have HNX : Hid (¬ isX14 l n) := Lib.hid (fun h => by have h1 := h.1; have h2 := HLE.out; omega)
                    by_cases hsg : (signL e).length = 2
                    · have hz8 : (str (signL e)).size = 2 := by rw [str_size]; exact hsg
                      by_cases hq2 : l.take 2 = signL e
                      · have HV : Hid (stepP l = some (⟨1, [e], 0⟩, 2)) := Lib.hid (by rw [HE.out]; exact stepP_s ⟨by rw [← HE.out]; exact hsg, by rw [← HLE.out]; exact hs2, by rw [← HE.out]; exact hq2⟩)
                        have q2 : ((str (List.take 2 l)).toList == (str (signL e)).toList) = true := by
                          rw [hq2, beq_iff_eq]
                        obtain ⟨⟨g0, g1, g2⟩, f0, f1, f2⟩ := HBW.out.2.all3
                        have HK := Lib.hid HBW.out.1
                        have HBB := Lib.hid HBW.out.2
                        clear hsg hq2
                        go_wp2_with fail
                        refine ret_cell_tmp rfl w.heap.size 272 _ _ rfl (r14_set3 HBB.out _ _ _) Tryz.underlying272 rfl (by kernel_rfl) rfl ?_
                        exact ⟨by rw [HV.out]; rfl, ((HK.out.setNew (Nat.le_refl _) _).setNew (Nat.le_refl _) _).setNew (Nat.le_refl _) _⟩
                      · have HNS : Hid (¬ isS14 l n) := Lib.hid (fun h => hq2 (by rw [HE.out]; exact h.2.2))
                        have q2 : ((str (List.take 2 l)).toList == (str (signL e)).toList) = false := by
                          rw [ByteArray.toList_eq, ByteArray.toList_eq, str_list, str_list, beq_eq_false_iff_ne]; exact hq2
                        clear hsg hq2
                        have HN2 : Hid (∀ m, m < n + 1 → ¬ isX14 l m ∧ ¬ isS14 l m) := Lib.hid (fun m h1 => by
                          by_cases em : m = n
                          · rw [em]; exact ⟨HNX.out, HNS.out⟩
                          · exact HN.out m (by omega))
                        go_wp2_with fail
                        go_roundw
                        case rel => first | exact ⟨n + 1, by omega, by go_num, HBW, HN2.out⟩ | exact ⟨n + 1, by omega, by go_num, HN2.out⟩
                        case measure => simp [intOf] <;> omega
                    · have hz8 : (((str (signL e)).size : Int) == 2) = false := by rw [beq_eq_false_iff_ne, str_size]; omega
                      have HNS : Hid (¬ isS14 l n) := Lib.hid (fun h => hsg (by rw [HE.out]; exact h.1))
                      clear hsg
                      have HN2 : Hid (∀ m, m < n + 1 → ¬ isX14 l m ∧ ¬ isS14 l m) := Lib.hid (fun m h1 => by
                        by_cases em : m = n
                        · rw [em]; exact ⟨HNX.out, HNS.out⟩
                        · exact HN.out m (by omega))
                      go_wp2_with fail
                      go_roundw
                      case rel => first | exact ⟨n + 1, by omega, by go_num, HBW, HN2.out⟩ | exact ⟨n + 1, by omega, by go_num, HN2.out⟩
                      case measure => simp [intOf] <;> omega
                  · have HV : Hid (stepP l = none) := Lib.hid (esc_no HL0.out H100.out H122.out HNW.out (fun m hm => (HN.out m (by omega)).1) (fun m hm => (HN.out m (by omega)).2))
                    obtain ⟨⟨g0, g1, g2⟩, f0, f1, f2⟩ := HB.out.2.all3
                    have HK := Lib.hid HB.out.1
                    have HBB := Lib.hid HB.out.2
                    have hge : (256 : Int) ≤ n := by omega
                    clear hlt hn2
                    go_wp2_with fail
                    refine ret_cell_tmp rfl w.heap.size 272 _ _ rfl (r14_set3 HBB.out _ _ _) Tryz.underlying272 rfl (by kernel_rfl) rfl ?_
                    exact ⟨by rw [HV.out]; rfl, ((HK.out.setNew (Nat.le_refl _) _).setNew (Nat.le_refl _) _).setNew (Nat.le_refl _) _⟩
              · clear hd hlt' he
                go_wp2_with fail
                go_loopw [5] (fun u5 wq => ∃ n : Nat, n ≤ 256 ∧ u5 = .int .i64 n ∧ Hid (Keeps (fun _ => False) w wq ∧ Blk wq w.heap.size 272 #[.int .i64 0, .string ⟨#[]⟩, .int .i64 0]) ∧ Hid (∀ m, m < n → ¬ isX14 l m ∧ ¬ isS14 l m)) (fun u5 _ => 256 - (intOf u5).toNat)
                case atStart => exact ⟨0, by omega, rfl, HB, Lib.hid (fun m h => by omega)⟩
                case round =>
                  obtain ⟨n, hn2, rfl, HB, HN⟩ := hrel
                  by_cases hlt : n < 256
                  · have hnn := u8_nat n hlt
                    obtain ⟨e, he⟩ : ∃ e, e = UInt8.ofNat n := ⟨_, rfl⟩
                    rw [← he] at hnn
                    have HE := Lib.hid he
                    have HX := Lib.hid (fun W => rhexP_any W e)
                    have HS2 := Lib.hid (fun W => rshow_any W (str [e]) (by rw [str_size]; simp))
                    rw [str_list] at HS2
                    rw [hnn] at HX
                    have hsh : showL [e] = signL e := by simp [showL]
                    rw [hsh] at HS2
                    have hxz : (str (hexL e)).size = 2 := rfl
                    clear he hsh
                    go_wp2_with (with_reducible show wpList _ _ _ (⟨some 66, _, _, _, _, _⟩ :: _) _ _; go_must (refine wpList_string_bytes _ rfl (.tmp 65) 126 9 rfl 5 Tryz.underlying126 Tryz.underlying5 Tryz.underlying9 wr.heap.size 0 1 1 rfl [e] rfl (const_cell wr 5 e n (by rw [hnn])) ?_))
                    refine (HX.out _).mono ?_
                    rintro e2 w2 ⟨rfl, k2⟩
                    go_wp2_with fail
                    refine (HS2.out _).mono ?_
                    rintro e3 w3 ⟨rfl, k3⟩
                    have kk : Keeps (fun _ => False) wr w3 := (((Keeps.refl _ wr).alloc _).trans k2).trans k3
                    have HBW := Lib.hid (And.intro (HB.out.1.trans kk) (HB.out.2.keeps kk id))
                    clear k2 k3 kk
                    by_cases h4 : 4 ≤ s.size
                    · by_cases hq4 : l.take 4 = 92 :: 120 :: hexL e
                      · have HV : Hid (stepP l = some (⟨1, [e], 0⟩, 4)) := Lib.hid (by rw [HE.out]; exact stepP_x hlt ⟨by rw [← HLE.out]; exact h4, by rw [← HE.out]; exact hq4⟩)
                        have q4 : ((str (List.take 4 l)).toList == (({ data := #[92, 120] } : ByteArray) ++ str (hexL e)).toList) = true := by
                          rw [ByteArray.toList_eq, ByteArray.toList_eq, append_str', str_list, str_list, beq_iff_eq]
                          exact hq4
                        obtain ⟨⟨g0, g1, g2⟩, f0, f1, f2⟩ := HBW.out.2.all3
                        have HK := Lib.hid HBW.out.1
                        have HBB := Lib.hid HBW.out.2
                        clear hq4
                        go_wp2_with fail
                        refine ret_cell_tmp rfl w.heap.size 272 _ _ rfl (r14_set3 HBB.out _ _ _) Tryz.underlying272 rfl (by kernel_rfl) rfl ?_
                        exact ⟨by rw [HV.out]; rfl, ((HK.out.setNew (Nat.le_refl _) _).setNew (Nat.le_refl _) _).setNew (Nat.le_refl _) _⟩
                      · have HNX : Hid (¬ isX14 l n) := Lib.hid (fun h => hq4 (by rw [HE.out]; exact h.2))
                        have q4 : ((str (List.take 4 l)).toList == (({ data := #[92, 120] } : ByteArray) ++ str (hexL e)).toList) = false := by
                          rw [ByteArray.toList_eq, ByteArray.toList_eq, append_str', str_list, str_list, beq_eq_false_iff_ne]
                          exact hq4
                        clear hq4
                        by_cases hsg : (signL e).length = 2
                        · have hz8 : (str (signL e)).size = 2 := by rw [str_size]; exact hsg
                          by_cases hq2 : l.take 2 = signL e
                          · have HV : Hid (stepP l = some (⟨1, [e], 0⟩, 2)) := Lib.hid (by rw [HE.out]; exact stepP_s ⟨by rw [← HE.out]; exact hsg, by rw [← HLE.out]; exact hs2, by rw [← HE.out]; exact hq2⟩)
                            have q2 : ((str (List.take 2 l)).toList == (str (signL e)).toList) = true := by
                              rw [hq2, beq_iff_eq]
                            obtain ⟨⟨g0, g1, g2⟩, f0, f1, f2⟩ := HBW.out.2.all3
                            have HK := Lib.hid HBW.out.1
                            have HBB := Lib.hid HBW.out.2
                            clear hsg hq2
                            go_wp2_with fail
                            refine ret_cell_tmp rfl w.heap.size 272 _ _ rfl (r14_set3 HBB.out _ _ _) Tryz.underlying272 rfl (by kernel_rfl) rfl ?_
                            exact ⟨by rw [HV.out]; rfl, ((HK.out.setNew (Nat.le_refl _) _).setNew (Nat.le_refl _) _).setNew (Nat.le_refl _) _⟩
                          · have HNS : Hid (¬ isS14 l n) := Lib.hid (fun h => hq2 (by rw [HE.out]; exact h.2.2))
                            have q2 : ((str (List.take 2 l)).toList == (str (signL e)).toList) = false := by
                              rw [ByteArray.toList_eq, ByteArray.toList_eq, str_list, str_list, beq_eq_false_iff_ne]; exact hq2
                            clear hsg hq2
                            have HN2 : Hid (∀ m, m < n + 1 → ¬ isX14 l m ∧ ¬ isS14 l m) := Lib.hid (fun m h1 => by
                              by_cases em : m = n
                              · rw [em]; exact ⟨HNX.out, HNS.out⟩
                              · exact HN.out m (by omega))
                            go_wp2_with fail
                            go_roundw
                            case rel => first | exact ⟨n + 1, by omega, by go_num, HBW, HN2.out⟩ | exact ⟨n + 1, by omega, by go_num, HN2.out⟩
                            case measure => simp [intOf] <;> omega
                        · have hz8 : (((str (signL e)).size : Int) == 2) = false := by rw [beq_eq_false_iff_ne, str_size]; omega
                          have HNS : Hid (¬ isS14 l n) := Lib.hid (fun h => hsg (by rw [HE.out]; exact h.1))
                          clear hsg
                          have HN2 : Hid (∀ m, m < n + 1 → ¬ isX14 l m ∧ ¬ isS14 l m) := Lib.hid (fun m h1 => by
                            by_cases em : m = n
                            · rw [em]; exact ⟨HNX.out, HNS.out⟩
                            · exact HN.out m (by omega))
                          go_wp2_with fail
                          go_roundw
                          case rel => first | exact ⟨n + 1, by omega, by go_num, HBW, HN2.out⟩ | exact ⟨n + 1, by omega, by go_num, HN2.out⟩
                          case measure => simp [intOf] <;> omega
                    · have HNX : Hid (¬ isX14 l n) := Lib.hid (fun h => by have h1 := h.1; have h2 := HLE.out; omega)
                      by_cases hsg : (signL e).length = 2
                      · have hz8 : (str (signL e)).size = 2 := by rw [str_size]; exact hsg
                        by_cases hq2 : l.take 2 = signL e
                        · have HV : Hid (stepP l = some (⟨1, [e], 0⟩, 2)) := Lib.hid (by rw [HE.out]; exact stepP_s ⟨by rw [← HE.out]; exact hsg, by rw [← HLE.out]; exact hs2, by rw [← HE.out]; exact hq2⟩)
                          have q2 : ((str (List.take 2 l)).toList == (str (signL e)).toList) = true := by
                            rw [hq2, beq_iff_eq]
                          obtain ⟨⟨g0, g1, g2⟩, f0, f1, f2⟩ := HBW.out.2.all3
                          have HK := Lib.hid HBW.out.1
                          have HBB := Lib.hid HBW.out.2
                          clear hsg hq2
                          go_wp2_with fail
                          refine ret_cell_tmp rfl w.heap.size 272 _ _ rfl (r14_set3 HBB.out _ _ _) Tryz.underlying272 rfl (by kernel_rfl) rfl ?_
                          exact ⟨by rw [HV.out]; rfl, ((HK.out.setNew (Nat.le_refl _) _).setNew (Nat.le_refl _) _).setNew (Nat.le_refl _) _⟩
                        · have HNS : Hid (¬ isS14 l n) := Lib.hid (fun h => hq2 (by rw [HE.out]; exact h.2.2))
                          have q2 : ((str (List.take 2 l)).toList == (str (signL e)).toList) = false := by
                            rw [ByteArray.toList_eq, ByteArray.toList_eq, str_list, str_list, beq_eq_false_iff_ne]; exact hq2
                          clear hsg hq2
                          have HN2 : Hid (∀ m, m < n + 1 → ¬ isX14 l m ∧ ¬ isS14 l m) := Lib.hid (fun m h1 => by
                            by_cases em : m = n
                            · rw [em]; exact ⟨HNX.out, HNS.out⟩
                            · exact HN.out m (by omega))
                          go_wp2_with fail
                          go_roundw
                          case rel => first | exact ⟨n + 1, by omega, by go_num, HBW, HN2.out⟩ | exact ⟨n + 1, by omega, by go_num, HN2.out⟩
                          case measure => simp [intOf] <;> omega
                      · have hz8 : (((str (signL e)).size : Int) == 2) = false := by rw [beq_eq_false_iff_ne, str_size]; omega
                        have HNS : Hid (¬ isS14 l n) := Lib.hid (fun h => hsg (by rw [HE.out]; exact h.1))
                        clear hsg
                        have HN2 : Hid (∀ m, m < n + 1 → ¬ isX14 l m ∧ ¬ isS14 l m) := Lib.hid (fun m h1 => by
                          by_cases em : m = n
                          · rw [em]; exact ⟨HNX.out, HNS.out⟩
                          · exact HN.out m (by omega))
                        go_wp2_with fail
                        go_roundw
                        case rel => first | exact ⟨n + 1, by omega, by go_num, HBW, HN2.out⟩ | exact ⟨n + 1, by omega, by go_num, HN2.out⟩
                        case measure => simp [intOf] <;> omega
                  · have HV : Hid (stepP l = none) := Lib.hid (esc_no HL0.out H100.out H122.out HNW.out (fun m hm => (HN.out m (by omega)).1) (fun m hm => (HN.out m (by omega)).2))
                    obtain ⟨⟨g0, g1, g2⟩, f0, f1, f2⟩ := HB.out.2.all3
                    have HK := Lib.hid HB.out.1
                    have HBB := Lib.hid HB.out.2
                    have hge : (256 : Int) ≤ n := by omega
                    clear hlt hn2
                    go_wp2_with fail
                    refine ret_cell_tmp rfl w.heap.size 272 _ _ rfl (r14_set3 HBB.out _ _ _) Tryz.underlying272 rfl (by kernel_rfl) rfl ?_
                    exact ⟨by rw [HV.out]; rfl, ((HK.out.setNew (Nat.le_refl _) _).setNew (Nat.le_refl _) _).setNew (Nat.le_refl _) _⟩
  · have b92 : ((c.toNat : Int) != 92) = true := by rw [bne_iff_ne]; omega
    by_cases hx : c.toNat < 32 ∨ 126 < c.toNat
    · have HV : Hid (stepP (c :: t) = none) := Lib.hid (by unfold stepP; simp only; rw [if_neg h92, if_pos hx])
      rcases hx with hx | hx
      · have l1 : (c.toNat : Int) < 32 := by omega
        clear hx h92
        go_enter Tryz.func174, Tryz.ntmps174
        go_wp2_with fail
        refine ret_cell_tmp rfl w.heap.size 272 _ _ rfl (Blk.new _ _ _) Tryz.underlying272 rfl (by kernel_rfl) rfl ?_
        exact ⟨by rw [HV.out]; rfl, (Keeps.refl _ _).alloc _⟩
      · have l1 : ¬ (c.toNat : Int) < 32 := by omega
        have l2 : (126 : Int) < c.toNat := by omega
        clear hx h92
        go_enter Tryz.func174, Tryz.ntmps174
        go_wp2_with fail
        refine ret_cell_tmp rfl w.heap.size 272 _ _ rfl (Blk.new _ _ _) Tryz.underlying272 rfl (by kernel_rfl) rfl ?_
        exact ⟨by rw [HV.out]; rfl, (Keeps.refl _ _).alloc _⟩
    · have l1 : ¬ (c.toNat : Int) < 32 := by omega
      have l2 : ¬ (126 : Int) < c.toNat := by omega
      have HV : Hid (stepP (c :: t) = some (⟨1, [c], 0⟩, 1)) := Lib.hid (by unfold stepP; simp only; rw [if_neg h92, if_neg hx])
      have HX : Hid (s.extract 0 1 = str [c]) := Lib.hid (by rw [take_ext _ _ HST.out 1]; rfl)
      clear hx h92
      go_enter Tryz.func174, Tryz.ntmps174
      go_wp2_with fail
      rw [HX.out]
      refine ret_cell_tmp rfl w.heap.size 272 _ _ rfl (Blk.new _ _ _) Tryz.underlying272 rfl (by kernel_rfl) rfl ?_
      exact ⟨by rw [HV.out]; rfl, (Keeps.refl _ _).alloc _⟩
end Go.Proofs.YtkmpdobojgiegaaGreatDoor
