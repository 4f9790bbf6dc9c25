/-
  lex.quoted and lex.Put: a piece as text.
-/
import Derived.Test.YtemjbblehiaobaaDoorLexA
import Derived.Test.YtemjbblehiaobaaDoorOwnT
namespace Go.Proofs.YtemjbblehiaobaaDoor
open Go.RowKit

theorem quotedP_len (l : List UInt8) : (quotedP l).length ≤ 2 * l.length := by
  unfold quotedP
  induction l with
  | nil => simp
  | cons c t ih => rw [List.flatMap_cons, List.length_append]; split <;> simp only [List.length_cons, List.length_nil] <;> omega
theorem quotedP_snoc (l : List UInt8) (c : UInt8) : quotedP (l ++ [c]) = quotedP l ++ (if c.toNat = 34 ∨ c.toNat = 92 then [92, c] else [c]) := by
  unfold quotedP; rw [List.flatMap_append]; simp

set_option maxRecDepth 100000 in
set_option maxHeartbeats 2000000 in
theorem quoted_any (w : World) (s : ByteArray) (hs : s.size ≤ 1073741824) : Calls Tryd.prog 61 #[.string s] w fun e w' =>
    e = .returned (.tuple #[.string (str (if s.data.toList.all seenB then 34 :: (quotedP s.data.toList ++ [34]) else [])), .bool (s.data.toList.all seenB)]) ∧ Keeps (fun _ => False) w w' := by
  have hl : s.data.toList.length = s.size := by simp
  obtain ⟨tx, htx⟩ : ∃ tx, tx = str (if s.data.toList.all seenB then 34 :: (quotedP s.data.toList ++ [34]) else []) := ⟨_, rfl⟩
  obtain ⟨bx, hbx⟩ : ∃ bx, bx = s.data.toList.all seenB := ⟨_, rfl⟩
  rw [← htx, ← hbx]
  have HTX := Lib.hid htx
  have HBX := Lib.hid hbx
  clear htx hbx
  have hO := OwnL.of1 w 5 (.int .u8 34)
  have hO2 : OwnL ((w.alloc (.cells #[.int .u8 34] 5)).iter s 0) w.heap.size 5 (.slice (some ⟨w.heap.size, 0, none⟩) 1 1) (u8Vs (34 :: quotedP [])) :=
    hO.keepsT ((Keeps.refl (fun _ => False) _).alloc _) (fun _ _ _ => id)
  have hit0 : ((w.alloc (.cells #[.int .u8 34] 5)).iter s 0).heap[w.heap.size + 1]? = some (.stringIter s 0) := by
    have := World.iter_heap (w.alloc (.cells #[.int .u8 34] 5)) s 0
    simpa using this
  have HO := Lib.hid hO2
  have HIT := Lib.hid hit0
  clear hO hO2 hit0
  go_enter Tryd.func61, Tryd.ntmps61
  go_wp2_with fail
  go_loopw [4, 6] (fun u4 _ wr => ∃ pos, pos ≤ s.size ∧ (∀ c ∈ s.data.toList.take pos, seenB c = true) ∧ OwnL wr w.heap.size 5 u4 (u8Vs (34 :: quotedP (s.data.toList.take pos))) ∧ wr.heap[w.heap.size + 1]? = some (.stringIter s pos) ∧ Keeps (fun _ => False) w wr) (fun _ _ wr => s.size - wr.iterPos (w.heap.size + 1))
  case atStart => exact ⟨0, Nat.zero_le _, by simp, by simpa using HO.out, by simpa using HIT.out, ((Keeps.refl _ _).alloc _).alloc _⟩
  case round =>
    obtain ⟨pos, hpos, hall, hOw, hit, hK⟩ := hrel
    have HA := Lib.hid hall
    have HOW := Lib.hid hOw
    have HI := Lib.hid hit
    have hip : wr.iterPos (w.heap.size + 1) = pos := by simp [World.iterPos, hit]
    have HIP := Lib.hid hip
    have hlenq : (u8Vs (34 :: quotedP (s.data.toList.take pos))).length ≤ 2 * pos + 1 := by
      rw [u8Vs_len]; have := quotedP_len (s.data.toList.take pos); simp only [List.length_cons]; rw [List.length_take] at this; omega
    have HLQ := Lib.hid hlenq
    obtain ⟨av, cv, rfl⟩ : ∃ a c, u4 = .slice a (u8Vs (34 :: quotedP (s.data.toList.take pos))).length c := by
      obtain ⟨a, c, hv, -⟩ := hOw.shape; exact ⟨a, c, hv⟩
    obtain ⟨xs, hxs⟩ : ∃ xs, xs = u8Vs (34 :: quotedP (s.data.toList.take pos)) := ⟨_, rfl⟩
    have HOX : Hid (OwnL wr w.heap.size 5 (.slice av xs.length cv) xs) := by rw [hxs]; exact hOw
    have hxl : xs.length ≤ 2 * pos + 1 := by rw [hxs]; exact hlenq
    rw [← hxs]
    have HXS := Lib.hid hxs
    clear hall hOw hit hip hlenq hxs HOW
    by_cases hp : pos < s.size
    · obtain ⟨c, hc⟩ : ∃ c, s.data.toList[pos]? = some c := ⟨_, List.getElem?_eq_getElem (by omega)⟩
      have hsc : s[pos] = c := by
        have := (List.getElem?_eq_some_iff.1 hc).2
        rw [← this]; rfl
      have HC := Lib.hid hc
      clear hc
      by_cases hsn : 32 ≤ c.toNat ∧ c.toNat ≤ 126
      · obtain ⟨hs1, hs2⟩ := hsn
        have hnx : ∀ ty, (Instr.next (.pointer (some ⟨w.heap.size + 1, 0, none⟩)) true ty).run Tryd.prog wr = _ := fun ty => Lib.run_next_ascii_at wr (w.heap.size + 1) s pos ty HI hp (by rw [hsc]; omega)
        rw [hsc] at hnx
        obtain ⟨wi, hwi⟩ : ∃ wi, wi = wr.iterAt (w.heap.size + 1) s (pos + 1) := ⟨_, rfl⟩
        rw [← hwi] at hnx
        have ki : Keeps (fun i => i = w.heap.size + 1) wr wi := by rw [hwi]; exact Keeps.iterAt _ _ _
        have hiti : wi.heap[w.heap.size + 1]? = some (.stringIter s (pos + 1)) := by rw [hwi]; exact Lib.iterAt_heap wr _ s pos _ HI
        have hOi : OwnL wi w.heap.size 5 (.slice av xs.length cv) xs := OwnL.keepsT HOX ki (fun i _ hb e => by subst e; exact iter_noBlk HI hb)
        have hKi : Keeps (fun _ => False) w wi := hK.and_ ki (fun i hi e => by omega)
        have HOI := Lib.hid hOi
        have HITI := Lib.hid hiti
        have hsz : w.heap.size + 1 < wi.heap.size := (Array.getElem?_eq_some_iff.1 hiti).1
        have hseen : seenB c = true := by unfold seenB; simp; omega
        have hq := quotedP_snoc (s.data.toList.take pos) c
        have htk : s.data.toList.take (pos + 1) = s.data.toList.take pos ++ [c] := by rw [List.take_add_one, HC.out]; rfl
        rw [← htk] at hq
        have HQ := Lib.hid hq
        have HTK := Lib.hid htk
        have HSEEN := Lib.hid hseen
        clear hwi hsc hOi hiti hseen hq htk
        by_cases he : c.toNat = 34 ∨ c.toNat = 92
        · have HE := Lib.hid he
          rcases he with he | he
          · obtain rfl : c = 34 := UInt8.toNat_inj.1 (by simpa using he)
            clear he
            go_wp2_with (first
              | (with_reducible show wpList _ _ _ (⟨some 27, _, _, _, _, _⟩ :: _) _ _; go_must (refine wpList_append_onet rfl (.tmp 25) (.tmp 26) 58 rfl w.heap.size 5 (.int .u8 0) 1 Tryd.underlying58 (by kernel_rfl) rfl (by omega) _ xs rfl (OwnL.keepsT (S := fun _ => False) HOI.out ((Keeps.refl _ _).alloc _) (fun _ _ _ => id)) ⟨wi.heap.size, 0, none⟩ 1 (.int .u8 92) rfl ((Blk.new _ _ _).cell 0) rfl (by omega) (by simp; omega) ?_; intro v7 w7 O7 k7); obtain ⟨a7, c7, rfl⟩ := OwnL.sl' O7; have hsz7 := k7.size; simp only [World.size_alloc] at hsz7; simp only [List.length_append, List.length_cons, List.length_nil, Nat.zero_add] at O7)
              | (with_reducible show wpList _ _ _ (⟨some 32, _, _, _, _, _⟩ :: _) _ _; go_must (refine wpList_append_onet rfl (.tmp 28) (.tmp 31) 58 rfl w.heap.size 5 (.int .u8 0) 1 Tryd.underlying58 (by kernel_rfl) rfl (by omega) _ (xs ++ [.int .u8 92]) rfl (OwnL.keepsT (S := fun _ => False) O7 ((Keeps.refl _ _).alloc _) (fun _ _ _ => id)) ⟨w7.heap.size, 0, none⟩ 1 (.int .u8 34) rfl ((Blk.new _ _ _).cell 0) rfl (by simp; omega) (by simp; omega) ?_; intro v8 w8 O8 k8)))
            go_roundw
            case rel =>
              have kk7 : Keeps (fun i => w.heap.size ≤ i ∧ ∃ cs, Blk wi i 5 cs) wi w8 := grow_trans (grow_alloc _ k7) (grow_alloc _ k8)
              refine ⟨pos + 1, by omega, ?_, ?_, (kk7.block _ (by omega) (fun h => iter_noBlk HITI h.2)).trans HITI, hKi.and_ kk7 (fun i hi h => by omega)⟩
              · intro d hd
                rw [HTK.out] at hd
                rcases List.mem_append.1 hd with hd | hd
                · exact HA.out d hd
                · rw [List.mem_singleton] at hd; subst hd; exact HSEEN.out
              · have hq := HQ.out
                rw [if_pos (by decide)] at hq
                rw [hq]
                have := O8
                rw [HXS.out] at this
                simpa [u8Vs] using this
            case measure =>
              have kk7 : Keeps (fun i => w.heap.size ≤ i ∧ ∃ cs, Blk wi i 5 cs) wi w8 := grow_trans (grow_alloc _ k7) (grow_alloc _ k8)
              have hb8 := (kk7.block _ (by omega) (fun h => iter_noBlk HITI h.2)).trans HITI
              rw [HIP.out, iterPos_of hb8]; omega
          · obtain rfl : c = 92 := UInt8.toNat_inj.1 (by simpa using he)
            clear he
            go_wp2_with (first
              | (with_reducible show wpList _ _ _ (⟨some 27, _, _, _, _, _⟩ :: _) _ _; go_must (refine wpList_append_onet rfl (.tmp 25) (.tmp 26) 58 rfl w.heap.size 5 (.int .u8 0) 1 Tryd.underlying58 (by kernel_rfl) rfl (by omega) _ xs rfl (OwnL.keepsT (S := fun _ => False) HOI.out ((Keeps.refl _ _).alloc _) (fun _ _ _ => id)) ⟨wi.heap.size, 0, none⟩ 1 (.int .u8 92) rfl ((Blk.new _ _ _).cell 0) rfl (by omega) (by simp; omega) ?_; intro v7 w7 O7 k7); obtain ⟨a7, c7, rfl⟩ := OwnL.sl' O7; have hsz7 := k7.size; simp only [World.size_alloc] at hsz7; simp only [List.length_append, List.length_cons, List.length_nil, Nat.zero_add] at O7)
              | (with_reducible show wpList _ _ _ (⟨some 32, _, _, _, _, _⟩ :: _) _ _; go_must (refine wpList_append_onet rfl (.tmp 28) (.tmp 31) 58 rfl w.heap.size 5 (.int .u8 0) 1 Tryd.underlying58 (by kernel_rfl) rfl (by omega) _ (xs ++ [.int .u8 92]) rfl (OwnL.keepsT (S := fun _ => False) O7 ((Keeps.refl _ _).alloc _) (fun _ _ _ => id)) ⟨w7.heap.size, 0, none⟩ 1 (.int .u8 92) rfl ((Blk.new _ _ _).cell 0) rfl (by simp; omega) (by simp; omega) ?_; intro v8 w8 O8 k8)))
            go_roundw
            case rel =>
              have kk7 : Keeps (fun i => w.heap.size ≤ i ∧ ∃ cs, Blk wi i 5 cs) wi w8 := grow_trans (grow_alloc _ k7) (grow_alloc _ k8)
              refine ⟨pos + 1, by omega, ?_, ?_, (kk7.block _ (by omega) (fun h => iter_noBlk HITI h.2)).trans HITI, hKi.and_ kk7 (fun i hi h => by omega)⟩
              · intro d hd
                rw [HTK.out] at hd
                rcases List.mem_append.1 hd with hd | hd
                · exact HA.out d hd
                · rw [List.mem_singleton] at hd; subst hd; exact HSEEN.out
              · have hq := HQ.out
                rw [if_pos (by decide)] at hq
                rw [hq]
                have := O8
                rw [HXS.out] at this
                simpa [u8Vs] using this
            case measure =>
              have kk7 : Keeps (fun i => w.heap.size ≤ i ∧ ∃ cs, Blk wi i 5 cs) wi w8 := grow_trans (grow_alloc _ k7) (grow_alloc _ k8)
              have hb8 := (kk7.block _ (by omega) (fun h => iter_noBlk HITI h.2)).trans HITI
              rw [HIP.out, iterPos_of hb8]; omega
        · have h1 : ((c.toNat : Int) == 34) = false := by rw [beq_eq_false_iff_ne]; omega
          have h2 : ((c.toNat : Int) == 92) = false := by rw [beq_eq_false_iff_ne]; omega
          have HE := Lib.hid he
          clear he
          go_wp2_with (with_reducible show wpList _ _ _ (⟨some 32, _, _, _, _, _⟩ :: _) _ _; go_must (refine wpList_append_onet rfl (.tmp 28) (.tmp 31) 58 rfl w.heap.size 5 (.int .u8 0) 1 Tryd.underlying58 (by kernel_rfl) rfl (by omega) _ xs rfl (OwnL.keepsT (S := fun _ => False) HOI.out ((Keeps.refl _ _).alloc _) (fun _ _ _ => id)) ⟨wi.heap.size, 0, none⟩ 1 (.int .u8 c.toNat) rfl ((Blk.new _ _ _).cell 0) rfl (by omega) (by simp; omega) ?_; intro v7 w7 O7 k7))
          go_roundw
          case rel =>
            have kk7 : Keeps (fun i => w.heap.size ≤ i ∧ ∃ cs, Blk wi i 5 cs) wi w7 := grow_alloc _ k7
            refine ⟨pos + 1, by omega, ?_, ?_, (kk7.block _ (by omega) (fun h => iter_noBlk HITI h.2)).trans HITI, hKi.and_ kk7 (fun i hi h => by omega)⟩
            · intro d hd
              rw [HTK.out] at hd
              rcases List.mem_append.1 hd with hd | hd
              · exact HA.out d hd
              · rw [List.mem_singleton] at hd; subst hd; exact HSEEN.out
            · have hq := HQ.out
              rw [if_neg HE.out] at hq
              rw [hq]
              have := O7
              rw [HXS.out] at this
              simpa [u8Vs] using this
          case measure =>
            have kk7 : Keeps (fun i => w.heap.size ≤ i ∧ ∃ cs, Blk wi i 5 cs) wi w7 := grow_alloc _ k7
            have hb8 := (kk7.block _ (by omega) (fun h => iter_noBlk HITI h.2)).trans HITI
            rw [HIP.out, iterPos_of hb8]; omega
      · have hall : s.data.toList.all seenB = false := by
          rw [List.all_eq_false]
          exact ⟨c, List.mem_of_getElem? HC.out, by unfold seenB; simp; omega⟩
        have HF := Lib.hid hall
        clear hall
        by_cases ha : c.toNat < 128
        · have hnx : ∀ ty, (Instr.next (.pointer (some ⟨w.heap.size + 1, 0, none⟩)) true ty).run Tryd.prog wr = _ := fun ty => Lib.run_next_ascii_at wr (w.heap.size + 1) s pos ty HI hp (by rw [hsc]; exact ha)
          rw [hsc] at hnx
          have hki : Keeps (fun _ => False) w (wr.iterAt (w.heap.size + 1) s (pos + 1)) := hK.and_ (Keeps.iterAt _ _ _) (fun i hi e => by omega)
          clear hsc
          by_cases h32 : c.toNat < 32
          · clear hsn
            go_wp2_with fail
            go_ret2
            exact ⟨by rw [HTX.out, HBX.out, HF.out]; rfl, hki⟩
          · have h126 : 126 < c.toNat := by omega
            clear hsn
            go_wp2_with fail
            go_ret2
            exact ⟨by rw [HTX.out, HBX.out, HF.out]; rfl, hki⟩
        · have hnx : ∀ ty, (Instr.next (.pointer (some ⟨w.heap.size + 1, 0, none⟩)) true ty).run Tryd.prog wr = _ := fun ty => Lib.run_next_any_at wr (w.heap.size + 1) s pos ty HI hp
          have hhi := (decode_high s pos hp (by rw [hsc]; omega)).1
          have hki : ∀ q, Keeps (fun _ => False) w (wr.iterAt (w.heap.size + 1) s q) := fun q => hK.and_ (Keeps.iterAt _ _ _) (fun i hi e => by omega)
          have HKI := Lib.hid hki
          obtain ⟨r, hr⟩ : ∃ r, (Utf8.decode s pos).1 = r := ⟨_, rfl⟩
          obtain ⟨r2, hr2⟩ : ∃ r, (Utf8.decode s pos).2 = r := ⟨_, rfl⟩
          rw [hr] at hhi
          simp only [hr, hr2] at hnx
          have h126 : 126 < r := by omega
          clear hr hr2 hsc hsn hki
          go_wp2_with fail
          go_ret2
          exact ⟨by rw [HTX.out, HBX.out, HF.out]; rfl, HKI.out _⟩
    · have hnx : ∀ ty, (Instr.next (.pointer (some ⟨w.heap.size + 1, 0, none⟩)) true ty).run Tryd.prog wr = _ := fun ty => Lib.run_next_end_at wr (w.heap.size + 1) s pos ty HI hp
      have hall : s.data.toList.all seenB = true := by
        rw [List.all_eq_true]; intro d hd
        have := HA.out d
        rw [List.take_of_length_le (by omega)] at this
        exact this hd
      have HF := Lib.hid hall
      have hxq : xs = u8Vs (34 :: quotedP s.data.toList) := by rw [HXS.out, List.take_of_length_le (by omega)]
      have HXQ := Lib.hid hxq
      have hsz := hK.size
      have hsz2 : w.heap.size + 1 < wr.heap.size := (Array.getElem?_eq_some_iff.1 HI).1
      clear hall hxq
      go_wp2_with (first
        | (with_reducible show wpList _ _ _ (⟨some 35, _, _, _, _, _⟩ :: _) _ _; go_must (refine wpList_append_onet rfl (.tmp 33) (.tmp 34) 58 rfl w.heap.size 5 (.int .u8 0) 1 Tryd.underlying58 (by kernel_rfl) rfl (by omega) _ xs rfl (OwnL.keepsT (S := fun _ => False) HOX.out ((Keeps.refl _ _).alloc _) (fun _ _ _ => id)) ⟨wr.heap.size, 0, none⟩ 1 (.int .u8 34) rfl ((Blk.new _ _ _).cell 0) rfl (by omega) (by simp; omega) ?_; intro v7 w7 O7 k7))
        | (with_reducible show wpList _ _ _ (⟨some 36, _, _, _, _, _⟩ :: _) _ _; go_must (refine wpList_string_own rfl (.tmp 35) 58 9 rfl 5 Tryd.underlying58 Tryd.underlying5 Tryd.underlying9 w.heap.size v7 (34 :: (quotedP s.data.toList ++ [34])) rfl (by have := O7; rw [HXQ.out] at this; simpa [u8Vs] using this) ?_)))
      go_ret2
      exact ⟨by rw [HTX.out, HBX.out, HF.out]; rfl, hK.and_ (grow_alloc _ k7) (fun i hi h => by omega)⟩

/-- what Put hands back -/
def putV (kind : Int) (t : List UInt8) : Value := .tuple #[.string (str (putP_lexm kind t).1), .int .i64 (putP_lexm kind t).2]

set_option maxRecDepth 100000 in
set_option maxHeartbeats 1000000 in
theorem lput_any (w : World) (kind line : Int) (s : ByteArray) (hs : s.size ≤ 1073741824) :
    Calls Tryd.prog 58 #[.agg #[.int .i64 kind, .string s, .int .i64 line]] w fun e w' => e = .returned (putV kind s.data.toList) ∧ Keeps (fun _ => False) w w' := by
  have hk1 : Keeps (fun _ => False) w (w.alloc (.cells #[.int .i64 kind, .string s, .int .i64 line] 91)) := (Keeps.refl _ w).alloc _
  have hb := Blk.new w 91 #[.int .i64 kind, .string s, .int .i64 line]
  have HB := Lib.hid hb
  clear hb
  by_cases h1 : kind = 1
  · subst h1
    have hw := wordy_any (w.alloc (.cells #[.int .i64 1, .string s, .int .i64 line] 91)) s (by omega)
    by_cases hwd : wordyP s.data.toList = true
    · rw [hwd] at hw
      have HW := Lib.hid hw
      have HP : Hid (putV 1 s.data.toList = .tuple #[.string s, .int .i64 0]) := Lib.hid (by unfold putV putP_lexm; rw [if_pos rfl, if_pos hwd, str_of])
      clear hw hwd
      go_enter Tryd.func58, Tryd.ntmps58
      go_wp2_with fail
      refine HW.out.mono ?_
      rintro e w2 ⟨rfl, k2⟩
      obtain ⟨c0, c1, c2⟩ := (Blk.keeps HB k2 id).cells3
      go_wp2_with fail
      go_ret2
      exact ⟨by rw [HP.out]; rfl, hk1.trans k2⟩
    · have hwf : wordyP s.data.toList = false := by simpa using hwd
      rw [hwf] at hw
      have HW := Lib.hid hw
      have HP : Hid (putV 1 s.data.toList = .tuple #[.string ⟨#[]⟩, .int .i64 3]) := Lib.hid (by unfold putV putP_lexm; rw [if_pos rfl, if_neg hwd]; rfl)
      clear hw hwd hwf
      go_enter Tryd.func58, Tryd.ntmps58
      go_wp2_with fail
      refine HW.out.mono ?_
      rintro e w2 ⟨rfl, k2⟩
      go_wp2_with fail
      go_ret2
      exact ⟨by rw [HP.out]; rfl, hk1.trans k2⟩
  · by_cases h2 : kind = 2
    · subst h2
      have hq := quoted_any (w.alloc (.cells #[.int .i64 2, .string s, .int .i64 line] 91)) s hs
      by_cases hsn : s.data.toList.all seenB = true
      · rw [hsn, if_pos rfl] at hq
        have HQ := Lib.hid hq
        have HP : Hid (putV 2 s.data.toList = .tuple #[.string (str (34 :: (quotedP s.data.toList ++ [34]))), .int .i64 0]) := Lib.hid (by unfold putV putP_lexm; rw [if_neg (by decide), if_pos rfl, if_pos hsn])
        clear hq hsn h1
        go_enter Tryd.func58, Tryd.ntmps58
        go_wp2_with fail
        refine HQ.out.mono ?_
        rintro e w2 ⟨rfl, k2⟩
        go_wp2_with fail
        go_ret2
        exact ⟨by rw [HP.out]; rfl, hk1.trans k2⟩
      · have hsf : s.data.toList.all seenB = false := by simpa using hsn
        rw [hsf] at hq
        have HQ := Lib.hid hq
        have HP : Hid (putV 2 s.data.toList = .tuple #[.string ⟨#[]⟩, .int .i64 3]) := Lib.hid (by unfold putV putP_lexm; rw [if_neg (by decide), if_pos rfl, hsf]; rfl)
        clear hq hsn hsf h1
        go_enter Tryd.func58, Tryd.ntmps58
        go_wp2_with fail
        refine HQ.out.mono ?_
        rintro e w2 ⟨rfl, k2⟩
        go_wp2_with fail
        go_ret2
        exact ⟨by rw [HP.out]; rfl, hk1.trans k2⟩
    · have b1 : (kind == 1) = false := by simpa using h1
      have b2 : (kind == 2) = false := by simpa using h2
      by_cases h3 : 3 ≤ kind ∧ kind ≤ 5
      · have h35 : kind = 3 ∨ kind = 4 ∨ kind = 5 := by omega
        by_cases h0 : s.data.toList = []
        · obtain rfl : s = ⟨#[]⟩ := ba_ext h0
          clear h1 h2 h3 h0 b1 b2
          rcases h35 with rfl | rfl | rfl
          all_goals
            go_enter Tryd.func58, Tryd.ntmps58
            go_wp2_with fail
            go_ret2
            exact ⟨rfl, hk1⟩
        · have hne := ne_nil h0
          have HP : Hid (putV kind s.data.toList = .tuple #[.string ⟨#[]⟩, .int .i64 3]) := Lib.hid (by unfold putV putP_lexm; rw [if_neg h1, if_neg h2, if_pos h3, if_neg h0]; rfl)
          clear h1 h2 h3 h0 b1 b2
          rcases h35 with rfl | rfl | rfl
          all_goals
            go_enter Tryd.func58, Tryd.ntmps58
            go_wp2_with fail
            go_ret2
            exact ⟨by rw [HP.out]; rfl, hk1⟩
      · have b3 : (kind == 3) = false := by rw [beq_eq_false_iff_ne]; omega
        have b4 : (kind == 4) = false := by rw [beq_eq_false_iff_ne]; omega
        have b5 : (kind == 5) = false := by rw [beq_eq_false_iff_ne]; omega
        have HP : Hid (putV kind s.data.toList = .tuple #[.string ⟨#[]⟩, .int .i64 1]) := Lib.hid (by unfold putV putP_lexm; rw [if_neg h1, if_neg h2, if_neg h3]; rfl)
        clear h1 h2 h3
        go_enter Tryd.func58, Tryd.ntmps58
        go_wp2_with fail
        go_ret2
        exact ⟨by rw [HP.out]; rfl, hk1⟩
end Go.Proofs.YtemjbblehiaobaaDoor
