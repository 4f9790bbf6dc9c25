/-
  The document's pieces (wheelhouseref12): Read; and when pieces are the same (wheelhouselaw12.Same).
-/
import Derived.Test.YtfpajgmdejlaeaaGreatDoorQLexRC
namespace Go.Proofs.YtfpajgmdejlaeaaGreatDoor
open Go.RowKit

theorem skipP_suf (l : List UInt8) : ∀ (note : Bool) (ln : Int), (skipP note ln l).2 <:+ l := by
  induction l with
  | nil => intro note ln; rw [skipP_nil]; exact List.suffix_refl _
  | cons c t ih =>
    intro note ln
    rw [skipP_cons]
    split
    · exact (ih _ _).trans (List.suffix_cons c t)
    · split
      · exact (ih _ _).trans (List.suffix_cons c t)
      · split
        · exact (ih _ _).trans (List.suffix_cons c t)
        · exact List.suffix_refl _
theorem quoteP_suf : ∀ (l acc : List UInt8) (x : List UInt8 × List UInt8), quoteP acc l = some x → x.2 <:+ l
  | [], acc, x, h => by simp [quoteP] at h
  | c :: t, acc, x, h => by
    rw [quoteP_cons] at h
    split at h
    · injection h with h; subst h; exact List.suffix_cons c t
    · split at h
      · match t, h with
        | [], h => simp at h
        | d :: u, h =>
          simp only at h
          split at h
          · exact ((quoteP_suf u (acc ++ [d]) x h).trans (List.suffix_cons d u)).trans (List.suffix_cons c _)
          · simp at h
      · split at h
        · simp at h
        · exact (quoteP_suf t (acc ++ [c]) x h).trans (List.suffix_cons c t)
theorem oneP_suf (l : List UInt8) (k : Int) (t r : List UInt8) (h : oneP l = some (k, t, r)) : r <:+ l := by
  cases l with
  | nil => simp [oneP] at h
  | cons c u =>
    rw [oneP_cons] at h
    repeat' (split at h)
    all_goals first | (simp at h; done) | skip
    · injection h with h; injection h with _ h; injection h with h1 h2; subst h1 h2; exact List.suffix_cons c u
    · injection h with h; injection h with _ h; injection h with h1 h2; subst h1 h2; exact List.suffix_cons c u
    · injection h with h; injection h with _ h; injection h with h1 h2; subst h1 h2; exact List.suffix_cons c u
    · rw [Option.map_eq_some_iff] at h
      obtain ⟨x, hx, h⟩ := h
      injection h with _ h; injection h with h1 h2; subst h1 h2
      exact (quoteP_suf u [] x hx).trans (List.suffix_cons c u)
    · injection h with h; injection h with _ h; injection h with h1 h2; subst h1 h2
      exact List.dropWhile_suffix _

/-- what is read behind what was skipped -/
def stepLx (ln2 : Int) (l2 : List UInt8) (out : List Pc) : (Int × Int) ⊕ List Pc := if l2 = [] then .inr out else if out.length = 8192 then .inl (15, ln2) else match oneP l2 with
      | none => .inl (3, ln2)
      | some (k, t, r) => readP (r.length + 1) ln2 r (out ++ [⟨k, str t, ln2⟩])
/-- what the document's Read hands back -/
def RReadPost (O : (Int × Int) ⊕ List Pc) (w : World) (e : Ending) (w' : World) : Prop :=
  (∀ xs, O = .inr xs → ∃ v, e = .returned (.tuple #[v, .int .i64 0, .int .i64 0]) ∧ OwnS pcR 3 w' w.heap.size 122 v xs) ∧
  (∀ c n, O = .inl (c, n) → e = .returned (.tuple #[.slice none 0 0, .int .i64 c, .int .i64 n])) ∧ Keeps (fun _ => False) w w'

set_option maxRecDepth 100000 in
set_option maxHeartbeats 2000000 in
theorem rread_any (w : World) (s : ByteArray) (hs : s.size ≤ 1073741820) :
    Calls Tryz.prog 65 #[.string s] w fun e w' => RReadPost (lexP s.data.toList) w e w' := by
  have hl : s.data.toList.length = s.size := by simp
  obtain ⟨O, hO⟩ : ∃ O, O = lexP s.data.toList := ⟨_, rfl⟩
  rw [← hO]
  by_cases hbig : 65536 < s.size
  · have HO : Hid (O = .inl (5, 0)) := Lib.hid (by rw [hO]; unfold lexP; rw [if_pos (by omega)])
    clear hO
    go_enter Tryz.func65, Tryz.ntmps65
    go_wp2_with fail
    go_ret3
    refine ⟨fun xs he => ?_, fun c n he => ?_, Keeps.refl _ _⟩
    · rw [HO.out] at he; cases he
    · rw [HO.out] at he; injection he with he; injection he with h1 h2; subst h1 h2; rfl
  · have hrs := fun k0 ln0 => rskip_any w s k0 ln0 hs
    have hone := fun w k0 ln hk => rone_any w s k0 ln hs hk
    have hsk2 := fun w k0 ln0 => rskip_any w s k0 ln0 hs
    have hO2 : readP (s.size + 1) 1 s.data.toList [] = O := by rw [hO]; unfold lexP; rw [if_neg (by omega), hl]
    obtain ⟨l, hll⟩ : ∃ l, l = s.data.toList := ⟨_, rfl⟩
    rw [← hll] at hl hO2 hrs hone hsk2
    have hsz : s.size ≤ 65536 := by omega
    have HR0 := hrs 0 1 (by omega) (by omega) (by omega) (by omega)
    rw [show (0 : Int).toNat = 0 from rfl, List.drop_zero] at HR0
    obtain ⟨ln1, l1, hsk⟩ : ∃ ln2 l2, skipP false 1 l = (ln2, l2) := ⟨_, _, rfl⟩
    have hst : stepLx ln1 l1 [] = O := by rw [← hO2, ← hl]; exact (readP_step 1 l [] ln1 l1 hsk).symm
    have hsl := skipP_line l false 1
    have hsf := skipP_suf l false 1
    have hlen := skipP_len l false 1
    rw [hsk] at HR0 hsl hsf hlen
    simp only [] at HR0 hsl hsf hlen
    have hdr : l.drop (s.size - l1.length) = l1 := by rw [← hl]; exact (List.suffix_iff_eq_drop.1 hsf).symm
    rw [show (s.size : Int) - (l1.length : Int) = ((s.size - l1.length : Nat) : Int) by omega] at HR0
    have HRS := Lib.hid HR0
    have HST := Lib.hid hst
    have HDR := Lib.hid hdr
    have HONE := Lib.hid hone
    have HSK := Lib.hid hsk2
    clear hO hO2 hll hrs HR0 hst hsk hdr hone hsk2 hsf
    go_enter Tryz.func65, Tryz.ntmps65
    go_wp2_with (go_at_call 100; go_must (refine HRS.out.mono ?_; rintro e w2 ⟨rfl, rfl⟩))
    go_loopg [5, 6, 7] l1.length (fun k u5 u6 u7 wr => ∃ (ln : Int) (p : Nat) (xs : List Pc), k + p = s.size ∧ p ≤ s.size ∧ u6 = .int .i64 p ∧ u7 = .int .i64 ln ∧ 1 ≤ ln ∧ ln ≤ 1 + p ∧ xs.length ≤ p ∧ stepLx ln (l.drop p) xs = O ∧ OwnS pcR 3 wr w2.heap.size 122 u5 xs ∧ Keeps (fun _ => False) w2 wr)
    case atStart => exact ⟨ln1, s.size - l1.length, [], by omega, by omega, rfl, rfl, by omega, by omega, by simp, by rw [HDR.out]; exact HST.out, OwnS.none_, Keeps.refl _ _⟩
    case round =>
      obtain ⟨ln, p, xs, hkp, hp, rfl, rfl, hn1, hn2, hxl, hS, hO, hK⟩ := hrel
      have HS := Lib.hid hS
      obtain ⟨av, cv, rfl⟩ := OwnS.sl hO
      have HO := Lib.hid hO
      clear hS hO
      by_cases hlt : p < s.size
      · have hne : l.drop p ≠ [] := by intro e; have := congrArg List.length e; rw [List.length_drop] at this; simp at this; omega
        have hst := HS.out
        unfold stepLx at hst
        rw [if_neg hne] at hst
        have HS2 := Lib.hid hst
        clear hst hne
        by_cases h8 : xs.length = 8192
        · have hOr : Hid (O = .inl (15, ln)) := Lib.hid (by have := HS2.out; rw [if_pos h8] at this; exact this.symm)
          have h8' : ((xs.length : Int) == 8192) = true := by rw [beq_iff_eq]; omega
          clear h8 HS2
          go_wp2_with fail
          go_ret3
          refine ⟨fun xs he => ?_, fun c n he => ?_, hK⟩
          · rw [hOr.out] at he; cases he
          · rw [hOr.out] at he; injection he with he; injection he with h1 h2; subst h1 h2; rfl
        · have h8' : ((xs.length : Int) == 8192) = false := by rw [beq_eq_false_iff_ne]; omega
          have hst2 := HS2.out
          rw [if_neg h8] at hst2
          have HS3 := Lib.hid hst2
          have HON := Lib.hid (HONE.out wr p ln hlt)
          clear h8 hst2 HS2
          go_wp2_with fail
          refine HON.out.mono ?_
          rintro e w3 ⟨p1, p2, p3⟩
          have kk3 : Keeps (fun _ => False) w2 w3 := hK.trans p1
          cases hO1 : oneP (l.drop p) with
          | none =>
            obtain ⟨a, b, c, d, rfl⟩ := p3 hO1
            have hOr : Hid (O = .inl (3, ln)) := Lib.hid (by have := HS3.out; rw [hO1] at this; exact this.symm)
            clear p2 p3 hO1
            go_wp2_with fail
            go_ret3
            refine ⟨fun xs he => ?_, fun c n he => ?_, kk3.alloc _⟩
            · rw [hOr.out] at he; cases he
            · rw [hOr.out] at he; injection he with he; injection he with h1 h2; subst h1 h2; rfl
          | some x =>
            obtain ⟨k, tx, r⟩ := x
            obtain rfl := p2 k tx r hO1
            have hrl := (oneP_len _ k tx r hO1).1
            have hrs := oneP_suf _ k tx r hO1
            rw [List.length_drop] at hrl
            obtain ⟨q, hq⟩ : ∃ q : Nat, q = s.size - r.length := ⟨_, rfl⟩
            have hrd : l.drop q = r := by
              have := List.suffix_iff_eq_drop.1 (hrs.trans (List.drop_suffix p l))
              rw [hl] at this; rw [hq]; exact this.symm
            have hN : readP (r.length + 1) ln r (xs ++ [⟨k, str tx, ln⟩]) = O := by have := HS3.out; rw [hO1] at this; exact this
            obtain ⟨ln2, l2, hsk⟩ : ∃ ln2 l2, skipP false ln r = (ln2, l2) := ⟨_, _, rfl⟩
            rw [readP_step ln r _ ln2 l2 hsk] at hN
            have hsl := skipP_line r false ln
            have hsf := skipP_suf r false ln
            have hlen := skipP_len r false ln
            have hSK := fun w => HSK.out w q ln (by omega) (by omega) (by omega) (by omega)
            rw [Int.toNat_natCast, hrd] at hSK
            rw [hsk] at hsl hsf hlen hSK
            simp only [] at hsl hsf hlen hSK
            have hld : l.drop (s.size - l2.length) = l2 := by
              have := List.suffix_iff_eq_drop.1 (hsf.trans (hrs.trans (List.drop_suffix p l)))
              rw [hl] at this; exact this.symm
            rw [show (s.size : Int) - (r.length : Int) = ((q : Nat) : Int) by omega]
            simp only [show (s.size : Int) - (l2.length : Int) = ((s.size - l2.length : Nat) : Int) by omega] at hSK
            have HN : Hid (stepLx ln2 (l.drop (s.size - l2.length)) (xs ++ [⟨k, str tx, ln⟩]) = O) := Lib.hid (by rw [hld]; exact hN)
            have HSK2 := Lib.hid hSK
            have HOW := Lib.hid (OwnS.keeps (S := fun _ => False) HO.out p1 (fun _ _ _ _ => id))
            have hz3 := kk3.size
            clear p1 p2 p3 hO1 hrs hrd hN hsk hSK hld hsf hq
            go_wp2_with (first
              | (with_reducible show wpList _ _ _ (⟨some 41, _, _, _, _, _⟩ :: _) _ _; go_must (refine wpList_append_st pcR 3 pcR_len (by decide) rfl (.tmp 38) (.tmp 40) 117 rfl w2.heap.size 122 (.agg #[.int .i64 0, .string ⟨#[]⟩, .int .i64 0]) 32 Tryz.underlying117 (by kernel_rfl) rfl (by omega) _ xs rfl (OwnS.keeps (S := fun _ => False) HOW.out (((Keeps.refl _ _).alloc _).alloc _) (fun _ _ _ _ => id)) (w3.heap.size + 1) 1 ⟨k, str tx, ln⟩ rfl (Blk.new2 _ _ _ _) (pcR_one _) (by omega) (by simp; omega) ?_; intro v7 w7 O7 k7))
              | (go_at_call 100; go_must (refine (HSK2.out _).mono ?_; rintro e w8 ⟨rfl, rfl⟩)))
            have kk7 : Keeps (fun _ => False) w2 w8 := ((kk3.alloc _).alloc _).and_ k7 (fun i hi h => by omega)
            have OO := Lib.hid O7
            clear O7 k7
            go_roundg l2.length
            case measure => omega
            case rel => exact ⟨ln2, s.size - l2.length, _, by omega, by omega, rfl, rfl, by omega, by omega, by simp; omega, HN.out, OO.out, kk7⟩
      · have hke : p = s.size := by omega
        subst hke
        have hOr : Hid (O = .inr xs) := Lib.hid (by have := HS.out; rw [List.drop_of_length_le (by omega)] at this; exact this.symm)
        go_wp2_with fail
        go_ret3
        refine ⟨fun xs' he => ?_, fun c n he => ?_, hK⟩
        · rw [hOr.out] at he; injection he with he; subst he
          exact ⟨_, rfl, HO.out⟩
        · rw [hOr.out] at he; cases he
end Go.Proofs.YtfpajgmdejlaeaaGreatDoor
