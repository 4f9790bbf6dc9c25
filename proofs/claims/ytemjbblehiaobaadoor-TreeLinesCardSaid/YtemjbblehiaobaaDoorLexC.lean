/-
  lex's reader: a word, a quote, a piece.
-/
import Derived.Test.YtemjbblehiaobaaDoorLexB
namespace Go.Proofs.YtemjbblehiaobaaDoor
open Go.RowKit

theorem while_take (l : List UInt8) (k : Nat) (h1 : ∀ c ∈ l.take k, plainB c = true) (h2 : ∀ c, l[k]? = some c → plainB c = false) : l.takeWhile plainB = l.take k ∧ l.dropWhile plainB = l.drop k := by
  induction l generalizing k with
  | nil => simp
  | cons c t ih =>
    cases k with
    | zero =>
      have := h2 c rfl
      simp [this]
    | succ k =>
      have hc := h1 c (by simp)
      have := ih k (fun d hd => h1 d (by simp [hd])) (fun d hd => h2 d (by simpa using hd))
      simp [hc, this.1, this.2]
theorem str_take (l : List UInt8) (k : Nat) : (str l).extract 0 k = str (l.take k) := by
  apply ba_ext; simp [str]

/-- what one, word and quote do to a reader: a piece is taken, or none is there -/
def RdPost (O : Option (Int × List UInt8 × List UInt8)) (w : World) (g : Nat) (rest : List UInt8) (line : Int) (v : Value) (xs : List Pc) (e : Ending) (w' : World) : Prop :=
  (∀ k tx rs, O = some (k, tx, rs) → e = .returned (.bool true) ∧ ∃ v', IsReader w' g rs line v' (xs ++ [⟨k, str tx, line⟩])) ∧
  (O = none → e = .returned (.bool false) ∧ IsReader w' g rest line v xs) ∧ Keeps (fun i => g ≤ i) w w'

set_option maxRecDepth 100000 in
set_option maxHeartbeats 1000000 in
theorem word_rd (w : World) (g : Nat) (rest : List UInt8) (line : Int) (v : Value) (xs : List Pc) (h : IsReader w g rest line v xs) (hr : rest.length ≤ 1073741824) (hx : xs.length ≤ 1073741824) :
    Calls Tryd.prog 38 #[.pointer (some ⟨g, 0, none⟩)] w fun e w' => e = .returned (.tuple #[]) ∧ (∃ v', IsReader w' g (rest.dropWhile plainB) line v' (xs ++ [⟨1, str (rest.takeWhile plainB), line⟩])) ∧ Keeps (fun i => g ≤ i) w w' := by
  have H := Lib.hid h
  obtain ⟨c0, c1, c2⟩ := h.1.cells3
  have hsz : (str rest).size = rest.length := rfl
  clear h
  go_enter Tryd.func38, Tryd.ntmps38
  go_wp2_with fail
  go_loop [2] (fun u2 => ∃ k : Nat, k ≤ rest.length ∧ u2 = .int .i64 k ∧ ∀ c ∈ rest.take k, plainB c = true) (fun u2 => rest.length - (intOf u2).toNat)
  case atStart => exact ⟨0, Nat.zero_le _, rfl, by simp⟩
  case round =>
    obtain ⟨k, hk, rfl, hall⟩ := hrel
    have HA := Lib.hid hall
    clear hall
    have hend : Hid ((∀ c, rest[k]? = some c → plainB c = false) → rest.takeWhile plainB = rest.take k ∧ rest.dropWhile plainB = rest.drop k) := Lib.hid (while_take rest k HA.out)
    have htk := str_take rest k
    by_cases hp : k < rest.length
    · obtain ⟨c, hc⟩ : ∃ c, rest[k]? = some c := ⟨_, List.getElem?_eq_getElem hp⟩
      have hsc : ∀ h, (str rest)[k]'h = c := fun h => by
        have := (List.getElem?_eq_some_iff.1 hc).2
        rw [← this]; rfl
      have HC := Lib.hid hc
      have hcl := UInt8.toNat_lt c
      have hq := fun w => plain_any w c.toNat (by omega)
      clear hc
      by_cases hpl : plainB c = true
      · rw [show plainN c.toNat = true from hpl] at hq
        have HQ := Lib.hid hq
        have HPL := Lib.hid hpl
        clear hq hpl htk
        go_wp2_with (go_at_call 37; go_must (refine (HQ.out _).mono ?_; rintro e w2 ⟨rfl, rfl⟩))
        go_round
        case rel =>
          refine ⟨k + 1, by omega, by go_num, ?_⟩
          intro d hd
          rw [List.take_add_one, HC.out] at hd
          rcases List.mem_append.1 hd with hd | hd
          · exact HA.out d hd
          · rw [Option.toList_some, List.mem_singleton] at hd; subst hd; exact HPL.out
        case measure => simp [intOf] <;> omega
      · have hpf : plainB c = false := by simpa using hpl
        have hE := hend.out (fun d hd => by rw [HC.out] at hd; injection hd with hd; subst hd; exact hpf)
        have HE := Lib.hid hE
        rw [show plainN c.toNat = false from hpf] at hq
        have HQ := Lib.hid hq
        clear hq hpl hpf hE
        go_wp2_with (go_at_call 37; go_must (refine (HQ.out _).mono ?_; rintro e w2 ⟨rfl, rfl⟩))
        refine (rdput_any _ g rest line v xs H 1 _ k (by omega) (by omega) hx).mono ?_
        rintro e w3 ⟨rfl, hI, k3⟩
        go_wp2_with fail
        refine bodyPost_end (results_none rfl _ _ _) rfl ⟨rfl, ?_, k3⟩
        rw [HE.out.1, HE.out.2]; exact hI
    · have hE := hend.out (fun d hd => by have := (List.getElem?_eq_some_iff.1 hd).1; omega)
      have HE := Lib.hid hE
      clear hE
      go_wp2_with fail
      refine (rdput_any _ g rest line v xs H 1 _ k (by omega) (by omega) hx).mono ?_
      rintro e w3 ⟨rfl, hI, k3⟩
      go_wp2_with fail
      refine bodyPost_end (results_none rfl _ _ _) rfl ⟨rfl, ?_, k3⟩
      rw [HE.out.1, HE.out.2]; exact hI

set_option maxRecDepth 100000 in
set_option maxHeartbeats 4000000 in
theorem quote_rd (w : World) (g : Nat) (t : List UInt8) (line : Int) (v : Value) (xs : List Pc) (h : IsReader w g (34 :: t) line v xs) (hr : t.length ≤ 1073741824) (hx : xs.length ≤ 1073741824) :
    Calls Tryd.prog 36 #[.pointer (some ⟨g, 0, none⟩)] w fun e w' => RdPost ((quoteP [] t).map fun x => (2, x.1, x.2)) w g (34 :: t) line v xs e w' := by
  obtain ⟨rest, hrest⟩ : ∃ rest, rest = (34 : UInt8) :: t := ⟨_, rfl⟩
  obtain ⟨Q, hQ⟩ : ∃ Q, Q = quoteP [] t := ⟨_, rfl⟩
  have hdr1 : rest.drop 1 = t := by rw [hrest]; rfl
  have hrl : rest.length = t.length + 1 := by rw [hrest]; rfl
  rw [← hrest] at h ⊢
  rw [← hQ]
  have H := Lib.hid h
  have HQ : Hid (quoteP [] (rest.drop 1) = Q) := Lib.hid (by rw [hdr1, hQ])
  have hsz : (str rest).size = rest.length := rfl
  have hrl1 : 1 ≤ rest.length := by omega
  have hrl2 : rest.length ≤ 1073741825 := by omega
  have hgl := h.1.lt
  clear hrest hdr1 hrl hQ h hr
  go_enter Tryd.func36, Tryd.ntmps36
  go_wp2_with fail
  go_loopw [3, 4] (fun u3 u4 wr => ∃ (k : Nat) (acc : List UInt8), 1 ≤ k ∧ k ≤ rest.length ∧ u4 = .int .i64 k ∧ acc.length ≤ k ∧ quoteP acc (rest.drop k) = Q ∧ OwnL wr w.heap.size 5 u3 (u8Vs acc) ∧ Keeps (fun _ => False) w wr) (fun _ u4 _ => rest.length - (intOf u4).toNat)
  case atStart => exact ⟨1, [], by omega, hrl1, rfl, by simp, HQ.out, OwnL.none_ _ _ _, Keeps.refl _ _⟩
  case round =>
    obtain ⟨k, acc, hk1, hk, rfl, hal, hq, hO, hK⟩ := hrel
    have HQK := Lib.hid hq
    have HO := Lib.hid hO
    have HI : Hid (IsReader wr g rest line v xs) := Lib.hid ⟨H.out.1.keeps hK id, H.out.2.keeps hK (fun _ _ _ _ => id)⟩
    obtain ⟨c0, c1, c2⟩ := HI.out.1.cells3
    obtain ⟨av, cv, rfl⟩ := OwnL.sl' hO
    rw [u8Vs_len] at hO ⊢
    have HO := Lib.hid hO
    have hsz2 := hK.size
    clear hq hO
    by_cases hp : k < rest.length
    · obtain ⟨c, hc⟩ : ∃ c, rest[k]? = some c := ⟨_, List.getElem?_eq_getElem hp⟩
      have hsc : ∀ h, (str rest)[k]'h = c := fun h => by
        have := (List.getElem?_eq_some_iff.1 hc).2
        rw [← this]; rfl
      have hdk := HQK.out
      rw [drop_at' hc, quoteP_cons] at hdk
      have HDK := Lib.hid hdk
      clear hdk hc
      by_cases h34 : c.toNat = 34
      · obtain rfl : c = 34 := UInt8.toNat_inj.1 (by simpa using h34)
        have hQ : Hid (Q = some (acc, rest.drop (k + 1))) := Lib.hid (by have := HDK.out; rw [if_pos (by decide)] at this; exact this.symm)
        clear h34
        go_wp2_with (with_reducible show wpList _ _ _ (⟨some 30, _, _, _, _, _⟩ :: _) _ _; go_must (refine wpList_string_own rfl (.tmp 29) 58 9 rfl 5 Tryd.underlying58 Tryd.underlying5 Tryd.underlying9 w.heap.size (.slice av acc.length cv) acc rfl (by have := HO.out; unfold u8Vs at this; exact this) ?_))
        refine (rdput_any wr g rest line v xs HI 2 (str acc) _ (by omega) (by omega) hx).mono ?_
        rintro e w3 ⟨rfl, hI3, k3⟩
        have HI3 := Lib.hid hI3
        clear hI3
        go_wp2_with fail
        go_ret
        refine ⟨?_, ?_, hK.none_.trans k3⟩
        · intro k' tx rs he
          rw [hQ.out] at he
          injection he with he
          injection he with h1 he
          injection he with h2 h3
          subst h1 h2 h3
          exact ⟨rfl, by have := HI3.out; rw [show ((k : Int) + 1).toNat = k + 1 by omega] at this; exact this⟩
        · intro he; rw [hQ.out] at he; cases he
      · have b34 : ((c.toNat : Int) == 34) = false := by rw [beq_eq_false_iff_ne]; omega
        by_cases h92 : c.toNat = 92
        · obtain rfl : c = 92 := UInt8.toNat_inj.1 (by simpa using h92)
          by_cases hp2 : k + 1 < rest.length
          · obtain ⟨d, hd⟩ : ∃ d, rest[k + 1]? = some d := ⟨_, List.getElem?_eq_getElem hp2⟩
            have hsd : ∀ h, (str rest)[k + 1]'h = d := fun h => by
              have := (List.getElem?_eq_some_iff.1 hd).2
              rw [← this]; rfl
            have hdd := HDK.out
            rw [if_neg h34, if_pos (by decide), drop_at' hd] at hdd
            have HDD := Lib.hid hdd
            clear hdd hd h34 h92
            by_cases he : d.toNat = 34 ∨ d.toNat = 92
            · have HQ2 : Hid (quoteP (acc ++ [d]) (rest.drop (k + 2)) = Q) := Lib.hid (by have := HDD.out; simp only [if_pos he] at this; exact this)
              rcases he with he | he
              · obtain rfl : d = 34 := UInt8.toNat_inj.1 (by simpa using he)
                clear he
                go_wp2_with (with_reducible show wpList _ _ _ (⟨some 77, _, _, _, _, _⟩ :: _) _ _; go_must (refine wpList_append_onet rfl (.tmp 69) (.tmp 76) 58 rfl w.heap.size 5 (.int .u8 0) 1 Tryd.underlying58 (by kernel_rfl) rfl (by omega) _ (u8Vs acc) rfl (OwnL.keepsT (S := fun _ => False) HO.out ((Keeps.refl _ _).alloc _) (fun _ _ _ => id)) ⟨wr.heap.size, 0, none⟩ 1 (.int .u8 34) rfl ((Blk.new _ _ _).cell 0) rfl (by rw [u8Vs_len]; omega) (by simp; omega) ?_; intro v7 w7 O7 k7))
                go_roundw
                case rel => exact ⟨k + 2, acc ++ [34], by omega, by omega, by go_num, by simp; omega, HQ2.out, by have := O7; simpa [u8Vs] using this, hK.and_ (grow_alloc _ k7) (fun i hi h => by omega)⟩
                case measure => simp [intOf] <;> omega
              · obtain rfl : d = 92 := UInt8.toNat_inj.1 (by simpa using he)
                clear he
                go_wp2_with (with_reducible show wpList _ _ _ (⟨some 77, _, _, _, _, _⟩ :: _) _ _; go_must (refine wpList_append_onet rfl (.tmp 69) (.tmp 76) 58 rfl w.heap.size 5 (.int .u8 0) 1 Tryd.underlying58 (by kernel_rfl) rfl (by omega) _ (u8Vs acc) rfl (OwnL.keepsT (S := fun _ => False) HO.out ((Keeps.refl _ _).alloc _) (fun _ _ _ => id)) ⟨wr.heap.size, 0, none⟩ 1 (.int .u8 92) rfl ((Blk.new _ _ _).cell 0) rfl (by rw [u8Vs_len]; omega) (by simp; omega) ?_; intro v7 w7 O7 k7))
                go_roundw
                case rel => exact ⟨k + 2, acc ++ [92], by omega, by omega, by go_num, by simp; omega, HQ2.out, by have := O7; simpa [u8Vs] using this, hK.and_ (grow_alloc _ k7) (fun i hi h => by omega)⟩
                case measure => simp [intOf] <;> omega
            · have hQN : Hid (Q = none) := Lib.hid (by have := HDD.out; simp only [if_neg he] at this; exact this.symm)
              have e1 : ((d.toNat : Int) == 34) = false := by rw [beq_eq_false_iff_ne]; omega
              have e2 : ((d.toNat : Int) == 92) = false := by rw [beq_eq_false_iff_ne]; omega
              clear he
              go_wp2_with fail
              go_ret
              refine ⟨fun k' tx rs he => (by rw [hQN.out] at he; cases he), fun _ => ⟨rfl, HI.out⟩, hK.none_⟩
          · have hQN : Hid (Q = none) := Lib.hid (by
              have := HDK.out
              rw [if_neg h34, if_pos (by decide), List.drop_of_length_le (by omega)] at this; exact this.symm)
            clear h34 h92
            go_wp2_with fail
            go_ret
            refine ⟨fun k' tx rs he => (by rw [hQN.out] at he; cases he), fun _ => ⟨rfl, HI.out⟩, hK.none_⟩
        · have b92 : ((c.toNat : Int) == 92) = false := by rw [beq_eq_false_iff_ne]; omega
          by_cases hbad : c.toNat < 32 ∨ 126 < c.toNat
          · have hQN : Hid (Q = none) := Lib.hid (by have := HDK.out; rw [if_neg h34, if_neg h92, if_pos hbad] at this; exact this.symm)
            clear h34 h92
            rcases hbad with hb | hb
            all_goals
              go_wp2_with fail
              go_ret
              refine ⟨fun k' tx rs he => (by rw [hQN.out] at he; cases he), fun _ => ⟨rfl, HI.out⟩, hK.none_⟩
          · have HQ2 : Hid (quoteP (acc ++ [c]) (rest.drop (k + 1)) = Q) := Lib.hid (by have := HDK.out; rw [if_neg h34, if_neg h92, if_neg hbad] at this; exact this)
            have hb1 : 32 ≤ c.toNat := by omega
            have hb2 : c.toNat ≤ 126 := by omega
            clear h34 h92 hbad
            go_wp2_with (with_reducible show wpList _ _ _ (⟨some 24, _, _, _, _, _⟩ :: _) _ _; go_must (refine wpList_append_onet rfl (.tmp 21) (.tmp 23) 58 rfl w.heap.size 5 (.int .u8 0) 1 Tryd.underlying58 (by kernel_rfl) rfl (by omega) _ (u8Vs acc) rfl (OwnL.keepsT (S := fun _ => False) HO.out ((Keeps.refl _ _).alloc _) (fun _ _ _ => id)) ⟨wr.heap.size, 0, none⟩ 1 (.int .u8 c.toNat) rfl ((Blk.new _ _ _).cell 0) rfl (by rw [u8Vs_len]; omega) (by simp; omega) ?_; intro v7 w7 O7 k7))
            go_roundw
            case rel => exact ⟨k + 1, acc ++ [c], by omega, by omega, by go_num, by simp; omega, HQ2.out, by have := O7; simpa [u8Vs] using this, hK.and_ (grow_alloc _ k7) (fun i hi h => by omega)⟩
            case measure => simp [intOf] <;> omega
    · have hQN : Hid (Q = none) := Lib.hid (by have := HQK.out; rw [List.drop_of_length_le (by omega), quoteP_nil] at this; exact this.symm)
      go_wp2_with fail
      go_ret
      refine ⟨fun k' tx rs he => (by rw [hQN.out] at he; cases he), fun _ => ⟨rfl, HI.out⟩, hK.none_⟩
end Go.Proofs.YtemjbblehiaobaaDoor
