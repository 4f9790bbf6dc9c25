/-
  lex's reader: what is left of a text, the line, and the pieces; skip, put, word, quote, one.
-/
import Derived.Test.YtemjbblehiaobaaDoorLexQ
import Derived.Test.YtemjbblehiaobaaDoorOwnS
import Derived.Deep.RegionLaw
namespace Go.Proofs.YtemjbblehiaobaaDoor
open Go.RowKit

/-- a reader -/
def IsReader (w : World) (g : Nat) (rest : List UInt8) (line : Int) (v : Value) (xs : List Pc) : Prop :=
  Blk w g 66 #[.string (str rest), .int .i64 line, v] ∧ OwnS pcR 3 w (g + 1) 91 v xs

theorem both {p q : Prop} (f : q → p) (h : q) : p ∧ q := ⟨f h, h⟩
theorem keeps_set {w : World} (g i : Nat) (u : Value) : Keeps (fun k => k = g) w (w.setCell ⟨g, i, none⟩ u) := Keeps.setCell (S := fun k => k = g) (p := ⟨g, i, none⟩) (Keeps.refl _ _) (fun _ => rfl) u
theorem IsReader.rest {w : World} {g : Nat} {rest : List UInt8} {line : Int} {v : Value} {xs : List Pc} (h : IsReader w g rest line v xs) (t : List UInt8) :
    IsReader (w.setCell ⟨g, 0, none⟩ (.string (str t))) g t line v xs :=
  ⟨by simpa using h.1.set_ 0 (.string (str t)), h.2.keeps (keeps_set g 0 _) (fun i hi _ _ e => by omega)⟩
theorem IsReader.line {w : World} {g : Nat} {rest : List UInt8} {line : Int} {v : Value} {xs : List Pc} (h : IsReader w g rest line v xs) (n : Int) :
    IsReader (w.setCell ⟨g, 1, none⟩ (.int .i64 n)) g rest n v xs :=
  ⟨by simpa using h.1.set_ 1 (.int .i64 n), h.2.keeps (keeps_set g 1 _) (fun i hi _ _ e => by omega)⟩
theorem str_at (c : UInt8) (t : List UInt8) (h : 0 < (str (c :: t)).size) : (str (c :: t))[0] = c := rfl
theorem drop_at' {α : Type} {l : List α} {k : Nat} {x : α} (h : l[k]? = some x) : l.drop k = x :: l.drop (k + 1) := by
  obtain ⟨hk, he⟩ := List.getElem?_eq_some_iff.1 h
  rw [List.drop_eq_getElem_cons hk, he]
theorem str_drop (l : List UInt8) (k : Nat) : (str l).extract k (str l).size = str (l.drop k) := ba_ext (ext_list (str l) k)
theorem str_nil : (str ([] : List UInt8)).toList = [] := by rw [ByteArray.toList_eq]; rfl
theorem str_ne {c : UInt8} {t : List UInt8} : (str (c :: t)).toList.isEmpty = false := ne_nil (by rw [str_list]; simp)

set_option maxRecDepth 100000 in
set_option maxHeartbeats 1000000 in
theorem skip_any (w : World) (g : Nat) (rest : List UInt8) (line : Int) (v : Value) (xs : List Pc) (h : IsReader w g rest line v xs) (hr : rest.length ≤ 1073741824) (hl0 : 0 ≤ line) (hl : line ≤ 1073741824) :
    Calls Tryd.prog 23 #[.pointer (some ⟨g, 0, none⟩)] w fun e w' => e = .returned (.tuple #[]) ∧ IsReader w' g (skipP false line rest).2 (skipP false line rest).1 v xs ∧ Keeps (fun i => i = g) w w' := by
  obtain ⟨R, hR⟩ : ∃ R, R = skipP false line rest := ⟨_, rfl⟩
  rw [← hR]
  have HR := Lib.hid hR
  have H := Lib.hid h
  clear hR h
  go_enter Tryd.func23, Tryd.ntmps23
  go_wp2_with fail
  go_loopg [2] rest.length (fun k u2 wr => ∃ (note : Bool) (ln : Int) (rs : List UInt8), k = rs.length ∧ u2 = .bool note ∧ 0 ≤ ln ∧ ln + rs.length ≤ line + rest.length ∧ rs.length ≤ rest.length ∧ skipP note ln rs = R ∧ IsReader wr g rs ln v xs ∧ Keeps (fun i => i = g) w wr)
  case atStart => exact ⟨false, line, rest, rfl, rfl, hl0, by omega, by omega, HR.out.symm, H, Keeps.refl _ _⟩
  case round =>
    obtain ⟨note, ln, rs, rfl, rfl, hn0, hln, hlen, hS, hI, hK⟩ := hrel
    have HS := Lib.hid hS
    obtain ⟨hb, hO⟩ := hI
    obtain ⟨c0, c1, c2⟩ := hb.cells3
    have f0 := hb.frozen 0
    have f1 := hb.frozen 1
    have HB := Lib.hid hb
    have HO := Lib.hid hO
    clear hS hb hO
    cases rs with
    | nil =>
      have hnil := str_nil
      go_wp2_with fail
      refine bodyPost_end (results_none rfl _ _ _) rfl ⟨rfl, ?_, hK⟩
      have := HS.out
      simp only [skipP] at this
      rw [← this]; exact ⟨HB, HO⟩
    | cons c t =>
      have hat := str_at c t
      have hdr := str_drop (c :: t) 1
      rw [List.drop_succ_cons, List.drop_zero] at hdr
      have hne : (str (c :: t)).toList.isEmpty = false := str_ne
      have hsz : (str (c :: t)).size = t.length + 1 := rfl
      rw [hsz] at hdr
      rw [List.length_cons] at hln hlen
      have hbl := fun w => blank_any w c
      by_cases h10 : c.toNat = 10
      · obtain rfl : c = 10 := UInt8.toNat_inj.1 (by simpa using h10)
        have HS2 : Hid (skipP false (ln + 1) t = R) := Lib.hid (by have := HS.out; rw [skipP, if_pos (by decide)] at this; exact this)
        clear h10 hbl
        go_wp2_with fail
        go_roundg t.length
        case measure => simp
        case rel =>
          exact ⟨false, ln + 1, t, rfl, rfl, by omega, by omega, by omega, HS2.out, (IsReader.line ⟨HB.out, HO.out⟩ (ln + 1)).rest t, (hK.setCell (fun _ => rfl) _).setCell (fun _ => rfl) _⟩
      · have h10' : ((c.toNat : Int) == 10) = false := by rw [beq_eq_false_iff_ne]; omega
        by_cases hnb : (note || blankB c) = true
        · have HS2 : Hid (skipP note ln t = R) := Lib.hid (by have := HS.out; rw [skipP, if_neg h10, if_pos hnb] at this; exact this)
          have hstep := IsReader.rest ⟨HB.out, HO.out⟩ t
          have HST := Lib.hid hstep
          clear hstep h10
          cases note with
          | true =>
            clear hnb hbl
            go_wp2_with fail
            go_roundg t.length
            case measure => simp
            case rel => exact ⟨true, ln, t, rfl, rfl, by omega, by omega, by omega, HS2.out, HST.out, hK.setCell (fun _ => rfl) _⟩
          | false =>
            have hbt : blankB c = true := by simpa using hnb
            rw [hbt] at hbl
            have HBL := Lib.hid hbl
            clear hnb hbl hbt
            go_wp2_with (go_at_call 34; go_must (refine (HBL.out _).mono ?_; rintro e w2 ⟨rfl, rfl⟩))
            go_roundg t.length
            case measure => simp
            case rel => exact ⟨false, ln, t, rfl, rfl, by omega, by omega, by omega, HS2.out, HST.out, hK.setCell (fun _ => rfl) _⟩
        · have hnf : note = false ∧ blankB c = false := by simpa using hnb
          obtain ⟨rfl, hbt⟩ := hnf
          rw [hbt] at hbl
          have HBL := Lib.hid hbl
          by_cases h35 : c.toNat = 35
          · have HS2 : Hid (skipP true ln t = R) := Lib.hid (by have := HS.out; rw [skipP, if_neg h10, if_neg hnb, if_pos h35] at this; exact this)
            obtain rfl : c = 35 := UInt8.toNat_inj.1 (by simpa using h35)
            have hstep := IsReader.rest ⟨HB.out, HO.out⟩ t
            have HST := Lib.hid hstep
            clear hstep h10 hnb hbl hbt h35
            go_wp2_with (go_at_call 34; go_must (refine (HBL.out _).mono ?_; rintro e w2 ⟨rfl, rfl⟩))
            go_roundg t.length
            case measure => simp
            case rel => exact ⟨true, ln, t, rfl, rfl, by omega, by omega, by omega, HS2.out, HST.out, hK.setCell (fun _ => rfl) _⟩
          · have HS2 : Hid ((ln, c :: t) = R) := Lib.hid (by have := HS.out; rw [skipP, if_neg h10, if_neg hnb, if_neg h35] at this; exact this)
            have h35' : ((c.toNat : Int) == 35) = false := by rw [beq_eq_false_iff_ne]; omega
            clear h10 hnb hbl hbt h35
            go_wp2_with (go_at_call 34; go_must (refine (HBL.out _).mono ?_; rintro e w2 ⟨rfl, rfl⟩))
            refine bodyPost_ret (results_none rfl _ _ _) rfl ⟨rfl, ?_, hK⟩
            rw [← HS2.out]; exact ⟨HB, HO⟩

set_option maxRecDepth 100000 in
set_option maxHeartbeats 1000000 in
theorem rdput_any (w : World) (g : Nat) (rest : List UInt8) (line : Int) (v : Value) (xs : List Pc) (h : IsReader w g rest line v xs) (kind : Int) (s : ByteArray) (n : Int) (hn0 : 0 ≤ n) (hn : n ≤ rest.length) (hx : xs.length ≤ 1073741824) :
    Calls Tryd.prog 35 #[.pointer (some ⟨g, 0, none⟩), .int .i64 kind, .string s, .int .i64 n] w fun e w' => e = .returned (.tuple #[]) ∧ (∃ v', IsReader w' g (rest.drop n.toNat) line v' (xs ++ [⟨kind, s, line⟩])) ∧ Keeps (fun i => g ≤ i) w w' := by
  obtain ⟨hb, hO⟩ := h
  obtain ⟨c0, c1, c2⟩ := hb.cells3
  have f0 := hb.frozen 0
  have f2 := hb.frozen 2
  have hdr := str_drop rest n.toNat
  have hsz : (str rest).size = rest.length := rfl
  rw [hsz] at hdr
  obtain ⟨av, cv, rfl⟩ := OwnS.sl hO
  have HB := Lib.hid hb
  have HO := Lib.hid hO
  have hgl := hb.lt
  clear hb hO
  go_enter Tryd.func35, Tryd.ntmps35
  go_wp2_with fail
  have hcw : ∀ w', Keeps (fun i => g < i) w w' → w'.cell? ⟨g, 1, none⟩ = some (.int .i64 line) ∧ w'.cell? ⟨g, 2, none⟩ = some (.slice av xs.length cv) ∧ w'.frozen? ⟨g, 2, none⟩ = false ∧ w'.cell? ⟨g, 0, none⟩ = some (.string (str rest)) ∧ w'.frozen? ⟨g, 0, none⟩ = false := fun w' kk => by
    have hb' := Blk.keeps HB kk (by omega)
    exact ⟨hb'.cell 1, hb'.cell 2, hb'.frozen 2, hb'.cell 0, hb'.frozen 0⟩
  have HCW := Lib.hid hcw
  clear hcw
  have hne : g ≠ w.heap.size := by omega
  go_region_law ((refine step_append_st pcR 3 pcR_len (by decide) rfl _ _ _ rfl (g + 1) 91 (.agg #[.int .i64 0, .string ⟨#[]⟩, .int .i64 0]) 32 Tryd.underlying39 (by kernel_rfl) rfl (by omega) _ xs rfl (by exact OwnS.keeps (S := fun _ => False) HO.out (by (repeat (first | (with_reducible assumption) | (with_reducible exact Keeps.refl _ _) | refine Keeps.drew ?_ | refine Keeps.drewN ?_ _ | refine Keeps.setCell ?_ (by simp) _ | refine Keeps.setRow ?_ (by simp) _ | refine Keeps.alloc ?_ _))) (fun _ _ _ _ => id)) w.heap.size 1 ⟨kind, s, line⟩ rfl (by first | exact Blk.new _ _ _ | exact (Blk.new _ _ _).drew) (pcR_one _) (by omega) (by simp; omega) ?_; intro g7 cap7 w7 O7 k7 hat7; have kk7 : Keeps (fun i => g < i) w w7 := (Keeps.and_ (by (repeat (first | (with_reducible assumption) | (with_reducible exact Keeps.refl _ _) | refine Keeps.drew ?_ | refine Keeps.drewN ?_ _ | refine Keeps.setCell ?_ (by simp) _ | refine Keeps.setRow ?_ (by simp) _ | refine Keeps.alloc ?_ _))) k7 (fun i _ h => (World.ownsRow.lt HO.out i h).1)); clear k7; obtain ⟨d1, d2, d3, d4, d5⟩ := HCW.out _ kk7))
  all_goals have OO := Lib.hid O7
  all_goals clear O7 hat7 HCW
  all_goals go_wp2_with fail
  all_goals refine bodyPost_end (results_none rfl _ _ _) rfl ⟨rfl, ⟨.slice (some ⟨g7, 0, none⟩) (xs.length + 1) cap7, ?_, ?_⟩, ?_⟩
  all_goals first
    | (have := ((Blk.keeps HB kk7 (by omega)).set_ 2 (.slice (some ⟨g7, 0, none⟩) (xs.length + 1) cap7)).set_ 0 (.string (str (rest.drop n.toNat))); simpa using this)
    | exact OwnS.keeps (S := fun i => i = g) OO ((keeps_set g 2 _).trans (keeps_set g 0 _)) (fun i hi _ _ e => by omega)
    | exact Keeps.and_ (S := fun i => g ≤ i) (kk7.mono fun i _ h => Nat.le_of_lt h) ((keeps_set g 2 _).trans (keeps_set g 0 _)) (fun i _ e => by omega)
end Go.Proofs.YtemjbblehiaobaaDoor
