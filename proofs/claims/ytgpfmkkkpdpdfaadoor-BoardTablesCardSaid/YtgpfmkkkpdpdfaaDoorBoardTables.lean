/-
  law34.BoardTables: any rows as lines, whose columns stand below one another, are what the chapter says.
-/
import Derived.Test.YtgpfmkkkpdpdfaaDoorBrdF
namespace Go.Proofs.YtgpfmkkkpdpdfaaDoor
open Go.RowKit

theorem rows2_of {H : Type} {enc : TypeId × Value → H} {P : Program} {w : World} {base : Nat} {spare : Nat → Bool} {held : Bool} {t e s : TypeId} {a : Option Addr} {n c : Nat} {d : DataW H} {ps : List MemPlace} {f0 : Field} (ht : P.underlying t = some (.slice e)) (he : P.underlying e = some (.struct #[f0])) (hone : Go.Deep.oneCellFields P #[f0] = true)
    (hc : P.cellsOf e = 1) (h0 : P.underlying f0.type = some (.slice s)) (hs : P.underlying s = some .string) (hcs : P.cellsOf s = 1)
    (h : DataW.Trod enc P w base spare held t (.slice a n c) d ps) : ∃ L : List (List ByteArray), Rows2 w a n L := by
  obtain ⟨L, h1, _⟩ := rows_of ht he hone hc h0 hs hcs h
  exact ⟨L, h1⟩
theorem rowsP_len (L : List (List ByteArray)) : (rowsP L).length ≤ 16 := by unfold rowsP; rw [List.length_map, List.length_take]; omega
theorem rowsP_row {L : List (List ByteArray)} {l : List ByteArray} (h : l ∈ rowsP L) : l.length ≤ 8 ∧ ∀ s ∈ l, s.size ≤ 30 := by
  unfold rowsP at h
  obtain ⟨x, _, rfl⟩ := List.mem_map.1 h
  refine ⟨by unfold rowP; rw [List.length_map, List.length_take]; omega, fun s hs => ?_⟩
  unfold rowP at hs
  obtain ⟨y, _, rfl⟩ := List.mem_map.1 hs
  exact cutP_size y

set_option maxRecDepth 100000 in
set_option maxHeartbeats 1000000 in
theorem boardTables_walk (w : World) (a : Option Addr) (n c : Nat) (L : List (List ByteArray)) (h : Rows2 w a n L) (hm : MaxL w) :
    Calls Tryd.prog 5 #[.slice a n c] w fun e w' => e = .returned (.bool true) ∧ Keeps (fun _ => False) w w' := by
  have HR := Lib.hid (rows_any w a n c L h)
  have HM := Lib.hid hm
  clear h hm
  go_enter Tryd.func5, Tryd.ntmps5
  go_wp2_with fail
  refine HR.out.mono ?_
  rintro e w1 ⟨⟨a1, c1, a2, c2, rfl, h1, h2⟩, k1⟩
  have hn := rowsP_len L
  have h8 : ∀ l ∈ rowsP L, l.length ≤ 8 := fun l hl => (rowsP_row hl).1
  have hs : ∀ l ∈ rowsP L, ∀ s ∈ l, s.size ≤ 4294967296 := fun l hl s hs => by have := (rowsP_row hl).2 s hs; omega
  have tl : (tableP (rowsP L)).length ≤ 16 := by unfold tableP; rw [List.length_map]; exact hn
  have T1 := Lib.hid (fun w h => table_any w a1 (rowsP L).length c1 (rowsP L) h (by omega) h8 hs)
  have T2 := Lib.hid (fun w h => rtable_any w a2 (rowsP L).length c2 (rowsP L) h (by omega) h8 hs)
  have H1 := Lib.hid h1
  have H2 := Lib.hid h2
  have HK1 := Lib.hid k1
  obtain ⟨TP, hTP⟩ : ∃ TP, TP = tableP (rowsP L) := ⟨_, rfl⟩
  rw [← hTP] at T1 T2 tl
  obtain ⟨m, hmm⟩ : ∃ m, m = (rowsP L).length := ⟨_, rfl⟩
  rw [← hmm] at T1 T2 H1 H2 ⊢
  clear h1 h2 k1 hTP hmm hn h8 hs HR
  go_wp2_with fail
  refine (T1.out _ H1.out).mono ?_
  rintro e w2 ⟨⟨v2, rfl, O2⟩, k2⟩
  obtain ⟨b2, q2, rfl⟩ := O2.sl'
  have HO2 := Lib.hid O2
  have HK2 := Lib.hid k2
  clear O2 k2
  go_wp2_with fail
  refine (T2.out _ (H2.out.keeps HK2.out (fun _ _ => id))).mono ?_
  rintro e w3 ⟨⟨v3, rfl, O3⟩, k3⟩
  obtain ⟨b3, q3, rfl⟩ := O3.sl'
  rw [List.length_map] at *
  have HO3 := Lib.hid O3
  have HK3 := Lib.hid k3
  clear O3 k3
  go_wp2_with fail
  refine (same10_any _ _ _ _ _ _ _ TP TP ((ownL_slat HO2.out).2.keeps HK3.out (fun _ _ => id)) (ownL_slat HO3.out).2 (by omega) (by omega)).mono ?_
  rintro e w4 ⟨rfl, k4⟩
  rw [decide_eq_true (Eq.refl TP)]
  have K4 := ((HK1.out.trans HK2.out).trans HK3.out).trans k4
  have HK4 := Lib.hid K4
  clear k4 K4
  go_wp2_with fail
  refine (works34 _ (HM.out.keeps HK4.out)).mono ?_
  rintro e w5 ⟨rfl, k5⟩
  go_wp2_with fail
  go_ret
  exact ⟨rfl, HK4.out.trans k5⟩
end Go.Proofs.YtgpfmkkkpdpdfaaDoor
