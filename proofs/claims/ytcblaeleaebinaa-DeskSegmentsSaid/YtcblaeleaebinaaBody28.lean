/-
  wheelhouseref28.body: what stands up to a sign that is no double one.
-/
import Derived.Test.YtcblaeleaebinaaMux
import Derived.Test.YtcblaeleaebinaaDeskM
namespace Go.Proofs.Ytcblaeleaebinaa
open Go.RowKit

theorem ba_get (s : ByteArray) (i : Nat) (c : UInt8) (h : s.data.toList[i]? = some c) : ∃ hi : i < s.size, s[i]'hi = c := by
  obtain ⟨h1, h2⟩ := List.getElem?_eq_some_iff.1 h
  have hl : s.data.toList.length = s.size := by simp
  exact ⟨by omega, by rw [← h2]; rfl⟩
theorem ba_one (s : ByteArray) (i : Nat) (c : UInt8) (h : s.data.toList[i]? = some c) : s.extract i (i + 1) = str [c] := by
  obtain ⟨h1, h2⟩ := List.getElem?_eq_some_iff.1 h
  apply ba_ext
  simp only [ByteArray.data_extract, Array.toList_extract, List.extract_eq_take_drop, str_list]
  rw [List.drop_eq_getElem_cons h1, h2, Nat.add_sub_cancel_left]
  rfl
theorem str_cat1 (a b : List UInt8) : str a ++ str b = str (a ++ b) := by apply ba_ext; simp [str]

set_option maxRecDepth 100000 in
set_option maxHeartbeats 2000000 in
theorem body_any (w : World) (s : ByteArray) (c rest : List UInt8) (hs : s.data.toList = dblP c ++ rest) (hr : rest = [] ∨ ∃ x r, rest = 255 :: x :: r ∧ x ≠ 255) (hb : s.size ≤ 1073741824) :
    Calls Try.prog 43 #[.string s] w fun e w' => e = .returned (.tuple #[.string (str c), .int .i64 (dblP c).length]) ∧ w = w' := by
  have hl : s.data.toList.length = s.size := by simp
  have hls : s.size = (dblP c).length + rest.length := by rw [← hl, hs, List.length_append]
  have HS := Lib.hid hs
  have HR := Lib.hid hr
  have HLS := Lib.hid hls
  clear hs hr hl hls
  go_enter Try.func43, Try.ntmps43
  go_wp2_with fail
  go_loopg [4, 5] c.length (fun k u4 u5 wr => w = wr ∧ ∃ c1 c2 : List UInt8, u4 = .string (str c1) ∧ u5 = .int .i64 ((dblP c1).length : Nat) ∧ Hid (c = c1 ++ c2 ∧ k = c2.length))
  case atStart => exact ⟨rfl, [], c, rfl, rfl, Lib.hid ⟨rfl, rfl⟩⟩
  case round =>
    obtain ⟨rfl, c1, c2, rfl, rfl, HC⟩ := hrel
    obtain ⟨i, hi⟩ : ∃ i, i = (dblP c1).length := ⟨_, rfl⟩
    rw [← hi]
    have hget : ∀ j, (dblP c2 ++ rest)[j]? = s.data.toList[i + j]? := fun j => by
      rw [HS.out, HC.out.1, dblP_app, List.append_assoc, hi]
      rw [List.getElem?_append_right (l₁ := dblP c1) (by omega), Nat.add_sub_cancel_left]
    have hsz : s.size = i + (dblP c2).length + rest.length := by rw [HLS.out, HC.out.1, dblP_app, List.length_append, hi]
    have hcl : c1.length ≤ i := by rw [hi, dblP_count]; omega
    have hsc : (str c1).size = c1.length := rfl
    have HI := Lib.hid hi
    have HGET := Lib.hid hget
    have HSZ := Lib.hid hsz
    have hib : i ≤ 1073741824 := by omega
    have hcb : c1.length ≤ 1073741824 := by omega
    have hw1 : IntKind.i64.wrap ((i : Int) + 1) = (i : Int) + 1 := wrap_in (by omega) (by omega)
    have hw2 : IntKind.i64.wrap ((i : Int) + 1 + 1) = (i : Int) + 1 + 1 := wrap_in (by omega) (by omega)
    clear hi hget hsz
    cases c2 with
    | nil =>
      have hcc : c1 = c := by have := HC.out.1; simpa using this.symm
      have HCC := Lib.hid hcc
      clear hcc
      rcases HR.out with h0 | ⟨x, r, h0, hx⟩
      · have hin : ¬ i < s.size := by have := HSZ.out; rw [h0] at this; simp [dblP] at this; omega
        clear h0
        go_wp2_with fail
        go_ret2
        exact ⟨by rw [HI.out, HCC.out]; rfl, rfl⟩
      · obtain ⟨g1, g2⟩ := ba_get s i 255 (by have := HGET.out 0; rw [h0] at this; simpa [dblP] using this.symm)
        obtain ⟨g3, g4⟩ := ba_get s (i + 1) x (by have := HGET.out 1; rw [h0] at this; simpa [dblP] using this.symm)
        have hxn : ((x.toNat : Int) == 255) = false := by
          rw [beq_eq_false_iff_ne]
          intro h
          exact hx (UInt8.toNat_inj.1 (by show x.toNat = 255; omega))
        have hxn2 : ((x.toNat : Int) != 255) = true := by rw [bne, hxn]; rfl
        have hxn3 : ¬ x.toNat = 255 := by intro h; rw [h] at hxn; exact absurd hxn (by decide)
        clear h0 hx
        go_wp2_with fail
        go_ret2
        exact ⟨by rw [HI.out, HCC.out]; rfl, rfl⟩
    | cons a c3 =>
      have hcat : str c1 ++ str [a] = str (c1 ++ [a]) := str_cat1 _ _
      have hs1 : (str [a]).size = 1 := rfl
      have hs2 : (str (c1 ++ [a])).size = c1.length + 1 := by rw [str_size, List.length_append]; rfl
      have HREL : ∀ j : Nat, j = i + (dblP [a]).length → Hid (j = (dblP (c1 ++ [a])).length) := fun j hj => Lib.hid (by rw [dblP_app, List.length_append, hj, HI.out])
      have HREL2 := Lib.hid HREL
      clear HREL
      by_cases ha : a = 255
      · subst ha
        obtain ⟨g1, g2⟩ := ba_get s i 255 (by have := HGET.out 0; simpa [dblP] using this.symm)
        have hg3 : s.data.toList[i + 1]? = some 255 := by have := HGET.out 1; simpa [dblP] using this.symm
        obtain ⟨g3, g4⟩ := ba_get s (i + 1) 255 hg3
        have hone := ba_one s (i + 1) 255 hg3
        clear hg3
        have hrel : c = (c1 ++ [255]) ++ c3 := by rw [HC.out.1]; simp
        have hgk : gk = c3.length + 1 := by rw [HC.out.2]; rfl
        have HREL := Lib.hid hrel
        have HGK := Lib.hid hgk
        clear hrel hgk
        go_wp2_with fail
        go_roundg c3.length
        case measure => have := HGK.out; omega
        case rel => exact ⟨rfl, c1 ++ [255], c3, rfl, by have := (HREL2.out (i + 2) rfl).out; rw [← this]; go_num, Lib.hid ⟨HREL.out, rfl⟩⟩
      · obtain ⟨g1, g2⟩ := ba_get s i a (by have := HGET.out 0; simpa [dblP, ha] using this.symm)
        have hone := ba_one s i a (by have := HGET.out 0; simpa [dblP, ha] using this.symm)
        have han : ((a.toNat : Int) == 255) = false := by
          rw [beq_eq_false_iff_ne]
          intro h
          exact ha (UInt8.toNat_inj.1 (by show a.toNat = 255; omega))
        have han3 : ¬ a.toNat = 255 := by intro h; rw [h] at han; exact absurd han (by decide)
        have HA := Lib.hid ha
        clear ha
        have hrel : c = (c1 ++ [a]) ++ c3 := by rw [HC.out.1]; simp
        have hgk : gk = c3.length + 1 := by rw [HC.out.2]; rfl
        have HREL := Lib.hid hrel
        have HGK := Lib.hid hgk
        clear hrel hgk
        go_wp2_with fail
        go_roundg c3.length
        case measure => have := HGK.out; omega
        case rel => exact ⟨rfl, c1 ++ [a], c3, rfl, by have := (HREL2.out (i + 1) (by rw [show dblP [a] = [a] from by simp [dblP, HA.out]]; rfl)).out; rw [← this]; go_num, Lib.hid ⟨HREL.out, rfl⟩⟩
end Go.Proofs.Ytcblaeleaebinaa
