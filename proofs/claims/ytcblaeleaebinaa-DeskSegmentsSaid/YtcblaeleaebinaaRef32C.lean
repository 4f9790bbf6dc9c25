/-
  The document's desk (wheelhouseref32): Cut.
-/
import Derived.Test.YtcblaeleaebinaaRef32B
namespace Go.Proofs.Ytcblaeleaebinaa
open Go.RowKit
section
variable (w : World) (a e : ByteArray) (k : Nat) (m : Int)
set_option maxRecDepth 100000 in
set_option maxHeartbeats 2000000 in
theorem rcut32 (hk : k ≤ a.size) (hae : e.size = a.size) (ha : a.size ≤ 1099511627776) :
    Calls Try.prog 17 #[D32 a e k m] w fun x w' => ∃ q, k ≤ q ∧ q ≤ a.size ∧ (∀ j, k ≤ j → j < q → 0 < j ∧ e.data.toList[j - 1]? ≠ some 101) ∧ (q = 0 ∨ q = a.size ∨ e.data.toList[q - 1]? = some 101) ∧ x = .returned (D32 (a.extract 0 q) (e.extract 0 q) k m) ∧ Keeps (fun _ => False) w w' := by
  unfold D32
  have hel : e.data.toList.length = e.size := by simp
  have HEL := Lib.hid hel
  have HAE := Lib.hid hae
  have heb : e.size ≤ 1099511627776 := by omega
  clear hel hae
  go_enter Try.func17, Try.ntmps17
  go_wp2_with fail
  obtain ⟨b0, b1, k0⟩ := boxes32 (w := w) (T := 38) (a := .string a) (b := .string e) (c := .int .i64 k) (d := .int .i64 m) (a' := .string ⟨#[]⟩) (b' := .string ⟨#[]⟩) (c' := .int .i64 0) (d' := .int .i64 0) rfl
  obtain ⟨W0, hW0⟩ : ∃ W0, W0 = (w.alloc (Obj.cells #[Value.string a, Value.string e, Value.int .i64 k, Value.int .i64 m] 38)).alloc (Obj.cells #[Value.string ⟨#[]⟩, Value.string ⟨#[]⟩, Value.int .i64 0, Value.int .i64 0] 38) := ⟨_, rfl⟩
  rw [← hW0] at b0 b1 k0 ⊢
  obtain ⟨c0, c1, c2, c3, f0, f1, -, -⟩ := b0.cells4
  have HB0 := Lib.hid b0
  have HB1 := Lib.hid b1
  have HK0 := Lib.hid k0
  clear b0 b1 k0 hW0
  go_loopw [3] (fun u3 wr => W0 = wr ∧ ∃ q : Nat, u3 = .int .i64 q ∧ Hid (k ≤ q ∧ q ≤ a.size ∧ ∀ j, k ≤ j → j < q → 0 < j ∧ e.data.toList[j - 1]? ≠ some 101)) (fun u3 _ => a.size - (intOf u3).toNat)
  case atStart => exact ⟨rfl, k, rfl, Lib.hid ⟨Nat.le_refl _, hk, fun j h1 h2 => absurd h2 (by omega)⟩⟩
  case round =>
    obtain ⟨rfl, q, rfl, HQ⟩ := hrel
    have hqa : q ≤ a.size := HQ.out.2.1
    have hqe : q ≤ e.size := by have := HAE.out; omega
    by_cases hq0 : q = 0
    · subst hq0
      go_wp2_with fail
      go_region
      all_goals
        obtain ⟨w9, hw9⟩ : ∃ w9, w9 = (W0.setCell ⟨w.heap.size, 0, none⟩ (.string ByteArray.empty)).setCell ⟨w.heap.size, 1, none⟩ (.string ByteArray.empty) := ⟨_, rfl⟩
        rw [← hw9]
        have B9 : Blk w9 w.heap.size 38 #[.string ByteArray.empty, .string ByteArray.empty, .int .i64 k, .int .i64 m] := by
          rw [hw9]
          have := (HB0.out.set_ 0 (.string ByteArray.empty)).set_ 1 (.string ByteArray.empty)
          simpa using this
        have C9 : Blk w9 (w.heap.size + 1) 38 #[.string ⟨#[]⟩, .string ⟨#[]⟩, .int .i64 0, .int .i64 0] := by
          rw [hw9]
          exact (HB1.out.far (p := ⟨w.heap.size, 0, none⟩) (by simp) _).far (p := ⟨w.heap.size, 1, none⟩) (by simp) _
        have K9 : Keeps (fun _ => False) w w9 := by
          rw [hw9]
          exact (HK0.out.setNew (Nat.le_refl _) _).setNew (Nat.le_refl _) _
        obtain ⟨x0, x1, x2, x3, -, -, -, -⟩ := B9.cells4
        obtain ⟨d0, d1, d2, d3, g0, g1, g2, g3⟩ := C9.cells4
        have HC9 := Lib.hid C9
        have HK9 := Lib.hid K9
        clear B9 C9 K9 hw9
        go_wp2_with fail
        refine ret_cell rfl (w.heap.size + 1) 38 _ _ rfl ((((HC9.out.drew.set_ 0 _).set_ 1 _).set_ 2 _).set_ 3 _) Try.underlying38 rfl (by kernel_rfl) rfl ⟨0, HQ.out.1, HQ.out.2.1, HQ.out.2.2, .inl rfl, ?_, ?_⟩
        · simp
        · exact ((((HK9.out.drew.setNew (Nat.le_succ _) _).setNew (Nat.le_succ _) _).setNew (Nat.le_succ _) _).setNew (Nat.le_succ _) _)
    · have hqp : 0 < q := by omega
      by_cases hqn : q < e.size
      · obtain ⟨c, hc⟩ : ∃ c, e.data.toList[q - 1]? = some c := ⟨_, List.getElem?_eq_getElem (by rw [HEL.out]; omega)⟩
        have hw1 : IntKind.i64.wrap ((q : Int) - 1) = ((q - 1 : Nat) : Int) := by rw [wrap_in (by omega) (by omega)]; omega
        have hix : e[q - 1]'(by omega) = c := by
          have := (List.getElem?_eq_some_iff.1 hc).2
          rw [← this]; rfl
        have hq1 : q - 1 < e.size := by omega
        have HC := Lib.hid hc
        clear hc
        by_cases h101 : c = 101
        · subst h101
          go_wp2_with fail
          go_region
          all_goals
            obtain ⟨w9, hw9⟩ : ∃ w9, w9 = (W0.setCell ⟨w.heap.size, 0, none⟩ (.string (a.extract 0 q))).setCell ⟨w.heap.size, 1, none⟩ (.string (e.extract 0 q)) := ⟨_, rfl⟩
            rw [← hw9]
            have B9 : Blk w9 w.heap.size 38 #[.string (a.extract 0 q), .string (e.extract 0 q), .int .i64 k, .int .i64 m] := by
              rw [hw9]
              have := (HB0.out.set_ 0 (.string (a.extract 0 q))).set_ 1 (.string (e.extract 0 q))
              simpa using this
            have C9 : Blk w9 (w.heap.size + 1) 38 #[.string ⟨#[]⟩, .string ⟨#[]⟩, .int .i64 0, .int .i64 0] := by
              rw [hw9]
              exact (HB1.out.far (p := ⟨w.heap.size, 0, none⟩) (by simp) _).far (p := ⟨w.heap.size, 1, none⟩) (by simp) _
            have K9 : Keeps (fun _ => False) w w9 := by
              rw [hw9]
              exact (HK0.out.setNew (Nat.le_refl _) _).setNew (Nat.le_refl _) _
            obtain ⟨x0, x1, x2, x3, -, -, -, -⟩ := B9.cells4
            obtain ⟨d0, d1, d2, d3, g0, g1, g2, g3⟩ := C9.cells4
            have HC9 := Lib.hid C9
            have HK9 := Lib.hid K9
            clear B9 C9 K9 hw9
            go_wp2_with fail
            refine ret_cell rfl (w.heap.size + 1) 38 _ _ rfl ((((HC9.out.drew.set_ 0 _).set_ 1 _).set_ 2 _).set_ 3 _) Try.underlying38 rfl (by kernel_rfl) rfl ⟨q, HQ.out.1, HQ.out.2.1, HQ.out.2.2, .inr (.inr HC.out), ?_, ?_⟩
            · simp
            · exact ((((HK9.out.drew.setNew (Nat.le_succ _) _).setNew (Nat.le_succ _) _).setNew (Nat.le_succ _) _).setNew (Nat.le_succ _) _)
        · have hn : c.toNat ≠ 101 := fun h => h101 (UInt8.toNat_inj.1 (by simpa using h))
          have h1 : ((c.toNat : Int) == 101) = false := by rw [beq_eq_false_iff_ne]; omega
          have h2 : ((c.toNat : Int) != 101) = true := by rw [bne_iff_ne]; omega
          have HE := Lib.hid h101
          clear h101
          go_wp2_with fail
          go_roundw
          case rel =>
            refine ⟨trivial, q + 1, by go_num, Lib.hid ⟨by have := HQ.out.1; omega, by have := HAE.out; omega, fun j h3 h4 => ?_⟩⟩
            by_cases hjq : j = q
            · subst hjq; exact ⟨hqp, by rw [HC.out]; intro h5; injection h5 with h5; exact HE.out h5⟩
            · exact HQ.out.2.2 j h3 (by omega)
          case measure => simp [intOf] <;> (have := HAE.out; omega)
      · have hqz : q = a.size := by have := HAE.out; omega
        have HQZ := Lib.hid hqz
        clear hqz
        go_wp2_with fail
        go_region
        all_goals
          obtain ⟨w9, hw9⟩ : ∃ w9, w9 = (W0.setCell ⟨w.heap.size, 0, none⟩ (.string (a.extract 0 q))).setCell ⟨w.heap.size, 1, none⟩ (.string (e.extract 0 q)) := ⟨_, rfl⟩
          rw [← hw9]
          have B9 : Blk w9 w.heap.size 38 #[.string (a.extract 0 q), .string (e.extract 0 q), .int .i64 k, .int .i64 m] := by
            rw [hw9]
            have := (HB0.out.set_ 0 (.string (a.extract 0 q))).set_ 1 (.string (e.extract 0 q))
            simpa using this
          have C9 : Blk w9 (w.heap.size + 1) 38 #[.string ⟨#[]⟩, .string ⟨#[]⟩, .int .i64 0, .int .i64 0] := by
            rw [hw9]
            exact (HB1.out.far (p := ⟨w.heap.size, 0, none⟩) (by simp) _).far (p := ⟨w.heap.size, 1, none⟩) (by simp) _
          have K9 : Keeps (fun _ => False) w w9 := by
            rw [hw9]
            exact (HK0.out.setNew (Nat.le_refl _) _).setNew (Nat.le_refl _) _
          obtain ⟨x0, x1, x2, x3, -, -, -, -⟩ := B9.cells4
          obtain ⟨d0, d1, d2, d3, g0, g1, g2, g3⟩ := C9.cells4
          have HC9 := Lib.hid C9
          have HK9 := Lib.hid K9
          clear B9 C9 K9 hw9
          go_wp2_with fail
          refine ret_cell rfl (w.heap.size + 1) 38 _ _ rfl ((((HC9.out.drew.set_ 0 _).set_ 1 _).set_ 2 _).set_ 3 _) Try.underlying38 rfl (by kernel_rfl) rfl ⟨q, HQ.out.1, HQ.out.2.1, HQ.out.2.2, .inr (.inl HQZ.out), ?_, ?_⟩
          · simp
          · exact ((((HK9.out.drew.setNew (Nat.le_succ _) _).setNew (Nat.le_succ _) _).setNew (Nat.le_succ _) _).setNew (Nat.le_succ _) _)
end
end Go.Proofs.Ytcblaeleaebinaa
