/-
  The document's desk (wheelhouseref32): Waits, Emit, Tell.
-/
import Derived.Test.YtcblaeleaebinaaOwnZ
import Derived.Test.YtcblaeleaebinaaWorks32
import Derived.Test.YtcblaeleaebinaaRef28
namespace Go.Proofs.Ytcblaeleaebinaa
open Go.RowKit

def D32 (a e : ByteArray) (k m : Int) : Value := .agg #[.string a, .string e, .int .i64 k, .int .i64 m]

theorem Blk.cells4 {w : World} {g : Nat} {t : TypeId} {a b c d : Value} (h : Blk w g t #[a, b, c, d]) : w.cell? ⟨g, 0, none⟩ = some a ∧ w.cell? ⟨g, 1, none⟩ = some b ∧ w.cell? ⟨g, 2, none⟩ = some c ∧ w.cell? ⟨g, 3, none⟩ = some d ∧ w.frozen? ⟨g, 0, none⟩ = false ∧ w.frozen? ⟨g, 1, none⟩ = false ∧ w.frozen? ⟨g, 2, none⟩ = false ∧ w.frozen? ⟨g, 3, none⟩ = false :=
  ⟨h.cell 0, h.cell 1, h.cell 2, h.cell 3, h.frozen 0, h.frozen 1, h.frozen 2, h.frozen 3⟩
theorem Keeps.setNew {S : Nat → Prop} {a b : World} (h : Keeps S a b) {g i : Nat} (hg : a.heap.size ≤ g) (u : Value) : Keeps S a (b.setCell ⟨g, i, none⟩ u) := h.setCell (fun hh => by have : g < a.heap.size := hh; omega) u
theorem boxes32 {w W0 : World} {T : TypeId} {a b c d a' b' c' d' : Value} (hW : W0 = (w.alloc (Obj.cells #[a, b, c, d] T)).alloc (Obj.cells #[a', b', c', d'] T)) :
    Blk W0 w.heap.size T #[a, b, c, d] ∧ Blk W0 (w.heap.size + 1) T #[a', b', c', d'] ∧ Keeps (fun _ => False) w W0 := by
  subst hW
  refine ⟨(Blk.new _ _ _).alloc _, ?_, ((Keeps.refl _ _).alloc _).alloc _⟩
  have := Blk.new (w.alloc (Obj.cells #[a, b, c, d] T)) T #[a', b', c', d']
  simpa using this

section
variable (w : World) (a e : ByteArray) (k : Nat) (m : Int)

theorem rwaits32 (hk : k ≤ a.size) (ha : a.size ≤ 1099511627776) : Calls Try.prog 23 #[D32 a e k m] w fun x w' => x = .returned (.int .i64 ((a.size - k : Nat) : Int)) ∧ Keeps (fun _ => False) w w' := by
  unfold D32
  have hw : IntKind.i64.wrap ((a.size : Int) - (k : Int)) = ((a.size - k : Nat) : Int) := by rw [wrap_in (by omega) (by omega)]; omega
  go_enter Try.func23, Try.ntmps23
  go_wp2_with fail
  go_ret
  exact ⟨rfl, (Keeps.refl _ _).alloc _⟩

set_option maxRecDepth 100000 in
theorem remit32 (n : Int) (kk : Nat) (hkk : kk = (max 0 (min n ((a.size - k : Nat) : Int))).toNat) (hk : k ≤ a.size) (ha : a.size ≤ 1099511627776) :
    Calls Try.prog 21 #[D32 a e k m, .int .i64 n] w fun x w' => x = .returned (.tuple #[D32 a e ((k + kk : Nat) : Int) m, .string (a.extract k (k + kk))]) ∧ Keeps (fun _ => False) w w' := by
  unfold D32
  have hq : (max 0 (min n ((a.size - k : Nat) : Int))) = (kk : Int) := by omega
  have hkb : k + kk ≤ a.size := by omega
  have hw : IntKind.i64.wrap ((k : Int) + (kk : Int)) = (k : Int) + (kk : Int) := wrap_in (by omega) (by omega)
  have HW := fun w => rwaits32 w a e k m hk ha
  unfold D32 at HW
  have HWA := Lib.hid HW
  clear HW hkk
  go_enter Try.func21, Try.ntmps21
  go_wp2_with fail
  refine (HWA.out _).mono ?_
  rintro x w2 ⟨rfl, k2⟩
  obtain ⟨b0, b1, k0⟩ := boxes32 (w := w) (T := 38) (a := .string a) (b := .string e) (c := .int .i64 k) (d := .int .i64 m) (a' := .string ⟨#[]⟩) (b' := .string ⟨#[]⟩) (c' := .int .i64 0) (d' := .int .i64 0) rfl
  have B0 := b0.keeps k2 id
  have B1 := b1.keeps k2 id
  have K2 := k0.trans k2
  obtain ⟨c0, c1, c2, c3, -, -, f2, -⟩ := B0.cells4
  obtain ⟨d0, d1, d2, d3, g0, g1, g2, g3⟩ := B1.cells4
  have HB0 := Lib.hid B0
  have HB1 := Lib.hid B1
  have HK2 := Lib.hid K2
  clear b0 b1 k0 k2 B0 B1 K2
  go_wp2_with fail
  refine ret_cell_tmp rfl (w.heap.size + 1) 38 _ _ rfl (((((HB1.out.far (p := ⟨w.heap.size, 2, none⟩) (by simp) _).set_ 0 _).set_ 1 _).set_ 2 _).set_ 3 _) Try.underlying38 rfl (by kernel_rfl) rfl ⟨?_, ?_⟩
  · simp
  · exact ((((HK2.out.setNew (Nat.le_refl _) _).setNew (Nat.le_succ _) _).setNew (Nat.le_succ _) _).setNew (Nat.le_succ _) _).setNew (Nat.le_succ _) _

set_option maxRecDepth 100000 in
set_option maxHeartbeats 2000000 in
theorem rtell32 (s : ByteArray) (hs : s.size ≤ 1048576) (ha : a.size ≤ 1099511627776) (he : e.size ≤ 1073741824) :
    Calls Try.prog 20 #[D32 a e k m, .string s] w fun x w' => x = .returned (D32 (a ++ str (toldP s.data.toList)) (str (e.data.toList ++ (List.replicate ((toldP s.data.toList).length - 1) 46 ++ [101]))) k m) ∧ Keeps (fun _ => False) w w' := by
  unfold D32
  have htl : (toldP s.data.toList).length ≤ 2097156 := by
    rw [toldP_len]
    have := dblP_len s.data.toList
    have hl : s.data.toList.length = s.size := by simp
    omega
  have htl2 : 4 ≤ (toldP s.data.toList).length := by rw [toldP_len]; omega
  have ht := fun w => rtold_any w s (by omega)
  obtain ⟨T, hT⟩ : ∃ T, T = toldP s.data.toList := ⟨_, rfl⟩
  rw [← hT] at htl htl2
  simp only [← hT] at ht ⊢
  have HT := Lib.hid ht
  clear ht hT
  have hTs : (str T).size = T.length := rfl
  obtain ⟨i0, hi, hz0, hz1, hz2⟩ := info_parts (show (Try.prog.info? 5).map (fun i => (i.zero, i.size, i.bytes)) = some (some (.int .u8 0), 1, 1) by kernel_rfl)
  go_enter Try.func20, Try.ntmps20
  go_wp2_with fail
  refine (HT.out _).mono ?_
  rintro x w2 ⟨rfl, k2⟩
  obtain ⟨b0, b1, k0⟩ := boxes32 (w := w) (T := 38) (a := .string a) (b := .string e) (c := .int .i64 k) (d := .int .i64 m) (a' := .string ⟨#[]⟩) (b' := .string ⟨#[]⟩) (c' := .int .i64 0) (d' := .int .i64 0) rfl
  have B0 := b0.keeps k2 id
  have B1 := b1.keeps k2 id
  have K2 := k0.trans k2
  obtain ⟨c0, c1, c2, c3, f0, f1, -, -⟩ := B0.cells4
  have hsz := B1.lt
  have HB0 := Lib.hid B0
  have HB1 := Lib.hid B1
  have HK2 := Lib.hid K2
  clear b0 b1 k0 k2 B0 B1 K2
  go_wp2_with (with_reducible show wpList _ _ _ (⟨some 17, _, _, _, _, _⟩ :: _) _ _; go_must (refine wpList_bytes_z rfl (w.heap.size + 2) _ 9 55 rfl 5 Try.underlying9 Try.underlying55 Try.underlying5 (by simp; omega) e rfl (by omega) ?_; intro v7 w7 O7 k7))
  have hsz7 : w.heap.size + 2 ≤ w7.heap.size := by have := k7.size; simp at this; omega
  have HO7 := Lib.hid O7
  have HK7 := Lib.hid k7
  clear O7 k7 c0 c1 c2 c3 f0 f1
  go_loopw [6, 7] (fun u6 u7 wr => ∃ j : Nat, 1 ≤ j ∧ j ≤ T.length ∧ u7 = .int .i64 j ∧ OwnZ wr (w.heap.size + 2) 5 u6 (u8Vs (e.data.toList ++ List.replicate (j - 1) 46)) ∧ Keeps (fun i => w.heap.size + 2 ≤ i) w7 wr) (fun _ u7 _ => T.length - (intOf u7).toNat)
  case atStart => exact ⟨1, by omega, by omega, rfl, by simpa using HO7.out, Keeps.refl _ _⟩
  case round =>
    obtain ⟨j, hj1, hj2, rfl, hO, hK⟩ := hrel
    have hel : e.data.toList.length = e.size := by simp
    have hbl : (u8Vs (e.data.toList ++ List.replicate (j - 1) 46)).length ≤ 17179869184 := by rw [u8Vs_len, List.length_append, List.length_replicate, hel]; omega
    have hszr : w.heap.size + 2 ≤ wr.heap.size := Nat.le_trans hsz7 hK.size
    have HO := Lib.hid hO
    have HK := Lib.hid hK
    have HBL := Lib.hid hbl
    clear hO hK hel hbl
    by_cases hlt : j < T.length
    · go_wp2_with (with_reducible show wpList _ _ _ (⟨some 26, _, _, _, _, _⟩ :: _) _ _; go_must (refine wpList_append_z rfl (w.heap.size + 2) (.tmp 24) (.tmp 25) 55 rfl 5 (.int .u8 0) 1 Try.underlying55 (by kernel_rfl) rfl (by omega) (by simp; omega) _ (u8Vs (e.data.toList ++ List.replicate (j - 1) 46)) rfl (OwnZ.keeps (S := fun _ => False) HO.out ((Keeps.refl _ _).alloc _) (fun _ _ _ => id)) ⟨wr.heap.size, 0, none⟩ 1 (.int .u8 46) rfl ((Blk.new _ _ _).cell 0) rfl HBL.out ?_; intro v8 w8 O8 k8; have HO8 := Lib.hid O8; have HK8 := Lib.hid k8; clear O8 k8))
      go_roundw
      case rel =>
        refine ⟨j + 1, by omega, by omega, by go_num, ?_, ?_⟩
        · have := HO8.out
          have e1 : List.replicate (j + 1 - 1) (46 : UInt8) = List.replicate (j - 1) 46 ++ [46] := by rw [show j + 1 - 1 = (j - 1) + 1 by omega, List.replicate_succ']
          rw [e1, ← List.append_assoc]
          unfold u8Vs at this ⊢
          simpa using this
        · exact HK.out.trans (Keeps.trans (((Keeps.refl _ wr).alloc _)) HK8.out)
      case measure => simp [intOf]; omega
    · obtain rfl : j = T.length := by omega
      go_wp2_with (first
        | (with_reducible show wpList _ _ _ (⟨some 29, _, _, _, _, _⟩ :: _) _ _; go_must (refine wpList_append_z rfl (w.heap.size + 2) (.tmp 27) (.tmp 28) 55 rfl 5 (.int .u8 0) 1 Try.underlying55 (by kernel_rfl) rfl (by omega) (by simp; omega) _ (u8Vs (e.data.toList ++ List.replicate (T.length - 1) 46)) rfl (OwnZ.keeps (S := fun _ => False) HO.out ((Keeps.refl _ _).alloc _) (fun _ _ _ => id)) ⟨wr.heap.size, 0, none⟩ 1 (.int .u8 101) rfl ((Blk.new _ _ _).cell 0) rfl HBL.out ?_; intro v8 w8 O8 k8; have HO8 := Lib.hid O8; have HK8 := Lib.hid k8; clear O8 k8; have B0 := ((HB0.out.set_ 0 (.string (a ++ str T))).keeps HK7.out id).keeps (HK.out.trans (((Keeps.refl _ wr).alloc _).trans HK8.out)) (by omega); have B1 := ((HB1.out.far (p := ⟨w.heap.size, 0, none⟩) (by simp) (.string (a ++ str T))).keeps HK7.out id).keeps (HK.out.trans (((Keeps.refl _ wr).alloc _).trans HK8.out)) (by omega); simp at B0; obtain ⟨c0, c1, c2, c3, f0, f1, -, -⟩ := B0.cells4; obtain ⟨d0, d1, d2, d3, g0, g1, g2, g3⟩ := B1.cells4; have HB0x := Lib.hid B0; have HB1x := Lib.hid B1; clear B0 B1))
        | (with_reducible show wpList _ _ _ (⟨some 30, _, _, _, _, _⟩ :: _) _ _; go_must (refine wpList_string_z rfl (w.heap.size + 2) (.tmp 29) 55 9 rfl 5 Try.underlying55 Try.underlying5 Try.underlying9 v8 (e.data.toList ++ List.replicate (T.length - 1) 46 ++ [101]) rfl (by have := HO8.out; unfold u8Vs at this ⊢; rw [List.map_append]; simpa using this) ?_)))
      refine ret_cell rfl (w.heap.size + 1) 38 _ _ rfl (((((HB1x.out.far (p := ⟨w.heap.size, 1, none⟩) (by simp) _).set_ 0 _).set_ 1 _).set_ 2 _).set_ 3 _) Try.underlying38 rfl (by kernel_rfl) rfl ⟨?_, ?_⟩
      · simp
      · have K8 : Keeps (fun _ => False) w w8 := ((HK2.out.setNew (g := w.heap.size) (i := 0) (Nat.le_refl _) _).trans HK7.out).and_ (HK.out.trans (((Keeps.refl _ wr).alloc _).trans HK8.out)) (fun i hi e => by omega)
        exact ((((K8.setNew (Nat.le_refl _) _).setNew (Nat.le_succ _) _).setNew (Nat.le_succ _) _).setNew (Nat.le_succ _) _).setNew (Nat.le_succ _) _
end
end Go.Proofs.Ytcblaeleaebinaa
