/-
  slices.Equal at consoles, users, access.
-/
import Derived.Test.YtfpajgmdejlaeaaGreatDoorQConfPa
import Derived.Test.YtfpajgmdejlaeaaGreatDoorQShelfQ
import Derived.Laws.StructEq
namespace Go.Proofs.YtfpajgmdejlaeaaGreatDoor
open Go.RowKit Go.Maps

instance : Inhabited Con := ⟨usual0⟩
instance : Inhabited Usr := ⟨⟨⟨#[]⟩, ⟨#[]⟩⟩⟩
instance : Inhabited Acc := ⟨⟨⟨#[]⟩, ⟨#[]⟩, 0⟩⟩
theorem list_eq (a b : ByteArray) : (a.toList = b.toList) = (a = b) := by
  rw [ByteArray.toList_eq, ByteArray.toList_eq]
  exact propext ⟨fun e => ba_ext e, fun e => by rw [e]⟩
theorem str_eq_b (a b : ByteArray) : (a.toList == b.toList) = decide (a = b) := by
  rw [ByteArray.toList_eq, ByteArray.toList_eq]
  by_cases h : a = b
  · subst h; simp
  · rw [decide_eq_false h, beq_eq_false_iff_ne]
    exact fun e => h (ba_ext e)
theorem allEq_dec {α : Type} [DecidableEq α] : ∀ (xs ys : List α), Lib.allEq (fun x y => decide (x = y)) xs ys = decide (xs = ys)
  | [], [] => by simp [Lib.allEq]
  | x :: xs, y :: ys => by
    rw [Lib.allEq, allEq_dec xs ys]
    by_cases h : x = y
    · subst h; simp
    · simp [h]
  | [], y :: ys => by simp [Lib.allEq]
  | x :: xs, [] => by simp [Lib.allEq]
theorem usr_neq : Go.Proofs.NeqAt Tryz.prog 67 (fun x : Usr => .agg (usrR x).toArray) (fun x y => decide (x = y)) := by
  refine ⟨fun x y w => ?_, GuardAt.agg _ (by kernel_rfl)⟩
  have hS : Tryz.prog.underlying 67 = some (.struct (Tryz.prog.fieldsOf 67)) := by kernel_rfl
  have hp : Tryz.prog.stoodInHeld 67 = false := by kernel_rfl
  simp only [usrR]
  rw [run_neq_struct, show (10000 : Nat) = 9999 + 1 from rfl, run_equalIn_agg w 9999 67 _ _ hS hp]
  simp only [Program.fieldsOf, Tryz.underlying67]
  go_simp
  simp only [list_eq]
  obtain ⟨x0, x1⟩ := x
  obtain ⟨y0, y1⟩ := y
  simp only [Usr.mk.injEq]
  repeat' split
  all_goals simp_all
theorem acc_neq : Go.Proofs.NeqAt Tryz.prog 46 (fun x : Acc => .agg (accR x).toArray) (fun x y => decide (x = y)) := by
  refine ⟨fun x y w => ?_, GuardAt.agg _ (by kernel_rfl)⟩
  have hS : Tryz.prog.underlying 46 = some (.struct (Tryz.prog.fieldsOf 46)) := by kernel_rfl
  have hp : Tryz.prog.stoodInHeld 46 = false := by kernel_rfl
  simp only [accR]
  rw [run_neq_struct, show (10000 : Nat) = 9999 + 1 from rfl, run_equalIn_agg w 9999 46 _ _ hS hp]
  simp only [Program.fieldsOf, Tryz.underlying46]
  go_simp
  simp only [list_eq]
  obtain ⟨x0, x1, x2⟩ := x
  obtain ⟨y0, y1, y2⟩ := y
  simp only [Acc.mk.injEq]
  repeat' split
  all_goals simp_all
set_option maxHeartbeats 2000000 in
theorem con_neq : Go.Proofs.NeqAt Tryz.prog 42 (fun x : Con => .agg (conR x).toArray) (fun x y => decide (x = y)) := by
  refine ⟨fun x y w => ?_, GuardAt.agg _ (by kernel_rfl)⟩
  have hS : Tryz.prog.underlying 42 = some (.struct (Tryz.prog.fieldsOf 42)) := by kernel_rfl
  have hp : Tryz.prog.stoodInHeld 42 = false := by kernel_rfl
  simp only [conR]
  rw [run_neq_struct, show (10000 : Nat) = 9999 + 1 from rfl, run_equalIn_agg w 9999 42 _ _ hS hp]
  simp only [Program.fieldsOf, Tryz.underlying42]
  go_simp
  simp only [list_eq]
  obtain ⟨x0, x1, x2, x3, x4, x5, x6, x7, x8, x9⟩ := x
  obtain ⟨y0, y1, y2, y3, y4, y5, y6, y7, y8, y9⟩ := y
  simp only [Con.mk.injEq]
  repeat' split
  all_goals simp_all
set_option maxRecDepth 100000 in
theorem eqC_any (w : World) (a b : Option Addr) (n m c d : Nat) (xs ys : List Con) (h1 : SlAt conR 10 w a n xs) (h2 : SlAt conR 10 w b m ys) (hn : n ≤ 1099511627776) (hm : m ≤ 1099511627776) :
    Calls Tryz.prog 28 #[.slice a n c, .slice b m d] w fun e w' => e = .returned (.bool (decide (xs = ys))) ∧ Keeps (fun _ => False) w w' := by
  have l1 := h1.1
  have l2 := h2.1
  by_cases hnm : n = m
  · subst hnm
    by_cases h0 : n = 0
    · subst h0
      obtain rfl := List.eq_nil_of_length_eq_zero l1
      obtain rfl := List.eq_nil_of_length_eq_zero l2
      clear h1 h2 l1 l2
      go_enter Tryz.func28, Tryz.ntmps28
      go_wp2_with fail
      go_loopw [13] (fun u13 wr => u13 = .int .i64 0 ∧ wr = w) (fun _ _ => 0)
      case atStart => exact ⟨rfl, rfl⟩
      case round =>
        obtain ⟨rfl, rfl⟩ := hrel
        go_wp2_with fail
        go_ret
        exact ⟨rfl, Keeps.refl _ _⟩
    · obtain ⟨b1, o1, rfl, hb1, hc1⟩ := h1.2 (by omega)
      obtain ⟨b2, o2, rfl, hb2, hc2⟩ := h2.2 (by omega)
      have hE := AnyQ.slices_Equal Tryz.equalC 10 (Tryz.isAgg42) (Tryz.sizeOf42) conR (fun x => rfl) (fun x y => decide (x = y)) con_neq b1 o1 n c b2 o2 n d xs ys w (by omega) (by omega) (by omega) (by omega) (fun j hj i v hv => hc1 j xs[j]! i v (by rw [List.getElem!_eq_getElem?_getD, List.getElem?_eq_getElem hj]; rfl) hv) (fun j hj i v hv => hc2 j ys[j]! i v (by rw [List.getElem!_eq_getElem?_getD, List.getElem?_eq_getElem hj]; rfl) hv)
      refine hE.mono ?_
      rintro e w' ⟨rfl, q, rfl⟩
      refine ⟨?_, (Keeps.refl _ _).drewN q⟩
      rw [List.take_of_length_le (by omega), List.take_of_length_le (by omega), allEq_dec]
  · have hne : decide (xs = ys) = false := decide_eq_false (fun e => hnm (by rw [← l1, ← l2, e]))
    have hd : decide ((n : Int) = (m : Int)) = false := decide_eq_false (by omega)
    have hd2 : ((n : Int) == (m : Int)) = false := beq_eq_false_iff_ne.2 (by omega)
    rw [hne]
    clear h1 h2 hne
    go_enter Tryz.func28, Tryz.ntmps28
    go_wp2_with fail
    go_ret
    exact ⟨rfl, Keeps.refl _ _⟩
set_option maxRecDepth 100000 in
theorem eqU_any (w : World) (a b : Option Addr) (n m c d : Nat) (xs ys : List Usr) (h1 : SlAt usrR 2 w a n xs) (h2 : SlAt usrR 2 w b m ys) (hn : n ≤ 1099511627776) (hm : m ≤ 1099511627776) :
    Calls Tryz.prog 29 #[.slice a n c, .slice b m d] w fun e w' => e = .returned (.bool (decide (xs = ys))) ∧ Keeps (fun _ => False) w w' := by
  have l1 := h1.1
  have l2 := h2.1
  by_cases hnm : n = m
  · subst hnm
    by_cases h0 : n = 0
    · subst h0
      obtain rfl := List.eq_nil_of_length_eq_zero l1
      obtain rfl := List.eq_nil_of_length_eq_zero l2
      clear h1 h2 l1 l2
      go_enter Tryz.func29, Tryz.ntmps29
      go_wp2_with fail
      go_loopw [13] (fun u13 wr => u13 = .int .i64 0 ∧ wr = w) (fun _ _ => 0)
      case atStart => exact ⟨rfl, rfl⟩
      case round =>
        obtain ⟨rfl, rfl⟩ := hrel
        go_wp2_with fail
        go_ret
        exact ⟨rfl, Keeps.refl _ _⟩
    · obtain ⟨b1, o1, rfl, hb1, hc1⟩ := h1.2 (by omega)
      obtain ⟨b2, o2, rfl, hb2, hc2⟩ := h2.2 (by omega)
      have hE := AnyQ.slices_Equal Tryz.equalU 2 (Tryz.isAgg67) (Tryz.sizeOf67) usrR (fun x => rfl) (fun x y => decide (x = y)) usr_neq b1 o1 n c b2 o2 n d xs ys w (by omega) (by omega) (by omega) (by omega) (fun j hj i v hv => hc1 j xs[j]! i v (by rw [List.getElem!_eq_getElem?_getD, List.getElem?_eq_getElem hj]; rfl) hv) (fun j hj i v hv => hc2 j ys[j]! i v (by rw [List.getElem!_eq_getElem?_getD, List.getElem?_eq_getElem hj]; rfl) hv)
      refine hE.mono ?_
      rintro e w' ⟨rfl, q, rfl⟩
      refine ⟨?_, (Keeps.refl _ _).drewN q⟩
      rw [List.take_of_length_le (by omega), List.take_of_length_le (by omega), allEq_dec]
  · have hne : decide (xs = ys) = false := decide_eq_false (fun e => hnm (by rw [← l1, ← l2, e]))
    have hd : decide ((n : Int) = (m : Int)) = false := decide_eq_false (by omega)
    have hd2 : ((n : Int) == (m : Int)) = false := beq_eq_false_iff_ne.2 (by omega)
    rw [hne]
    clear h1 h2 hne
    go_enter Tryz.func29, Tryz.ntmps29
    go_wp2_with fail
    go_ret
    exact ⟨rfl, Keeps.refl _ _⟩
set_option maxRecDepth 100000 in
theorem eqA_any (w : World) (a b : Option Addr) (n m c d : Nat) (xs ys : List Acc) (h1 : SlAt accR 3 w a n xs) (h2 : SlAt accR 3 w b m ys) (hn : n ≤ 1099511627776) (hm : m ≤ 1099511627776) :
    Calls Tryz.prog 30 #[.slice a n c, .slice b m d] w fun e w' => e = .returned (.bool (decide (xs = ys))) ∧ Keeps (fun _ => False) w w' := by
  have l1 := h1.1
  have l2 := h2.1
  by_cases hnm : n = m
  · subst hnm
    by_cases h0 : n = 0
    · subst h0
      obtain rfl := List.eq_nil_of_length_eq_zero l1
      obtain rfl := List.eq_nil_of_length_eq_zero l2
      clear h1 h2 l1 l2
      go_enter Tryz.func30, Tryz.ntmps30
      go_wp2_with fail
      go_loopw [13] (fun u13 wr => u13 = .int .i64 0 ∧ wr = w) (fun _ _ => 0)
      case atStart => exact ⟨rfl, rfl⟩
      case round =>
        obtain ⟨rfl, rfl⟩ := hrel
        go_wp2_with fail
        go_ret
        exact ⟨rfl, Keeps.refl _ _⟩
    · obtain ⟨b1, o1, rfl, hb1, hc1⟩ := h1.2 (by omega)
      obtain ⟨b2, o2, rfl, hb2, hc2⟩ := h2.2 (by omega)
      have hE := AnyQ.slices_Equal Tryz.equalA 3 (Tryz.isAgg46) (Tryz.sizeOf46) accR (fun x => rfl) (fun x y => decide (x = y)) acc_neq b1 o1 n c b2 o2 n d xs ys w (by omega) (by omega) (by omega) (by omega) (fun j hj i v hv => hc1 j xs[j]! i v (by rw [List.getElem!_eq_getElem?_getD, List.getElem?_eq_getElem hj]; rfl) hv) (fun j hj i v hv => hc2 j ys[j]! i v (by rw [List.getElem!_eq_getElem?_getD, List.getElem?_eq_getElem hj]; rfl) hv)
      refine hE.mono ?_
      rintro e w' ⟨rfl, q, rfl⟩
      refine ⟨?_, (Keeps.refl _ _).drewN q⟩
      rw [List.take_of_length_le (by omega), List.take_of_length_le (by omega), allEq_dec]
  · have hne : decide (xs = ys) = false := decide_eq_false (fun e => hnm (by rw [← l1, ← l2, e]))
    have hd : decide ((n : Int) = (m : Int)) = false := decide_eq_false (by omega)
    have hd2 : ((n : Int) == (m : Int)) = false := beq_eq_false_iff_ne.2 (by omega)
    rw [hne]
    clear h1 h2 hne
    go_enter Tryz.func30, Tryz.ntmps30
    go_wp2_with fail
    go_ret
    exact ⟨rfl, Keeps.refl _ _⟩
set_option maxRecDepth 100000 in
theorem eqS_any (w : World) (a b : Option Addr) (n m c d : Nat) (xs ys : List ByteArray) (h1 : SlAt strR 1 w a n xs) (h2 : SlAt strR 1 w b m ys) (hn : n ≤ 1099511627776) (hm : m ≤ 1099511627776) :
    Calls Tryz.prog 33 #[.slice a n c, .slice b m d] w fun e w' => e = .returned (.bool (decide (xs = ys))) ∧ Keeps (fun _ => False) w w' := by
  have l1 := h1.1
  have l2 := h2.1
  by_cases hnm : n = m
  · subst hnm
    by_cases h0 : n = 0
    · subst h0
      obtain rfl := List.eq_nil_of_length_eq_zero l1
      obtain rfl := List.eq_nil_of_length_eq_zero l2
      clear h1 h2 l1 l2
      go_enter Tryz.func33, Tryz.ntmps33
      go_wp2_with fail
      go_loopw [13] (fun u13 wr => u13 = .int .i64 0 ∧ wr = w) (fun _ _ => 0)
      case atStart => exact ⟨rfl, rfl⟩
      case round =>
        obtain ⟨rfl, rfl⟩ := hrel
        go_wp2_with fail
        go_ret
        exact ⟨rfl, Keeps.refl _ _⟩
    · obtain ⟨b1, o1, rfl, hb1, hc1⟩ := h1.2 (by omega)
      obtain ⟨b2, o2, rfl, hb2, hc2⟩ := h2.2 (by omega)
      have hE := AnyE.slices_Equal Tryz.equalS Value.string (fun x y => x.toList == y.toList) (NeqAt.string _ _) b1 o1 n c b2 o2 n d xs ys w (by omega) (by omega) (by omega) (by omega) (fun j hj => SlAt.str hc1 j xs[j]! (by rw [List.getElem!_eq_getElem?_getD, List.getElem?_eq_getElem hj]; rfl)) (fun j hj => SlAt.str hc2 j ys[j]! (by rw [List.getElem!_eq_getElem?_getD, List.getElem?_eq_getElem hj]; rfl))
      refine hE.mono ?_
      rintro e w' ⟨rfl, q, rfl⟩
      refine ⟨?_, (Keeps.refl _ _).drewN q⟩
      rw [List.take_of_length_le (by omega), List.take_of_length_le (by omega), show (fun x y : ByteArray => x.toList == y.toList) = (fun x y => decide (x = y)) from funext fun x => funext fun y => str_eq_b x y, allEq_dec]
  · have hne : decide (xs = ys) = false := decide_eq_false (fun e => hnm (by rw [← l1, ← l2, e]))
    have hd2 : ((n : Int) == (m : Int)) = false := beq_eq_false_iff_ne.2 (by omega)
    rw [hne]
    clear h1 h2 hne
    go_enter Tryz.func33, Tryz.ntmps33
    go_wp2_with fail
    go_ret
    exact ⟨rfl, Keeps.refl _ _⟩
end Go.Proofs.YtfpajgmdejlaeaaGreatDoor
