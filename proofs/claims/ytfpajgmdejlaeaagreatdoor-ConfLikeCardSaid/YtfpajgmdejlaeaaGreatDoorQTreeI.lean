/-
  tree.Print; the example of the statements about trees.
-/
import Derived.Test.YtfpajgmdejlaeaaGreatDoorQTreeH
import Derived.Test.YtfpajgmdejlaeaaGreatDoorQErrL
namespace Go.Proofs.YtfpajgmdejlaeaaGreatDoor
open Go.RowKit

def printV (o : Option (List UInt8)) : Value := match o with
  | none => .tuple #[.string ⟨#[]⟩, .int .i64 3]
  | some t => .tuple #[.string (str t), .int .i64 0]
set_option maxRecDepth 100000 in
theorem tprint_any (w : World) (S : Nat → Prop) (v : Value) (xs : List Nd) (h : NdsAt w S v xs) (hS : ∀ i, S i → i < w.heap.size) (hf : fineL xs) (hc : costL xs 0 ≤ 1099511627776) :
    Calls Tryz.prog 26 #[v] w fun e w' => e = .returned (printV (putL xs 0)) ∧ Keeps (fun _ => False) w w' := by
  obtain ⟨a, c, rfl, -, -⟩ := h.sl
  have hk1 : Keeps (fun _ => False) w (w.alloc (.cells #[.pointer none, .slice none 0 0] 113)) := (Keeps.refl _ _).alloc _
  have hp := tput_any w.heap.size w.heap.size (countL xs) xs (w.alloc (.cells #[.pointer none, .slice none 0 0] 113)) S (.slice a xs.length c) 0 [] (Nat.le_refl _) (Nds.fit h hk1) hS hf (by simpa using hc) (by omega) (Lib.fresh_isBuilder _ _ w) hk1.size
  have HP := Lib.hid hp
  have HK1 := Lib.hid hk1
  clear h hS hf hc hk1 hp
  go_enter Tryz.func26, Tryz.ntmps26
  go_wp2_with fail
  refine HP.out.mono ?_
  rintro e w2 ⟨hok, hbad, k2⟩
  have HK2 := Lib.hid (HK1.out.and_ k2 (fun i hi h => by omega))
  have hs2 := k2.size
  have hs1 := HK1.out.size
  clear k2
  cases hp : putL xs 0 with
  | none =>
    obtain rfl := hbad hp
    have HPE := Lib.hid hp
    clear hok hbad hp
    go_wp2_with fail
    go_ret2
    exact ⟨by rw [HPE.out]; rfl, HK2.out⟩
  | some t =>
    obtain ⟨rfl, hb⟩ := hok t hp
    have HB := Lib.hid hb
    have HPE := Lib.hid hp
    clear hok hbad hp hb
    go_wp2_with fail
    refine (Tryz.Builder_String_any w.heap.size w.heap.size t w2 (by have := HB.out; rwa [List.nil_append] at this) (by omega)).mono ?_
    rintro e w3 ⟨rfl, h3⟩
    have HK3 := Lib.hid (HK2.out.and_ (Keeps.of_below2 h3) (fun i hi h => by omega))
    clear h3
    go_wp2_with fail
    go_ret2
    exact ⟨by rw [HPE.out]; rfl, HK3.out⟩

def cfg1 : List UInt8 := [99, 111, 110, 115, 111, 108, 101, 32, 97, 32, 123, 10, 32, 108, 105, 110, 101, 115, 32, 50, 48, 59, 10, 32, 105, 110, 105, 116, 32, 34, 120, 32, 121, 34, 59, 10, 125, 10, 98, 114, 101, 97, 107, 32, 49, 32, 122, 59]
def T13 : List Nd := [.mk (str [99, 111, 110, 115, 111, 108, 101]) [str [97]] true [.mk (str [108, 105, 110, 101, 115]) [str [50, 48]] false [] 2, .mk (str [105, 110, 105, 116]) [str [120, 32, 121]] false [] 3] 1, .mk (str [98, 114, 101, 97, 107]) [str [49], str [122]] false [] 5]
def put13 : List UInt8 := [99, 111, 110, 115, 111, 108, 101, 32, 97, 32, 123, 10, 32, 32, 108, 105, 110, 101, 115, 32, 50, 48, 59, 10, 32, 32, 105, 110, 105, 116, 32, 34, 120, 32, 121, 34, 59, 10, 125, 10, 98, 114, 101, 97, 107, 32, 49, 32, 122, 59, 10]
theorem tree13 : treeP cfg1 = .inr T13 := by kernel_rfl
theorem tree13b : treeP [97, 32, 123, 10, 32, 98] = .inl (3, 2) := by kernel_rfl
theorem tree13c : treeP [97, 59, 10, 125] = .inl (3, 2) := by kernel_rfl
theorem put13_eq : putL T13 0 = some put13 := by kernel_rfl
theorem cost13 : costL T13 0 ≤ 1000 := Nat.le_of_ble_eq_true (by kernel_rfl)
theorem count13 : countL T13 = 4 := by kernel_rfl

/-- the example's statements in memory -/
theorem mem13 {w : World} {S : Nat → Prop} {v : Value} (h : NdsAt w S v T13) : ∃ b off c b1 off1 c1 b2 off2 c2, v = .slice (some ⟨b, off, none⟩) 2 c ∧ ∀ W, Keeps (fun _ => False) w W →
    W.cell? ⟨b, off, none⟩ = some (.string ⟨#[99, 111, 110, 115, 111, 108, 101]⟩) ∧ W.cell? ⟨b, off + 2, none⟩ = some (.bool true) ∧ W.cell? ⟨b, off + 3, none⟩ = some (.slice (some ⟨b1, off1, none⟩) 2 c1) ∧
    W.cell? ⟨b1, off1 + 5 + 1, none⟩ = some (.slice (some ⟨b2, off2, none⟩) 1 c2) ∧ W.cell? ⟨b1, off1 + 5 + 4, none⟩ = some (.int .i64 3) ∧ W.cell? ⟨b2, off2, none⟩ = some (.string ⟨#[120, 32, 121]⟩) ∧ W.cell? ⟨b, off + 5 + 4, none⟩ = some (.int .i64 5) := by
  obtain ⟨a, c, rfl, -, -⟩ := h.sl
  obtain ⟨b, off, r, rfl, hb, -, -, -, -, hM, hcell⟩ := nds_at h (i := 0) (x := _) rfl
  obtain ⟨b', off', r', e, hb', -, -, -, -, hM', hcell'⟩ := nds_at h (i := 1) (x := _) rfl
  injection e with e
  injection e with e1 e2 _
  subst e1 e2
  obtain ⟨as0, -, -, hx0⟩ := hM.parts
  obtain ⟨as1, -, -, hx1⟩ := hM'.parts
  injection hx0 with k0 _ b0 _ l0
  injection hx1 with k1 _ bb1 _ l1
  have hs := NdM.subs hM
  have hs2 := hs.sl
  obtain ⟨a1, c1, hse, -, -⟩ := hs2
  injection hse with e1 e2 e3
  rw [e1, e2, e3] at hs
  obtain ⟨b1, off1, r1, rfl, hb1, -, -, -, -, hM1, hcell1⟩ := nds_at hs (i := 1) (x := _) rfl
  obtain ⟨as2, ha2, -, hx2⟩ := hM1.parts
  injection hx2 with _ ea _ _ l2
  subst ea
  have hn2 := ha2.1
  obtain ⟨b2, off2, ea2, hb2, hc2⟩ := ha2.2 (by rw [← hn2]; decide)
  have hlen : (subsN (T13[0]'(by decide))).length = 2 := rfl
  refine ⟨b, off, c, b1, off1, c1, b2, off2, r1.ac, rfl, fun W k => ?_⟩
  obtain ⟨x0, -, x2, x3, -⟩ := hcell W k.none_
  obtain ⟨-, -, -, -, x4⟩ := hcell' W k.none_
  obtain ⟨-, y1, -, -, y4⟩ := hcell1 W k.none_
  have z0 := (World.cell?_of_block (w := w) (k.block b2 hb2 id)).trans (SlAt.str hc2 0 _ rfl)
  rw [← k0] at x0
  rw [← b0] at x2
  rw [e1, e2, e3] at x3
  rw [← l1] at x4
  rw [ea2, ← hn2] at y1
  rw [← l2] at y4
  simp only [Nat.zero_mul, Nat.one_mul, Nat.add_zero] at x0 x2 x3 x4 y1 y4 z0
  exact ⟨x0, x2, x3, y1, y4, z0, x4⟩
end Go.Proofs.YtfpajgmdejlaeaaGreatDoor
