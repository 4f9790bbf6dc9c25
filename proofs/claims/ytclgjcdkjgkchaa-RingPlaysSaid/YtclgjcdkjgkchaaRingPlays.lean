/-
  RingPlays returns true, whatever its arguments: the walk.
-/
import Derived.Test.YtclgjcdkjgkchaaWorksA
import Derived.Test.YtclgjcdkjgkchaaArgs
import Derived.Test.YtclgjcdkjgkchaaSame04
import Derived.Deep.DeepCutAuto
import Derived.Deep.CutBlock
namespace Go.Proofs.Ytclgjcdkjgkchaa
open Go.RowKit

/-- an act of the statement: what it is, its bytes, its number -/
structure Op04 where
  kind : Nat
  s : ByteArray
  n : Int
def opR (x : Op04) : List Value := [.int .u8 x.kind, .string x.s, .int .i64 x.n]

/-- what is there while the acts go on: the ring, and the document's, in block p -/
structure Play (w wr : World) (g b m p : Nat) (all : ByteArray) (gone : Nat) : Prop where
  ring : IsRing wr g b m (all.data.toList.drop gone) gone
  box : Blk wr p 29 #[.string all, .int .i64 gone, .int .i64 m]
  le : gone ≤ all.size
  old : Keeps (fun _ => False) w wr
  hg : w.heap.size ≤ g
  hb : w.heap.size ≤ b
  hp : w.heap.size ≤ p
  ne1 : p ≠ g
  ne2 : p ≠ b

theorem Play.stay {w wr wx : World} {g b m p gone : Nat} {all : ByteArray} (h : Play w wr g b m p all gone) (k : Keeps (fun _ => False) wr wx) : Play w wx g b m p all gone :=
  ⟨h.ring.keeps k id id, h.box.keeps k id, h.le, h.old.trans k, h.hg, h.hb, h.hp, h.ne1, h.ne2⟩
theorem Play.next {w wr wx w4 : World} {g b m p gone gone' : Nat} {all all' : ByteArray} {x y z : Value} (h : Play w wr g b m p all gone) (kx : Keeps (fun _ => False) wr wx) (k4 : Keeps (fun i => i = g ∨ i = b) wx w4)
    (B : Blk w4 p 29 #[x, y, z]) (r4 : IsRing w4 g b m (all'.data.toList.drop gone') gone') (hle : gone' ≤ all'.size) :
    Play w (((w4.setCell ⟨p, 0, none⟩ (.string all')).setCell ⟨p, 1, none⟩ (.int .i64 gone')).setCell ⟨p, 2, none⟩ (.int .i64 m)) g b m p all' gone' := by
  have kp : Keeps (· = p) w4 (((w4.setCell ⟨p, 0, none⟩ (.string all')).setCell ⟨p, 1, none⟩ (.int .i64 gone')).setCell ⟨p, 2, none⟩ (.int .i64 m)) :=
    (((Keeps.refl (· = p) w4).setCell (p := ⟨p, 0, none⟩) (fun _ => rfl) (.string all')).setCell (p := ⟨p, 1, none⟩) (fun _ => rfl) (.int .i64 gone')).setCell (p := ⟨p, 2, none⟩) (fun _ => rfl) (.int .i64 m)
  refine ⟨r4.keeps kp (fun e => h.ne1 e.symm) (fun e => h.ne2 e.symm), ?_, hle, ?_, h.hg, h.hb, h.hp, h.ne1, h.ne2⟩
  · have := ((B.set_ 0 (.string all')).set_ 1 (.int .i64 gone')).set_ 2 (.int .i64 m)
    simpa using this
  · have hg := h.hg
    have hb := h.hb
    have hp := h.hp
    exact ((h.old.trans kx).and_ k4 (fun i hi e => by omega)).and_ kp (fun i hi e => by omega)

theorem put_list {all s : ByteArray} {gone : Nat} (h : gone ≤ all.size) : (all ++ s).data.toList.drop gone = all.data.toList.drop gone ++ s.data.toList := by
  have e : (all ++ s).data.toList = all.data.toList ++ s.data.toList := by simp
  have l : all.data.toList.length = all.size := by simp
  rw [e, List.drop_append_of_le_length (by omega)]
theorem force_list {all s : ByteArray} {gone d : Nat} (h : gone ≤ all.size) : (all.data.toList.drop gone ++ s.data.toList).drop d = (all ++ s).data.toList.drop (gone + d) := by
  rw [← put_list h, List.drop_drop]
theorem take_str (all : ByteArray) (gone k : Nat) (h : gone ≤ all.size) : str ((all.data.toList.drop gone).take k) = all.extract gone (gone + min k (all.size - gone)) := by
  apply ba_ext
  have l : all.data.toList.length = all.size := by simp
  simp only [str_list, ByteArray.data_extract, Array.toList_extract, List.extract_eq_take_drop]
  rw [show gone + min k (all.size - gone) - gone = min k (all.size - gone) by omega, ← List.take_take, List.take_of_length_le (l := List.drop gone _) (i := all.size - gone) (by rw [List.length_drop, l]; omega)]
theorem drop_list (all : ByteArray) (gone k : Nat) (h : gone ≤ all.size) : (all.data.toList.drop gone).drop k = all.data.toList.drop (gone + min k (all.size - gone)) := by
  have l : all.data.toList.length = all.size := by simp
  rw [List.drop_drop]
  by_cases hc : k ≤ all.size - gone
  · congr 1; omega
  · rw [List.drop_eq_nil_of_le (by omega), List.drop_eq_nil_of_le (by omega)]

set_option maxRecDepth 100000 in
set_option maxHeartbeats 4000000 in
theorem plays_loop (w : World) (k0 : Int) (a : Option Addr) (n cap : Nat) (l : List Op04) (hk : 1 ≤ k0 ∧ k0 ≤ 1048576) (hn : n ≤ 60) (hl : SlAt opR 3 w a n l) (_hl2 : ∀ x ∈ l, x.kind ≤ 255 ∧ x.s.size ≤ maxLen) :
    Calls Try.prog 3 #[.int .i64 k0, .slice a n cap] w fun e w' => e = .returned (.bool true) ∧ Keeps (fun _ => False) w w' := by
  obtain ⟨hk1, hk2⟩ := hk
  obtain ⟨m, rfl⟩ := Int.eq_ofNat_of_zero_le (show 0 ≤ k0 by omega)
  have hln := hl.1
  go_enter Try.func3, Try.ntmps3
  go_wp2_with (first | (go_at_call 10; refine (new_ok w m (by omega) (by omega)).mono ?_; rintro e w1 ⟨g, b, rfl, hg, hb, k1, r1⟩))
  go_loopw [8, 9] (fun u8 u9 wr => ∃ (k gone : Nat) (all : ByteArray), k ≤ n ∧ u8 = .int .i64 k ∧ all.size ≤ 100 * k ∧ Play w wr g b m w1.heap.size all gone) (fun u8 _ _ => n - (intOf u8).toNat)
  case atStart =>
    refine ⟨0, 0, ⟨#[]⟩, by omega, rfl, by decide, ?_⟩
    have B0 := Blk.new w1 29 #[.string ⟨#[]⟩, .int .i64 0, .int .i64 m]
    have hr := r1.lt
    exact ⟨r1.keeps ((Keeps.refl (fun _ => False) w1).alloc _) id id, B0, Nat.le_refl _, k1.alloc _, hg, hb, k1.size, by omega, by omega⟩
  case round =>
    obtain ⟨k, gone, all, hkn, rfl, hsz, hP⟩ := hrel
    by_cases hlt : k < n
    · obtain ⟨x, hx⟩ : ∃ x, l[k]? = some x := ⟨l[k]'(by omega), List.getElem?_eq_getElem (by omega)⟩
      obtain ⟨b2, off, rfl, hb2, hc⟩ := (hl.keeps hP.old (fun _ _ h => h)).2 (by omega)
      have hcell0 := hc k x 0 _ hx rfl
      have hcell1 := hc k x 1 _ hx rfl
      have hcell2 := hc k x 2 _ hx rfl
      clear hc
      simp only [Nat.add_zero] at hcell0
      by_cases hbs : 100 < x.s.size
      · go_wp2
        go_roundw
        case rel => exact ⟨k + 1, gone, all, by omega, by go_num, by omega, hP⟩
        case measure => simp [intOf]; omega
      · have hbs2 : x.s.size ≤ 100 := by omega
        clear hbs
        have hcp0 : ∀ w', Keeps (fun _ => False) wr w' → w'.cell? ⟨w1.heap.size, 0, none⟩ = some (.string all) := fun w' kk => (hP.box.keeps kk id).cell 0
        have hcp1 : ∀ w', Keeps (fun _ => False) wr w' → w'.cell? ⟨w1.heap.size, 1, none⟩ = some (.int .i64 gone) := fun w' kk => (hP.box.keeps kk id).cell 1
        have hcp2 : ∀ w', Keeps (fun _ => False) wr w' → w'.cell? ⟨w1.heap.size, 2, none⟩ = some (.int .i64 m) := fun w' kk => (hP.box.keeps kk id).cell 2
        have hce1 : ∀ w', Keeps (fun _ => False) wr w' → w'.cell? ⟨b2, off + k * 3 + 1, none⟩ = some (.string x.s) := fun w' kk => (World.cell?_of_block (w := wr) (kk.block b2 hb2 id)).trans hcell1
        have hce2 : ∀ w', Keeps (fun _ => False) wr w' → w'.cell? ⟨b2, off + k * 3 + 2, none⟩ = some (.int .i64 x.n) := fun w' kk => (World.cell?_of_block (w := wr) (kk.block b2 hb2 id)).trans hcell2
        have hle := hP.le
        have hb3 : b2 < w.heap.size := by
          have := hl.2 (by omega)
          obtain ⟨b4, off4, e4, h4, -⟩ := this
          injection e4 with e4
          injection e4 with e4
          omega
        have hTl : (all.data.toList.drop gone).length = all.size - gone := by simp
        have HTL := Lib.hid hTl
        go_upto_block 2 with (fail)
        go_cut [9, 10, 11, 12, 13, 14, 15, 16, 17, 18, 19] (fun s9 s10 s11 s12 s13 s14 s15 s16 s17 s18 s19 wx => ∃ (gone' : Nat) (all' : ByteArray), s9 = .bool true ∧ all'.size ≤ 100 * (k + 1) ∧ Play w wx g b m w1.heap.size all' gone')
        case first =>
          rcases (show x.kind % 5 = 0 ∨ x.kind % 5 = 1 ∨ x.kind % 5 = 2 ∨ x.kind % 5 = 3 ∨ x.kind % 5 = 4 from by omega) with h0 | h0 | h0 | h0 | h0
          · have e0 : ((x.kind : Int) % 5 == 0) = true := by rw [beq_iff_eq]; omega
            clear h0
            by_cases hc : all.size - gone + x.s.size ≤ m
            · as_aux_lemma =>
              have hC : ∀ W, Calls Try.prog 11 #[.agg #[.string all, .int .i64 gone, .int .i64 m], .string x.s] W fun e w' => e = .returned (.tuple #[.agg #[.string (all ++ x.s), .int .i64 gone, .int .i64 m], .bool true]) ∧ Keeps (fun _ => False) W w' := fun W => by
                have := rput_any W all gone m x.s hle (by omega)
                rw [if_pos hc, decide_eq_true hc] at this
                exact this
              have HC := Lib.hid hC
              clear hC
              go_upto_region 16 with (fail)
              go_cut [10, 11] (fun s10 s11 wx => ∃ q : Nat, s10 = .pointer (some ⟨q, 0, none⟩) ∧ s11 = .bool true ∧ Blk wx q 29 #[.string (all ++ x.s), .int .i64 gone, .int .i64 m] ∧ wr.heap.size ≤ q ∧ Keeps (fun _ => False) wr wx)
              case first =>
                go_region_held3 (fun w' => Keeps (fun _ => False) wr w')
                  ((repeat (first | (with_reducible assumption) | (with_reducible exact Keeps.refl _ _) | refine Keeps.drew ?_ | refine Keeps.drewN ?_ _ | refine Keeps.alloc ?_ _ | refine Keeps.setCell ?_ (fun h => by first | (simp at h; done) | (simp at h; omega)) _)))
                  (first
                    | (go_at_call 11; rename_i hk _ _; refine (HC.out _).mono ?_; rintro e w3 ⟨rfl, k3⟩; have kk := hk.trans k3; have kz := kk.size; have kz2 := k3.size; try (have bn := Blk.keeps (Blk.new wr 29 #[.string { data := #[] }, .int .i64 0, .int .i64 0]) k3.from_drew id; have be := bn.all3)))
                all_goals (go_wp2_with fail; go_meet)
                case rel => exact ⟨_, rfl, rfl, Blk.new _ _ _, kz, kk.alloc _⟩
                case rel => exact ⟨_, rfl, rfl, ((bn.set_ 0 _).set_ 1 _).set_ 2 _, Nat.le_refl _, ((kk.setCell (fun h => by first | (simp at h; done) | (simp at h; omega)) _).setCell (fun h => by first | (simp at h; done) | (simp at h; omega)) _).setCell (fun h => by first | (simp at h; done) | (simp at h; omega)) _⟩
              case rest =>
                obtain ⟨q, rfl, rfl, hq, hq2, hq3⟩ := hcut
                have R := hP.ring.keeps hq3 id id
                have hne1 : q ≠ g := fun e => by have := hP.ring.lt; omega
                have hne2 : q ≠ b := fun e => by have := hP.ring.lt; omega
                have hne3 : q ≠ w1.heap.size := fun e => by have := hP.box.lt; omega
                have hS : ∀ i, i < w.heap.size → ¬ (i = g ∨ i = b ∨ i = w1.heap.size) := fun i hi h => by have := hP.hg; have := hP.hb; have := hP.hp; omega
                have hS2 : ¬ (q = g ∨ q = b ∨ q = w1.heap.size) := fun h => by omega
                have hcq0 : ∀ w', Keeps (fun i => i = g ∨ i = b ∨ i = w1.heap.size) wc w' → w'.cell? ⟨q, 0, none⟩ = some (.string (all ++ x.s)) := fun w' kk => (hq.keeps kk hS2).cell 0
                have hcq1 : ∀ w', Keeps (fun i => i = g ∨ i = b ∨ i = w1.heap.size) wc w' → w'.cell? ⟨q, 1, none⟩ = some (.int .i64 gone) := fun w' kk => (hq.keeps kk hS2).cell 1
                have hcq2 : ∀ w', Keeps (fun i => i = g ∨ i = b ∨ i = w1.heap.size) wc w' → w'.cell? ⟨q, 2, none⟩ = some (.int .i64 m) := fun w' kk => (hq.keeps kk hS2).cell 2
                have hcr1 : ∀ w', Keeps (fun i => i = g ∨ i = b ∨ i = w1.heap.size) wc w' → w'.cell? ⟨b2, off + k * 3 + 1, none⟩ = some (.string x.s) := fun w' kk => (World.cell?_of_block (w := wc) (kk.block b2 (Nat.lt_of_lt_of_le hb2 hq3.size) (hS b2 hb3))).trans (hce1 wc hq3)
                have hcr2 : ∀ w', Keeps (fun i => i = g ∨ i = b ∨ i = w1.heap.size) wc w' → w'.cell? ⟨b2, off + k * 3 + 2, none⟩ = some (.int .i64 x.n) := fun w' kk => (World.cell?_of_block (w := wc) (kk.block b2 (Nat.lt_of_lt_of_le hb2 hq3.size) (hS b2 hb3))).trans (hce2 wc hq3)
                clear hcp0 hcp1 hcp2 hce1 hce2 hcell0 hcell1 hcell2
                go_wp2_with fail
                go_region_held3 (fun w' => Keeps (fun i => i = g ∨ i = b ∨ i = w1.heap.size) wc w')
                  ((repeat (first | (with_reducible assumption) | (with_reducible exact Keeps.refl _ _) | refine Keeps.drew ?_ | refine Keeps.drewN ?_ _ | refine Keeps.alloc ?_ _ | refine Keeps.setCell ?_ (fun _ => .inr (.inr rfl)) _)))
                  (first
                    | (go_at_call 12; refine (iput_any _ g b m _ gone x.s (R.keeps ((Keeps.refl (fun _ => False) _).drew) id id) (by unfold maxLen; omega)).mono ?_; rw [if_pos (by rw [hTl]; exact hc), decide_eq_true (show (all.data.toList.drop gone).length + x.s.size ≤ m from by rw [hTl]; exact hc), ← put_list hle]; rintro e w4 ⟨rfl, k4, r4⟩; have B5 := ((hP.box.keeps hq3 id).drew.keeps k4 (fun h => by rcases h with h | h; exact hP.ne1 h; exact hP.ne2 h)); have be := B5.all3; have kk := (Keeps.refl (fun i => i = g ∨ i = b ∨ i = w1.heap.size) wc).drew.trans (k4.mono (fun i _ h => by rcases h with h | h; exact .inl h; exact .inr (.inl h)))))
                all_goals (go_wp2_with fail; go_meet)
                case rel => exact ⟨_, _, rfl, by simp; omega, hP.next hq3 k4.from_drew B5 r4 (by simp; omega)⟩
            · as_aux_lemma =>
              have hC : ∀ W, Calls Try.prog 11 #[.agg #[.string all, .int .i64 gone, .int .i64 m], .string x.s] W fun e w' => e = .returned (.tuple #[.agg #[.string all, .int .i64 gone, .int .i64 m], .bool false]) ∧ Keeps (fun _ => False) W w' := fun W => by
                have := rput_any W all gone m x.s hle (by omega)
                rw [if_neg hc, decide_eq_false hc] at this
                exact this
              have HC := Lib.hid hC
              clear hC
              go_upto_region 16 with (fail)
              go_cut [10, 11] (fun s10 s11 wx => ∃ q : Nat, s10 = .pointer (some ⟨q, 0, none⟩) ∧ s11 = .bool false ∧ Blk wx q 29 #[.string all, .int .i64 gone, .int .i64 m] ∧ wr.heap.size ≤ q ∧ Keeps (fun _ => False) wr wx)
              case first =>
                go_region_held3 (fun w' => Keeps (fun _ => False) wr w')
                  ((repeat (first | (with_reducible assumption) | (with_reducible exact Keeps.refl _ _) | refine Keeps.drew ?_ | refine Keeps.drewN ?_ _ | refine Keeps.alloc ?_ _ | refine Keeps.setCell ?_ (fun h => by first | (simp at h; done) | (simp at h; omega)) _)))
                  (first
                    | (go_at_call 11; rename_i hk _ _; refine (HC.out _).mono ?_; rintro e w3 ⟨rfl, k3⟩; have kk := hk.trans k3; have kz := kk.size; have kz2 := k3.size; try (have bn := Blk.keeps (Blk.new wr 29 #[.string { data := #[] }, .int .i64 0, .int .i64 0]) k3.from_drew id; have be := bn.all3)))
                all_goals (go_wp2_with fail; go_meet)
                case rel => exact ⟨_, rfl, rfl, Blk.new _ _ _, kz, kk.alloc _⟩
                case rel => exact ⟨_, rfl, rfl, ((bn.set_ 0 _).set_ 1 _).set_ 2 _, Nat.le_refl _, ((kk.setCell (fun h => by first | (simp at h; done) | (simp at h; omega)) _).setCell (fun h => by first | (simp at h; done) | (simp at h; omega)) _).setCell (fun h => by first | (simp at h; done) | (simp at h; omega)) _⟩
              case rest =>
                obtain ⟨q, rfl, rfl, hq, hq2, hq3⟩ := hcut
                have R := hP.ring.keeps hq3 id id
                have hne1 : q ≠ g := fun e => by have := hP.ring.lt; omega
                have hne2 : q ≠ b := fun e => by have := hP.ring.lt; omega
                have hne3 : q ≠ w1.heap.size := fun e => by have := hP.box.lt; omega
                have hS : ∀ i, i < w.heap.size → ¬ (i = g ∨ i = b ∨ i = w1.heap.size) := fun i hi h => by have := hP.hg; have := hP.hb; have := hP.hp; omega
                have hS2 : ¬ (q = g ∨ q = b ∨ q = w1.heap.size) := fun h => by omega
                have hcq0 : ∀ w', Keeps (fun i => i = g ∨ i = b ∨ i = w1.heap.size) wc w' → w'.cell? ⟨q, 0, none⟩ = some (.string all) := fun w' kk => (hq.keeps kk hS2).cell 0
                have hcq1 : ∀ w', Keeps (fun i => i = g ∨ i = b ∨ i = w1.heap.size) wc w' → w'.cell? ⟨q, 1, none⟩ = some (.int .i64 gone) := fun w' kk => (hq.keeps kk hS2).cell 1
                have hcq2 : ∀ w', Keeps (fun i => i = g ∨ i = b ∨ i = w1.heap.size) wc w' → w'.cell? ⟨q, 2, none⟩ = some (.int .i64 m) := fun w' kk => (hq.keeps kk hS2).cell 2
                have hcr1 : ∀ w', Keeps (fun i => i = g ∨ i = b ∨ i = w1.heap.size) wc w' → w'.cell? ⟨b2, off + k * 3 + 1, none⟩ = some (.string x.s) := fun w' kk => (World.cell?_of_block (w := wc) (kk.block b2 (Nat.lt_of_lt_of_le hb2 hq3.size) (hS b2 hb3))).trans (hce1 wc hq3)
                have hcr2 : ∀ w', Keeps (fun i => i = g ∨ i = b ∨ i = w1.heap.size) wc w' → w'.cell? ⟨b2, off + k * 3 + 2, none⟩ = some (.int .i64 x.n) := fun w' kk => (World.cell?_of_block (w := wc) (kk.block b2 (Nat.lt_of_lt_of_le hb2 hq3.size) (hS b2 hb3))).trans (hce2 wc hq3)
                clear hcp0 hcp1 hcp2 hce1 hce2 hcell0 hcell1 hcell2
                go_wp2_with fail
                go_region_held3 (fun w' => Keeps (fun i => i = g ∨ i = b ∨ i = w1.heap.size) wc w')
                  ((repeat (first | (with_reducible assumption) | (with_reducible exact Keeps.refl _ _) | refine Keeps.drew ?_ | refine Keeps.drewN ?_ _ | refine Keeps.alloc ?_ _ | refine Keeps.setCell ?_ (fun _ => .inr (.inr rfl)) _)))
                  (first
                    | (go_at_call 12; refine (iput_any _ g b m _ gone x.s (R.keeps ((Keeps.refl (fun _ => False) _).drew) id id) (by unfold maxLen; omega)).mono ?_; rw [if_neg (by rw [hTl]; exact hc), decide_eq_false (show ¬ (all.data.toList.drop gone).length + x.s.size ≤ m from by rw [hTl]; exact hc)]; rintro e w4 ⟨rfl, k4, r4⟩; have B5 := ((hP.box.keeps hq3 id).drew.keeps k4 (fun h => by rcases h with h | h; exact hP.ne1 h; exact hP.ne2 h)); have be := B5.all3; have kk := (Keeps.refl (fun i => i = g ∨ i = b ∨ i = w1.heap.size) wc).drew.trans (k4.mono (fun i _ h => by rcases h with h | h; exact .inl h; exact .inr (.inl h)))))
                all_goals (go_wp2_with fail; go_meet)
                case rel => exact ⟨_, _, rfl, by omega, hP.next hq3 k4.from_drew B5 r4 hle⟩
          · have e0 : ((x.kind : Int) % 5 == 0) = false := by rw [beq_eq_false_iff_ne]; omega
            have e1 : ((x.kind : Int) % 5 == 1) = true := by rw [beq_iff_eq]; omega
            clear h0
            as_aux_lemma =>
            obtain ⟨d, hd⟩ : ∃ d, d = all.size + x.s.size - gone - m := ⟨_, rfl⟩
            have hd2 : gone + d ≤ all.size + x.s.size := by omega
            have hd3 : (all.data.toList.drop gone).length + x.s.size - m = d := by rw [hTl, hd]; omega
            have hC : ∀ W, Calls Try.prog 13 #[.agg #[.string all, .int .i64 gone, .int .i64 m], .string x.s] W fun e w' => e = .returned (.tuple #[.agg #[.string (all ++ x.s), .int .i64 (gone + d : Nat), .int .i64 m], .int .i64 d]) ∧ Keeps (fun _ => False) W w' := fun W => by
              rw [hd]
              exact rforce_any W all gone m x.s hle (by omega) (by omega)
            have HC := Lib.hid hC
            have HD3 := Lib.hid hd3
            clear hC hd hd3
            go_upto_region 19 with (fail)
            go_cut [12, 13] (fun s10 s11 wx => ∃ q : Nat, s10 = .pointer (some ⟨q, 0, none⟩) ∧ s11 = .int .i64 d ∧ Blk wx q 29 #[.string (all ++ x.s), .int .i64 (gone + d : Nat), .int .i64 m] ∧ wr.heap.size ≤ q ∧ Keeps (fun _ => False) wr wx)
            case first =>
              go_region_held3 (fun w' => Keeps (fun _ => False) wr w')
                ((repeat (first | (with_reducible assumption) | (with_reducible exact Keeps.refl _ _) | refine Keeps.drew ?_ | refine Keeps.drewN ?_ _ | refine Keeps.alloc ?_ _ | refine Keeps.setCell ?_ (fun h => by first | (simp at h; done) | (simp at h; omega)) _)))
                (first
                  | (go_at_call 13; rename_i hk _ _; refine (HC.out _).mono ?_; rintro e w3 ⟨rfl, k3⟩; have kk := hk.trans k3; have kz := kk.size; have kz2 := k3.size; try (have bn := Blk.keeps (Blk.new wr 29 #[.string { data := #[] }, .int .i64 0, .int .i64 0]) k3.from_drew id; have be := bn.all3)))
              all_goals (go_wp2_with fail; go_meet)
              case rel => exact ⟨_, rfl, rfl, Blk.new _ _ _, kz, kk.alloc _⟩
              case rel => exact ⟨_, rfl, rfl, ((bn.set_ 0 _).set_ 1 _).set_ 2 _, Nat.le_refl _, ((kk.setCell (fun h => by first | (simp at h; done) | (simp at h; omega)) _).setCell (fun h => by first | (simp at h; done) | (simp at h; omega)) _).setCell (fun h => by first | (simp at h; done) | (simp at h; omega)) _⟩
            case rest =>
              obtain ⟨q, rfl, rfl, hq, hq2, hq3⟩ := hcut
              have R := hP.ring.keeps hq3 id id
              have hne1 : q ≠ g := fun e => by have := hP.ring.lt; omega
              have hne2 : q ≠ b := fun e => by have := hP.ring.lt; omega
              have hne3 : q ≠ w1.heap.size := fun e => by have := hP.box.lt; omega
              have hS : ∀ i, i < w.heap.size → ¬ (i = g ∨ i = b ∨ i = w1.heap.size) := fun i hi h => by have := hP.hg; have := hP.hb; have := hP.hp; omega
              have hS2 : ¬ (q = g ∨ q = b ∨ q = w1.heap.size) := fun h => by omega
              have hcq0 : ∀ w', Keeps (fun i => i = g ∨ i = b ∨ i = w1.heap.size) wc w' → w'.cell? ⟨q, 0, none⟩ = some (.string (all ++ x.s)) := fun w' kk => (hq.keeps kk hS2).cell 0
              have hcq1 : ∀ w', Keeps (fun i => i = g ∨ i = b ∨ i = w1.heap.size) wc w' → w'.cell? ⟨q, 1, none⟩ = some (.int .i64 (gone + d : Nat)) := fun w' kk => (hq.keeps kk hS2).cell 1
              have hcq2 : ∀ w', Keeps (fun i => i = g ∨ i = b ∨ i = w1.heap.size) wc w' → w'.cell? ⟨q, 2, none⟩ = some (.int .i64 m) := fun w' kk => (hq.keeps kk hS2).cell 2
              have hcr1 : ∀ w', Keeps (fun i => i = g ∨ i = b ∨ i = w1.heap.size) wc w' → w'.cell? ⟨b2, off + k * 3 + 1, none⟩ = some (.string x.s) := fun w' kk => (World.cell?_of_block (w := wc) (kk.block b2 (Nat.lt_of_lt_of_le hb2 hq3.size) (hS b2 hb3))).trans (hce1 wc hq3)
              have hcr2 : ∀ w', Keeps (fun i => i = g ∨ i = b ∨ i = w1.heap.size) wc w' → w'.cell? ⟨b2, off + k * 3 + 2, none⟩ = some (.int .i64 x.n) := fun w' kk => (World.cell?_of_block (w := wc) (kk.block b2 (Nat.lt_of_lt_of_le hb2 hq3.size) (hS b2 hb3))).trans (hce2 wc hq3)
              clear hcp0 hcp1 hcp2 hce1 hce2 hcell0 hcell1 hcell2
              go_wp2_with fail
              go_region_held3 (fun w' => Keeps (fun i => i = g ∨ i = b ∨ i = w1.heap.size) wc w')
                ((repeat (first | (with_reducible assumption) | (with_reducible exact Keeps.refl _ _) | refine Keeps.drew ?_ | refine Keeps.drewN ?_ _ | refine Keeps.alloc ?_ _ | refine Keeps.setCell ?_ (fun _ => .inr (.inr rfl)) _)))
                (first
                  | (go_at_call 14; refine (force_any _ g b m _ gone x.s (R.keeps ((Keeps.refl (fun _ => False) _).drew) id id) (by unfold maxLen; omega) (by omega)).mono ?_; rw [HD3.out, force_list hle]; rintro e w4 ⟨rfl, k4, r4⟩; have B5 := ((hP.box.keeps hq3 id).drew.keeps k4 (fun h => by rcases h with h | h; exact hP.ne1 h; exact hP.ne2 h)); have be := B5.all3; have kk := (Keeps.refl (fun i => i = g ∨ i = b ∨ i = w1.heap.size) wc).drew.trans (k4.mono (fun i _ h => by rcases h with h | h; exact .inl h; exact .inr (.inl h)))))
              all_goals (go_wp2_with fail; go_meet)
              case rel => exact ⟨_, _, rfl, by simp; omega, hP.next hq3 k4.from_drew B5 r4 (by simp; omega)⟩
          · have e0 : ((x.kind : Int) % 5 == 0) = false := by rw [beq_eq_false_iff_ne]; omega
            have e1 : ((x.kind : Int) % 5 == 1) = false := by rw [beq_eq_false_iff_ne]; omega
            have e2 : ((x.kind : Int) % 5 == 2) = true := by rw [beq_iff_eq]; omega
            clear h0
            as_aux_lemma =>
            obtain ⟨d, hd⟩ : ∃ d, d = min x.n.toNat (all.size - gone) := ⟨_, rfl⟩
            have hd2 : gone + d ≤ all.size := by omega
            have hd3 : min x.n.toNat (all.data.toList.drop gone).length = d := by rw [hTl, hd]
            obtain ⟨ts, hts⟩ : ∃ ts, ts = all.extract gone (gone + d) := ⟨_, rfl⟩
            have hts2 : (ts.size : Int) = d := by rw [hts]; simp; omega
            have hts3 : str ((all.data.toList.drop gone).take x.n.toNat) = ts := by rw [hts, hd]; exact take_str all gone x.n.toNat hle
            have hdr : (all.data.toList.drop gone).drop x.n.toNat = all.data.toList.drop (gone + d) := by rw [hd]; exact drop_list all gone x.n.toNat hle
            have hC : ∀ W, Calls Try.prog 15 #[.agg #[.string all, .int .i64 gone, .int .i64 m], .int .i64 x.n] W fun e w' => e = .returned (.tuple #[.agg #[.string all, .int .i64 (gone + d : Nat), .int .i64 m], .string ts]) ∧ Keeps (fun _ => False) W w' := fun W => by
              rw [hts, hd]
              exact rtake_any W all gone m x.n hle (by omega)
            have HC := Lib.hid hC
            have HD3 := Lib.hid hd3
            have HS3 := Lib.hid hts3
            have HDR := Lib.hid hdr
            clear hC hd hd3 hts hts3 hdr
            go_upto_region 22 with (fail)
            go_cut [14, 15] (fun s10 s11 wx => ∃ q : Nat, s10 = .pointer (some ⟨q, 0, none⟩) ∧ s11 = .string ts ∧ Blk wx q 29 #[.string all, .int .i64 (gone + d : Nat), .int .i64 m] ∧ wr.heap.size ≤ q ∧ Keeps (fun _ => False) wr wx)
            case first =>
              go_region_held3 (fun w' => Keeps (fun _ => False) wr w')
                ((repeat (first | (with_reducible assumption) | (with_reducible exact Keeps.refl _ _) | refine Keeps.drew ?_ | refine Keeps.drewN ?_ _ | refine Keeps.alloc ?_ _ | refine Keeps.setCell ?_ (fun h => by first | (simp at h; done) | (simp at h; omega)) _)))
                (first
                  | (go_at_call 15; rename_i hk _ _; refine (HC.out _).mono ?_; rintro e w3 ⟨rfl, k3⟩; have kk := hk.trans k3; have kz := kk.size; have kz2 := k3.size; try (have bn := Blk.keeps (Blk.new wr 29 #[.string { data := #[] }, .int .i64 0, .int .i64 0]) k3.from_drew id; have be := bn.all3)))
              all_goals (go_wp2_with fail; go_meet)
              case rel => exact ⟨_, rfl, rfl, Blk.new _ _ _, kz, kk.alloc _⟩
              case rel => exact ⟨_, rfl, rfl, ((bn.set_ 0 _).set_ 1 _).set_ 2 _, Nat.le_refl _, ((kk.setCell (fun h => by first | (simp at h; done) | (simp at h; omega)) _).setCell (fun h => by first | (simp at h; done) | (simp at h; omega)) _).setCell (fun h => by first | (simp at h; done) | (simp at h; omega)) _⟩
            case rest =>
              obtain ⟨q, rfl, rfl, hq, hq2, hq3⟩ := hcut
              have R := hP.ring.keeps hq3 id id
              have hne1 : q ≠ g := fun e => by have := hP.ring.lt; omega
              have hne2 : q ≠ b := fun e => by have := hP.ring.lt; omega
              have hne3 : q ≠ w1.heap.size := fun e => by have := hP.box.lt; omega
              have hS : ∀ i, i < w.heap.size → ¬ (i = g ∨ i = b ∨ i = w1.heap.size) := fun i hi h => by have := hP.hg; have := hP.hb; have := hP.hp; omega
              have hS2 : ¬ (q = g ∨ q = b ∨ q = w1.heap.size) := fun h => by omega
              have hcq0 : ∀ w', Keeps (fun i => i = g ∨ i = b ∨ i = w1.heap.size) wc w' → w'.cell? ⟨q, 0, none⟩ = some (.string all) := fun w' kk => (hq.keeps kk hS2).cell 0
              have hcq1 : ∀ w', Keeps (fun i => i = g ∨ i = b ∨ i = w1.heap.size) wc w' → w'.cell? ⟨q, 1, none⟩ = some (.int .i64 (gone + d : Nat)) := fun w' kk => (hq.keeps kk hS2).cell 1
              have hcq2 : ∀ w', Keeps (fun i => i = g ∨ i = b ∨ i = w1.heap.size) wc w' → w'.cell? ⟨q, 2, none⟩ = some (.int .i64 m) := fun w' kk => (hq.keeps kk hS2).cell 2
              have hcr1 : ∀ w', Keeps (fun i => i = g ∨ i = b ∨ i = w1.heap.size) wc w' → w'.cell? ⟨b2, off + k * 3 + 1, none⟩ = some (.string x.s) := fun w' kk => (World.cell?_of_block (w := wc) (kk.block b2 (Nat.lt_of_lt_of_le hb2 hq3.size) (hS b2 hb3))).trans (hce1 wc hq3)
              have hcr2 : ∀ w', Keeps (fun i => i = g ∨ i = b ∨ i = w1.heap.size) wc w' → w'.cell? ⟨b2, off + k * 3 + 2, none⟩ = some (.int .i64 x.n) := fun w' kk => (World.cell?_of_block (w := wc) (kk.block b2 (Nat.lt_of_lt_of_le hb2 hq3.size) (hS b2 hb3))).trans (hce2 wc hq3)
              clear hcp0 hcp1 hcp2 hce1 hce2 hcell0 hcell1 hcell2
              go_wp2_with fail
              go_region_held3 (fun w' => Keeps (fun i => i = g ∨ i = b ∨ i = w1.heap.size) wc w')
                ((repeat (first | (with_reducible assumption) | (with_reducible exact Keeps.refl _ _) | refine Keeps.drew ?_ | refine Keeps.drewN ?_ _ | refine Keeps.alloc ?_ _ | refine Keeps.setCell ?_ (fun _ => .inr (.inr rfl)) _)))
                (first
                  | (go_at_call 16; refine (itake_any _ g b m _ gone x.n (R.keeps ((Keeps.refl (fun _ => False) _).drew) id id) (by omega)).mono ?_; rw [HD3.out, HS3.out, HDR.out]; rintro e w4 ⟨rfl, k4, r4⟩; have B5 := ((hP.box.keeps hq3 id).drew.keeps k4 (fun h => by rcases h with h | h; exact hP.ne1 h; exact hP.ne2 h)); have be := B5.all3; have kk := (Keeps.refl (fun i => i = g ∨ i = b ∨ i = w1.heap.size) wc).drew.trans (k4.mono (fun i _ h => by rcases h with h | h; exact .inl h; exact .inr (.inl h)))))
              all_goals (go_wp2_with fail; go_meet)
              case rel => exact ⟨_, _, rfl, by omega, hP.next hq3 k4.from_drew B5 r4 hd2⟩
          · have e0 : ((x.kind : Int) % 5 == 0) = false := by rw [beq_eq_false_iff_ne]; omega
            have e1 : ((x.kind : Int) % 5 == 1) = false := by rw [beq_eq_false_iff_ne]; omega
            have e2 : ((x.kind : Int) % 5 == 2) = false := by rw [beq_eq_false_iff_ne]; omega
            have e3 : ((x.kind : Int) % 5 == 3) = true := by rw [beq_iff_eq]; omega
            clear h0
            as_aux_lemma =>
            obtain ⟨d, hd⟩ : ∃ d, d = min x.n.toNat (all.size - gone) := ⟨_, rfl⟩
            have hd2 : gone + d ≤ all.size := by omega
            have hd3 : min x.n.toNat (all.data.toList.drop gone).length = d := by rw [hTl, hd]
            obtain ⟨ts, hts⟩ : ∃ ts, ts = all.extract gone (gone + d) := ⟨_, rfl⟩
            have hts2 : (ts.size : Int) = d := by rw [hts]; simp; omega
            have hts3 : str ((all.data.toList.drop gone).take x.n.toNat) = ts := by rw [hts, hd]; exact take_str all gone x.n.toNat hle
            have hdr : (all.data.toList.drop gone).drop x.n.toNat = all.data.toList.drop (gone + d) := by rw [hd]; exact drop_list all gone x.n.toNat hle
            have hC : ∀ W, Calls Try.prog 15 #[.agg #[.string all, .int .i64 gone, .int .i64 m], .int .i64 x.n] W fun e w' => e = .returned (.tuple #[.agg #[.string all, .int .i64 (gone + d : Nat), .int .i64 m], .string ts]) ∧ Keeps (fun _ => False) W w' := fun W => by
              rw [hts, hd]
              exact rtake_any W all gone m x.n hle (by omega)
            have HC := Lib.hid hC
            have HD3 := Lib.hid hd3
            have HS3 := Lib.hid hts3
            have HDR := Lib.hid hdr
            clear hC hd hd3 hts hts3 hdr
            go_upto_region 25 with (fail)
            go_cut [16, 17] (fun s10 s11 wx => ∃ q : Nat, s10 = .pointer (some ⟨q, 0, none⟩) ∧ s11 = .string ts ∧ Blk wx q 29 #[.string all, .int .i64 (gone + d : Nat), .int .i64 m] ∧ wr.heap.size ≤ q ∧ Keeps (fun _ => False) wr wx)
            case first =>
              go_region_held3 (fun w' => Keeps (fun _ => False) wr w')
                ((repeat (first | (with_reducible assumption) | (with_reducible exact Keeps.refl _ _) | refine Keeps.drew ?_ | refine Keeps.drewN ?_ _ | refine Keeps.alloc ?_ _ | refine Keeps.setCell ?_ (fun h => by first | (simp at h; done) | (simp at h; omega)) _)))
                (first
                  | (go_at_call 15; rename_i hk _ _; refine (HC.out _).mono ?_; rintro e w3 ⟨rfl, k3⟩; have kk := hk.trans k3; have kz := kk.size; have kz2 := k3.size; try (have bn := Blk.keeps (Blk.new wr 29 #[.string { data := #[] }, .int .i64 0, .int .i64 0]) k3.from_drew id; have be := bn.all3)))
              all_goals (go_wp2_with fail; go_meet)
              case rel => exact ⟨_, rfl, rfl, Blk.new _ _ _, kz, kk.alloc _⟩
              case rel => exact ⟨_, rfl, rfl, ((bn.set_ 0 _).set_ 1 _).set_ 2 _, Nat.le_refl _, ((kk.setCell (fun h => by first | (simp at h; done) | (simp at h; omega)) _).setCell (fun h => by first | (simp at h; done) | (simp at h; omega)) _).setCell (fun h => by first | (simp at h; done) | (simp at h; omega)) _⟩
            case rest =>
              obtain ⟨q, rfl, rfl, hq, hq2, hq3⟩ := hcut
              have R := hP.ring.keeps hq3 id id
              have c2 := hce2 wc hq3
              go_wp2_with (go_at_call 17; go_must (refine (ipeek_any _ g b m _ gone x.n R).mono ?_; rw [HS3.out]; rintro e w4 ⟨rfl, k4⟩))
              go_meet
              case rel => exact ⟨_, _, rfl, by omega, hP.stay (hq3.trans k4)⟩
          · have e0 : ((x.kind : Int) % 5 == 0) = false := by rw [beq_eq_false_iff_ne]; omega
            have e1 : ((x.kind : Int) % 5 == 1) = false := by rw [beq_eq_false_iff_ne]; omega
            have e2 : ((x.kind : Int) % 5 == 2) = false := by rw [beq_eq_false_iff_ne]; omega
            have e3 : ((x.kind : Int) % 5 == 3) = false := by rw [beq_eq_false_iff_ne]; omega
            clear h0
            as_aux_lemma =>
            obtain ⟨d, hd⟩ : ∃ d, d = min x.n.toNat (all.size - gone) := ⟨_, rfl⟩
            have hd2 : gone + d ≤ all.size := by omega
            have hd3 : min x.n.toNat (all.data.toList.drop gone).length = d := by rw [hTl, hd]
            obtain ⟨ts, hts⟩ : ∃ ts, ts = all.extract gone (gone + d) := ⟨_, rfl⟩
            have hts2 : (ts.size : Int) = d := by rw [hts]; simp; omega
            have hts3 : str ((all.data.toList.drop gone).take x.n.toNat) = ts := by rw [hts, hd]; exact take_str all gone x.n.toNat hle
            have hdr : (all.data.toList.drop gone).drop x.n.toNat = all.data.toList.drop (gone + d) := by rw [hd]; exact drop_list all gone x.n.toNat hle
            have hC : ∀ W, Calls Try.prog 15 #[.agg #[.string all, .int .i64 gone, .int .i64 m], .int .i64 x.n] W fun e w' => e = .returned (.tuple #[.agg #[.string all, .int .i64 (gone + d : Nat), .int .i64 m], .string ts]) ∧ Keeps (fun _ => False) W w' := fun W => by
              rw [hts, hd]
              exact rtake_any W all gone m x.n hle (by omega)
            have HC := Lib.hid hC
            have HD3 := Lib.hid hd3
            have HS3 := Lib.hid hts3
            have HDR := Lib.hid hdr
            clear hC hd hd3 hts hts3 hdr
            go_upto_region 13 with (fail)
            go_cut [18, 19] (fun s10 s11 wx => ∃ q : Nat, s10 = .pointer (some ⟨q, 0, none⟩) ∧ s11 = .string ts ∧ Blk wx q 29 #[.string all, .int .i64 (gone + d : Nat), .int .i64 m] ∧ wr.heap.size ≤ q ∧ Keeps (fun _ => False) wr wx)
            case first =>
              go_region_held3 (fun w' => Keeps (fun _ => False) wr w')
                ((repeat (first | (with_reducible assumption) | (with_reducible exact Keeps.refl _ _) | refine Keeps.drew ?_ | refine Keeps.drewN ?_ _ | refine Keeps.alloc ?_ _ | refine Keeps.setCell ?_ (fun h => by first | (simp at h; done) | (simp at h; omega)) _)))
                (first
                  | (go_at_call 15; rename_i hk _ _; refine (HC.out _).mono ?_; rintro e w3 ⟨rfl, k3⟩; have kk := hk.trans k3; have kz := kk.size; have kz2 := k3.size; try (have bn := Blk.keeps (Blk.new wr 29 #[.string { data := #[] }, .int .i64 0, .int .i64 0]) k3.from_drew id; have be := bn.all3)))
              all_goals (go_wp2_with fail; go_meet)
              case rel => exact ⟨_, rfl, rfl, Blk.new _ _ _, kz, kk.alloc _⟩
              case rel => exact ⟨_, rfl, rfl, ((bn.set_ 0 _).set_ 1 _).set_ 2 _, Nat.le_refl _, ((kk.setCell (fun h => by first | (simp at h; done) | (simp at h; omega)) _).setCell (fun h => by first | (simp at h; done) | (simp at h; omega)) _).setCell (fun h => by first | (simp at h; done) | (simp at h; omega)) _⟩
            case rest =>
              obtain ⟨q, rfl, rfl, hq, hq2, hq3⟩ := hcut
              have R := hP.ring.keeps hq3 id id
              have hne1 : q ≠ g := fun e => by have := hP.ring.lt; omega
              have hne2 : q ≠ b := fun e => by have := hP.ring.lt; omega
              have hne3 : q ≠ w1.heap.size := fun e => by have := hP.box.lt; omega
              have hS : ∀ i, i < w.heap.size → ¬ (i = g ∨ i = b ∨ i = w1.heap.size) := fun i hi h => by have := hP.hg; have := hP.hb; have := hP.hp; omega
              have hS2 : ¬ (q = g ∨ q = b ∨ q = w1.heap.size) := fun h => by omega
              have hcq0 : ∀ w', Keeps (fun i => i = g ∨ i = b ∨ i = w1.heap.size) wc w' → w'.cell? ⟨q, 0, none⟩ = some (.string all) := fun w' kk => (hq.keeps kk hS2).cell 0
              have hcq1 : ∀ w', Keeps (fun i => i = g ∨ i = b ∨ i = w1.heap.size) wc w' → w'.cell? ⟨q, 1, none⟩ = some (.int .i64 (gone + d : Nat)) := fun w' kk => (hq.keeps kk hS2).cell 1
              have hcq2 : ∀ w', Keeps (fun i => i = g ∨ i = b ∨ i = w1.heap.size) wc w' → w'.cell? ⟨q, 2, none⟩ = some (.int .i64 m) := fun w' kk => (hq.keeps kk hS2).cell 2
              have hcr1 : ∀ w', Keeps (fun i => i = g ∨ i = b ∨ i = w1.heap.size) wc w' → w'.cell? ⟨b2, off + k * 3 + 1, none⟩ = some (.string x.s) := fun w' kk => (World.cell?_of_block (w := wc) (kk.block b2 (Nat.lt_of_lt_of_le hb2 hq3.size) (hS b2 hb3))).trans (hce1 wc hq3)
              have hcr2 : ∀ w', Keeps (fun i => i = g ∨ i = b ∨ i = w1.heap.size) wc w' → w'.cell? ⟨b2, off + k * 3 + 2, none⟩ = some (.int .i64 x.n) := fun w' kk => (World.cell?_of_block (w := wc) (kk.block b2 (Nat.lt_of_lt_of_le hb2 hq3.size) (hS b2 hb3))).trans (hce2 wc hq3)
              clear hcp0 hcp1 hcp2 hce1 hce2 hcell0 hcell1 hcell2
              go_wp2_with fail
              go_region_held3 (fun w' => Keeps (fun i => i = g ∨ i = b ∨ i = w1.heap.size) wc w')
                ((repeat (first | (with_reducible assumption) | (with_reducible exact Keeps.refl _ _) | refine Keeps.drew ?_ | refine Keeps.drewN ?_ _ | refine Keeps.alloc ?_ _ | refine Keeps.setCell ?_ (fun _ => .inr (.inr rfl)) _)))
                (first
                  | (go_at_call 18; refine (idrop_any _ g b m _ gone x.n (R.keeps ((Keeps.refl (fun _ => False) _).drew) id id) (by omega)).mono ?_; rw [HD3.out, HDR.out]; rintro e w4 ⟨rfl, k4, r4⟩; have B5 := ((hP.box.keeps hq3 id).drew.keeps k4 (fun h => by rcases h with h | h; exact hP.ne1 h; exact hP.ne2 h)); have be := B5.all3; have kk := (Keeps.refl (fun i => i = g ∨ i = b ∨ i = w1.heap.size) wc).drew.trans (k4.mono (fun i _ h => by rcases h with h | h; exact .inl h; exact .inr (.inl h)))))
              all_goals (go_wp2_with fail; go_meet)
              case rel => exact ⟨_, _, rfl, by omega, hP.next hq3 k4.from_drew B5 r4 hd2⟩
        case rest =>
          as_aux_lemma =>
          obtain ⟨gone', all', rfl, hsz', hP'⟩ := hcut
          have hb4 : b2 < wc.heap.size := Nat.lt_of_lt_of_le hb3 hP'.old.size
          have hx2 : wc.cell? ⟨b2, off + k * 3 + 2, none⟩ = some (.int .i64 x.n) := by
            obtain ⟨b5, off5, e5, -, hc5⟩ := (hl.keeps hP'.old (fun _ _ h => h)).2 (by omega)
            injection e5 with e5
            injection e5 with e5 e6
            subst e5 e6
            exact hc5 k x 2 _ hx rfl
          clear hcp0 hcp1 hcp2 hce1 hce2 hcell0 hcell1 hcell2 hTl HTL
          have hcp0 : ∀ w', Keeps (fun _ => False) wc w' → w'.cell? ⟨w1.heap.size, 0, none⟩ = some (.string all') := fun w' kk => (hP'.box.keeps kk id).cell 0
          have hcp1 : ∀ w', Keeps (fun _ => False) wc w' → w'.cell? ⟨w1.heap.size, 1, none⟩ = some (.int .i64 gone') := fun w' kk => (hP'.box.keeps kk id).cell 1
          have hcp2 : ∀ w', Keeps (fun _ => False) wc w' → w'.cell? ⟨w1.heap.size, 2, none⟩ = some (.int .i64 m) := fun w' kk => (hP'.box.keeps kk id).cell 2
          have hce2 : ∀ w', Keeps (fun _ => False) wc w' → w'.cell? ⟨b2, off + k * 3 + 2, none⟩ = some (.int .i64 x.n) := fun w' kk => (World.cell?_of_block (w := wc) (kk.block b2 hb4 id)).trans hx2
          go_wp2_with fail
          go_region_held3 (fun w' => Keeps (fun _ => False) wc w')
            ((repeat (first | (with_reducible assumption) | (with_reducible exact Keeps.refl _ _) | refine Keeps.drew ?_ | refine Keeps.drewN ?_ _)))
            (first
              | (go_at_call 19; rename_i hk _ _; refine (same_any _ g b m gone' all' x.n (hP'.ring.keeps hk id id) hP'.le (by omega)).mono ?_; rintro e w4 ⟨rfl, k4⟩; have kk := hk.trans k4))
          all_goals
            rename_i kk
            go_wp2
            go_roundw
            case rel => exact ⟨k + 1, gone', all', by omega, by go_num, by omega, hP'.stay kk⟩
            case measure => simp [intOf]; omega
    · have hk2 : k = n := by omega
      go_wp2_with (go_at_call 9; refine (works04 _).mono ?_; rintro e w2 ⟨rfl, k2⟩)
      go_ret
      exact ⟨rfl, hP.old.trans k2⟩

set_option maxRecDepth 100000 in
theorem ringPlays_walk (w : World) (k0 : Int) (a : Option Addr) (n cap : Nat) (l : List Op04) (_h0 : (Lit.int .i64 k0).wf = true) (hl : SlAt opR 3 w a n l ∧ ∀ x ∈ l, x.kind ≤ 255 ∧ x.s.size ≤ maxLen) :
    Calls Try.prog 3 #[.int .i64 k0, .slice a n cap] w fun e w' => e = .returned (.bool true) ∧ Keeps (fun _ => False) w w' := by
  by_cases hn : n ≤ 60
  · by_cases hk : 1 ≤ k0 ∧ k0 ≤ 1048576
    · exact plays_loop w k0 a n cap l hk hn hl.1 hl.2
    · rcases (show k0 < 1 ∨ 1048576 < k0 from by omega) with h1 | h1
      · go_enter Try.func3, Try.ntmps3
        go_wp2_with (first | (go_at_call 10; refine (new_bad w k0 (by omega)).mono ?_; rintro e w' ⟨rfl, q, rfl⟩) | (go_at_call 9; refine (works04 _).mono ?_; rintro e w2 ⟨rfl, k2⟩))
        go_ret
        exact ⟨rfl, k2.from_drewN⟩
      · go_enter Try.func3, Try.ntmps3
        go_wp2_with (first | (go_at_call 10; refine (new_bad w k0 (by omega)).mono ?_; rintro e w' ⟨rfl, q, rfl⟩) | (go_at_call 9; refine (works04 _).mono ?_; rintro e w2 ⟨rfl, k2⟩))
        go_ret
        exact ⟨rfl, k2.from_drewN⟩
  · have hn2 : 60 < n := by omega
    go_enter Try.func3, Try.ntmps3
    go_wp2_with (go_at_call 9; refine (works04 _).mono ?_; rintro e w2 ⟨rfl, k2⟩)
    go_ret
    exact ⟨rfl, k2⟩

section
variable {H : Type} {enc : TypeId × Value → H} {P : Program} {w : World} {base : Nat} {spare : Nat → Bool} {held : Bool}
open Go.ChangeShapes Go.WideShapes Go.Deep
theorem ops_of {t e : TypeId} {a : Option Addr} {n c : Nat} {d : DataW H} {ps : List MemPlace} {f0 f1 f2 : Field} (ht : P.underlying t = some (.slice e)) (he : P.underlying e = some (.struct #[f0, f1, f2])) (hone : oneCellFields P #[f0, f1, f2] = true)
    (hc : P.cellsOf e = 3) (h0 : P.underlying f0.type = some (.int .u8)) (h1 : P.underlying f1.type = some .string) (h2 : P.underlying f2.type = some (.int .i64))
    (h : DataW.Trod enc P w base spare held t (.slice a n c) d ps) : ∃ l : List Op04, SlAt opR 3 w a n l ∧ ∀ x ∈ l, x.kind ≤ 255 ∧ x.s.size ≤ maxLen :=
  sl_of opR (fun x => x.kind ≤ 255 ∧ x.s.size ≤ maxLen) 3 ht hc (by omega) (fun _ => rfl) (fun fuel cs y hd => by
    obtain ⟨xs, k, _, _, hlen, hxl, hf⟩ := DataW.trod_struct he hd
    have hxl : xs.length = 3 := hxl
    rw [hc] at hlen
    match cs, hlen with
    | [v0, v1, v2], _ =>
      obtain ⟨o0, k0⟩ := hone_of hone 0 f0 rfl
      obtain ⟨o1, k1⟩ := hone_of hone 1 f1 rfl
      obtain ⟨o2, k2⟩ := hone_of hone 2 f2 rfl
      have e0 := hf 0 f0 rfl
      have e1 := hf 1 f1 rfl
      have e2 := hf 2 f2 rfl
      rw [o0, k0] at e0
      rw [o1, k1] at e1
      rw [o2, k2] at e2
      simp only [List.drop_zero, List.drop_succ_cons, List.take_succ_cons, List.take_zero] at e0 e1 e2
      rw [List.getElem?_eq_getElem (by omega)] at e0 e1 e2
      obtain ⟨n0, hv0, _, w0⟩ := DataW.trod_int h0 e0
      obtain ⟨s1, hv1, _, w1⟩ := DataW.trod_string h1 e1
      obtain ⟨n2, hv2, _, w2⟩ := DataW.trod_int h2 e2
      have hb : 0 ≤ n0 ∧ n0 ≤ 255 := by simpa [Lit.wf, IntKind.min, IntKind.max, IntKind.signed, IntKind.bits] using w0
      injection hv0 with hv0
      injection hv1 with hv1
      injection hv2 with hv2
      subst hv0 hv1 hv2
      obtain ⟨m0, rfl⟩ := Int.eq_ofNat_of_zero_le hb.1
      exact ⟨⟨m0, s1, n2⟩, rfl, by show m0 ≤ 255; omega, w1⟩) h
end
end Go.Proofs.Ytclgjcdkjgkchaa
