/-
  console: the steps of New: who is there, the log.
-/
import Derived.Test.YtkmpdobojgiegaaGreatDoorQConsE
namespace Go.Proofs.YtkmpdobojgiegaaGreatDoor
open Go.RowKit

/-- may a log be kept so? -/
def logOk (k size : Int) : Bool := decide (1 ≤ k) && decide (k ≤ 16) && decide (64 ≤ size) && decide (size ≤ 1048576)
theorem logOk_iff {k size : Int} : logOk k size = true ↔ 1 ≤ k ∧ k ≤ 16 ∧ 64 ≤ size ∧ size ≤ 1048576 := by unfold logOk; simp [and_assoc]
set_option maxRecDepth 100000 in
theorem jnew_bad (w : World) (s : Nat) (base : ByteArray) (k size : Int) (h : logOk k size = false) :
    Calls Tryz.prog 45 #[.pointer (some ⟨s, 0, none⟩), .string base, .int .i64 k, .int .i64 size] w fun e w' => e = .returned (.tuple #[.pointer none, .int .i64 2]) ∧ w' = w := by
  have hn : ¬ (1 ≤ k ∧ k ≤ 16 ∧ 64 ≤ size ∧ size ≤ 1048576) := fun e => by rw [logOk_iff.2 e] at h; cases h
  clear h
  by_cases h1 : k < 1
  · clear hn
    go_enter Tryz.func45, Tryz.ntmps45
    go_wp2_with fail
    go_ret2
    exact ⟨rfl, rfl⟩
  · by_cases h2 : 16 < k
    · clear hn
      go_enter Tryz.func45, Tryz.ntmps45
      go_wp2_with fail
      go_ret2
      exact ⟨rfl, rfl⟩
    · by_cases h3 : size < 64
      · clear hn
        go_enter Tryz.func45, Tryz.ntmps45
        go_wp2_with fail
        go_ret2
        exact ⟨rfl, rfl⟩
      · have h4 : 1048576 < size := by omega
        clear hn
        go_enter Tryz.func45, Tryz.ntmps45
        go_wp2_with fail
        go_ret2
        exact ⟨rfl, rfl⟩
set_option maxRecDepth 100000 in
theorem jnew_okF (w : World) (s : Nat) (base : ByteArray) (hb : base.size ≤ 1048576) (k size : Int) (hk : logOk k size = true) :
    Calls Tryz.prog 45 #[.pointer (some ⟨s, 0, none⟩), .string base, .int .i64 k, .int .i64 size] w fun e w' => (∃ jb, e = .returned (.tuple #[.pointer (some ⟨jb, 0, none⟩), .int .i64 0]) ∧ JourB w' jb s base k.toNat size.toNat false 0 ∧ w.heap.size ≤ jb) ∧ Keeps (fun _ => False) w w' := by
  obtain ⟨h1, h2, h3, h4⟩ := logOk_iff.1 hk
  have a1 : ¬ k < 1 := by omega
  have a2 : ¬ 16 < k := by omega
  have a3 : ¬ size < 64 := by omega
  have a4 : ¬ 1048576 < size := by omega
  have HK := Lib.hid (And.intro h1 (And.intro h2 (And.intro h3 h4)))
  have HB := Lib.hid hb
  clear h1 h2 h3 h4 hk hb
  go_enter Tryz.func45, Tryz.ntmps45
  go_wp2_with fail
  go_ret2
  obtain ⟨b1, b2, b3, b4⟩ := HK.out
  refine ⟨⟨w.heap.size, rfl, ⟨?_, ⟨by omega, by omega⟩, ⟨by omega, by omega⟩, HB.out, by omega⟩, Nat.le_refl _⟩, by (repeat (first | (with_reducible assumption) | (with_reducible exact Keeps.refl _ _) | refine Keeps.drew ?_ | refine Keeps.drewN ?_ _ | refine Keeps.setCell ?_ (by simp) _ | refine Keeps.setRow ?_ (by simp) _ | refine Keeps.alloc ?_ _))⟩
  rw [show ((k.toNat : Nat) : Int) = k by omega, show ((size.toNat : Nat) : Int) = size by omega]
  exact Blk.new w _ _
section
variable {w w' : World} {xb x8 e9 : Nat} {c : Con} {lv sv pv jv : Value} {e0 : Int}
/-- why nobody may be there; 0: they may -/
def seatC0 (most : Int) : Int := if 1 ≤ most ∧ most ≤ 4096 then 0 else 2
set_option maxRecDepth 100000 in
theorem cnew2 (h : Mk w xb x8 e9 c lv sv pv jv e0) (b5 : Nat) (most : Int) (hb5 : w.cell? ⟨b5, 0, none⟩ = some (.int .i64 most)) : Calls Tryz.prog 42 #[.pointer (some ⟨b5, 0, none⟩), .pointer (some ⟨x8, 0, none⟩), .pointer (some ⟨e9, 0, none⟩)] w fun e w' =>
    e = .returned (.tuple #[]) ∧ ((seatC0 most = 0 ∧ ∃ sb, Mk w' xb x8 e9 c lv (.pointer (some ⟨sb, 0, none⟩)) pv jv 0 ∧ SeatAt w' (Ext (fun _ => False) w w') sb (Sea.new most)) ∨ (seatC0 most ≠ 0 ∧ Mk w' xb x8 e9 c lv (.pointer none) pv jv (seatC0 most))) ∧ Keeps (fun k => k = xb ∨ k = e9) w w' := by
  have H := Lib.hid h
  have hP : ∀ W, Calls Tryz.prog 43 #[.int .i64 most] W fun e w' => (∃ o, e = .returned (.tuple #[.pointer o, .int .i64 (seatC0 most)]) ∧ ((seatC0 most = 0 ∧ ∃ sb, o = some ⟨sb, 0, none⟩ ∧ SeatAt w' (Ext (fun _ => False) W w') sb (Sea.new most)) ∨ (seatC0 most ≠ 0 ∧ o = none))) ∧ Keeps (fun _ => False) W w' := fun W => by
    unfold seatC0
    by_cases hm : 1 ≤ most ∧ most ≤ 4096
    · rw [if_pos hm]
      refine (snew_seat W most hm).mono ?_
      rintro e w' ⟨sb, he, hs, k⟩
      exact ⟨⟨_, he, .inl ⟨rfl, sb, rfl, hs⟩⟩, k⟩
    · rw [if_neg hm]
      refine (snew_seat_no W most (by omega)).mono ?_
      rintro e w' ⟨he, rfl⟩
      exact ⟨⟨_, he, .inr ⟨by decide, rfl⟩⟩, Keeps.refl _ _⟩
  have HP := Lib.hid hP
  obtain ⟨⟨c0, -, -⟩, -, -, -, -⟩ := h.cells
  obtain ⟨L, hL⟩ : ∃ L, L = seatC0 most := ⟨_, rfl⟩
  rw [← hL] at HP ⊢
  have hne : ¬ xb = e9 := Blk.ne_ h.t h.e (by decide)
  have hne2 : ¬ e9 = xb := fun e => hne e.symm
  clear h hL hP
  go_enter Tryz.func42, Tryz.ntmps42
  go_wp2_with fail
  go_region_with (go_at_call 43; refine (HP.out _).mono ?_; rintro e w3 ⟨⟨o, rfl, hO⟩, k3⟩; have k3 : Keeps (fun _ => False) w w3 := (by first | exact k3 | exact k3.from_drew); have hM := H.out.keeps k3 (fun h => h) (fun h => h) (fun h => h); obtain ⟨⟨d0, d1, d2⟩, -, ⟨d3, d4⟩, -, -⟩ := hM.cells; have HM := Lib.hid hM; have HK := Lib.hid k3; have HO := Lib.hid hO; clear hM k3 hO)
  all_goals
    refine bodyPost_end (results_none rfl _ _ _) rfl ?_
    have h2 := HM.out.put 11 (.pointer o) L (lv' := lv) (sv' := .pointer o) (pv' := pv) (jv' := jv) rfl
    have hx : ∀ {W : World}, Mk W xb x8 e9 c lv (.pointer o) pv jv L → Keeps (fun k => k = xb ∨ k = e9) w3 W → ((L = 0 ∧ ∃ sb, Mk W xb x8 e9 c lv (.pointer (some ⟨sb, 0, none⟩)) pv jv 0 ∧ SeatAt W (Ext (fun _ => False) w W) sb (Sea.new most)) ∨ (L ≠ 0 ∧ Mk W xb x8 e9 c lv (.pointer none) pv jv L)) ∧ Keeps (fun k => k = xb ∨ k = e9) w W := fun {W} hm hk => by
      refine ⟨?_, (HK.out.none_).trans hk⟩
      rcases HO.out with ⟨h0, sb, ho, hl⟩ | ⟨h0, ho⟩
      · rw [ho, h0] at hm
        have l1 := H.out.t.lt
        have l2 := H.out.e.lt
        have hsz := HK.out.size
        refine .inl ⟨h0, sb, hm, (hl.keeps hk (fun i hi e => ?_)).mono (fun i hi => hi.imp (fun h => h) (fun e => ⟨e.1, Nat.lt_of_lt_of_le e.2 hk.size⟩)) (fun i hi => hi.elim (fun e => e.elim) (·.2))⟩
        rcases hi with hi | hi
        · exact hi.elim
        · have h1 := hi.1
          have h1 : w.heap.size ≤ i := h1
          rcases e with rfl | rfl <;> omega
      · rw [ho] at hm
        exact .inr ⟨h0, hm⟩
    exact ⟨rfl, by first | exact hx h2.1.1 h2.1.2 | exact hx h2.2.1 h2.2.2⟩
set_option maxRecDepth 100000 in
theorem cbase (w : World) (s : ByteArray) (hs : s.size ≤ 1048576) : Calls Tryz.prog 20 #[.string s] w fun e w' => e = .returned (.string (s ++ ⟨#[46, 108, 111, 103]⟩)) ∧ w' = w := by
  go_enter Tryz.func20, Tryz.ntmps20
  go_wp2_with fail
  go_ret
  exact ⟨rfl, rfl⟩
/-- why there is no log; 0: there is one -/
def logC0 (c : Con) : Int := if logOk c.gens c.size = true then 0 else 2
set_option maxRecDepth 100000 in
set_option maxHeartbeats 1000000 in
theorem cnew3 (h : Mk w xb x8 e9 c lv sv pv jv e0) (b4 cb s : Nat) (hb4 : Blk w b4 25 #[.pointer (some ⟨s, 0, none⟩)]) (hcb : Blk w cb 23 (conR c).toArray) (hn : c.name.size ≤ 1048000) : Calls Tryz.prog 44 #[.pointer (some ⟨b4, 0, none⟩), .pointer (some ⟨cb, 0, none⟩), .pointer (some ⟨x8, 0, none⟩), .pointer (some ⟨e9, 0, none⟩)] w fun e w' =>
    e = .returned (.tuple #[]) ∧ ((logC0 c = 0 ∧ ∃ jb, Mk w' xb x8 e9 c lv sv pv (.pointer (some ⟨jb, 0, none⟩)) 0 ∧ JourB w' jb s (baseOf c) c.gens.toNat c.size.toNat false 0 ∧ w.heap.size ≤ jb) ∨ (logC0 c ≠ 0 ∧ Mk w' xb x8 e9 c lv sv pv (.pointer none) (logC0 c))) ∧ Keeps (fun k => k = xb ∨ k = e9) w w' := by
  have H := Lib.hid h
  have hbz : (baseOf c).size ≤ 1048576 := by unfold baseOf; simp; have : (⟨#[46, 108, 111, 103]⟩ : ByteArray).size = 4 := rfl; omega
  have hP : ∀ W, Calls Tryz.prog 45 #[.pointer (some ⟨s, 0, none⟩), .string (baseOf c), .int .i64 c.gens, .int .i64 c.size] W fun e w' => (∃ o, e = .returned (.tuple #[.pointer o, .int .i64 (logC0 c)]) ∧ ((logC0 c = 0 ∧ ∃ jb, o = some ⟨jb, 0, none⟩ ∧ JourB w' jb s (baseOf c) c.gens.toNat c.size.toNat false 0 ∧ W.heap.size ≤ jb) ∨ (logC0 c ≠ 0 ∧ o = none))) ∧ Keeps (fun _ => False) W w' := fun W => by
    unfold logC0
    cases hm : logOk c.gens c.size with
    | true =>
      rw [if_pos rfl]
      refine (jnew_okF W s _ hbz _ _ hm).mono ?_
      rintro e w' ⟨⟨jb, he, hs, hl⟩, k⟩
      exact ⟨⟨_, he, .inl ⟨rfl, jb, rfl, hs, hl⟩⟩, k⟩
    | false =>
      rw [if_neg (by decide)]
      refine (jnew_bad W s _ _ _ hm).mono ?_
      rintro e w' ⟨he, rfl⟩
      exact ⟨⟨_, he, .inr ⟨by decide, rfl⟩⟩, Keeps.refl _ _⟩
  have HP := Lib.hid hP
  have hB : ∀ W, Calls Tryz.prog 20 #[.string c.name] W fun e w' => e = .returned (.string (baseOf c)) ∧ w' = W := fun W => cbase W c.name (by omega)
  have HB := Lib.hid hB
  obtain ⟨⟨c0, -, -⟩, -, -, -, -⟩ := h.cells
  obtain ⟨L, hL⟩ : ∃ L, L = logC0 c := ⟨_, rfl⟩
  rw [← hL] at HP ⊢
  have hne : ¬ xb = e9 := Blk.ne_ h.t h.e (by decide)
  have hne2 : ¬ e9 = xb := fun e => hne e.symm
  have tr : ∀ {g : Nat} {t : TypeId} {cs : Array Value}, Blk w g t cs → t ≠ 60 → t ≠ 31 → ∀ W, Keeps (fun k => k = xb ∨ k = e9) w W → ∀ i, W.cell? ⟨g, i, none⟩ = cs[i]? := fun hb h1 h2 W k i => (hb.keeps k (fun e => e.elim (Blk.ne_ hb h.t h1) (Blk.ne_ hb h.e h2))).cell i
  have y0 : ∀ W, Keeps (fun k => k = xb ∨ k = e9) w W → W.cell? ⟨cb, 0, none⟩ = some (.string c.name) := fun W k => tr hcb (by decide) (by decide) W k 0
  have y4 : ∀ W, Keeps (fun k => k = xb ∨ k = e9) w W → W.cell? ⟨cb, 4, none⟩ = some (.int .i64 c.gens) := fun W k => tr hcb (by decide) (by decide) W k 4
  have y5 : ∀ W, Keeps (fun k => k = xb ∨ k = e9) w W → W.cell? ⟨cb, 5, none⟩ = some (.int .i64 c.size) := fun W k => tr hcb (by decide) (by decide) W k 5
  have yb : ∀ W, Keeps (fun k => k = xb ∨ k = e9) w W → W.cell? ⟨b4, 0, none⟩ = some (.pointer (some ⟨s, 0, none⟩)) := fun W k => tr hb4 (by decide) (by decide) W k 0
  have yx : ∀ W, Keeps (fun k => k = xb ∨ k = e9) w W → W.cell? ⟨x8, 0, none⟩ = some (.pointer (some ⟨xb, 0, none⟩)) := fun W k => tr h.x (by decide) (by decide) W k 0
  obtain ⟨B, hBB⟩ : ∃ B, B = baseOf c := ⟨_, rfl⟩
  rw [← hBB] at HP HB ⊢
  clear c0
  clear h hL hP hcb hn hbz hB hBB tr
  go_enter Tryz.func44, Tryz.ntmps44
  go_wp2_with fail
  go_region_held3 (fun W => Keeps (fun k => k = xb ∨ k = e9) w W)
    ((repeat (first | (with_reducible assumption) | (with_reducible exact Keeps.refl _ _) | refine Keeps.drew ?_ | refine Keeps.drewN ?_ _ | refine Keeps.setCell ?_ (by simp) _ | refine Keeps.setRow ?_ (by simp) _ | refine Keeps.alloc ?_ _)))
    ((first
      | (go_at_call 20; refine (HB.out _).mono ?_; rintro e w2 ⟨rfl, hw⟩; obtain rfl := hw.symm)
      | (go_at_call 45; refine (HP.out _).mono ?_; rintro e w3 ⟨⟨o, rfl, hO⟩, k3⟩; have k3 : Keeps (fun _ => False) w w3 := (by first | exact k3 | exact k3.from_drew); have kx : Keeps (fun k => k = xb ∨ k = e9) w w3 := k3.none_; have hM := H.out.keeps k3 (fun h => h) (fun h => h) (fun h => h); obtain ⟨⟨d0, d1, d2⟩, -, -, -, ⟨d3, d4⟩⟩ := hM.cells; have HM := Lib.hid hM; have HK := Lib.hid k3; have HO := Lib.hid hO; clear hM k3 hO)))
  all_goals
    refine bodyPost_end (results_none rfl _ _ _) rfl ?_
    have h2 := HM.out.put 13 (.pointer o) L (lv' := lv) (sv' := sv) (pv' := pv) (jv' := .pointer o) rfl
    have hx : ∀ {W : World}, Mk W xb x8 e9 c lv sv pv (.pointer o) L → Keeps (fun k => k = xb ∨ k = e9) w3 W → ((L = 0 ∧ ∃ jb, Mk W xb x8 e9 c lv sv pv (.pointer (some ⟨jb, 0, none⟩)) 0 ∧ JourB W jb s B c.gens.toNat c.size.toNat false 0 ∧ w.heap.size ≤ jb) ∨ (L ≠ 0 ∧ Mk W xb x8 e9 c lv sv pv (.pointer none) L)) ∧ Keeps (fun k => k = xb ∨ k = e9) w W := fun {W} hm hk => by
      refine ⟨?_, (HK.out.none_).trans hk⟩
      rcases HO.out with ⟨h0, jb, ho, hl, hlo⟩ | ⟨h0, ho⟩
      · rw [ho, h0] at hm
        have l1 := H.out.t.lt
        have l2 := H.out.e.lt
        have hsz := HK.out.size
        have hlo : w.heap.size ≤ jb := hlo
        exact .inl ⟨h0, jb, hm, hl.keeps hk (by omega), hlo⟩
      · rw [ho] at hm
        exact .inr ⟨h0, hm⟩
    exact ⟨rfl, by first | exact hx h2.1.1 h2.1.2 | exact hx h2.2.1 h2.2.2⟩
end
end Go.Proofs.YtkmpdobojgiegaaGreatDoor
