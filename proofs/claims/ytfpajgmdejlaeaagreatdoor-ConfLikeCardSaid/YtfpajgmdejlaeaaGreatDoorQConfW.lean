/-
  conf: Print's closure: a statement behind those that are there.
-/
import Derived.Test.YtfpajgmdejlaeaaGreatDoorQConfV
import Derived.Laws.OwnMore
namespace Go.Proofs.YtfpajgmdejlaeaaGreatDoor
open Go.RowKit Go.Maps

theorem flat_snoc (rs : List NdV) (z : NdV) : ((rs ++ [z]).map ndR).flatten = (rs.map ndR).flatten ++ ndR z := by simp
/-- the last of a row is written anew -/
theorem OwnS.last5 {w : World} {B : Nat} {e : TypeId} {g n cap : Nat} {rs : List NdV} {z : NdV} (hn : n = rs.length) (h : OwnS ndR 5 w B e (.slice (some ⟨g, 0, none⟩) (n + 1) cap) (rs ++ [z])) (key : ByteArray) (a : Option Addr) (m c : Nat) (bl : Bool) (la : Option Addr) (ln lc : Nat) (li : Int) :
    OwnS ndR 5 (((((w.setCell ⟨g, n * 5, none⟩ (.string key)).setCell ⟨g, n * 5 + 1, none⟩ (.slice a m c)).setCell ⟨g, n * 5 + 2, none⟩ (.bool bl)).setCell ⟨g, n * 5 + 3, none⟩ (.slice la ln lc)).setCell ⟨g, n * 5 + 4, none⟩ (.int .i64 li)) B e (.slice (some ⟨g, 0, none⟩) (n + 1) cap) (rs ++ [⟨key, a, m, c, bl, la, ln, lc, li⟩]) := by
  subst hn
  have hl : (rs.map ndR).flatten.length = rs.length * 5 := flat_len ndR_len rs
  unfold OwnS at h ⊢
  rw [show (rs ++ [z]).length = rs.length + 1 by simp] at h
  rw [show (rs ++ [(⟨key, a, m, c, bl, la, ln, lc, li⟩ : NdV)]).length = rs.length + 1 by simp]
  have h1 := (h.stored (rs.length * 5) (.string key)).1
  have h2 := (h1.stored (rs.length * 5 + 1) (.slice a m c)).1
  have h3 := (h2.stored (rs.length * 5 + 2) (.bool bl)).1
  have h4 := (h3.stored (rs.length * 5 + 3) (.slice la ln lc)).1
  have h5 := (h4.stored (rs.length * 5 + 4) (.int .i64 li)).1
  rw [flat_snoc] at h5 ⊢
  have e : ∀ (l : List Value) (n : Nat), l.length = n → (((((l ++ ndR z).set n (.string key)).set (n + 1) (.slice a m c)).set (n + 2) (.bool bl)).set (n + 3) (.slice la ln lc)).set (n + 4) (.int .i64 li) = l ++ ndR ⟨key, a, m, c, bl, la, ln, lc, li⟩ := by
    intro l n hln
    subst hln
    simp [ndR]
  rw [e _ _ hl] at h5
  exact h5
theorem OwnS.lastCells {w : World} {B : Nat} {e : TypeId} {g n cap : Nat} {rs : List NdV} {z : NdV} (hn : n = rs.length) (h : OwnS ndR 5 w B e (.slice (some ⟨g, 0, none⟩) (n + 1) cap) (rs ++ [z])) : ∀ (j : Nat) (u : Value), (ndR z)[j]? = some u → w.cell? ⟨g, n * 5 + j, none⟩ = some u ∧ w.frozen? ⟨g, n * 5 + j, none⟩ = false := by
  subst hn
  obtain ⟨a, cap', hv, h1, h2, h3, h4⟩ := h.shape ndR_len
  injection hv with ha _ _
  subst ha
  exact fun j u hu => h4 g rfl rs.length z j u (by simp) hu
/-- an empty statement -/
def zeroV : NdV := ⟨⟨#[]⟩, none, 0, 0, false, none, 0, 0, 0⟩
theorem zeroV_one : ∀ u ∈ ndR zeroV, u.oneCell' = true := by intro u hu; simp [ndR, zeroV] at hu; rcases hu with rfl | rfl | rfl | rfl | rfl <;> rfl
theorem pput_done {w w7 : World} {p B g7 cap7 n c : Nat} {v v0 : Value} {rs : List NdV} (key : ByteArray) (a : Option Addr) (kk7 : Keeps (fun i => v.ownBlock = some i) w w7) (hp7 : Blk w7 p 50 #[v0]) (O7 : OwnS ndR 5 w7 B 60 (.slice (some ⟨g7, 0, none⟩) (rs.length + 1) cap7) (rs ++ [zeroV])) (ne7 : g7 ≠ p) (hat : v.ownBlock = some g7 ∨ w.heap.size ≤ g7) (W : World) (hW : W = (((((w7.setCell ⟨g7, rs.length * 5, none⟩ (.string key)).setCell ⟨g7, rs.length * 5 + 1, none⟩ (.slice a n c)).setCell ⟨g7, rs.length * 5 + 2, none⟩ (.bool false)).setCell ⟨g7, rs.length * 5 + 3, none⟩ (.slice none 0 0)).setCell ⟨g7, rs.length * 5 + 4, none⟩ (.int .i64 0)).setCell ⟨p, 0, none⟩ (.slice (some ⟨g7, 0, none⟩) (rs.length + 1) cap7)) :
    (∃ v', Blk W p 50 #[v'] ∧ OwnS ndR 5 W B 60 v' (rs ++ [flatV key a n c]) ∧ ∀ k, v'.ownBlock = some k → v.ownBlock = some k ∨ w.heap.size ≤ k) ∧ Keeps (fun i => i = p ∨ v.ownBlock = some i) w W := by
  subst hW
  have O8 := OwnS.last5 rfl O7 key a n c false none 0 0 0
  have hp8 := ((((hp7.far (p := ⟨g7, rs.length * 5, none⟩) (Ne.symm ne7) (.string key)).far (p := ⟨g7, rs.length * 5 + 1, none⟩) (Ne.symm ne7) (.slice a n c)).far (p := ⟨g7, rs.length * 5 + 2, none⟩) (Ne.symm ne7) (.bool false)).far (p := ⟨g7, rs.length * 5 + 3, none⟩) (Ne.symm ne7) (.slice none 0 0)).far (p := ⟨g7, rs.length * 5 + 4, none⟩) (Ne.symm ne7) (.int .i64 0)
  have k8 : ∀ (i j : Nat) (x y : World) (u : Value), (i = p ∨ i = g7) → Keeps (fun i => i = p ∨ v.ownBlock = some i) w x → Keeps (fun i => i = p ∨ v.ownBlock = some i) w (x.setCell ⟨i, j, none⟩ u) := fun i j x y u hi k => k.and_ (Keeps.set1 x i j u) (fun b hb e => by
    subst e
    rcases hi with h | h
    · exact .inl h
    · subst h
      rcases hat with h | h
      · exact .inr h
      · exact absurd hb (by omega))
  refine ⟨⟨_, hp8.set_ 0 _, ?_, fun k hk => by injection hk with hk; subst hk; exact hat⟩, ?_⟩
  · exact O8.keeps (Keeps.set1 _ p 0 _) (fun i _ _ ⟨cs, hb⟩ e => Blk.ne_ hb hp8 (by decide) e)
  · have k0 : Keeps (fun i => i = p ∨ v.ownBlock = some i) w w7 := ⟨kk7.os, kk7.tape, kk7.output, kk7.size, fun i hi hn => kk7.block i hi (fun h => hn (.inr h))⟩
    exact k8 _ _ _ w _ (.inl rfl) (k8 _ _ _ w _ (.inr rfl) (k8 _ _ _ w _ (.inr rfl) (k8 _ _ _ w _ (.inr rfl) (k8 _ _ _ w _ (.inr rfl) (k8 _ _ _ w _ (.inr rfl) k0)))))
/-- .. with the store into l's cell ahead -/
theorem pput_done2 {w w7 : World} {p B g7 cap7 n c : Nat} {v v0 : Value} {rs : List NdV} (key : ByteArray) (a : Option Addr) (kk7 : Keeps (fun i => v.ownBlock = some i) w w7) (hp7 : Blk w7 p 50 #[v0]) (O7 : OwnS ndR 5 w7 B 60 (.slice (some ⟨g7, 0, none⟩) (rs.length + 1) cap7) (rs ++ [zeroV])) (ne7 : g7 ≠ p) (hat : v.ownBlock = some g7 ∨ w.heap.size ≤ g7) (W : World) (hW : W = (((((w7.setCell ⟨p, 0, none⟩ (.slice (some ⟨g7, 0, none⟩) (rs.length + 1) cap7)).setCell ⟨g7, rs.length * 5, none⟩ (.string key)).setCell ⟨g7, rs.length * 5 + 1, none⟩ (.slice a n c)).setCell ⟨g7, rs.length * 5 + 2, none⟩ (.bool false)).setCell ⟨g7, rs.length * 5 + 3, none⟩ (.slice none 0 0)).setCell ⟨g7, rs.length * 5 + 4, none⟩ (.int .i64 0)) :
    (∃ v', Blk W p 50 #[v'] ∧ OwnS ndR 5 W B 60 v' (rs ++ [flatV key a n c]) ∧ ∀ k, v'.ownBlock = some k → v.ownBlock = some k ∨ w.heap.size ≤ k) ∧ Keeps (fun i => i = p ∨ v.ownBlock = some i) w W := by
  subst hW
  have hpq := hp7.set_ 0 (.slice (some ⟨g7, 0, none⟩) (rs.length + 1) cap7)
  have O7q := O7.keeps (Keeps.set1 w7 p 0 (.slice (some ⟨g7, 0, none⟩) (rs.length + 1) cap7)) (fun i _ _ ⟨cs, hb⟩ e => Blk.ne_ hb hp7 (by decide) e)
  have O8 := OwnS.last5 rfl O7q key a n c false none 0 0 0
  have hp8 := ((((hpq.far (p := ⟨g7, rs.length * 5, none⟩) (Ne.symm ne7) (.string key)).far (p := ⟨g7, rs.length * 5 + 1, none⟩) (Ne.symm ne7) (.slice a n c)).far (p := ⟨g7, rs.length * 5 + 2, none⟩) (Ne.symm ne7) (.bool false)).far (p := ⟨g7, rs.length * 5 + 3, none⟩) (Ne.symm ne7) (.slice none 0 0)).far (p := ⟨g7, rs.length * 5 + 4, none⟩) (Ne.symm ne7) (.int .i64 0)
  have k8 : ∀ (i j : Nat) (x : World) (u : Value), (i = p ∨ i = g7) → Keeps (fun i => i = p ∨ v.ownBlock = some i) w x → Keeps (fun i => i = p ∨ v.ownBlock = some i) w (x.setCell ⟨i, j, none⟩ u) := fun i j x u hi k => k.and_ (Keeps.set1 x i j u) (fun b hb e => by
    subst e
    rcases hi with h | h
    · exact .inl h
    · subst h
      rcases hat with h | h
      · exact .inr h
      · exact absurd hb (by omega))
  refine ⟨⟨_, hp8, O8, fun k hk => by injection hk with hk; subst hk; exact hat⟩, ?_⟩
  have k0 : Keeps (fun i => i = p ∨ v.ownBlock = some i) w w7 := ⟨kk7.os, kk7.tape, kk7.output, kk7.size, fun i hi hn => kk7.block i hi (fun h => hn (.inr h))⟩
  exact k8 _ _ _ _ (.inr rfl) (k8 _ _ _ _ (.inr rfl) (k8 _ _ _ _ (.inr rfl) (k8 _ _ _ _ (.inr rfl) (k8 _ _ _ _ (.inr rfl) (k8 _ _ _ _ (.inl rfl) k0)))))
set_option maxRecDepth 100000 in
set_option maxHeartbeats 1000000 in
theorem pput_any (w : World) (p B : Nat) (key : ByteArray) (a : Option Addr) (n c : Nat) (v : Value) (rs : List NdV) (hp : Blk w p 50 #[v]) (ho : OwnS ndR 5 w B 60 v rs) (hB : B ≤ w.heap.size) (hl : rs.length ≤ 1099511627) :
    Calls Tryz.prog 22 #[.string key, .slice a n c, .pointer (some ⟨p, 0, none⟩)] w fun e w' => e = .returned (.tuple #[]) ∧ (∃ v', Blk w' p 50 #[v'] ∧ OwnS ndR 5 w' B 60 v' (rs ++ [flatV key a n c]) ∧ ∀ k, v'.ownBlock = some k → v.ownBlock = some k ∨ w.heap.size ≤ k) ∧ Keeps (fun i => i = p ∨ v.ownBlock = some i) w w' := by
  obtain ⟨va, vc, rfl⟩ := ho.sl
  have hpl := hp.lt
  have y0 : w.cell? ⟨p, 0, none⟩ = some (.slice va rs.length vc) := hp.cell 0
  have HP := Lib.hid hp
  have HO := Lib.hid ho
  have hm0 : (0 : Int) ≤ (rs.length : Int) := by omega
  have hm1 : (rs.length : Int) < (rs.length : Int) + 1 := by omega
  have hPN : ∀ i, (Value.slice va rs.length vc).ownBlock = some i → i ≠ p := fun i hi e => by
    obtain ⟨cs, hb⟩ := HO.out.ownBlk i hi
    exact Blk.ne_ hb HP.out (by decide) e
  have HPN := Lib.hid hPN
  clear hp ho hPN
  go_enter Tryz.func22, Tryz.ntmps22
  go_region_law ((refine step_append_st ndR 5 ndR_len (by decide) (by rfl) _ _ _ (by rfl) B 60 (.agg #[.string ⟨#[]⟩, .slice none 0 0, .bool false, .slice none 0 0, .int .i64 0]) 80 Tryz.underlying50 (by kernel_rfl) (by rfl) (by omega) (.slice va rs.length vc) rs (by rfl) (by exact OwnS.keeps (S := fun _ => False) HO.out (by (repeat (first | (with_reducible assumption) | (with_reducible exact Keeps.refl _ _) | refine Keeps.drew ?_ | refine Keeps.drewN ?_ _ | refine Keeps.setCell ?_ (by simp) _ | refine Keeps.setRow ?_ (by simp) _ | refine Keeps.alloc ?_ _))) (fun _ _ _ _ => id)) w.heap.size 1 zeroV (by rfl) (by first | exact Blk.new _ _ _ | exact (Blk.new _ _ _).drew) zeroV_one (by omega) (by simp; omega) ?_; intro g7 cap7 w7 O7 k7 hat7; have kk7 : Keeps (fun i => (Value.slice va rs.length vc).ownBlock = some i) w w7 := (Keeps.and_ (by (repeat (first | (with_reducible assumption) | (with_reducible exact Keeps.refl _ _) | refine Keeps.drew ?_ | refine Keeps.drewN ?_ _ | refine Keeps.setCell ?_ (by simp) _ | refine Keeps.setRow ?_ (by simp) _ | refine Keeps.alloc ?_ _))) k7 (fun i _ h => h)); clear k7; obtain ⟨c0, f0⟩ := O7.lastCells rfl 0 _ rfl; obtain ⟨c1, f1⟩ := O7.lastCells rfl 1 _ rfl; obtain ⟨c2, f2⟩ := O7.lastCells rfl 2 _ rfl; obtain ⟨c3, f3⟩ := O7.lastCells rfl 3 _ rfl; obtain ⟨c4, f4⟩ := O7.lastCells rfl 4 _ rfl; rw [Nat.add_zero] at c0 f0; have hp7 := HP.out.keeps kk7 (fun h => HPN.out _ h rfl); have e0 : w7.cell? ⟨p, 0, none⟩ = some (.slice va rs.length vc) := hp7.cell 0; have e1 : w7.frozen? ⟨p, 0, none⟩ = false := hp7.frozen 0; obtain ⟨_, hb7⟩ := O7.ownBlk g7 rfl; have ne7 : g7 ≠ p := Blk.ne_ hb7 hp7 (by decide); have HD := Lib.hid (pput_done (n := n) (c := c) key a kk7 hp7 O7 ne7 (by rcases hat7 with h | h; exact .inl h; right; simp at h; omega) _ rfl); have HD2 := Lib.hid (pput_done2 (n := n) (c := c) key a kk7 hp7 O7 ne7 (by rcases hat7 with h | h; exact .inl h; right; simp at h; omega) _ rfl); clear hp7 hb7 O7 hat7))
  all_goals go_wp2_with fail
  all_goals go_end0
  all_goals first
    | with_reducible exact ⟨rfl, HD.out⟩
    | with_reducible exact ⟨rfl, HD2.out⟩
end Go.Proofs.YtfpajgmdejlaeaaGreatDoor
