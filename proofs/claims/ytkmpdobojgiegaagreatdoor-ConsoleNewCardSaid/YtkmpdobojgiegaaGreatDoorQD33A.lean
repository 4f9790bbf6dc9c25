/-
  The document's console by value (wheelhouseref33); New over a store without files.
-/
import Derived.Test.YtkmpdobojgiegaaGreatDoorQD19F
import Derived.Test.YtkmpdobojgiegaaGreatDoorQTurnR
import Derived.Test.YtkmpdobojgiegaaGreatDoorQGround5
import Derived.Test.YtkmpdobojgiegaaGreatDoorQGround3
import Derived.Test.YtkmpdobojgiegaaGreatDoorQConsN
import Derived.Test.YtkmpdobojgiegaaGreatDoorQW33P
import Derived.Test.YtkmpdobojgiegaaGreatDoorQRegs
namespace Go.Proofs.YtkmpdobojgiegaaGreatDoor
open Go.RowKit Go.Maps
set_option linter.unusedSimpArgs false

theorem SlAt.keepsA {α : Type} {R : α → List Value} {size : Nat} {w w' : World} {a : Option Addr} {n : Nat} {l : List α} {S : Nat → Prop} (h : SlAt R size w a n l) (k : Keeps S w w') (hS : ∀ ad, a = some ad → ¬ S ad.block) : SlAt R size w' a n l := by
  refine ⟨h.1, fun hn => ?_⟩
  obtain ⟨b, off, ha, hb, hc⟩ := h.2 hn
  exact ⟨b, off, ha, Nat.lt_of_lt_of_le hb k.size, fun i x j v hx hv => (World.cell?_of_block (w := w) (k.block b hb (hS _ ha))).trans (hc i x j v hx hv)⟩
/-- a row of one type -/
def SlT {α : Type} (R : α → List Value) (size : Nat) (w : World) (e : TypeId) (a : Option Addr) (l : List α) : Prop := SlAt R size w a l.length l ∧ ∀ ad, a = some ad → ∃ cs, Blk w ad.block e cs
theorem SlT.keeps {α : Type} {R : α → List Value} {size : Nat} {w w' : World} {e : TypeId} {a : Option Addr} {l : List α} {S : Nat → Prop} (h : SlT R size w e a l) (k : Keeps S w w') (hS : ∀ i cs, Blk w i e cs → ¬ S i) : SlT R size w' e a l := by
  refine ⟨⟨rfl, fun hn => ?_⟩, fun ad ha => ?_⟩
  · obtain ⟨b, off, ha, hb, hc⟩ := h.1.2 hn
    obtain ⟨cs, hbk⟩ := h.2 _ ha
    exact ⟨b, off, ha, Nat.lt_of_lt_of_le hb k.size, fun i x j v hx hv => (World.cell?_of_block (w := w) (k.block b hb (hS b cs hbk))).trans (hc i x j v hx hv)⟩
  · obtain ⟨cs, hb⟩ := h.2 ad ha
    exact ⟨cs, hb.keeps k (hS _ _ hb)⟩
theorem SlT.nil_ {α : Type} {R : α → List Value} {size : Nat} {w : World} {e : TypeId} : SlT R size w e none ([] : List α) := ⟨⟨rfl, fun h => absurd h (Nat.lt_irrefl _)⟩, fun ad h => by cases h⟩
theorem SlT.own {α : Type} {R : α → List Value} {size : Nat} {w : World} {B : Nat} {e : TypeId} {v : Value} {l : List α} (h : OwnS R size w B e v l) (hR : ∀ x, (R x).length = size) : ∃ a c, v = .slice a l.length c ∧ SlT R size w e a l := by
  obtain ⟨a, c, hv, hs⟩ := h.slat hR
  subst hv
  refine ⟨a, c, rfl, hs, fun ad ha => ?_⟩
  subst ha
  rcases h.2 with ⟨h1, h2⟩ | ⟨g, cap, cur, hv, hg, hh, h1, h2, h3, h4⟩
  · cases h1
  · injection hv with hv _ _
    injection hv with hv
    subst hv
    exact ⟨cur, hh⟩
/-- a console's cells -/
def dcR (x : Cns) (mo : Int) (bd : Nat) (fv lv sv wv dv : Value) : List Value := conR x.c ++ lnR x.m fv lv ++ [sv, .int .i64 x.s.most, .int .i64 x.s.wr, wv] ++ [.string (str x.past)] ++ [dv, .int .i64 mo, .int .i64 bd, .string (baseOf x.c), .int .i64 x.c.gens, .int .i64 x.c.size, .bool x.rest, .int .i64 x.lost]
/-- a console by value -/
def DocV (w0 w : World) (v : Value) (x : Cns) (mo : Int) (bd : Nat) (l : List SFile) : Prop :=
  ∃ fa fc la lc sa sc qa qc dv, v = .agg (dcR x mo bd (.slice fa x.m.first.length fc) (.slice la x.m.l.length lc) (.slice sa x.s.l.length sc) (.slice qa x.s.wait.length qc) dv).toArray ∧ SlAt stpR 3 w0 fa x.m.first.length x.m.first ∧ SlAt stpR 3 w0 la x.m.l.length x.m.l ∧ SlT mbrR 2 w 256 sa x.s.l ∧ SlT intR 1 w 3 qa x.s.wait ∧ DocL w dv l
def zero33 : Array Value := #[.string ⟨#[]⟩, .int .i64 0, .int .i64 0, .int .i64 0, .int .i64 0, .int .i64 0, .int .i64 0, .int .i64 0, .int .i64 0, .string ⟨#[]⟩, .int .i64 0, .int .i64 0, .int .i64 0, .int .i64 0, .int .i64 0, .int .i64 0, .slice none 0 0, .slice none 0 0, .int .i64 0, .int .i64 0, .string ⟨#[]⟩, .slice none 0 0, .int .i64 0, .int .i64 0, .slice none 0 0, .string ⟨#[]⟩, .slice none 0 0, .int .i64 0, .int .i64 0, .string ⟨#[]⟩, .int .i64 0, .int .i64 0, .bool false, .int .i64 0]
def NewP33 (w : World) (K : Int) (x : Cns) (mo : Int) (e : Ending) (w' : World) : Prop := ∃ v, e = .returned (.tuple #[v, .int .i64 K]) ∧ (K ≠ 0 → v = .agg zero33) ∧ (K = 0 → DocV w' w' v x mo 0 []) ∧ Keeps (fun _ => False) w w'
theorem r30new_any (w : World) (most : Int) : Calls Tryz.prog 54 #[.int .i64 most] w fun e w' => e = .returned (.agg #[.slice none 0 0, .int .i64 most, .int .i64 (-1), .slice none 0 0]) ∧ Keeps (fun _ => False) w w' := by
  go_enter Tryz.func54, Tryz.ntmps54
  go_wp2
  refine ret_cell rfl w.heap.size 40 _ _ rfl (Blk.new _ _ _) Tryz.underlying40 rfl (by kernel_rfl) rfl ?_
  exact ⟨rfl, by (repeat (first | (with_reducible assumption) | (with_reducible exact Keeps.refl _ _) | refine Keeps.drew ?_ | refine Keeps.drewN ?_ _ | refine Keeps.setCell ?_ (by simp) _ | refine Keeps.setRow ?_ (by simp) _ | refine Keeps.alloc ?_ _))⟩
/-- the blocks of New behind a call: the settings, the store, the result -/
structure Three33 (w w2 : World) (xs ys zs : Array Value) : Prop where
  x : Blk w2 w.heap.size 23 xs
  y : Blk w2 (w.heap.size + 1) 43 ys
  z : Blk w2 (w.heap.size + 1 + 1) 47 zs
  k : Keeps (fun _ => False) w w2
theorem Three33.call {w w2 : World} {xs ys zs : Array Value} (k : Keeps (fun _ => False) (((w.alloc (.cells xs 23)).alloc (.cells ys 43)).alloc (.cells zs 47)) w2) : Three33 w w2 xs ys zs :=
  ⟨(((Blk.new w _ _).alloc _).alloc _).keeps k id, ((Blk.new2 w _ _ _).alloc _).keeps k id, (Blk.new3 w _ _ _ _).keeps k id, Keeps.trans ((((Keeps.refl _ _).alloc _).alloc _).alloc _) k⟩
theorem Three33.same {w w2 w3 : World} {xs ys zs : Array Value} (h : Three33 w w2 xs ys zs) (k : Keeps (fun _ => False) w2 w3) : Three33 w w3 xs ys zs := ⟨h.x.keeps k id, h.y.keeps k id, h.z.keeps k id, h.k.trans k⟩
/-- what the operations of New's last statement yield -/
def PnD33 (Z X : Nat) (XA LA JA AA : Array Value) (ln bn : Nat) (mostS : Int) : Nat → Value → World → Prop
  | 0, v, _ => v = .agg XA
  | 1, v, _ => v = .agg LA
  | 2, v, _ => v = .int .i64 mostS
  | 3, v, _ => v = .agg #[.slice none 0 0, .int .i64 mostS, .int .i64 (-1), .slice none 0 0]
  | 4, v, _ => v = .string ⟨#[]⟩
  | 5, v, _ => v = .pointer (some ⟨X, 2, none⟩)
  | 6, v, _ => v = .int .i64 ln
  | 7, v, _ => v = .pointer (some ⟨X, 3, none⟩)
  | 8, v, _ => v = .int .i64 bn
  | 9, v, _ => v = .string ⟨#[]⟩
  | 10, v, _ => v = .agg JA
  | 11, v, _ => v = .agg AA
  | 12, _, w => Blk w Z 47 AA
  | 13, v, _ => v = .int .i64 0
  | _, _, _ => True
def RnD33 (Z : Nat) (AA : Array Value) (w w' : World) : Prop := Keeps (fun i => i = Z) w w' ∧ ((∃ old : Array Value, old.size = 34 ∧ Blk w Z 47 old) → ∃ old : Array Value, old.size = 34 ∧ Blk w' Z 47 old) ∧ (Blk w Z 47 AA → Blk w' Z 47 AA)
theorem RnD33.of {Z : Nat} {AA : Array Value} {w w' : World} (k : Keeps (fun _ => False) w w') : RnD33 Z AA w w' := ⟨k.none_, fun ⟨o, h1, h2⟩ => ⟨o, h1, h2.keeps k id⟩, fun h => h.keeps k id⟩
theorem RnD33.trans {Z : Nat} {AA : Array Value} {a b c : World} (h : RnD33 Z AA a b) (k : RnD33 Z AA b c) : RnD33 Z AA a c := ⟨h.1.trans k.1, fun o => k.2.1 (h.2.1 o), fun o => k.2.2 (h.2.2 o)⟩
theorem RnD33.row {Z : Nat} {AA old : Array Value} {w : World} (hb : Blk w Z 47 old) (hs : AA.size = 34) : RnD33 Z AA w (w.setRow Z AA) := ⟨(Keeps.refl (fun i => i = Z) w).setRow (fun _ => rfl) AA, fun _ => ⟨AA, hs, hb.row AA⟩, fun _ => hb.row AA⟩
theorem PnD33.stable {Z X : Nat} {XA LA JA AA : Array Value} {ln bn : Nat} {mostS : Int} (k : Nat) (v : Value) (w w' : World) (h : RnD33 Z AA w w') (hp : PnD33 Z X XA LA JA AA ln bn mostS k v w) : PnD33 Z X XA LA JA AA ln bn mostS k v w' := by
  unfold PnD33 at hp ⊢
  split <;> simp_all
  exact h.2.2 hp
set_option maxRecDepth 100000 in
set_option maxHeartbeats 2000000 in
theorem r33new_nil (w : World) (c : Con) (mo mostS : Int) (hnm : c.name.size ≤ 1048000) (hi : c.init.size ≤ 1073741824) :
    Calls Tryz.prog 10 #[conV c, docS (.slice none 0 0) mo 0, .int .i64 mostS] w (NewP33 w (newC c mostS 0 []).1 ⟨c, lnOf c, Sea.new mostS, [], false, 0⟩ mo) := by
  obtain ⟨K, hK⟩ : ∃ K, K = (newC c mostS 0 []).1 := ⟨_, rfl⟩
  rw [← hK]
  have HN := Lib.hid (fun W => r19new_any W c hi)
  obtain ⟨V, hV⟩ : ∃ V, V = lineC0 c := ⟨_, rfl⟩
  rw [← hV] at HN
  have hKL : V ≠ 0 → K = V := fun h => by rw [hK]; unfold newC; rw [← hV, if_pos h]
  have hKB : V = 0 → ¬ (1 ≤ mostS ∧ mostS ≤ 4096 ∧ 1 ≤ c.gens ∧ c.gens ≤ 16 ∧ 64 ≤ c.size ∧ c.size ≤ 1048576 ∧ 1 ≤ c.lines ∧ c.lines ≤ 1024 ∧ 1 ≤ c.bytes ∧ c.bytes ≤ 65536) → K = 2 := fun h hb => by
    rw [hK]; unfold newC
    rw [← hV, if_neg (by simp [h])]
    unfold seatC0
    by_cases h1 : 1 ≤ mostS ∧ mostS ≤ 4096
    · rw [if_pos h1, if_neg (by simp)]
      unfold logC0
      by_cases h2 : logOk c.gens c.size = true
      · rw [if_pos h2, if_neg (by simp)]
        unfold againC
        rw [if_neg (fun h3 => hb (by have := logOk_iff.1 h2; have := tailOk_iff.1 h3; omega))]
      · rw [if_neg h2, if_pos (by decide)]
    · rw [if_neg h1, if_pos (by decide)]
  have hK0 : V = 0 → (1 ≤ mostS ∧ mostS ≤ 4096 ∧ 1 ≤ c.gens ∧ c.gens ≤ 16 ∧ 64 ≤ c.size ∧ c.size ≤ 1048576 ∧ 1 ≤ c.lines ∧ c.lines ≤ 1024 ∧ 1 ≤ c.bytes ∧ c.bytes ≤ 65536) → K = 0 := fun h hb => by
    rw [hK]; unfold newC
    rw [← hV, if_neg (by simp [h])]
    have hs : seatC0 mostS = 0 := by unfold seatC0; rw [if_pos ⟨hb.1, hb.2.1⟩]
    have hl : logC0 c = 0 := by unfold logC0; rw [if_pos (logOk_iff.2 ⟨hb.2.2.1, hb.2.2.2.1, hb.2.2.2.2.1, hb.2.2.2.2.2.1⟩)]
    rw [hs, if_neg (by simp), hl, if_neg (by simp)]
    unfold againC
    rw [if_pos (tailOk_iff.2 hb.2.2.2.2.2.2)]
    have hbb : ∀ j, beginP (baseOf c) j 0 [] = (0, 0, []) := fun j => rfl
    rw [hbb, if_pos rfl]
  obtain ⟨L, hL⟩ : ∃ L, L = lnOf c := ⟨_, rfl⟩
  rw [← hL] at HN ⊢
  have hLl : L.l = [] := by rw [hL]; rfl
  obtain ⟨B, hB⟩ : ∃ B, B = baseOf c := ⟨_, rfl⟩
  have hB0 : B = c.name ++ (⟨#[46, 108, 111, 103]⟩ : ByteArray) := hB
  have HB := Lib.hid hB
  have HLL := Lib.hid hLl
  obtain ⟨c0, c1, c2, c3, c4, c5, c6, c7, c8, c9⟩ := c
  simp only at hnm hi hKB hK0 hB0
  have HBB := Lib.hid hB0
  have hbz : B.size ≤ 1048576 := by rw [hB0]; simp; have : (⟨#[46, 108, 111, 103]⟩ : ByteArray).size = 4 := rfl; omega
  have hcat : c0 ++ (⟨#[46, 108, 111, 103]⟩ : ByteArray) = B := hB0.symm
  have HCAT := Lib.hid hcat
  rw [show conV ⟨c0, c1, c2, c3, c4, c5, c6, c7, c8, c9⟩ = .agg #[.string c0, .int .i64 c1, .int .i64 c2, .int .i64 c3, .int .i64 c4, .int .i64 c5, .int .i64 c6, .int .i64 c7, .int .i64 c8, .string c9] from rfl] at HN ⊢
  unfold docS
  have HKL := Lib.hid hKL
  have HKB := Lib.hid hKB
  have HK0 := Lib.hid hK0
  clear hK hV hKL hKB hK0 hL hB hi hB0 hcat hLl
  unfold NewP19 at HN
  by_cases h0 : V = 0
  · subst h0
    simp only [if_true] at HN
    go_enter Tryz.func10, Tryz.ntmps10
    go_wp2_with fail
    refine (HN.out _).mono ?_
    rintro e w2 ⟨a, fc, rfl, hsl, k2⟩
    obtain ⟨hsl2, hlo2⟩ := hsl trivial
    have HLO := Lib.hid (show ∀ ad, a = some ad → w.heap.size + 3 ≤ ad.block from fun ad ha => by have := hlo2 ad ha; simpa using this)
    have hT := Three33.call k2
    unfold lnR
    simp only
    obtain ⟨fn, hfn⟩ : ∃ fn, fn = L.first.length := ⟨_, rfl⟩
    rw [← hfn] at hsl2 ⊢
    have HSL := Lib.hid hsl2
    have HFN := Lib.hid hfn
    have HT2 := Lib.hid hT
    clear k2 hsl hsl2 hlo2 hT hfn
    go_upto_region 4 with (fail)
    obtain ⟨W3, hW3⟩ : ∃ W3, W3 = w2.alloc (.cells #[.int .i64 L.base, .int .i64 L.cap, .int .i64 L.jit, .int .i64 L.st, .int .i64 L.n, .int .i64 L.at_, .slice a fn fc, .slice none 0 0, .int .i64 L.start, .int .i64 L.done, .string (str L.held)] 36) := ⟨_, rfl⟩
    rw [← hW3]
    have h8 : Blk W3 w2.heap.size 36 #[.int .i64 L.base, .int .i64 L.cap, .int .i64 L.jit, .int .i64 L.st, .int .i64 L.n, .int .i64 L.at_, .slice a fn fc, .slice none 0 0, .int .i64 L.start, .int .i64 L.done, .string (str L.held)] := by rw [hW3]; exact Blk.new _ _ _
    have hT3 := HT2.out.same (show Keeps (fun _ => False) w2 W3 by rw [hW3]; (repeat (first | (with_reducible assumption) | (with_reducible exact Keeps.refl _ _) | refine Keeps.drew ?_ | refine Keeps.drewN ?_ _ | refine Keeps.setCell ?_ (by simp) _ | refine Keeps.setRow ?_ (by simp) _ | refine Keeps.alloc ?_ _)))
    have HSL3 := Lib.hid (HSL.out.keeps (show Keeps (fun _ => False) w2 W3 by rw [hW3]; (repeat (first | (with_reducible assumption) | (with_reducible exact Keeps.refl _ _) | refine Keeps.drew ?_ | refine Keeps.drewN ?_ _ | refine Keeps.setCell ?_ (by simp) _ | refine Keeps.setRow ?_ (by simp) _ | refine Keeps.alloc ?_ _))) (fun _ _ h => h))
    obtain ⟨lb, hlb⟩ : ∃ lb, lb = w2.heap.size := ⟨_, rfl⟩
    rw [← hlb] at h8 ⊢
    obtain ⟨⟨-, -, x2, x3, x4, x5, -⟩, -⟩ := hT3.x.all10
    have H8 := Lib.hid h8
    have HT3 := Lib.hid hT3
    clear hW3 h8 hT3 hlb HT2 HSL
    by_cases e0 : mostS < 1
    · have hk := HKB.out trivial (by omega)
      subst hk
      go_wp2_with ((with_reducible show wpList _ _ _ (⟨none, .store 47 (.tmp 6) (.tmp 72), _, _, _, _⟩ :: _) _ _); go_must (refine wpList_store_row rfl 47 (.tmp 6) (.tmp 72) rfl (w.heap.size + 1 + 1) _ rfl rfl 47 zero33 (HT3.out.z) (by kernel_rfl) rfl (by simp [Value.oneCell']) ?_))
      refine ret_cell_tmp rfl (w.heap.size + 1 + 1) 47 _ _ rfl (HT3.out.z.row _) Tryz.underlying47 rfl (by kernel_rfl) rfl ?_
      exact ⟨_, rfl, fun _ => rfl, fun h => absurd h (by decide), HT3.out.k.setRow (by omega) _⟩
    by_cases e1 : 4096 < mostS
    · have hk := HKB.out trivial (by omega)
      subst hk
      go_wp2_with ((with_reducible show wpList _ _ _ (⟨none, .store 47 (.tmp 6) (.tmp 72), _, _, _, _⟩ :: _) _ _); go_must (refine wpList_store_row rfl 47 (.tmp 6) (.tmp 72) rfl (w.heap.size + 1 + 1) _ rfl rfl 47 zero33 (HT3.out.z) (by kernel_rfl) rfl (by simp [Value.oneCell']) ?_))
      refine ret_cell_tmp rfl (w.heap.size + 1 + 1) 47 _ _ rfl (HT3.out.z.row _) Tryz.underlying47 rfl (by kernel_rfl) rfl ?_
      exact ⟨_, rfl, fun _ => rfl, fun h => absurd h (by decide), HT3.out.k.setRow (by omega) _⟩
    by_cases e2 : c4 < 1
    · have hk := HKB.out trivial (by omega)
      subst hk
      go_wp2_with ((with_reducible show wpList _ _ _ (⟨none, .store 47 (.tmp 6) (.tmp 72), _, _, _, _⟩ :: _) _ _); go_must (refine wpList_store_row rfl 47 (.tmp 6) (.tmp 72) rfl (w.heap.size + 1 + 1) _ rfl rfl 47 zero33 (HT3.out.z) (by kernel_rfl) rfl (by simp [Value.oneCell']) ?_))
      refine ret_cell_tmp rfl (w.heap.size + 1 + 1) 47 _ _ rfl (HT3.out.z.row _) Tryz.underlying47 rfl (by kernel_rfl) rfl ?_
      exact ⟨_, rfl, fun _ => rfl, fun h => absurd h (by decide), HT3.out.k.setRow (by omega) _⟩
    by_cases e3 : 16 < c4
    · have hk := HKB.out trivial (by omega)
      subst hk
      go_wp2_with ((with_reducible show wpList _ _ _ (⟨none, .store 47 (.tmp 6) (.tmp 72), _, _, _, _⟩ :: _) _ _); go_must (refine wpList_store_row rfl 47 (.tmp 6) (.tmp 72) rfl (w.heap.size + 1 + 1) _ rfl rfl 47 zero33 (HT3.out.z) (by kernel_rfl) rfl (by simp [Value.oneCell']) ?_))
      refine ret_cell_tmp rfl (w.heap.size + 1 + 1) 47 _ _ rfl (HT3.out.z.row _) Tryz.underlying47 rfl (by kernel_rfl) rfl ?_
      exact ⟨_, rfl, fun _ => rfl, fun h => absurd h (by decide), HT3.out.k.setRow (by omega) _⟩
    by_cases e4 : c5 < 64
    · have hk := HKB.out trivial (by omega)
      subst hk
      go_wp2_with ((with_reducible show wpList _ _ _ (⟨none, .store 47 (.tmp 6) (.tmp 72), _, _, _, _⟩ :: _) _ _); go_must (refine wpList_store_row rfl 47 (.tmp 6) (.tmp 72) rfl (w.heap.size + 1 + 1) _ rfl rfl 47 zero33 (HT3.out.z) (by kernel_rfl) rfl (by simp [Value.oneCell']) ?_))
      refine ret_cell_tmp rfl (w.heap.size + 1 + 1) 47 _ _ rfl (HT3.out.z.row _) Tryz.underlying47 rfl (by kernel_rfl) rfl ?_
      exact ⟨_, rfl, fun _ => rfl, fun h => absurd h (by decide), HT3.out.k.setRow (by omega) _⟩
    by_cases e5 : 1048576 < c5
    · have hk := HKB.out trivial (by omega)
      subst hk
      go_wp2_with ((with_reducible show wpList _ _ _ (⟨none, .store 47 (.tmp 6) (.tmp 72), _, _, _, _⟩ :: _) _ _); go_must (refine wpList_store_row rfl 47 (.tmp 6) (.tmp 72) rfl (w.heap.size + 1 + 1) _ rfl rfl 47 zero33 (HT3.out.z) (by kernel_rfl) rfl (by simp [Value.oneCell']) ?_))
      refine ret_cell_tmp rfl (w.heap.size + 1 + 1) 47 _ _ rfl (HT3.out.z.row _) Tryz.underlying47 rfl (by kernel_rfl) rfl ?_
      exact ⟨_, rfl, fun _ => rfl, fun h => absurd h (by decide), HT3.out.k.setRow (by omega) _⟩
    by_cases e6 : c2 < 1
    · have hk := HKB.out trivial (by omega)
      subst hk
      go_wp2_with ((with_reducible show wpList _ _ _ (⟨none, .store 47 (.tmp 6) (.tmp 72), _, _, _, _⟩ :: _) _ _); go_must (refine wpList_store_row rfl 47 (.tmp 6) (.tmp 72) rfl (w.heap.size + 1 + 1) _ rfl rfl 47 zero33 (HT3.out.z) (by kernel_rfl) rfl (by simp [Value.oneCell']) ?_))
      refine ret_cell_tmp rfl (w.heap.size + 1 + 1) 47 _ _ rfl (HT3.out.z.row _) Tryz.underlying47 rfl (by kernel_rfl) rfl ?_
      exact ⟨_, rfl, fun _ => rfl, fun h => absurd h (by decide), HT3.out.k.setRow (by omega) _⟩
    by_cases e7 : 1024 < c2
    · have hk := HKB.out trivial (by omega)
      subst hk
      go_wp2_with ((with_reducible show wpList _ _ _ (⟨none, .store 47 (.tmp 6) (.tmp 72), _, _, _, _⟩ :: _) _ _); go_must (refine wpList_store_row rfl 47 (.tmp 6) (.tmp 72) rfl (w.heap.size + 1 + 1) _ rfl rfl 47 zero33 (HT3.out.z) (by kernel_rfl) rfl (by simp [Value.oneCell']) ?_))
      refine ret_cell_tmp rfl (w.heap.size + 1 + 1) 47 _ _ rfl (HT3.out.z.row _) Tryz.underlying47 rfl (by kernel_rfl) rfl ?_
      exact ⟨_, rfl, fun _ => rfl, fun h => absurd h (by decide), HT3.out.k.setRow (by omega) _⟩
    by_cases e8 : c3 < 1
    · have hk := HKB.out trivial (by omega)
      subst hk
      go_wp2_with ((with_reducible show wpList _ _ _ (⟨none, .store 47 (.tmp 6) (.tmp 72), _, _, _, _⟩ :: _) _ _); go_must (refine wpList_store_row rfl 47 (.tmp 6) (.tmp 72) rfl (w.heap.size + 1 + 1) _ rfl rfl 47 zero33 (HT3.out.z) (by kernel_rfl) rfl (by simp [Value.oneCell']) ?_))
      refine ret_cell_tmp rfl (w.heap.size + 1 + 1) 47 _ _ rfl (HT3.out.z.row _) Tryz.underlying47 rfl (by kernel_rfl) rfl ?_
      exact ⟨_, rfl, fun _ => rfl, fun h => absurd h (by decide), HT3.out.k.setRow (by omega) _⟩
    by_cases e9 : 65536 < c3
    · have hk := HKB.out trivial (by omega)
      subst hk
      go_wp2_with ((with_reducible show wpList _ _ _ (⟨none, .store 47 (.tmp 6) (.tmp 72), _, _, _, _⟩ :: _) _ _); go_must (refine wpList_store_row rfl 47 (.tmp 6) (.tmp 72) rfl (w.heap.size + 1 + 1) _ rfl rfl 47 zero33 (HT3.out.z) (by kernel_rfl) rfl (by simp [Value.oneCell']) ?_))
      refine ret_cell_tmp rfl (w.heap.size + 1 + 1) 47 _ _ rfl (HT3.out.z.row _) Tryz.underlying47 rfl (by kernel_rfl) rfl ?_
      exact ⟨_, rfl, fun _ => rfl, fun h => absurd h (by decide), HT3.out.k.setRow (by omega) _⟩
    have hk := HK0.out trivial ⟨by omega, by omega, by omega, by omega, by omega, by omega, by omega, by omega, by omega, by omega⟩
    subst hk
    obtain ⟨ln, rfl⟩ : ∃ m : Nat, c2 = m := ⟨c2.toNat, by omega⟩
    obtain ⟨bn, rfl⟩ : ∃ m : Nat, c3 = m := ⟨c3.toNat, by omega⟩
    have hc0 : c0.size ≤ 1048000 := hnm
    have hcat := HCAT.out
    have x0 := HT3.out.x.cell 0
    simp only [List.getElem?_toArray, List.getElem?_cons_zero, List.getElem?_cons_succ] at x0
    obtain ⟨y0, y1, y2⟩ := HT3.out.y.cells3
    have hal := rall_any W3 (.slice none 0 0) mo 0 [] B c4 OwnS.none_ (by decide) hbz
    rw [allP_nil B (heldP c4)] at hal
    unfold docS at hal
    have HAL := Lib.hid hal
    clear hal
    go_wp2_with fail
    refine HAL.out.mono ?_
    rintro e w4 ⟨⟨v4, rfl, hO4⟩, k4⟩
    obtain ⟨a4, c4', rfl⟩ := hO4.sl'
    obtain ⟨-, hs4⟩ := slat_own hO4
    have HLD := Lib.hid (rload_any w4 a4 0 c4' [] hs4 (by decide) (by intro d hd; cases hd))
    have hT4 := HT3.out.same k4
    have HT4 := Lib.hid hT4
    have h84 := H8.out.keeps k4 id
    have H84 := Lib.hid h84
    have HSL4 := Lib.hid (HSL3.out.keeps k4 (fun _ _ h => h))
    clear hO4 hs4 k4 hT4 h84 H8 HT3 HSL3 x0 x2 x3 x4 x5 y0 y1 y2
    go_wp2_with fail
    refine HLD.out.mono ?_
    rintro e w5 ⟨⟨v5, rfl, hO5⟩, k5⟩
    obtain ⟨a5, c5', rfl, hs5⟩ := hO5.slat
    have HDT := Lib.hid (show Calls Tryz.prog 17 #[.slice a5 0 c5'] w5 fun e w' => e = .returned (.string ⟨#[]⟩) ∧ w' = w5 from rdata_any w5 a5 0 c5' [] hs5 (by decide) (by intro d hd; cases hd))
    have hT5 := HT4.out.same k5
    obtain ⟨x0, -, x2, x3, x4, x5, -⟩ := hT5.x.all10.1
    obtain ⟨y0, y1, y2⟩ := hT5.y.cells3
    have HT5 := Lib.hid hT5
    have H85 := Lib.hid (H84.out.keeps k5 id)
    have HSL5 := Lib.hid (HSL4.out.keeps k5 (fun _ _ h => h))
    clear hO5 hs5 k5 hT5 H84 HT4 HSL4
    go_wp2_with fail
    refine HDT.out.mono ?_
    rintro e w6 ⟨rfl, hw⟩
    obtain rfl : w5 = w6 := hw.symm
    have hget := rget_any w5 (.slice none 0 0) mo 0 [] B OwnS.none_ (by decide)
    unfold docS at hget
    have HGT := Lib.hid hget
    clear hget
    go_wp2_with fail
    refine HGT.out.mono ?_
    rintro e w6 ⟨⟨f6, ok6, rfl, hf6⟩, k6⟩
    have hok : ok6 = false ∧ f6 = zeroFile := by
      rcases hf6 with ⟨-, h⟩ | ⟨h1, h2, -⟩
      · cases h
      · exact ⟨h1, h2⟩
    obtain ⟨rfl, rfl⟩ := hok
    unfold docF zeroFile
    simp only
    have hT6 := HT5.out.same k6
    clear x0 x2 x3 x4 x5 y0 y1 y2
    obtain ⟨x0, -, x2, x3, x4, x5, -⟩ := hT6.x.all10.1
    obtain ⟨y0, y1, y2⟩ := hT6.y.cells3
    have hxl := hT6.x.lt
    have hyl := hT6.y.lt
    have hzl := hT6.z.lt
    have HT6 := Lib.hid hT6
    have h86 := H85.out.keeps k6 id
    have h8l := h86.lt
    have H86 := Lib.hid h86
    have HSL6 := Lib.hid (HSL5.out.keeps k6 (fun _ _ h => h))
    clear hf6 k6 hT6 h86 H85 HT5 HSL5
    go_wp2_with fail
    obtain ⟨W7, hW7⟩ : ∃ W7, W7 = (w6.alloc (.cells #[.string ⟨#[]⟩, .string ⟨#[]⟩, .int .i64 0] 118)).alloc (.cells #[.slice none 0 0, .int .i64 mo, .int .i64 0, .string B, .int .i64 c4, .int .i64 c5, .bool false, .int .i64 0] 45) := ⟨_, rfl⟩
    rw [← hW7]
    have k7 : Keeps (fun _ => False) w6 W7 := by rw [hW7]; (repeat (first | (with_reducible assumption) | (with_reducible exact Keeps.refl _ _) | refine Keeps.drew ?_ | refine Keeps.drewN ?_ _ | refine Keeps.setCell ?_ (by simp) _ | refine Keeps.setRow ?_ (by simp) _ | refine Keeps.alloc ?_ _))
    have hJ : Blk W7 (w6.heap.size + 1) 45 #[.slice none 0 0, .int .i64 mo, .int .i64 0, .string B, .int .i64 c4, .int .i64 c5, .bool false, .int .i64 0] := by rw [hW7]; exact Blk.new2 _ _ _ _
    have hT7 := HT6.out.same k7
    have h87 := H86.out.keeps k7 id
    have HSL7 := Lib.hid (HSL6.out.keeps k7 (fun _ _ h => h))
    obtain ⟨jb, hjb⟩ : ∃ jb, jb = w6.heap.size + 1 := ⟨_, rfl⟩
    rw [← hjb] at hJ ⊢
    clear x0 x2 x3 x4 x5 y0 y1 y2 hW7 k7 hjb
    have n1 : w.heap.size ≠ w.heap.size + 1 + 1 := by omega
    have n2 : lb ≠ w.heap.size + 1 + 1 := Blk.ne_ h87 hT7.z (by decide)
    have n3 : jb ≠ w.heap.size + 1 + 1 := Blk.ne_ hJ hT7.z (by decide)
    have HXS := Lib.hid (fun W (k : Keeps (fun i => i = w.heap.size + 1 + 1) W7 W) => hT7.x.keeps k n1)
    have HLS := Lib.hid (fun W (k : Keeps (fun i => i = w.heap.size + 1 + 1) W7 W) => h87.keeps k n2)
    have HJS := Lib.hid (fun W (k : Keeps (fun i => i = w.heap.size + 1 + 1) W7 W) => hJ.keeps k n3)
    have HT7 := Lib.hid hT7
    have HNW := Lib.hid (fun W => r30new_any W mostS)
    have HTL := Lib.hid (show ∀ W, Calls Tryz.prog 27 #[.string ⟨#[]⟩, .int .i64 ln, .int .i64 bn] W fun e w' => e = .returned (.string ⟨#[]⟩) ∧ w' = W from fun W => rtail_any W ⟨#[]⟩ ln bn (by decide))
    clear hT7 h87 hJ H86 HT6 HSL6 n1 n2 n3
    obtain ⟨XA, hXA⟩ : ∃ XA : Array Value, XA = #[.string c0, .int .i64 c1, .int .i64 ln, .int .i64 bn, .int .i64 c4, .int .i64 c5, .int .i64 c6, .int .i64 c7, .int .i64 c8, .string c9] := ⟨_, rfl⟩
    obtain ⟨LA, hLA⟩ : ∃ LA : Array Value, LA = #[.int .i64 L.base, .int .i64 L.cap, .int .i64 L.jit, .int .i64 L.st, .int .i64 L.n, .int .i64 L.at_, .slice a fn fc, .slice none 0 0, .int .i64 L.start, .int .i64 L.done, .string (str L.held)] := ⟨_, rfl⟩
    obtain ⟨JA, hJA⟩ : ∃ JA : Array Value, JA = #[.slice none 0 0, .int .i64 mo, .int .i64 0, .string B, .int .i64 c4, .int .i64 c5, .bool false, .int .i64 0] := ⟨_, rfl⟩
    obtain ⟨AA, hAA⟩ : ∃ AA : Array Value, AA = (([.string c0, .int .i64 c1, .int .i64 ln, .int .i64 bn, .int .i64 c4, .int .i64 c5, .int .i64 c6, .int .i64 c7, .int .i64 c8, .string c9] : List Value) ++ ([.int .i64 L.base, .int .i64 L.cap, .int .i64 L.jit, .int .i64 L.st, .int .i64 L.n, .int .i64 L.at_, .slice a fn fc, .slice none 0 0, .int .i64 L.start, .int .i64 L.done, .string (str L.held)] : List Value) ++ ([.slice none 0 0, .int .i64 mostS, .int .i64 (-1), .slice none 0 0] : List Value) ++ ([.string ⟨#[]⟩] : List Value) ++ ([.slice none 0 0, .int .i64 mo, .int .i64 0, .string B, .int .i64 c4, .int .i64 c5, .bool false, .int .i64 0] : List Value)).toArray := ⟨_, rfl⟩
    rw [← hXA] at HXS
    rw [← hLA] at HLS
    rw [← hJA] at HJS
    have HXA := Lib.hid hXA
    have HLA := Lib.hid hLA
    have HJA := Lib.hid hJA
    have HAA := Lib.hid hAA
    have HZ0 := Lib.hid HT7.out.z
    clear hXA hLA hJA hAA
    refine wp_region_specs (n := 122) (dfs := []) (R := RnD33 (w.heap.size + 1 + 1) AA) (Pk := PnD33 (w.heap.size + 1 + 1) w.heap.size XA LA JA AA ln bn mostS) (by kernel_rfl) rfl rfl rfl (RnD33.of (Keeps.refl _ _).drew) (fun _ _ _ h k => h.trans k) (fun k v w w' h hp => PnD33.stable k v w w' h hp) (by kernel_rfl) rfl ?_ ?_
    · refine StepsL.plain rfl (fun Q a w2 hR hf hd K hK => ?_) ?_
      · have f3 : a.tmps[3]?.getD undef = .pointer (some ⟨w.heap.size, 0, none⟩) := hf.out 3 (by kernel_rfl)
        refine wp_load_row 23 (.tmp 3) rfl w.heap.size (by simpa [Act.eval] using f3) 23 _ (0, 0) _ (HXS.out w2 hR.1) Tryz.underlying23 rfl (by rw [show _ = _ from HXA.out]; kernel_rfl) ?_
        exact hK.out _ _ (RnD33.of (Keeps.refl _ _)) rfl
      refine StepsL.plain rfl (fun Q a w2 hR hf hd K hK => ?_) ?_
      · have f8 : a.tmps[8]?.getD undef = .pointer (some ⟨lb, 0, none⟩) := hf.out 8 (by kernel_rfl)
        refine wp_load_row 36 (.tmp 8) rfl lb (by simpa [Act.eval] using f8) 36 _ (0, 0) _ (HLS.out w2 hR.1) Tryz.underlying36 rfl (by rw [show _ = _ from HLA.out]; kernel_rfl) ?_
        exact hK.out _ _ (RnD33.of (Keeps.refl _ _)) rfl
      refine StepsL.plain rfl (fun Q a w2 hR hf hd K hK => ?_) ?_
      · have f2 : a.tmps[2]?.getD undef = .int .i64 mostS := hf.out 2 (by kernel_rfl)
        go_simp
        exact hK.out _ _ (RnD33.of (Keeps.refl _ _)) rfl
      refine StepsL.plain rfl (fun Q a w2 hR hf hd K hK => ?_) ?_
      · have d2 : a.tmps[112]?.getD undef = .int .i64 mostS := hd.get 2 (by kernel_rfl)
        go_simp
        refine (HNW.out _).mono ?_
        rintro e w4 ⟨rfl, k4⟩
        exact hK.out _ _ (RnD33.of k4) rfl
      refine StepsL.plain rfl (fun Q a w2 hR hf hd K hK => ?_) ?_
      · have f11 : a.tmps[11]?.getD undef = .string ⟨#[]⟩ := hf.out 11 (by kernel_rfl)
        go_simp
        exact hK.out _ _ (RnD33.of (Keeps.refl _ _)) rfl
      refine StepsL.plain rfl (fun Q a w2 hR hf hd K hK => ?_) ?_
      · have f3 : a.tmps[3]?.getD undef = .pointer (some ⟨w.heap.size, 0, none⟩) := hf.out 3 (by kernel_rfl)
        go_simp
        exact hK.out _ _ (RnD33.of (Keeps.refl _ _)) rfl
      refine StepsL.plain rfl (fun Q a w2 hR hf hd K hK => ?_) ?_
      · have d5 : a.tmps[115]?.getD undef = .pointer (some ⟨w.heap.size, 2, none⟩) := hd.get 5 (by kernel_rfl)
        have cc : w2.cell? ⟨w.heap.size, 2, none⟩ = some (.int .i64 ln) := by have := (HXS.out w2 hR.1).cell 2; rw [HXA.out] at this; exact this
        go_simp
        exact hK.out _ _ (RnD33.of (Keeps.refl _ _)) rfl
      refine StepsL.plain rfl (fun Q a w2 hR hf hd K hK => ?_) ?_
      · have f3 : a.tmps[3]?.getD undef = .pointer (some ⟨w.heap.size, 0, none⟩) := hf.out 3 (by kernel_rfl)
        go_simp
        exact hK.out _ _ (RnD33.of (Keeps.refl _ _)) rfl
      refine StepsL.plain rfl (fun Q a w2 hR hf hd K hK => ?_) ?_
      · have d7 : a.tmps[117]?.getD undef = .pointer (some ⟨w.heap.size, 3, none⟩) := hd.get 7 (by kernel_rfl)
        have cc : w2.cell? ⟨w.heap.size, 3, none⟩ = some (.int .i64 bn) := by have := (HXS.out w2 hR.1).cell 3; rw [HXA.out] at this; exact this
        go_simp
        exact hK.out _ _ (RnD33.of (Keeps.refl _ _)) rfl
      refine StepsL.plain rfl (fun Q a w2 hR hf hd K hK => ?_) ?_
      · have d4 : a.tmps[114]?.getD undef = .string ⟨#[]⟩ := hd.get 4 (by kernel_rfl)
        have d6 : a.tmps[116]?.getD undef = .int .i64 ln := hd.get 6 (by kernel_rfl)
        have d8 : a.tmps[118]?.getD undef = .int .i64 bn := hd.get 8 (by kernel_rfl)
        go_simp
        refine (HTL.out _).mono ?_
        rintro e w4 ⟨rfl, hw⟩
        obtain rfl := hw
        exact hK.out _ _ (RnD33.of (Keeps.refl _ _)) rfl
      refine StepsL.plain rfl (fun Q a w2 hR hf hd K hK => ?_) ?_
      · have f16 : a.tmps[16]?.getD undef = .pointer (some ⟨jb, 0, none⟩) := hf.out 16 (by kernel_rfl)
        refine wp_load_row 45 (.tmp 16) rfl jb (by simpa [Act.eval] using f16) 45 _ (0, 0) _ (HJS.out w2 hR.1) Tryz.underlying45 rfl (by rw [show _ = _ from HJA.out]; kernel_rfl) ?_
        exact hK.out _ _ (RnD33.of (Keeps.refl _ _)) rfl
      refine StepsL.plain rfl (fun Q a w2 hR hf hd K hK => ?_) ?_
      · have d0 : a.tmps[110]?.getD undef = .agg XA := hd.get 0 (by kernel_rfl)
        have d1 : a.tmps[111]?.getD undef = .agg LA := hd.get 1 (by kernel_rfl)
        have d3 : a.tmps[113]?.getD undef = .agg #[.slice none 0 0, .int .i64 mostS, .int .i64 (-1), .slice none 0 0] := hd.get 3 (by kernel_rfl)
        have d9 : a.tmps[119]?.getD undef = .string ⟨#[]⟩ := hd.get 9 (by kernel_rfl)
        have d10 : a.tmps[120]?.getD undef = .agg JA := hd.get 10 (by kernel_rfl)
        rw [HXA.out] at d0
        rw [HLA.out] at d1
        rw [HJA.out] at d10
        go_simp
        refine hK.out _ _ (RnD33.of (Keeps.refl _ _)) ?_
        show _ = Value.agg AA
        rw [HAA.out]; rfl
      refine StepsL.plain rfl (fun Q a w2 hR hf hd K hK => ?_) ?_
      · have f6 : a.tmps[6]?.getD undef = .pointer (some ⟨w.heap.size + 1 + 1, 0, none⟩) := hf.out 6 (by kernel_rfl)
        have d11 : a.tmps[121]?.getD undef = .agg AA := hd.get 11 (by kernel_rfl)
        obtain ⟨old, hold, hbl⟩ := hR.2.1 ⟨_, rfl, HZ0.out⟩
        refine wp_store_row 47 (.tmp 6) (.tmp 121) rfl (w.heap.size + 1 + 1) AA (by simpa [Act.eval] using f6) (by simpa [Act.eval] using d11) 47 old hbl (by rw [HAA.out]; kernel_rfl) (by rw [hold, HAA.out]; rfl) (by rw [HAA.out]; simp [Value.oneCell']) ?_
        exact hK.out _ _ (RnD33.row hbl (by rw [HAA.out]; rfl)) (Blk.row hbl _)
      refine StepsL.plain rfl (fun Q a w2 hR hf hd K hK => ?_) ?_
      · go_simp
        exact hK.out _ _ (RnD33.of (Keeps.refl _ _)) rfl
      exact StepsL.nil
    · intro a' w9 hsz hdf hR hfix hall
      have h6 : a'.tmps[6]?.getD undef = .pointer (some ⟨w.heap.size + 1 + 1, 0, none⟩) := hfix 6 (by kernel_rfl)
      have h7 : a'.tmps[7]?.getD undef = .int .i64 0 := hall 13 _ rfl
      have hZ9 : Blk w9 (w.heap.size + 1 + 1) 47 AA := hall 12 _ rfl
      have hk9 : Keeps (fun _ => False) w w9 := HT7.out.k.and_ hR.1 (fun i hi e => by omega)
      have hsl9 := HSL7.out.keepsA hR.1 (fun ad ha e => by have := HLO.out ad ha; omega)
      go_wp2_with fail
      refine ret_cell_tmp rfl (w.heap.size + 1 + 1) 47 AA _ (by simpa using h6) hZ9 Tryz.underlying47 rfl (by rw [HAA.out]; kernel_rfl) hdf ?_
      refine ⟨.agg AA, ?_, fun h => absurd rfl h, fun _ => ⟨a, fc, none, 0, none, 0, none, 0, .slice none 0 0, ?_, ?_, ?_, SlT.nil_, SlT.nil_, OwnS.none_⟩, hk9⟩
      · rw [show a'.tmps.getD 7 undef = .int .i64 0 by simpa using h7]
      · rw [HAA.out]
        unfold dcR lnR conR
        simp only [HLL.out, ← HFN.out, ← HB.out]
        rfl
      · rw [← HFN.out]; exact hsl9
      · simp only [HLL.out]; exact slat_nil
  · have hkv := HKL.out h0
    subst hkv
    have h1 : (K != 0) = true := by simpa using h0
    simp only [if_neg h0] at HN
    go_enter Tryz.func10, Tryz.ntmps10
    go_wp2_with fail
    refine (HN.out _).mono ?_
    rintro e w2 ⟨a, fc, rfl, -, k2⟩
    have hT := Three33.call k2
    have hzl := hT.z.lt
    have HT := Lib.hid hT
    have H0 := Lib.hid h0
    unfold lnR
    simp only
    clear k2 hT h0
    go_wp2_with ((with_reducible show wpList _ _ _ (⟨none, .store 47 (.tmp 6) (.tmp 24), _, _, _, _⟩ :: _) _ _); go_must (refine wpList_store_row rfl 47 (.tmp 6) (.tmp 24) rfl (w.heap.size + 1 + 1) _ rfl rfl 47 zero33 (HT.out.z.alloc _) (by kernel_rfl) rfl (by simp [Value.oneCell']) ?_))
    refine ret_cell_tmp rfl (w.heap.size + 1 + 1) 47 _ _ rfl ((HT.out.z.alloc _).row _) Tryz.underlying47 rfl (by kernel_rfl) rfl ?_
    exact ⟨_, rfl, fun _ => rfl, fun h => absurd h H0.out, (HT.out.k.alloc _).setRow (by omega) _⟩
end Go.Proofs.YtkmpdobojgiegaaGreatDoor
