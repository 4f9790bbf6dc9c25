/-
  When pieces are the same (wheelhouselaw12.Same), and the example of the pieces' statements ('works').
-/
import Derived.Test.YtngjppckobfdeaaDoorLexRD
import Derived.Test.YtngjppckobfdeaaDoorArgs
import Derived.Test.YtngjppckobfdeaaDoorRef09
import Derived.Test.YtngjppckobfdeaaDoorWorks09
namespace Go.Proofs.YtngjppckobfdeaaDoor
open Go.RowKit

theorem SlAt.drewN {α : Type} {R : α → List Value} {size : Nat} {w : World} {a : Option Addr} {n : Nat} {l : List α} (h : SlAt R size w a n l) (q : Nat) : SlAt R size (w.drewN q) a n l := h

set_option maxRecDepth 100000 in
set_option maxHeartbeats 1000000 in
theorem same_eq (w : World) (a b : Option Addr) (n ca cb : Nat) (xs : List Pc) (ha : SlAt pcR 3 w a n xs) (hb : SlAt pcR 3 w b n xs) (hn : n ≤ 17179869184) :
    Calls Tryd.prog 12 #[.slice a n ca, .slice b n cb] w fun e w' => e = .returned (.bool true) ∧ ∃ q, w' = w.drewN q := by
  obtain ⟨hl, hA⟩ := ha
  obtain ⟨_, hB⟩ := hb
  have HA := Lib.hid hA
  have HB := Lib.hid hB
  clear hA hB
  go_enter Tryd.func12, Tryd.ntmps12
  go_wp2_with fail
  go_loopw [5] (fun u5 wr => ∃ (k q : Nat), k ≤ n ∧ u5 = .int .i64 k ∧ wr = w.drewN q) (fun u5 _ => n - (intOf u5).toNat)
  case atStart => exact ⟨0, 0, by omega, rfl, rfl⟩
  case round =>
    obtain ⟨k, q, hk, rfl, rfl⟩ := hrel
    by_cases hlt : k < n
    · obtain ⟨ba, oa, rfl, _, hca⟩ := HA.out (by omega)
      obtain ⟨bb, ob, rfl, _, hcb⟩ := HB.out (by omega)
      obtain ⟨x, hx⟩ : ∃ x, xs[k]? = some x := ⟨_, List.getElem?_eq_getElem (by omega)⟩
      obtain ⟨a0, a1, a2⟩ := SlAt.cells3 hca k x hx _ _ _ rfl
      obtain ⟨b0, b1, b2⟩ := SlAt.cells3 hcb k x hx _ _ _ rfl
      have hi0 : (0 : Int) ≤ (k : Int) := by omega
      have hi1 : (k : Int) < (n : Int) := by omega
      clear hx hca hcb
      go_wp2_with fail
      go_quiet (fail)
      go_wp2_with fail
      go_roundw
      case rel => exact ⟨k + 1, _, by omega, by go_num, rfl⟩
      case measure => simp [intOf] <;> omega
    · go_wp2_with fail
      go_ret
      exact ⟨rfl, q, rfl⟩

theorem ex1 : lexP [99, 111, 110, 115, 111, 108, 101, 32, 119, 101, 98, 49, 32, 123, 32, 35, 32, 102, 105, 114, 115, 116, 10, 32, 105, 110, 105, 116, 32, 34, 97, 92, 34, 98, 34, 59, 32, 125] = .inr [⟨1, str [99, 111, 110, 115, 111, 108, 101], 1⟩, ⟨1, str [119, 101, 98, 49], 1⟩, ⟨3, str [], 1⟩, ⟨1, str [105, 110, 105, 116], 2⟩, ⟨2, str [97, 34, 98], 2⟩, ⟨5, str [], 2⟩, ⟨4, str [], 2⟩] := by kernel_rfl
theorem ex2 : lexP [97, 10, 34, 98, 10, 34] = .inl (3, 2) := by kernel_rfl
theorem ex3 : putV 2 [97, 34, 98] = .tuple #[.string ⟨#[34, 97, 92, 34, 98, 34]⟩, .int .i64 0] := by kernel_rfl

set_option maxRecDepth 100000 in
set_option maxHeartbeats 4000000 in
theorem works12 (w : World) (hg : Ety w) : Calls Tryd.prog 9 #[] w fun e w' => e = .returned (.bool true) ∧ Keeps (fun _ => False) w w' := by
  have HG := Lib.hid hg
  clear hg
  go_enter Tryd.func9, Tryd.ntmps9
  go_wp2_with fail
  refine (lread_any w _ (by decide)).mono ?_
  rintro e w1 ⟨p1, -, k1⟩
  obtain ⟨v1, rfl, hO⟩ := p1 _ ex1
  clear p1
  obtain ⟨a1, c1, rfl, -, -, hg1, hc1⟩ := hO.shape pcR_len
  obtain ⟨g1, rfl, hg1, hgl, -⟩ := hg1 (by decide)
  have HC := Lib.hid hc1
  clear hc1 hO
  simp only [List.length_cons, List.length_nil, Nat.zero_add, Nat.reduceAdd]
  go_wp2_with fail
  refine (lread_any w1 _ (by decide)).mono ?_
  rintro e w2 ⟨-, p2, k2⟩
  obtain ⟨v2, rfl, hch⟩ := p2 3 2 ex2
  have HCH := Lib.hid hch
  clear p2 hch
  go_wp2_with fail
  refine (lput_any w2 2 0 _ (by decide)).mono ?_
  rintro e w3 ⟨rfl, k3⟩
  rw [show putV 2 _ = _ from ex3]
  have kk := k2.trans k3
  have hcell : ∀ (i : Nat) (x : Pc) (j : Nat) (u : Value), _ → _ → w3.cell? ⟨g1, i * 3 + j, none⟩ = some u := fun i x j u hx hu => (World.cell?_of_block (w := w1) (kk.block g1 hgl id)).trans (HC.out g1 rfl i x j u hx hu).1
  have d3 := hcell 1 _ 0 _ rfl rfl
  have d4 := hcell 1 _ 1 _ rfl rfl
  have d5 := hcell 1 _ 2 _ rfl rfl
  have d6 := hcell 2 _ 0 _ rfl rfl
  have d12 := hcell 4 _ 0 _ rfl rfl
  have d13 := hcell 4 _ 1 _ rfl rfl
  have d14 := hcell 4 _ 2 _ rfl rfl
  have d18 := hcell 6 _ 0 _ rfl rfl
  clear hcell
  simp only [Nat.reduceMul, Nat.reduceAdd, Nat.one_mul] at d3 d4 d5 d6 d12 d13 d14 d18
  have hs1 : str [119, 101, 98, 49] = ⟨#[119, 101, 98, 49]⟩ := rfl
  have hs2 : str [97, 34, 98] = ⟨#[97, 34, 98]⟩ := rfl
  rw [hs1] at d4
  rw [hs2] at d13
  clear hs1 hs2
  go_wp2_with fail
  refine (of_chain _ _ 3 _ (Chain.keeps HCH k3 (fun _ _ _ => id)) (Ety.keeps HG (k1.trans kk) id)).mono ?_
  rintro e w4 ⟨rfl, k4⟩
  go_wp2_with fail
  refine (line_chain _ _ 3 _ (Chain.keeps HCH (k3.trans k4) (fun _ _ _ => id)) (Ety.keeps HG ((k1.trans kk).trans k4) id)).mono ?_
  rintro e w5 ⟨rfl, k5⟩
  rw [show lineOf [((2 : Int), (⟨#[116, 101, 120, 116]⟩ : ByteArray))] = 2 from rfl]
  go_wp2_with fail
  refine (wordy_any w5 _ (by decide)).mono ?_
  rintro e w6 ⟨rfl, k6⟩
  rw [show wordyP (⟨#[97, 42]⟩ : ByteArray).data.toList = true from rfl]
  go_wp2_with fail
  refine (wordy_any w6 _ (by decide)).mono ?_
  rintro e w7 ⟨rfl, k7⟩
  rw [show wordyP (⟨#[97, 123]⟩ : ByteArray).data.toList = false from rfl]
  go_wp2_with fail
  go_ret
  exact ⟨rfl, ((((k1.trans kk).trans k4).trans k5).trans k6).trans k7⟩

theorem readP_line : ∀ (f : Nat) (ln : Int) (l : List UInt8) (out : List Pc) (c n : Int), 0 ≤ ln → readP f ln l out = .inl (c, n) → 0 ≤ n := by
  intro f
  induction f with
  | zero => intro ln l out c n h0 h; simp [readP] at h
  | succ f ih =>
    intro ln l out c n h0 h
    have hs := (skipP_line l false ln).1
    rw [readP] at h
    obtain ⟨q, hq⟩ : ∃ q, q = skipP false ln l := ⟨_, rfl⟩
    rw [← hq] at h hs
    simp only [] at h
    split at h
    · cases h
    · split at h
      · injection h with h; injection h with _ h; omega
      · split at h
        · injection h with h; injection h with _ h; omega
        · exact ih _ _ _ c n (by omega) h
theorem readP_count : ∀ (f : Nat) (ln : Int) (l : List UInt8) (out xs : List Pc), readP f ln l out = .inr xs → xs.length ≤ out.length + f := by
  intro f
  induction f with
  | zero => intro ln l out xs h; simp [readP] at h; subst h; simp
  | succ f ih =>
    intro ln l out xs h
    rw [readP] at h
    obtain ⟨q, hq⟩ : ∃ q, q = skipP false ln l := ⟨_, rfl⟩
    rw [← hq] at h
    simp only [] at h
    split at h
    · injection h with h; subst h; omega
    · split at h
      · cases h
      · split at h
        · cases h
        · have := ih _ _ _ _ h; simp at this; omega
theorem lexP_line (s : List UInt8) (c n : Int) (h : lexP s = .inl (c, n)) : lineOf [(n, (⟨#[116, 101, 120, 116]⟩ : ByteArray))] = n := by
  have h0 : 0 ≤ n := by
    unfold lexP at h
    split at h
    · injection h with h; injection h with _ h; omega
    · exact readP_line _ _ _ _ c n (by omega) h
  rw [lineOf]
  split
  · rfl
  · rw [lineOf]; omega
theorem SlAt.nil0 {α : Type} {R : α → List Value} {size : Nat} (w : World) (a : Option Addr) : SlAt R size w a 0 [] := ⟨rfl, fun h => absurd h (by omega)⟩

theorem OwnS.slAt' {α : Type} {R : α → List Value} {size : Nat} {w : World} {B : Nat} {e : TypeId} {v : Value} {xs : List α} (h : OwnS R size w B e v xs) (hR : ∀ x, (R x).length = size) :
    ∃ a cap, v = .slice a xs.length cap ∧ SlAt R size w a xs.length xs := h.slAt hR

set_option maxRecDepth 100000 in
set_option maxHeartbeats 2000000 in
theorem lexReads_walk (w : World) (s : ByteArray) (_hs : s.size ≤ maxLen) (hg : Ety w) :
    Calls Tryd.prog 3 #[.string s] w fun e w' => e = .returned (.bool true) ∧ Keeps (fun _ => False) w w' := by
  have HG := Lib.hid hg
  have W : ∀ wx, Keeps (fun _ => False) w wx → Calls Tryd.prog 9 #[] wx fun e w' => e = .returned (.bool true) ∧ Keeps (fun _ => False) wx w' := fun wx k => works12 wx (Ety.keeps HG k id)
  have HW := Lib.hid W
  clear hg W _hs
  by_cases hbad : 3000 < s.size ∧ s.size ≤ 65536 ∨ 66000 < s.size
  · rcases hbad with ⟨h1, h2⟩ | h1
    all_goals
      go_enter Tryd.func3, Tryd.ntmps3
      go_wp2_with fail
      refine (HW.out _ (Keeps.refl _ _)).mono ?_
      rintro e w4 ⟨rfl, k4⟩
      go_wp2_with fail
      go_ret
      exact ⟨rfl, k4⟩
  · have hgood : s.size ≤ 3000 ∨ 65536 < s.size := by omega
    have h66 : s.size ≤ 66000 := by omega
    clear hbad
    have HL := Lib.hid (lread_any w s (by omega))
    have HR := Lib.hid fun w => rread_any w s (by omega)
    have HLL := Lib.hid (lexP_line s.data.toList)
    have hnn : ∀ xs, lexP s.data.toList = .inr xs → xs.length ≤ 17179869184 := fun xs h => by
      unfold lexP at h
      split at h
      · cases h
      · have := readP_count _ _ _ _ _ h; simp at this; omega
    have HNN := Lib.hid hnn
    clear hnn
    rcases hgood with hg1 | hg1
    all_goals
      go_enter Tryd.func3, Tryd.ntmps3
      go_wp2_with fail
      refine HL.out.mono ?_
      rintro e w1 ⟨p1, p2, k1⟩
      cases hO : lexP s.data.toList with
      | inr xs =>
        obtain ⟨v1, rfl, hO1⟩ := p1 xs hO
        obtain ⟨a1, c1, rfl, hS1⟩ := hO1.slAt' pcR_len
        have HS1 := Lib.hid hS1
        have HO := Lib.hid hO
        clear p1 p2 hO hO1 hS1
        go_wp2_with fail
        refine (HR.out w1).mono ?_
        rintro e w2 ⟨p1, -, k2⟩
        obtain ⟨v2, rfl, hO2⟩ := p1 xs HO
        obtain ⟨a2, c2, rfl, hS2⟩ := hO2.slAt' pcR_len
        have HS2 := Lib.hid hS2
        clear p1 hO2 hS2
        go_wp2_with fail
        refine (same_eq w2 a1 a2 _ c1 c2 xs (SlAt.keeps HS1.out k2 (fun _ _ => id)) HS2.out (HNN.out xs HO)).mono ?_
        rintro e w3 ⟨rfl, q3, rfl⟩
        go_wp2_with fail
        refine (of_nil _).mono ?_
        rintro e w4 ⟨rfl, k4⟩
        go_wp2_with fail
        refine (line_nil _).mono ?_
        rintro e w5 ⟨rfl, k5⟩
        have kk := (((k1.trans k2).drewN q3).trans k4).trans k5
        go_wp2_with fail
        refine (HW.out _ kk).mono ?_
        rintro e w6 ⟨rfl, k6⟩
        go_wp2_with fail
        go_ret
        exact ⟨rfl, kk.trans k6⟩
      | inl cn =>
        obtain ⟨c, n⟩ := cn
        obtain ⟨v1, rfl, hch⟩ := p2 c n hO
        have HCH := Lib.hid hch
        have HO := Lib.hid hO
        have hln := HLL.out c n hO
        have HLN := Lib.hid hln
        obtain ⟨ty, tx, rfl⟩ := hch.form
        clear p1 p2 hO hch hln
        go_wp2_with fail
        refine (HR.out w1).mono ?_
        rintro e w2 ⟨-, p2, k2⟩
        obtain rfl := p2 c n HO
        clear p2
        go_wp2_with fail
        refine (same_eq w2 none none 0 0 0 [] (SlAt.nil0 _ _) (SlAt.nil0 _ _) (by omega)).mono ?_
        rintro e w3 ⟨rfl, q3, rfl⟩
        have kk := (k1.trans k2).drewN q3
        go_wp2_with fail
        refine (of_chain _ _ c _ (Chain.keeps HCH (k2.drewN q3) (fun _ _ _ => id)) (Ety.keeps HG kk id)).mono ?_
        rintro e w4 ⟨rfl, k4⟩
        go_wp2_with fail
        refine (line_chain _ _ c _ (Chain.keeps HCH ((k2.drewN q3).trans k4) (fun _ _ _ => id)) (Ety.keeps HG (kk.trans k4) id)).mono ?_
        rintro e w5 ⟨rfl, k5⟩
        rw [HLN.out]
        have kk2 := (kk.trans k4).trans k5
        go_wp2_with fail
        refine (HW.out _ kk2).mono ?_
        rintro e w6 ⟨rfl, k6⟩
        go_wp2_with fail
        go_ret
        exact ⟨rfl, kk2.trans k6⟩

set_option maxRecDepth 100000 in
set_option maxHeartbeats 2000000 in
theorem lexPuts_walk (w : World) (kind : Int) (s : ByteArray) (line : Int) (_hk : (Lit.int .i64 kind).wf = true) (_hs : s.size ≤ maxLen) (_hl : (Lit.int .i64 line).wf = true) (hg : Ety w) :
    Calls Tryd.prog 4 #[.int .i64 kind, .string s, .int .i64 line] w fun e w' => e = .returned (.bool true) ∧ Keeps (fun _ => False) w w' := by
  have HG := Lib.hid hg
  have W : ∀ wx, Keeps (fun _ => False) w wx → Calls Tryd.prog 9 #[] wx fun e w' => e = .returned (.bool true) ∧ Keeps (fun _ => False) wx w' := fun wx k => works12 wx (Ety.keeps HG k id)
  have HW := Lib.hid W
  clear hg W _hs _hk _hl
  by_cases hbad : 300 < s.size
  · go_enter Tryd.func4, Tryd.ntmps4
    go_wp2_with fail
    refine (HW.out _ (Keeps.refl _ _)).mono ?_
    rintro e w4 ⟨rfl, k4⟩
    go_wp2_with fail
    go_ret
    exact ⟨rfl, k4⟩
  · have h300 : s.size ≤ 300 := by omega
    clear hbad
    obtain ⟨tx, ce, hp⟩ : ∃ tx ce, putV kind s.data.toList = .tuple #[.string tx, .int .i64 ce] := ⟨_, _, rfl⟩
    have h1 := lput_any w kind line s (by omega)
    have h2 := fun w => rlput_any w kind s (by omega)
    rw [hp] at h1
    simp only [hp] at h2
    have H1 := Lib.hid h1
    have H2 := Lib.hid h2
    clear hp h1 h2
    go_enter Tryd.func4, Tryd.ntmps4
    go_wp2_with fail
    refine H1.out.mono ?_
    rintro e w1 ⟨rfl, k1⟩
    go_wp2_with fail
    refine (H2.out w1).mono ?_
    rintro e w2 ⟨rfl, k2⟩
    go_wp2_with fail
    refine (wordy_any w2 s (by omega)).mono ?_
    rintro e w3 ⟨rfl, k3⟩
    go_wp2_with fail
    refine (rwordy_any w3 s (by omega)).mono ?_
    rintro e w4 ⟨rfl, rfl⟩
    have kk := (k1.trans k2).trans k3
    go_wp2_with fail
    refine (HW.out _ kk).mono ?_
    rintro e w5 ⟨rfl, k5⟩
    go_wp2_with fail
    go_ret
    exact ⟨rfl, kk.trans k5⟩
end Go.Proofs.YtngjppckobfdeaaDoor
