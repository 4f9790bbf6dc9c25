/-
  The document's store (wheelhouseref11): with, Get, begin.
-/
import Derived.Test.YtfbdpmeelejdhaaGreatQDocB
namespace Go.Proofs.YtfbdpmeelejdhaaGreat
set_option linter.unusedSimpArgs false
open Go.RowKit Go.Maps

theorem ins_at {x : SFile} : ∀ {l : List SFile} {k : Nat}, (∀ j, j < k → ∀ y, l[j]? = some y → nmLt y.name x.name = true) → k ≤ l.length → (k = l.length ∨ ∃ y, l[k]? = some y ∧ nmLt y.name x.name = false) → (∀ y ∈ l, y.name ≠ x.name) → insG SFile.name x l = l.take k ++ [x] ++ l.drop k
  | [], k, _, hk, _, _ => by
    obtain rfl : k = 0 := by simpa using hk
    rfl
  | y :: l, 0, _, _, he, hne => by
    rcases he with he | ⟨z, hz, hl⟩
    · simp at he
    · simp at hz
      subst hz
      have : nmLt x.name y.name = true := by
        rcases nmLt_total (hne y (by simp)) with h | h
        · rw [hl] at h; cases h
        · exact h
      simp [insG, this]
  | y :: l, k + 1, h, hk, he, hne => by
    have h0 := nmLt_asymm (h 0 (by omega) y rfl)
    have ih := ins_at (x := x) (l := l) (k := k) (fun j hj z hz => h (j + 1) (by omega) z (by simpa using hz)) (by simpa using hk) (by simpa using he) (fun z hz => hne z (by simp [hz]))
    simp only [insG, h0, Bool.false_eq_true, if_false, ih]
    simp

theorem DocL.keeps2 {w w' : World} {v : Value} {l : List SFile} (h : DocL w v l) (k : Keeps (fun i => w.heap.size ≤ i) w w') : DocL w' v l := OwnS.keeps h k (fun _ _ hi _ hh => by omega)
theorem DocL.form {w : World} {v : Value} {D : List SFile} (h : DocL w v D) : (v = .slice none 0 0 ∧ D = []) ∨ ∃ g c, v = .slice (some ⟨g, 0, none⟩) D.length c ∧ D.length ≤ c ∧ c ≤ maxLen := by
  rcases h.2 with ⟨h1, h2⟩ | ⟨g, cap, cur, h0, hg, hh, h1, h2, h3, h4⟩
  · exact .inl ⟨h1, List.eq_nil_of_length_eq_zero h2⟩
  · exact .inr ⟨g, cap, h0, h1, h2⟩
theorem kept_cell {w2 w7 : World} (k : Keeps (fun i => w2.heap.size ≤ i) w2 w7) {b j : Nat} {u : Value} (h : w2.cell? ⟨b, j, none⟩ = some u) : w7.cell? ⟨b, j, none⟩ = some u :=
  (World.cell?_of_block (w := w2) (k.block b (block_lt_of_cell h) (Nat.not_le.2 (block_lt_of_cell h)))).trans h
theorem DocL.drop {w : World} {g n c : Nat} {D : List SFile} (h : DocL w (.slice (some ⟨g, 0, none⟩) n c) D) {k : Nat} (hk : k < D.length) (c' : Nat) : SrcS docR 3 w (.slice (some ⟨g, k * 3, none⟩) (D.length - k) c') (D.drop k) := by
  obtain ⟨ad, ha, hs⟩ := OwnS.srcDrop h docR_len hk c'
  injection ha with ha
  subst ha
  have e0 : (⟨g, 0, none⟩ : Addr).add (k * 3) = ⟨g, k * 3, none⟩ := by by_cases h0 : k * 3 = 0 <;> simp [Addr.add, h0]
  rwa [e0] at hs

set_option maxRecDepth 100000 in
set_option maxHeartbeats 1000000 in
theorem rwith_any (w : World) (v : Value) (l : List SFile) (f : SFile) (h : DocL w v l) (hl : l.length ≤ 4294967296) :
    Calls Tryz.prog 88 #[v, docF f] w fun e w' => ∃ v', e = .returned v' ∧ OwnS docR 3 w' w.heap.size 116 v' (putG SFile.name f l) ∧ Keeps (fun _ => False) w w' := by
  have kb : Keeps (fun _ => False) w (w.alloc (.cells #[.string f.name, .string f.data, .int .i64 (f.sure : Nat)] 116)) := (Keeps.refl _ _).alloc _
  have hwo := rwithout_any _ v l f.name (h.keeps kb) hl
  obtain ⟨D, hD⟩ : ∃ D, D = delG SFile.name f.name l := ⟨_, rfl⟩
  have hDn : ∀ y ∈ D, y.name ≠ f.name := by rw [hD]; exact delG_ne
  have hDl : D.length ≤ 4294967296 := by
    have h1 : (delG SFile.name f.name l).length ≤ l.length := List.length_filter_le _ _
    rw [hD]; omega
  rw [← hD] at hwo
  have hput : putG SFile.name f l = insG SFile.name f D := by rw [hD]; rfl
  have HPUT := Lib.hid hput
  have HWO := Lib.hid hwo
  have HDN := Lib.hid hDn
  have HKB := Lib.hid kb
  clear hwo hDn kb hD hput h
  unfold docF
  go_enter Tryz.func88, Tryz.ntmps88
  go_wp2_with fail
  refine HWO.out.mono ?_
  rintro e w2 ⟨v2, rfl, ho2, k2⟩
  have b2 := (Blk.new w 116 #[.string f.name, .string f.data, .int .i64 (f.sure : Nat)]).keeps k2 id
  obtain ⟨b0, b1, b3⟩ := b2.cells3
  have hd2 : DocL w2 v2 D := OwnS.moreS ho2 (Nat.zero_le _)
  have HDL := Lib.hid hd2
  have HK2 := Lib.hid (HKB.out.trans k2)
  obtain ⟨a, c, rfl, hc⟩ := hd2.cells
  obtain ⟨a', c', hv', hcap, hmax, -, -⟩ := OwnS.shape hd2 docR_len
  injection hv' with ea el ec
  subst ea ec
  unfold maxLen at hmax
  have HC := Lib.hid hc
  clear hc hd2 ho2 k2 b2 el
  go_wp2_with fail
  go_loopw [5] (fun u5 wr => ∃ k : Nat, u5 = .int .i64 k ∧ k ≤ D.length ∧ Hid ((∀ j, j < k → ∀ x, D[j]? = some x → nmLt x.name f.name = true) ∧ Keeps (fun _ => False) w2 wr)) (fun u5 _ => D.length - (intOf u5).toNat)
  case atStart => exact ⟨0, rfl, Nat.zero_le _, Lib.hid ⟨fun j h => by omega, Keeps.refl _ _⟩⟩
  case round =>
    obtain ⟨k, rfl, hk, HI⟩ := hrel
    have HKR := Lib.hid HI.out.2
    have e0 := (World.cell?_of_block (w := w2) (HKR.out.block _ (block_lt_of_cell b0) id)).trans b0
    have e1 := (World.cell?_of_block (w := w2) (HKR.out.block _ (block_lt_of_cell b1) id)).trans b1
    have e3 := (World.cell?_of_block (w := w2) (HKR.out.block _ (block_lt_of_cell b3) id)).trans b3
    by_cases hlt : k < D.length
    · obtain ⟨x, hx⟩ : ∃ x, D[k]? = some x := ⟨_, List.getElem?_eq_getElem hlt⟩
      obtain ⟨g, rfl, hg, hcc⟩ := HC.out k x hx
      obtain ⟨c0, c1, c2⟩ := hcc _ HKR.out
      have HX := Lib.hid hx
      clear hx hcc
      by_cases hn : nmLt x.name f.name = true
      · have HN := Lib.hid hn
        have hbl := (nmLt_less x.name f.name).trans hn
        clear hn
        go_wp2_with fail
        go_region
        go_wp2_with fail
        go_roundw
        case rel => exact ⟨k + 1, by go_num, by omega, Lib.hid ⟨fun j hj y hy => by
          by_cases e : j = k
          · subst e
            have : x = y := Option.some.inj (HX.out.symm.trans hy)
            exact this ▸ HN.out
          · exact HI.out.1 j (by omega) y hy, HKR.out.drew⟩⟩
        case measure => simp [intOf]; omega
      · have hn2 : nmLt x.name f.name = false := by simpa using hn
        have hbl := (nmLt_less x.name f.name).trans hn2
        have HINS := Lib.hid (ins_at HI.out.1 hk (.inr ⟨x, HX.out, hn2⟩) HDN.out)
        have hkc : k < c := by omega
        clear hn hn2
        go_wp2_with fail
        go_region
        go_wp2_with (first
          | ((with_reducible show wpList _ _ _ (⟨some 31, _, _, _, _, _⟩ :: _) _ _); go_must (refine wpList_append_src docR 3 docR_len (by decide) rfl (.tmp 27) (.tmp 30) 52 rfl w2.heap.size 116 (.agg #[.string ⟨#[]⟩, .string ⟨#[]⟩, .int .i64 0]) 40 Tryz.underlying52 (by kernel_rfl) rfl (by omega) (.slice none 0 0) [] rfl OwnS.none_ (.slice (some ⟨g, 0, none⟩) k c) (D.take k) rfl (OwnS.srcTake (HDL.out.keeps (HKR.out.trans (by (repeat (first | (with_reducible assumption) | (with_reducible exact Keeps.refl _ _) | refine Keeps.drew ?_ | refine Keeps.drewN ?_ _ | refine Keeps.setCell ?_ (by simp) _ | refine Keeps.setRow ?_ (by simp) _ | refine Keeps.alloc ?_ _))))) docR_len (by omega) c) docR_one (by simp only [List.length_append, List.length_cons, List.length_nil, List.length_take, List.length_drop]; omega) (HKR.out.trans (by (repeat (first | (with_reducible assumption) | (with_reducible exact Keeps.refl _ _) | refine Keeps.drew ?_ | refine Keeps.drewN ?_ _ | refine Keeps.setCell ?_ (by simp) _ | refine Keeps.setRow ?_ (by simp) _ | refine Keeps.alloc ?_ _)))).size ?_; intro v7 w7 O7 k7; have q7 : Keeps (fun i => w2.heap.size ≤ i) w2 w7 := Keeps.and_ (HKR.out.trans (by (repeat (first | (with_reducible assumption) | (with_reducible exact Keeps.refl _ _) | refine Keeps.drew ?_ | refine Keeps.drewN ?_ _ | refine Keeps.setCell ?_ (by simp) _ | refine Keeps.setRow ?_ (by simp) _ | refine Keeps.alloc ?_ _)))).none_ k7 (fun i _ h => h.1); have d0 := kept_cell q7 b0; have d1 := kept_cell q7 b1; have d3 := kept_cell q7 b3; have HO7 := Lib.hid O7; have HQ7 := Lib.hid q7; clear O7 k7 q7))
          | ((with_reducible show wpList _ _ _ (⟨some 35, _, _, _, _, _⟩ :: _) _ _); go_must (refine wpList_append_st docR 3 docR_len (by decide) rfl (.tmp 32) (.tmp 34) 52 rfl w2.heap.size 116 (.agg #[.string ⟨#[]⟩, .string ⟨#[]⟩, .int .i64 0]) 40 Tryz.underlying52 (by kernel_rfl) rfl (by omega) v7 ([] ++ D.take k) rfl (OwnS.keeps (S := fun _ => False) HO7.out ((Keeps.refl _ _).alloc _) (fun _ _ _ _ => id)) w7.heap.size 1 f rfl (Blk.new _ _ _) (docR_one _) (by simp only [List.length_append, List.length_cons, List.length_nil, List.length_take]; omega) (by have := HQ7.out.size; simp; omega) ?_; intro v8 w8 O8 k8; have q8 : Keeps (fun i => w2.heap.size ≤ i) w2 w8 := Keeps.and_ (HQ7.out.alloc _) k8 (fun i _ h => h.1); have HO8 := Lib.hid O8; have HQ8 := Lib.hid q8; clear O8 k8 q8))
          | ((with_reducible show wpList _ _ _ (⟨some 40, _, _, _, _, _⟩ :: _) _ _); go_must (refine wpList_append_src docR 3 docR_len (by decide) rfl (.tmp 36) (.tmp 39) 52 rfl w2.heap.size 116 (.agg #[.string ⟨#[]⟩, .string ⟨#[]⟩, .int .i64 0]) 40 Tryz.underlying52 (by kernel_rfl) rfl (by omega) v8 ([] ++ D.take k ++ [f]) rfl HO8.out (.slice (some ⟨g, k * 3, none⟩) (D.length - k) (c - k)) (D.drop k) rfl (DocL.drop (HDL.out.keeps2 HQ8.out) hlt _) docR_one (by simp only [List.length_append, List.length_cons, List.length_nil, List.length_take, List.length_drop]; omega) HQ8.out.size ?_; intro v9 w9 O9 k9; have q9 : Keeps (fun i => w2.heap.size ≤ i) w2 w9 := Keeps.and_ HQ8.out k9 (fun i _ h => h.1); have HO9 := Lib.hid O9; have HQ9 := Lib.hid q9; clear O9 k9 q9)))
        go_ret
        exact ⟨v9, rfl, by rw [HPUT.out, HINS.out]; exact OwnS.moreS (by simpa using HO9.out) HK2.out.size, HK2.out.and_ HQ9.out (fun i hi h => by have := HK2.out.size; omega)⟩
    · obtain rfl : k = D.length := by omega
      have HINS := Lib.hid (ins_at HI.out.1 hk (.inl rfl) HDN.out)
      rcases HDL.out.form with ⟨hv, rfl⟩ | ⟨g, c2, hv, hnc, hcm⟩
      · injection hv with ea el ec
        subst ea ec
        go_wp2_with fail
        go_region
        go_wp2_with (first
          | ((with_reducible show wpList _ _ _ (⟨some 31, _, _, _, _, _⟩ :: _) _ _); go_must (refine wpList_append_src docR 3 docR_len (by decide) rfl (.tmp 27) (.tmp 30) 52 rfl w2.heap.size 116 (.agg #[.string ⟨#[]⟩, .string ⟨#[]⟩, .int .i64 0]) 40 Tryz.underlying52 (by kernel_rfl) rfl (by omega) (.slice none 0 0) [] rfl OwnS.none_ (.slice none 0 0) ([]) rfl (SrcS.nil_ _ _ _) docR_one (by simp only [List.length_append, List.length_cons, List.length_nil, List.length_take, List.length_drop]; omega) (HKR.out.trans (by (repeat (first | (with_reducible assumption) | (with_reducible exact Keeps.refl _ _) | refine Keeps.drew ?_ | refine Keeps.drewN ?_ _ | refine Keeps.setCell ?_ (by simp) _ | refine Keeps.setRow ?_ (by simp) _ | refine Keeps.alloc ?_ _)))).size ?_; intro v7 w7 O7 k7; have q7 : Keeps (fun i => w2.heap.size ≤ i) w2 w7 := Keeps.and_ (HKR.out.trans (by (repeat (first | (with_reducible assumption) | (with_reducible exact Keeps.refl _ _) | refine Keeps.drew ?_ | refine Keeps.drewN ?_ _ | refine Keeps.setCell ?_ (by simp) _ | refine Keeps.setRow ?_ (by simp) _ | refine Keeps.alloc ?_ _)))).none_ k7 (fun i _ h => h.1); have d0 := kept_cell q7 b0; have d1 := kept_cell q7 b1; have d3 := kept_cell q7 b3; have HO7 := Lib.hid O7; have HQ7 := Lib.hid q7; clear O7 k7 q7))
          | ((with_reducible show wpList _ _ _ (⟨some 35, _, _, _, _, _⟩ :: _) _ _); go_must (refine wpList_append_st docR 3 docR_len (by decide) rfl (.tmp 32) (.tmp 34) 52 rfl w2.heap.size 116 (.agg #[.string ⟨#[]⟩, .string ⟨#[]⟩, .int .i64 0]) 40 Tryz.underlying52 (by kernel_rfl) rfl (by omega) v7 ([] ++ []) rfl (OwnS.keeps (S := fun _ => False) HO7.out ((Keeps.refl _ _).alloc _) (fun _ _ _ _ => id)) w7.heap.size 1 f rfl (Blk.new _ _ _) (docR_one _) (by simp only [List.length_append, List.length_cons, List.length_nil, List.length_take]; omega) (by have := HQ7.out.size; simp; omega) ?_; intro v8 w8 O8 k8; have q8 : Keeps (fun i => w2.heap.size ≤ i) w2 w8 := Keeps.and_ (HQ7.out.alloc _) k8 (fun i _ h => h.1); have HO8 := Lib.hid O8; have HQ8 := Lib.hid q8; clear O8 k8 q8))
          | ((with_reducible show wpList _ _ _ (⟨some 40, _, _, _, _, _⟩ :: _) _ _); go_must (refine wpList_append_src docR 3 docR_len (by decide) rfl (.tmp 36) (.tmp 39) 52 rfl w2.heap.size 116 (.agg #[.string ⟨#[]⟩, .string ⟨#[]⟩, .int .i64 0]) 40 Tryz.underlying52 (by kernel_rfl) rfl (by omega) v8 ([] ++ [] ++ [f]) rfl HO8.out (.slice none 0 0) ([]) rfl (SrcS.nil_ _ _ _) docR_one (by simp only [List.length_append, List.length_cons, List.length_nil, List.length_take, List.length_drop]; omega) HQ8.out.size ?_; intro v9 w9 O9 k9; have q9 : Keeps (fun i => w2.heap.size ≤ i) w2 w9 := Keeps.and_ HQ8.out k9 (fun i _ h => h.1); have HO9 := Lib.hid O9; have HQ9 := Lib.hid q9; clear O9 k9 q9)))
        go_ret
        exact ⟨v9, rfl, by rw [HPUT.out, HINS.out]; exact OwnS.moreS (by simpa using HO9.out) HK2.out.size, HK2.out.and_ HQ9.out (fun i hi h => by have := HK2.out.size; omega)⟩
      · injection hv with ea el ec
        subst ea ec
        rcases Nat.eq_or_lt_of_le hnc with he | hlt2
        · rw [← he] at HDL ⊢
          clear he
          go_wp2_with fail
          go_region
          go_wp2_with (first
          | ((with_reducible show wpList _ _ _ (⟨some 31, _, _, _, _, _⟩ :: _) _ _); go_must (refine wpList_append_src docR 3 docR_len (by decide) rfl (.tmp 27) (.tmp 30) 52 rfl w2.heap.size 116 (.agg #[.string ⟨#[]⟩, .string ⟨#[]⟩, .int .i64 0]) 40 Tryz.underlying52 (by kernel_rfl) rfl (by omega) (.slice none 0 0) [] rfl OwnS.none_ (.slice (some ⟨g, 0, none⟩) D.length D.length) (D.take D.length) rfl (OwnS.srcTake (HDL.out.keeps (HKR.out.trans (by (repeat (first | (with_reducible assumption) | (with_reducible exact Keeps.refl _ _) | refine Keeps.drew ?_ | refine Keeps.drewN ?_ _ | refine Keeps.setCell ?_ (by simp) _ | refine Keeps.setRow ?_ (by simp) _ | refine Keeps.alloc ?_ _))))) docR_len (Nat.le_refl _) D.length) docR_one (by simp only [List.length_append, List.length_cons, List.length_nil, List.length_take, List.length_drop]; omega) (HKR.out.trans (by (repeat (first | (with_reducible assumption) | (with_reducible exact Keeps.refl _ _) | refine Keeps.drew ?_ | refine Keeps.drewN ?_ _ | refine Keeps.setCell ?_ (by simp) _ | refine Keeps.setRow ?_ (by simp) _ | refine Keeps.alloc ?_ _)))).size ?_; intro v7 w7 O7 k7; have q7 : Keeps (fun i => w2.heap.size ≤ i) w2 w7 := Keeps.and_ (HKR.out.trans (by (repeat (first | (with_reducible assumption) | (with_reducible exact Keeps.refl _ _) | refine Keeps.drew ?_ | refine Keeps.drewN ?_ _ | refine Keeps.setCell ?_ (by simp) _ | refine Keeps.setRow ?_ (by simp) _ | refine Keeps.alloc ?_ _)))).none_ k7 (fun i _ h => h.1); have d0 := kept_cell q7 b0; have d1 := kept_cell q7 b1; have d3 := kept_cell q7 b3; have HO7 := Lib.hid O7; have HQ7 := Lib.hid q7; clear O7 k7 q7))
          | ((with_reducible show wpList _ _ _ (⟨some 35, _, _, _, _, _⟩ :: _) _ _); go_must (refine wpList_append_st docR 3 docR_len (by decide) rfl (.tmp 32) (.tmp 34) 52 rfl w2.heap.size 116 (.agg #[.string ⟨#[]⟩, .string ⟨#[]⟩, .int .i64 0]) 40 Tryz.underlying52 (by kernel_rfl) rfl (by omega) v7 ([] ++ D.take D.length) rfl (OwnS.keeps (S := fun _ => False) HO7.out ((Keeps.refl _ _).alloc _) (fun _ _ _ _ => id)) w7.heap.size 1 f rfl (Blk.new _ _ _) (docR_one _) (by simp only [List.length_append, List.length_cons, List.length_nil, List.length_take]; omega) (by have := HQ7.out.size; simp; omega) ?_; intro v8 w8 O8 k8; have q8 : Keeps (fun i => w2.heap.size ≤ i) w2 w8 := Keeps.and_ (HQ7.out.alloc _) k8 (fun i _ h => h.1); have HO8 := Lib.hid O8; have HQ8 := Lib.hid q8; clear O8 k8 q8))
          | ((with_reducible show wpList _ _ _ (⟨some 40, _, _, _, _, _⟩ :: _) _ _); go_must (refine wpList_append_src docR 3 docR_len (by decide) rfl (.tmp 36) (.tmp 39) 52 rfl w2.heap.size 116 (.agg #[.string ⟨#[]⟩, .string ⟨#[]⟩, .int .i64 0]) 40 Tryz.underlying52 (by kernel_rfl) rfl (by omega) v8 ([] ++ D.take D.length ++ [f]) rfl HO8.out (.slice (some ⟨g, 0, none⟩) 0 0) ([]) rfl (SrcS.nil_ _ _ _) docR_one (by simp only [List.length_append, List.length_cons, List.length_nil, List.length_take, List.length_drop]; omega) HQ8.out.size ?_; intro v9 w9 O9 k9; have q9 : Keeps (fun i => w2.heap.size ≤ i) w2 w9 := Keeps.and_ HQ8.out k9 (fun i _ h => h.1); have HO9 := Lib.hid O9; have HQ9 := Lib.hid q9; clear O9 k9 q9)))
          go_ret
          exact ⟨v9, rfl, by rw [HPUT.out, HINS.out]; exact OwnS.moreS (by simpa using HO9.out) HK2.out.size, HK2.out.and_ HQ9.out (fun i hi h => by have := HK2.out.size; omega)⟩
        · go_wp2_with fail
          go_region
          go_wp2_with (first
          | ((with_reducible show wpList _ _ _ (⟨some 31, _, _, _, _, _⟩ :: _) _ _); go_must (refine wpList_append_src docR 3 docR_len (by decide) rfl (.tmp 27) (.tmp 30) 52 rfl w2.heap.size 116 (.agg #[.string ⟨#[]⟩, .string ⟨#[]⟩, .int .i64 0]) 40 Tryz.underlying52 (by kernel_rfl) rfl (by omega) (.slice none 0 0) [] rfl OwnS.none_ (.slice (some ⟨g, 0, none⟩) D.length c) (D.take D.length) rfl (OwnS.srcTake (HDL.out.keeps (HKR.out.trans (by (repeat (first | (with_reducible assumption) | (with_reducible exact Keeps.refl _ _) | refine Keeps.drew ?_ | refine Keeps.drewN ?_ _ | refine Keeps.setCell ?_ (by simp) _ | refine Keeps.setRow ?_ (by simp) _ | refine Keeps.alloc ?_ _))))) docR_len (Nat.le_refl _) c) docR_one (by simp only [List.length_append, List.length_cons, List.length_nil, List.length_take, List.length_drop]; omega) (HKR.out.trans (by (repeat (first | (with_reducible assumption) | (with_reducible exact Keeps.refl _ _) | refine Keeps.drew ?_ | refine Keeps.drewN ?_ _ | refine Keeps.setCell ?_ (by simp) _ | refine Keeps.setRow ?_ (by simp) _ | refine Keeps.alloc ?_ _)))).size ?_; intro v7 w7 O7 k7; have q7 : Keeps (fun i => w2.heap.size ≤ i) w2 w7 := Keeps.and_ (HKR.out.trans (by (repeat (first | (with_reducible assumption) | (with_reducible exact Keeps.refl _ _) | refine Keeps.drew ?_ | refine Keeps.drewN ?_ _ | refine Keeps.setCell ?_ (by simp) _ | refine Keeps.setRow ?_ (by simp) _ | refine Keeps.alloc ?_ _)))).none_ k7 (fun i _ h => h.1); have d0 := kept_cell q7 b0; have d1 := kept_cell q7 b1; have d3 := kept_cell q7 b3; have HO7 := Lib.hid O7; have HQ7 := Lib.hid q7; clear O7 k7 q7))
          | ((with_reducible show wpList _ _ _ (⟨some 35, _, _, _, _, _⟩ :: _) _ _); go_must (refine wpList_append_st docR 3 docR_len (by decide) rfl (.tmp 32) (.tmp 34) 52 rfl w2.heap.size 116 (.agg #[.string ⟨#[]⟩, .string ⟨#[]⟩, .int .i64 0]) 40 Tryz.underlying52 (by kernel_rfl) rfl (by omega) v7 ([] ++ D.take D.length) rfl (OwnS.keeps (S := fun _ => False) HO7.out ((Keeps.refl _ _).alloc _) (fun _ _ _ _ => id)) w7.heap.size 1 f rfl (Blk.new _ _ _) (docR_one _) (by simp only [List.length_append, List.length_cons, List.length_nil, List.length_take]; omega) (by have := HQ7.out.size; simp; omega) ?_; intro v8 w8 O8 k8; have q8 : Keeps (fun i => w2.heap.size ≤ i) w2 w8 := Keeps.and_ (HQ7.out.alloc _) k8 (fun i _ h => h.1); have HO8 := Lib.hid O8; have HQ8 := Lib.hid q8; clear O8 k8 q8))
          | ((with_reducible show wpList _ _ _ (⟨some 40, _, _, _, _, _⟩ :: _) _ _); go_must (refine wpList_append_src docR 3 docR_len (by decide) rfl (.tmp 36) (.tmp 39) 52 rfl w2.heap.size 116 (.agg #[.string ⟨#[]⟩, .string ⟨#[]⟩, .int .i64 0]) 40 Tryz.underlying52 (by kernel_rfl) rfl (by omega) v8 ([] ++ D.take D.length ++ [f]) rfl HO8.out (.slice (some ⟨g, D.length * 3, none⟩) 0 (c - D.length)) ([]) rfl (SrcS.nil_ _ _ _) docR_one (by simp only [List.length_append, List.length_cons, List.length_nil, List.length_take, List.length_drop]; omega) HQ8.out.size ?_; intro v9 w9 O9 k9; have q9 : Keeps (fun i => w2.heap.size ≤ i) w2 w9 := Keeps.and_ HQ8.out k9 (fun i _ h => h.1); have HO9 := Lib.hid O9; have HQ9 := Lib.hid q9; clear O9 k9 q9)))
          go_ret
          exact ⟨v9, rfl, by rw [HPUT.out, HINS.out]; exact OwnS.moreS (by simpa using HO9.out) HK2.out.size, HK2.out.and_ HQ9.out (fun i hi h => by have := HK2.out.size; omega)⟩
end Go.Proofs.YtfbdpmeelejdhaaGreat
