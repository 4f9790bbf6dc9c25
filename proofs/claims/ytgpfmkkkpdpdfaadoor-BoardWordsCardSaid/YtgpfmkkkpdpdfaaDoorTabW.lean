/-
  board's widths of columns: how wide each is.
-/
import Derived.Test.YtgpfmkkkpdpdfaaDoorTabR
namespace Go.Proofs.YtgpfmkkkpdpdfaaDoor
open Go.RowKit

def colW (l : List ByteArray) (i : Nat) : Nat := match l[i]? with
  | some s => s.size
  | none => 0
def wideP (L : List (List ByteArray)) (i : Nat) : Nat := L.foldl (fun n l => max n (colW l i)) 0
theorem wideP_snoc (L : List (List ByteArray)) (l : List ByteArray) (i : Nat) : wideP (L ++ [l]) i = max (wideP L i) (colW l i) := by simp [wideP]
theorem colW_none {l : List ByteArray} {i : Nat} (h : l.length ≤ i) : colW l i = 0 := by unfold colW; rw [List.getElem?_eq_none h]
theorem colW_some {l : List ByteArray} {i : Nat} {s : ByteArray} (h : l[i]? = some s) : colW l i = s.size := by unfold colW; rw [h]
theorem wide_zero {L : List (List ByteArray)} {i : Nat} (h : ∀ l ∈ L, l.length ≤ i) : wideP L i = 0 := by
  unfold wideP
  suffices ∀ n, L.foldl (fun n l => max n (colW l i)) n = n from this 0
  induction L with
  | nil => intro n; rfl
  | cons l L ih =>
    intro n
    rw [List.foldl_cons, colW_none (h l (by simp)), Nat.max_zero]
    exact ih (fun x hx => h x (by simp [hx])) n
theorem colW_take {l : List ByteArray} {j : Nat} {s : ByteArray} (h : l[j]? = some s) (i : Nat) : colW (l.take (j + 1)) i = if i = j then s.size else colW (l.take j) i := by
  have hj := (List.getElem?_eq_some_iff.1 h).1
  by_cases hi : i = j
  · subst hi
    rw [if_pos rfl, colW_some (s := s) (by rw [List.getElem?_take, if_pos (by omega), h])]
  · rw [if_neg hi]
    by_cases h2 : i < j
    · unfold colW; rw [List.getElem?_take, List.getElem?_take, if_pos (by omega), if_pos h2]
    · rw [colW_none (by rw [List.length_take]; omega), colW_none (by rw [List.length_take]; omega)]

/-- the widths behind some rows -/
structure WInv (L : List (List ByteArray)) (ws : List Nat) : Prop where
  le8 : ws.length ≤ 8
  small : ∀ x ∈ ws, x ≤ 4294967296
  at_ : ∀ i, i < ws.length → ws[i]? = some (wideP L i)
  all : ∀ l ∈ L, l.length ≤ ws.length
/-- .. and some columns of the next one -/
structure IInv (L : List (List ByteArray)) (l : List ByteArray) (j : Nat) (ws : List Nat) : Prop where
  le8 : ws.length ≤ 8
  small : ∀ x ∈ ws, x ≤ 4294967296
  at_ : ∀ i, i < ws.length → ws[i]? = some (max (wideP L i) (colW (l.take j) i))
  all : ∀ l ∈ L, l.length ≤ ws.length
  le : j ≤ ws.length
theorem WInv.nil_ : WInv [] [] := ⟨by simp, by simp, fun i h => by simp at h, by simp⟩
theorem WInv.start {L : List (List ByteArray)} {ws : List Nat} (h : WInv L ws) (l : List ByteArray) : IInv L l 0 ws :=
  ⟨h.le8, h.small, fun i hi => by rw [h.at_ i hi, List.take_zero, colW_none (by simp), Nat.max_zero], h.all, Nat.zero_le _⟩
theorem IInv.done {L : List (List ByteArray)} {l : List ByteArray} {ws : List Nat} (h : IInv L l l.length ws) : WInv (L ++ [l]) ws :=
  ⟨h.le8, h.small, fun i hi => by rw [h.at_ i hi, List.take_length, wideP_snoc], fun x hx => by
    rcases List.mem_append.1 hx with hx | hx
    · exact h.all x hx
    · rw [List.mem_singleton.1 hx]; exact h.le⟩
theorem IInv.push {L : List (List ByteArray)} {l : List ByteArray} {j : Nat} {ws : List Nat} {s : ByteArray} (h : IInv L l j ws) (hs : l[j]? = some s) (h8 : l.length ≤ 8) (hsz : s.size ≤ 4294967296) (hj : j = ws.length) : IInv L l (j + 1) (ws ++ [s.size]) := by
  have hl := (List.getElem?_eq_some_iff.1 hs).1
  refine ⟨by simp; omega, fun x hx => ?_, fun i hi => ?_, fun x hx => ?_, by simp; omega⟩
  · rcases List.mem_append.1 hx with hx | hx
    · exact h.small x hx
    · rw [List.mem_singleton.1 hx]; exact hsz
  · rw [colW_take hs]
    by_cases he : i = j
    · rw [if_pos he, wide_zero (fun x hx => by have := h.all x hx; omega), Nat.zero_max, List.getElem?_append_right (by omega), show i - ws.length = 0 by omega]; rfl
    · rw [if_neg he]
      rw [List.length_append, List.length_singleton] at hi
      rw [List.getElem?_append_left (by omega)]
      exact h.at_ i (by omega)
  · have := h.all x hx; simp; omega
theorem IInv.put {L : List (List ByteArray)} {l : List ByteArray} {j : Nat} {ws : List Nat} {s : ByteArray} {x : Nat} (h : IInv L l j ws) (hs : l[j]? = some s) (hsz : s.size ≤ 4294967296) (hx : ws[j]? = some x) : IInv L l (j + 1) (ws.set j (max x s.size)) := by
  have hj := (List.getElem?_eq_some_iff.1 hx).1
  refine ⟨by simp; exact h.le8, fun y hy => ?_, fun i hi => ?_, fun y hy => by have := h.all y hy; simp; omega, by simp; omega⟩
  · rcases List.mem_or_eq_of_mem_set hy with hy | hy
    · exact h.small y hy
    · have := h.small x (List.mem_of_getElem? hx)
      rw [hy]; omega
  · rw [List.length_set] at hi
    rw [colW_take hs, List.getElem?_set]
    by_cases he : i = j
    · subst he
      rw [if_pos rfl, if_pos hj, if_pos rfl]
      have h1 := h.at_ i hi
      rw [hx, colW_none (l := l.take i) (by rw [List.length_take]; omega), Nat.max_zero] at h1
      rw [Option.some.inj h1]
    · rw [if_neg (fun e => he e.symm), if_neg he]
      exact h.at_ i hi

/-- widths as values -/
def wsV (ws : List Nat) : List Value := ws.map fun n => Value.int .i64 (n : Nat)
theorem wsV_len (ws : List Nat) : (wsV ws).length = ws.length := by simp [wsV]
theorem OwnL.set_ {w : World} {B : Nat} {e : TypeId} {g n c : Nat} {vs : List Value} (h : OwnL w B e (.slice (some ⟨g, 0, none⟩) n c) vs) (j : Nat) (u : Value) : OwnL (w.setCell ⟨g, j, none⟩ u) B e (.slice (some ⟨g, 0, none⟩) n c) (vs.set j u) := by
  rcases h.2 with ⟨h2, _⟩ | ⟨g', cap, cur, hv, hg, hh, r1, r2, r3, r4⟩
  · cases h2
  · injection hv with e1 e2 e3
    injection e1 with e1
    injection e1 with e1
    subst e1 e2 e3
    refine ⟨by simp, .inr ⟨g, c, cur.setIfInBounds j u, by simp, hg, ?_, by simpa using r1, r2, by simpa using r3, ?_⟩⟩
    · have := (show Blk w g e cur from hh).set_ j u
      exact this
    · rw [List.length_set, Array.toList_setIfInBounds, List.take_set, r4]

theorem OwnL.cellAt {w : World} {B : Nat} {e : TypeId} {v : Value} {vs : List Value} (h : OwnL w B e v vs) {j n : Nat} {u : Value} (hu : vs[j]? = some u) (hn : vs.length = n) :
    ∃ g c, v = .slice (some ⟨g, 0, none⟩) n c ∧ w.cell? ⟨g, j, none⟩ = some u ∧ w.frozen? ⟨g, j, none⟩ = false ∧ B ≤ g ∧ g < w.heap.size := by
  subst hn
  obtain ⟨a, c, hv, h1, h2, h3, h4⟩ := h.shape
  obtain ⟨g, hg, hB, hlt⟩ := h3 (by have := (List.getElem?_eq_some_iff.1 hu).1; omega)
  subst hg
  exact ⟨g, c, hv, (h4 g rfl j u hu).1, (h4 g rfl j u hu).2, hB, hlt⟩
theorem push_get {ws : List Nat} {j : Nat} (h : j = ws.length) : (wsV ws ++ [Value.int .i64 0])[j]? = some (.int .i64 0) := by
  rw [List.getElem?_append_right (by rw [wsV_len]; omega), wsV_len, h, Nat.sub_self]; rfl
theorem push_len {ws : List Nat} {j : Nat} (h : j = ws.length) : (wsV ws ++ [Value.int .i64 0]).length = j + 1 := by
  rw [List.length_append, wsV_len, h]; rfl
theorem wsV_get {ws : List Nat} {j x : Nat} (h : ws[j]? = some x) : (wsV ws)[j]? = some (.int .i64 (x : Nat)) := by simp [wsV, h]
theorem push_own {w : World} {B : Nat} {e : TypeId} {g c j z : Nat} {ws : List Nat} (h : OwnL w B e (.slice (some ⟨g, 0, none⟩) (j + 1) c) (wsV ws ++ [.int .i64 0])) (hj : j = ws.length) (y : Int) (hy : y = (z : Nat)) :
    OwnL (w.setCell ⟨g, j, none⟩ (.int .i64 y)) B e (.slice (some ⟨g, 0, none⟩) (j + 1) c) (wsV (ws ++ [z])) := by
  have h2 := h.set_ j (.int .i64 y)
  have he : (wsV ws ++ [Value.int .i64 0]).set j (.int .i64 y) = wsV (ws ++ [z]) := by
    rw [List.set_append_right _ _ (by rw [wsV_len]; omega), wsV_len, hj, Nat.sub_self, hy]
    unfold wsV; rw [List.map_append]; rfl
  rw [he] at h2
  exact h2
theorem put_own {w : World} {B : Nat} {e : TypeId} {g n c j z : Nat} {ws : List Nat} (h : OwnL w B e (.slice (some ⟨g, 0, none⟩) n c) (wsV ws)) (y : Int) (hy : y = (z : Nat)) :
    OwnL (w.setCell ⟨g, j, none⟩ (.int .i64 y)) B e (.slice (some ⟨g, 0, none⟩) n c) (wsV (ws.set j z)) := by
  have h2 := h.set_ j (.int .i64 y)
  have he : (wsV ws).set j (.int .i64 y) = wsV (ws.set j z) := by
    unfold wsV; rw [List.map_set, hy]
  rw [he] at h2
  exact h2
/-- a row's cell, in this world and in every later one -/
theorem Rows2.atA {w : World} {a : Option Addr} {n : Nat} {L : List (List ByteArray)} (h : Rows2 w a n L) {i : Nat} {l : List ByteArray} (hi : L[i]? = some l) :
    ∃ b off a1 c1, a = some ⟨b, off, none⟩ ∧ (∀ W, Keeps (fun _ => False) w W → W.cell? ⟨b, off + i, none⟩ = some (.slice a1 l.length c1)) ∧ SlAt strR 1 w a1 l.length l := by
  obtain ⟨b, off, ha, hb, hc⟩ := h.2 (by have := (List.getElem?_eq_some_iff.1 hi).1; rw [h.1] at this; omega)
  obtain ⟨v, h1, a1, c1, hv, h2⟩ := hc i l hi
  subst hv
  exact ⟨b, off, a1, c1, ha, fun W k => by rw [World.cell?_of_block (w := w) (k.block b hb id)]; exact h1, h2⟩

set_option maxRecDepth 100000 in
set_option maxHeartbeats 1000000 in
theorem widths_any (w : World) (a : Option Addr) (n c : Nat) (L : List (List ByteArray)) (h : Rows2 w a n L) (hn : n ≤ 4294967296) (h8 : ∀ l ∈ L, l.length ≤ 8) (hs : ∀ l ∈ L, ∀ s ∈ l, s.size ≤ 4294967296) :
    Calls Tryd.prog 58 #[.slice a n c] w fun e w' => (∃ v ws, e = .returned v ∧ OwnL w' w.heap.size 3 v (wsV ws) ∧ WInv L ws) ∧ Keeps (fun _ => False) w w' := by
  have HLN := Lib.hid h.1
  have H := Lib.hid h
  have H8 := Lib.hid h8
  have HSZ := Lib.hid hs
  clear h h8 hs
  go_enter Tryd.func58, Tryd.ntmps58
  go_wp2_with fail
  go_loopw [3, 10] (fun u3 u10 wr => ∃ (k : Nat) (ws : List Nat), u10 = .int .i64 k ∧ Hid (k ≤ n ∧ OwnL wr w.heap.size 3 u3 (wsV ws) ∧ WInv (L.take k) ws ∧ Keeps (fun _ => False) w wr)) (fun _ u10 _ => n - (intOf u10).toNat)
  case atStart => exact ⟨0, [], rfl, Lib.hid ⟨Nat.zero_le _, OwnL.none_ _ _ _, WInv.nil_, Keeps.refl _ _⟩⟩
  case round =>
    obtain ⟨k, ws0, rfl, HR⟩ := hrel
    rename World => W1
    by_cases hk : k < n
    · obtain ⟨l, hl⟩ : ∃ l, L[k]? = some l := ⟨_, List.getElem?_eq_getElem (by rw [HLN.out]; exact hk)⟩
      obtain ⟨b, off, a1, c1, rfl, hcA, hs1⟩ := H.out.atA hl
      have hc1 := hcA _ HR.out.2.2.2
      have hl8 : l.length ≤ 8 := H8.out l (List.mem_of_getElem? hl)
      have hlz := HSZ.out l (List.mem_of_getElem? hl)
      have HLZ := Lib.hid hlz
      have HLL := Lib.hid hl
      have HS1 := Lib.hid hs1
      clear hl hs1 hcA hlz
      go_wp2_with fail
      go_loopw [3, 16] (fun u3 u16 w2 => ∃ (j : Nat) (ws : List Nat), u16 = .int .i64 j ∧ Hid (j ≤ l.length ∧ OwnL w2 w.heap.size 3 u3 (wsV ws) ∧ IInv (L.take k) l j ws ∧ Keeps (fun _ => False) w w2)) (fun _ u16 _ => l.length - (intOf u16).toNat)
      case atStart => exact ⟨0, ws0, rfl, Lib.hid ⟨Nat.zero_le _, HR.out.2.1, HR.out.2.2.1.start l, HR.out.2.2.2⟩⟩
      case round =>
        obtain ⟨j, ws, rfl, HK⟩ := hrel
        rename World => w2
        obtain ⟨av, cv, rfl⟩ := HK.out.2.1.sl'
        rw [wsV_len] at HK ⊢
        have hw8 := HK.out.2.2.1.le8
        by_cases hj : j < l.length
        · obtain ⟨s, hs⟩ : ∃ s, l[j]? = some s := ⟨_, List.getElem?_eq_getElem hj⟩
          obtain ⟨b2, off2, rfl, hc2⟩ := (HS1.out.keeps HK.out.2.2.2 (fun _ _ => id)).at_ hs
          have hsz := HLZ.out s (List.mem_of_getElem? hs)
          have HSS := Lib.hid hs
          clear hs
          by_cases hjw : j = ws.length
          · have hb0 : ((j : Int) == (ws.length : Int)) = true := by rw [hjw]; simp
            have hpush := HK.out.2.2.1.push HSS.out hl8 hsz hjw
            have HPU := Lib.hid hpush
            have HJW := Lib.hid hjw
            clear hjw hpush
            go_wp2_with (with_reducible show wpList _ _ _ (⟨some 27, _, _, _, _, _⟩ :: _) _ _; go_must (refine wpList_append_onet rfl (.tmp 25) (.tmp 26) 54 rfl w.heap.size 3 (.int .i64 0) 8 Tryd.underlying54 (by kernel_rfl) rfl (by omega) _ (wsV ws) rfl (OwnL.keepsT (S := fun _ => False) HK.out.2.1 ((Keeps.refl _ _).alloc _) (fun _ _ _ => id)) ⟨w2.heap.size, 0, none⟩ 1 (.int .i64 0) rfl ((Blk.new _ _ _).cell 0) rfl (by rw [wsV_len]; omega) (by have := HK.out.2.2.2.size; simp; omega) ?_; intro v7 w7 O7 k7; obtain ⟨g7, c7, rfl, hc7, hf7, hB7, hl7⟩ := OwnL.cellAt O7 (push_get HJW.out) (push_len HJW.out); have HO7 := Lib.hid O7; have HK7 := Lib.hid k7; clear O7 k7))
            go_roundw
            case rel =>
              refine ⟨j + 1, ws ++ [s.size], by go_num, Lib.hid ⟨by omega, push_own HO7.out HJW.out _ (by split <;> omega), HPU.out, ?_⟩⟩
              exact ((HK.out.2.2.2.alloc _).and_ HK7.out (fun i hi h => by omega)).setCell (fun h => by have := hB7; simp at h; omega) _
            case measure => simp [intOf]; omega
          · have hb0 : ((j : Int) == (ws.length : Int)) = false := by rw [beq_eq_false_iff_ne]; omega
            have hlt : j < ws.length := by have := HK.out.2.2.1.le; omega
            obtain ⟨x, hx⟩ : ∃ x, ws[j]? = some x := ⟨_, List.getElem?_eq_getElem hlt⟩
            have hput := HK.out.2.2.1.put HSS.out hsz hx
            have HPU := Lib.hid hput
            obtain ⟨g7, c7, hv7, hc7, hf7, hB7, hl7⟩ := OwnL.cellAt HK.out.2.1 (wsV_get hx) (wsV_len ws)
            have hxs : x ≤ 4294967296 := HK.out.2.2.1.small x (List.mem_of_getElem? hx)
            injection hv7 with e1 e2 e3
            subst e1 e3
            clear hput hx e2 hjw
            go_wp2_with fail
            go_roundw
            case rel =>
              refine ⟨j + 1, ws.set j (max x s.size), by go_num, Lib.hid ⟨by omega, ?_, HPU.out, ?_⟩⟩
              · exact put_own HK.out.2.1 _ (by split <;> omega)
              · exact HK.out.2.2.2.setCell (fun h => by have := hB7; simp at h; omega) _
            case measure => simp [intOf]; omega
        · have hd := HK.out.2.2.1
          rw [show j = l.length by have := HK.out.1; omega] at hd
          have hd2 := hd.done
          rw [← take_snoc HLL.out] at hd2
          have HD := Lib.hid hd2
          clear hd hd2
          go_wp2_with fail
          go_roundw
          case rel => exact ⟨k + 1, ws, by go_num, Lib.hid ⟨by omega, HK.out.2.1, HD.out, HK.out.2.2.2⟩⟩
          case measure => simp [intOf]; omega
    · have hd := HR.out.2.2.1
      rw [List.take_of_length_le (by rw [HLN.out]; omega)] at hd
      have HD := Lib.hid hd
      clear hd
      go_wp2_with fail
      go_ret
      exact ⟨⟨_, ws0, rfl, HR.out.2.1, HD.out⟩, HR.out.2.2.2⟩
end Go.Proofs.YtgpfmkkkpdpdfaaDoor
