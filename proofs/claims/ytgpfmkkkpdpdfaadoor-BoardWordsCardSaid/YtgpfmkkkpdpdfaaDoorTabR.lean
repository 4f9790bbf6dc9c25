/-
  law34's Rows: rows, not more and not longer than are looked at.
-/
import Derived.Test.YtgpfmkkkpdpdfaaDoorTabM
namespace Go.Proofs.YtgpfmkkkpdpdfaaDoor
open Go.RowKit

/-- slice values, each of which owns a row of texts -/
def OwnR (w : World) (B : Nat) (e : TypeId) (vs : List Value) (L : List (List ByteArray)) : Prop := vs.length = L.length ∧ ∀ (i : Nat) (u : Value) (l : List ByteArray), vs[i]? = some u → L[i]? = some l → OwnL w B e u (l.map Value.string)
section
variable {w w' : World} {B : Nat} {e : TypeId} {vs : List Value} {L : List (List ByteArray)}
theorem OwnR.nil_ : OwnR w B e [] [] := ⟨rfl, fun i u l h => by simp at h⟩
theorem OwnR.snoc (h : OwnR w B e vs L) {u : Value} {l : List ByteArray} (hu : OwnL w B e u (l.map Value.string)) : OwnR w B e (vs ++ [u]) (L ++ [l]) := by
  refine ⟨by simp [h.1], fun i u' l' h1 h2 => ?_⟩
  rcases Nat.lt_or_ge i vs.length with hi | hi
  · rw [List.getElem?_append_left hi] at h1
    rw [List.getElem?_append_left (by rw [← h.1]; exact hi)] at h2
    exact h.2 i u' l' h1 h2
  · rw [List.getElem?_append_right hi] at h1
    rw [List.getElem?_append_right (by rw [← h.1]; exact hi), ← h.1] at h2
    have h0 : i - vs.length = 0 := by
      have := (List.getElem?_eq_some_iff.1 h1).1
      simpa using this
    rw [h0] at h1 h2
    simp at h1 h2
    subst h1 h2
    exact hu
theorem OwnR.keepsT {S : Nat → Prop} (h : OwnR w B e vs L) (k : Keeps S w w') (hS : ∀ i, B ≤ i → (∃ cs, Blk w i e cs) → ¬ S i) : OwnR w' B e vs L := ⟨h.1, fun i u l h1 h2 => (h.2 i u l h1 h2).keepsT k hS⟩
theorem ownL_strs {v : Value} {l : List ByteArray} (h : OwnL w B e v (l.map Value.string)) : StrsV w v l := by
  obtain ⟨a, c, hv, h1, h2, h3, h4⟩ := h.shape
  rw [List.length_map] at hv h3
  refine ⟨a, c, hv, rfl, fun hn => ?_⟩
  obtain ⟨g, hg, hB, hlt⟩ := h3 hn
  refine ⟨g, 0, hg, hlt, fun i x j v hx hv => ?_⟩
  match j, hv with
  | 0, hv =>
    simp [strR] at hv
    subst hv
    have := (h4 g hg i (.string x) (by simp [hx])).1
    simpa using this
  | j + 1, hv => simp [strR] at hv
theorem OwnR.rows {eA : TypeId} {B' : Nat} {a : Option Addr} {n c : Nat} (hA : OwnL w B' eA (.slice a n c) vs) (h : OwnR w B e vs L) : Rows2 w a n L := by
  obtain ⟨a', c', hv, h1, h2, h3, h4⟩ := hA.shape
  injection hv with e1 e2 e3
  subst e1 e2
  refine ⟨h.1.symm, fun hn => ?_⟩
  obtain ⟨g, hg, hB, hlt⟩ := h3 hn
  refine ⟨g, 0, hg, hlt, fun i l hl => ?_⟩
  obtain ⟨u, hu⟩ : ∃ u, vs[i]? = some u := ⟨_, List.getElem?_eq_getElem (by rw [h.1]; exact (List.getElem?_eq_some_iff.1 hl).1)⟩
  exact ⟨u, by have := (h4 g hg i u hu).1; simpa using this, ownL_strs (h.2 i u l hu hl)⟩
end

/-- the cells of one row, as facts -/
theorem Rows2.at_ {w : World} {a : Option Addr} {n : Nat} {L : List (List ByteArray)} (h : Rows2 w a n L) {i : Nat} {l : List ByteArray} (hi : L[i]? = some l) :
    ∃ b off a1 c1, a = some ⟨b, off, none⟩ ∧ w.cell? ⟨b, off + i, none⟩ = some (.slice a1 l.length c1) ∧ SlAt strR 1 w a1 l.length l := by
  obtain ⟨b, off, ha, hb, hc⟩ := h.2 (by have := (List.getElem?_eq_some_iff.1 hi).1; rw [h.1] at this; omega)
  obtain ⟨v, h1, a1, c1, hv, h2⟩ := hc i l hi
  subst hv
  exact ⟨b, off, a1, c1, ha, h1, h2⟩
theorem SlAt.at_ {w : World} {a : Option Addr} {n : Nat} {l : List ByteArray} (h : SlAt strR 1 w a n l) {i : Nat} {s : ByteArray} (hi : l[i]? = some s) : ∃ b off, a = some ⟨b, off, none⟩ ∧ w.cell? ⟨b, off + i, none⟩ = some (.string s) := by
  obtain ⟨b, off, ha, hb, hc⟩ := h.2 (by have := (List.getElem?_eq_some_iff.1 hi).1; have := h.1; omega)
  exact ⟨b, off, ha, SlAt.str hc i s hi⟩

def cutP (s : ByteArray) : ByteArray := if 30 < s.size then s.extract 0 30 else s
def rowP (l : List ByteArray) : List ByteArray := (l.take 8).map cutP
def rowsP (L : List (List ByteArray)) : List (List ByteArray) := (L.take 16).map rowP
theorem cutP_size (s : ByteArray) : (cutP s).size ≤ 30 := by
  unfold cutP
  by_cases h : 30 < s.size
  · rw [if_pos h, ByteArray.size_extract]; omega
  · rw [if_neg h]; omega
theorem take_snoc {α : Type} {l : List α} {k : Nat} {x : α} (h : l[k]? = some x) : l.take (k + 1) = l.take k ++ [x] := by rw [List.take_add_one, h]; rfl

theorem other_type {w : World} {B : Nat} {TA TB : TypeId} (h : TB ≠ TA) : ∀ i, B ≤ i → (∃ cs, Blk w i TB cs) → ¬ (B ≤ i ∧ ∃ cs, Blk w i TA cs) := fun i _ ⟨_, hb⟩ h2 => by
  obtain ⟨_, _, hc⟩ := h2
  exact Blk.ne_ hb hc h rfl
theorem rows_b {w wr w7 : World} {TA TB : TypeId} {o1 : Obj} {u5 : Value} {vs : List Value} (h3 : TB ≠ TA) (hb : OwnL wr w.heap.size TB u5 vs)
    (k7 : Keeps (fun i => w.heap.size ≤ i ∧ ∃ cs, Blk (wr.alloc o1) i TA cs) (wr.alloc o1) w7) : OwnL w7 w.heap.size TB u5 vs :=
  (hb.keepsT ((Keeps.refl (fun _ => False) _).alloc o1) (fun _ _ _ => id)).keepsT k7 (other_type h3)
theorem rows_join {w W1 wr w7 w8 : World} {TA TB TS : TypeId} {o1 o2 : Obj} {v7 v8 rv : Value} {vs : List Value} {l : List ByteArray} {R : List (List ByteArray)} (h1 : TS ≠ TA) (h2 : TS ≠ TB) (h3 : TA ≠ TB)
    (HR : OwnR W1 w.heap.size TS vs R) (k1 : Keeps (fun _ => False) w W1) (k2 : Keeps (fun _ => False) W1 wr) (hr : OwnL wr W1.heap.size TS rv (l.map Value.string))
    (O7 : OwnL w7 w.heap.size TA v7 (vs ++ [rv])) (k7 : Keeps (fun i => w.heap.size ≤ i ∧ ∃ cs, Blk (wr.alloc o1) i TA cs) (wr.alloc o1) w7)
    (O8 : OwnL w8 w.heap.size TB v8 (vs ++ [rv])) (k8 : Keeps (fun i => w.heap.size ≤ i ∧ ∃ cs, Blk (w7.alloc o2) i TB cs) (w7.alloc o2) w8) :
    OwnL w8 w.heap.size TA v7 (vs ++ [rv]) ∧ OwnL w8 w.heap.size TB v8 (vs ++ [rv]) ∧ OwnR w8 w.heap.size TS (vs ++ [rv]) (R ++ [l]) ∧ Keeps (fun _ => False) w w8 := by
  have al : ∀ (w : World) (o : Obj), Keeps (fun _ => False) w (w.alloc o) := fun w o => (Keeps.refl _ _).alloc o
  refine ⟨(O7.keepsT (al _ o2) (fun _ _ _ => id)).keepsT k8 (other_type h3), O8, ?_, ?_⟩
  · have a1 := ((HR.keepsT k2 (fun _ _ _ => id)).snoc (hr.more k1.size)).keepsT (al _ o1) (fun _ _ _ => id)
    exact ((a1.keepsT k7 (other_type h1)).keepsT (al _ o2) (fun _ _ _ => id)).keepsT k8 (other_type h2)
  · exact (((((k1.trans k2).alloc o1).and_ k7 (fun i hi h => by omega)).alloc o2).and_ k8 (fun i hi h => by omega))

/-- what Rows leaves: the rows, twice -/
def RowsEnd (w : World) (L : List (List ByteArray)) (e : Ending) (w' : World) : Prop :=
  (∃ a1 c1 a2 c2, e = .returned (.tuple #[.slice a1 (rowsP L).length c1, .slice a2 (rowsP L).length c2]) ∧ Rows2 w' a1 (rowsP L).length (rowsP L) ∧ Rows2 w' a2 (rowsP L).length (rowsP L)) ∧ Keeps (fun _ => False) w w'

set_option maxRecDepth 100000 in
set_option maxHeartbeats 1000000 in
theorem rows_any (w : World) (a : Option Addr) (n c : Nat) (L : List (List ByteArray)) (h : Rows2 w a n L) :
    Calls Tryd.prog 20 #[.slice a n c] w (RowsEnd w L) := by
  have HLN := Lib.hid h.1
  have H := Lib.hid h
  clear h
  go_enter Tryd.func20, Tryd.ntmps20
  go_wp2_with fail
  go_loopw [4, 5, 6] (fun u4 u5 u6 wr => ∃ (i : Nat) (vs : List Value), u6 = .int .i64 i ∧ i ≤ 16 ∧ Hid (i ≤ n ∧ OwnL wr w.heap.size 32 u4 vs ∧ OwnL wr w.heap.size 96 u5 vs ∧ OwnR wr w.heap.size 9 vs ((L.take i).map rowP) ∧ Keeps (fun _ => False) w wr)) (fun _ _ u6 _ => 16 - (intOf u6).toNat)
  case atStart => exact ⟨0, [], rfl, by omega, Lib.hid ⟨Nat.zero_le _, OwnL.none_ _ _ _, OwnL.none_ _ _ _, OwnR.nil_, Keeps.refl _ _⟩⟩
  case round =>
    obtain ⟨i, vs, rfl, hi16, HR⟩ := hrel
    rename World => W1
    by_cases hin : i < n
    · by_cases hi : (i : Int) < 16
      · have hd : decide ((i : Int) < 16) = true := decide_eq_true (by omega)
        obtain ⟨l, hl⟩ : ∃ l, L[i]? = some l := ⟨_, List.getElem?_eq_getElem (by rw [HLN.out]; exact hin)⟩
        have HLL := Lib.hid hl
        clear hl
        go_wp2_with fail
        go_loopw [7, 8] (fun u7 u8 w2 => ∃ (k : Nat), u8 = .int .i64 k ∧ k ≤ 8 ∧ Hid (k ≤ l.length ∧ OwnL w2 W1.heap.size 9 u7 (((l.take k).map cutP).map Value.string) ∧ Keeps (fun _ => False) W1 w2)) (fun _ u8 _ => 8 - (intOf u8).toNat)
        case atStart => exact ⟨0, rfl, by omega, Lib.hid ⟨Nat.zero_le _, OwnL.none_ _ _ _, Keeps.refl _ _⟩⟩
        case round =>
          obtain ⟨k, rfl, hk8, HK⟩ := hrel
          have kw := Keeps.trans HR.out.2.2.2.2 HK.out.2.2
          have h2 := H.out.keeps kw (fun _ _ => id)
          obtain ⟨b, off, a1, c1, rfl, hc1, hs1⟩ := h2.at_ HLL.out
          by_cases hkl : k < l.length
          · obtain ⟨s, hs⟩ : ∃ s, l[k]? = some s := ⟨_, List.getElem?_eq_getElem hkl⟩
            obtain ⟨b2, off2, rfl, hc2⟩ := hs1.at_ hs
            have hsn := take_snoc hs
            have HSN := Lib.hid hsn
            clear h2 kw hs1 hs hsn
            by_cases hk : (k : Int) < 8
            · by_cases h30 : 30 < s.size
              · have hcut : cutP s = s.extract 0 30 := if_pos h30
                have HCUT := Lib.hid hcut
                clear hcut
                go_wp2_with (with_reducible show wpList _ _ _ (⟨some 50, _, _, _, _, _⟩ :: _) _ _; go_must (refine wpList_append_onet rfl (.tmp 47) (.tmp 49) 32 rfl W1.heap.size 9 (.string ⟨#[]⟩) 16 Tryd.underlying32 (by kernel_rfl) rfl (by omega) _ (((l.take k).map cutP).map Value.string) rfl (OwnL.keepsT (S := fun _ => False) HK.out.2.1 ((Keeps.refl _ _).alloc _) (fun _ _ _ => id)) ⟨wr.heap.size, 0, none⟩ 1 (.string (s.extract 0 30)) rfl ((Blk.new _ _ _).cell 0) rfl (by simp; omega) (by have := HK.out.2.2.size; simp; omega) ?_; intro v7 w7 O7 k7))
                go_roundw
                case rel =>
                  refine ⟨k + 1, by go_num, by omega, Lib.hid ⟨by omega, ?_, ?_⟩⟩
                  · rw [HSN.out, List.map_append, List.map_append, List.map_cons, HCUT.out]; exact O7
                  · exact HK.out.2.2.and_ (grow_alloc _ k7) fun j hj h => by omega
                case measure => simp [intOf]; omega
              · have hcut : cutP s = s := if_neg h30
                have HCUT := Lib.hid hcut
                clear hcut
                go_wp2_with (with_reducible show wpList _ _ _ (⟨some 50, _, _, _, _, _⟩ :: _) _ _; go_must (refine wpList_append_onet rfl (.tmp 47) (.tmp 49) 32 rfl W1.heap.size 9 (.string ⟨#[]⟩) 16 Tryd.underlying32 (by kernel_rfl) rfl (by omega) _ (((l.take k).map cutP).map Value.string) rfl (OwnL.keepsT (S := fun _ => False) HK.out.2.1 ((Keeps.refl _ _).alloc _) (fun _ _ _ => id)) ⟨wr.heap.size, 0, none⟩ 1 (.string s) rfl ((Blk.new _ _ _).cell 0) rfl (by simp; omega) (by have := HK.out.2.2.size; simp; omega) ?_; intro v7 w7 O7 k7))
                go_roundw
                case rel =>
                  refine ⟨k + 1, by go_num, by omega, Lib.hid ⟨by omega, ?_, ?_⟩⟩
                  · rw [HSN.out, List.map_append, List.map_append, List.map_cons, HCUT.out]; exact O7
                  · exact HK.out.2.2.and_ (grow_alloc _ k7) fun j hj h => by omega
                case measure => simp [intOf]; omega
            · obtain ⟨ar, cr, hur⟩ := HK.out.2.1.sl'
              obtain ⟨aa, ca, rfl⟩ := HR.out.2.1.sl'
              obtain ⟨ab, cb, rfl⟩ := HR.out.2.2.1.sl'
              have hrow : (l.take k).map cutP = rowP l := by unfold rowP; rw [show k = 8 by omega]
              have hur2 := HK.out.2.1
              rw [hrow] at hur2
              have hvl : vs.length ≤ 16 := by rw [HR.out.2.2.2.1.1, List.length_map, List.length_take]; omega
              rw [List.length_map, List.length_map, List.length_take] at hur
              obtain ⟨nr, hnr⟩ : ∃ nr, nr = min k l.length := ⟨_, rfl⟩
              rw [← hnr] at hur
              subst hur
              have HUR := Lib.hid hur2
              have HVL := Lib.hid hvl
              clear hur2 hrow hnr hvl
              go_wp2_with (first
                | (with_reducible show wpList _ _ _ (⟨some 54, _, _, _, _, _⟩ :: _) _ _; go_must (refine wpList_append_onet rfl (.tmp 51) (.tmp 53) 43 rfl w.heap.size 32 (.slice none 0 0) 24 Tryd.underlying43 (by kernel_rfl) rfl (by omega) _ vs rfl (OwnL.keepsT (S := fun _ => False) (HR.out.2.1.keepsT HK.out.2.2 (fun _ _ _ => id)) ((Keeps.refl _ _).alloc _) (fun _ _ _ => id)) ⟨wr.heap.size, 0, none⟩ 1 (.slice ar nr cr) rfl ((Blk.new _ _ _).cell 0) rfl (by have := HVL.out; omega) (by have := HR.out.2.2.2.2.size; have := HK.out.2.2.size; simp; omega) ?_; intro v7 w7 O7 k7))
                | (with_reducible show wpList _ _ _ (⟨some 59, _, _, _, _, _⟩ :: _) _ _; go_must (refine wpList_append_onet rfl (.tmp 55) (.tmp 58) 42 rfl w.heap.size 96 (.agg #[.slice none 0 0]) 24 Tryd.underlying42 (by kernel_rfl) rfl (by omega) _ vs rfl (OwnL.keepsT (S := fun _ => False) (rows_b (by decide) (HR.out.2.2.1.keepsT HK.out.2.2 (fun _ _ _ => id)) k7) ((Keeps.refl _ _).alloc _) (fun _ _ _ => id)) ⟨w7.heap.size, 0, none⟩ 1 (.slice ar nr cr) rfl ((Blk.new _ _ _).cell 0) rfl (by have := HVL.out; omega) (by have := HR.out.2.2.2.2.size; have := HK.out.2.2.size; have := k7.size; simp at this; simp; omega) ?_; intro v8 w8 O8 k8)))
              go_roundw
              case rel =>
                have J := rows_join (by decide) (by decide) (by decide) HR.out.2.2.2.1 HR.out.2.2.2.2 HK.out.2.2 HUR.out O7 k7 O8 k8
                refine ⟨i + 1, vs ++ [.slice ar nr cr], by go_num, by omega, Lib.hid ⟨by omega, J.1, J.2.1, ?_, J.2.2.2⟩⟩
                rw [take_snoc HLL.out, List.map_append]; exact J.2.2.1
              case measure => simp [intOf]; omega
          · clear h2 kw hs1
            obtain ⟨ar, cr, hur⟩ := HK.out.2.1.sl'
            obtain ⟨aa, ca, rfl⟩ := HR.out.2.1.sl'
            obtain ⟨ab, cb, rfl⟩ := HR.out.2.2.1.sl'
            have hrow : (l.take k).map cutP = rowP l := by unfold rowP; rw [show k = l.length by have := HK.out.1; omega, List.take_length, List.take_of_length_le (by omega)]
            have hur2 := HK.out.2.1
            rw [hrow] at hur2
            have hvl : vs.length ≤ 16 := by rw [HR.out.2.2.2.1.1, List.length_map, List.length_take]; omega
            rw [List.length_map, List.length_map, List.length_take] at hur
            obtain ⟨nr, hnr⟩ : ∃ nr, nr = min k l.length := ⟨_, rfl⟩
            rw [← hnr] at hur
            subst hur
            have HUR := Lib.hid hur2
            have HVL := Lib.hid hvl
            clear hur2 hrow hnr hvl
            go_wp2_with (first
              | (with_reducible show wpList _ _ _ (⟨some 54, _, _, _, _, _⟩ :: _) _ _; go_must (refine wpList_append_onet rfl (.tmp 51) (.tmp 53) 43 rfl w.heap.size 32 (.slice none 0 0) 24 Tryd.underlying43 (by kernel_rfl) rfl (by omega) _ vs rfl (OwnL.keepsT (S := fun _ => False) (HR.out.2.1.keepsT HK.out.2.2 (fun _ _ _ => id)) ((Keeps.refl _ _).alloc _) (fun _ _ _ => id)) ⟨wr.heap.size, 0, none⟩ 1 (.slice ar nr cr) rfl ((Blk.new _ _ _).cell 0) rfl (by have := HVL.out; omega) (by have := HR.out.2.2.2.2.size; have := HK.out.2.2.size; simp; omega) ?_; intro v7 w7 O7 k7))
              | (with_reducible show wpList _ _ _ (⟨some 59, _, _, _, _, _⟩ :: _) _ _; go_must (refine wpList_append_onet rfl (.tmp 55) (.tmp 58) 42 rfl w.heap.size 96 (.agg #[.slice none 0 0]) 24 Tryd.underlying42 (by kernel_rfl) rfl (by omega) _ vs rfl (OwnL.keepsT (S := fun _ => False) (rows_b (by decide) (HR.out.2.2.1.keepsT HK.out.2.2 (fun _ _ _ => id)) k7) ((Keeps.refl _ _).alloc _) (fun _ _ _ => id)) ⟨w7.heap.size, 0, none⟩ 1 (.slice ar nr cr) rfl ((Blk.new _ _ _).cell 0) rfl (by have := HVL.out; omega) (by have := HR.out.2.2.2.2.size; have := HK.out.2.2.size; have := k7.size; simp at this; simp; omega) ?_; intro v8 w8 O8 k8)))
            go_roundw
            case rel =>
              have J := rows_join (by decide) (by decide) (by decide) HR.out.2.2.2.1 HR.out.2.2.2.2 HK.out.2.2 HUR.out O7 k7 O8 k8
              refine ⟨i + 1, vs ++ [.slice ar nr cr], by go_num, by omega, Lib.hid ⟨by omega, J.1, J.2.1, ?_, J.2.2.2⟩⟩
              rw [take_snoc HLL.out, List.map_append]; exact J.2.2.1
            case measure => simp [intOf]; omega
      · obtain ⟨aa, ca, rfl⟩ := HR.out.2.1.sl'
        obtain ⟨ab, cb, rfl⟩ := HR.out.2.2.1.sl'
        have hR : (L.take i).map rowP = rowsP L := by unfold rowsP; rw [show i = 16 by omega]
        have h4 := HR.out.2.2.2.1
        rw [hR] at h4
        have hvl := h4.1
        have H4 := Lib.hid h4
        rw [hvl] at HR ⊢
        have HVL := Lib.hid hvl
        clear h4 hvl hR
        go_wp2_with fail
        go_ret2
        exact ⟨⟨_, _, _, _, rfl, OwnR.rows HR.out.2.1 H4.out, OwnR.rows HR.out.2.2.1 H4.out⟩, HR.out.2.2.2.2⟩
    · obtain ⟨aa, ca, rfl⟩ := HR.out.2.1.sl'
      obtain ⟨ab, cb, rfl⟩ := HR.out.2.2.1.sl'
      have hR : (L.take i).map rowP = rowsP L := by unfold rowsP; rw [List.take_of_length_le (by rw [HLN.out]; omega), List.take_of_length_le (by rw [HLN.out]; omega)]
      have h4 := HR.out.2.2.2.1
      rw [hR] at h4
      have hvl := h4.1
      have H4 := Lib.hid h4
      rw [hvl] at HR ⊢
      have HVL := Lib.hid hvl
      clear h4 hvl hR
      go_wp2_with fail
      go_ret2
      exact ⟨⟨_, _, _, _, rfl, OwnR.rows HR.out.2.1 H4.out, OwnR.rows HR.out.2.2.1 H4.out⟩, HR.out.2.2.2.2⟩
end Go.Proofs.YtgpfmkkkpdpdfaaDoor
