/-
  gens: names of generations, which there are, and what each holds, over a store.
-/
import Derived.Test.YtdbnalocmjkncaaGreatDoorQActs
import Derived.Test.YtdbnalocmjkncaaGreatDoorQGensP
import Derived.Test.YtdbnalocmjkncaaGreatDoorQGround2
namespace Go.Proofs.YtdbnalocmjkncaaGreatDoor
open Go.RowKit Go.Maps

theorem str_dot (b : ByteArray) : (b ++ (⟨#[46]⟩ : ByteArray)).size = b.size + 1 := by simp [ByteArray.size_append]; rfl
set_option maxRecDepth 100000 in
theorem gname_any (w : World) (base : ByteArray) (i : Int) (hb : base.size ≤ 1048576) (h1 : -9223372036854775808 ≤ i) (h2 : i ≤ 9223372036854775807) :
    Calls Tryz.prog 84 #[.string base, .int .i64 i] w fun e w' => e = .returned (.string (genName base i)) ∧ Keeps (fun _ => False) w w' := by
  by_cases hi : i ≤ 0
  · have HG := Lib.hid (genName_zero (base := base) hi)
    go_enter Tryz.func84, Tryz.ntmps84
    go_wp2_with fail
    go_ret
    exact ⟨by rw [HG.out]; rfl, Keeps.refl _ _⟩
  · have HG := Lib.hid (genName_pos (base := base) (i := i) (by omega))
    have hd := dec_le h1 h2
    have hs := str_size (dec i)
    have hs2 : (str (dec i)).size ≤ 20 := by rw [hs]; exact hd
    have hds := str_dot base
    have hds2 : (base ++ (⟨#[46]⟩ : ByteArray)).size ≤ 1048577 := by omega
    have HP := Lib.hid (put_any w i h1 h2)
    clear hd hs hds
    go_enter Tryz.func84, Tryz.ntmps84
    go_wp2_with fail
    refine HP.out.mono ?_
    rintro e w1 ⟨rfl, k⟩
    have HK := Lib.hid k
    clear k
    go_wp2_with fail
    go_ret
    exact ⟨by rw [HG.out]; rfl, HK.out⟩
set_option maxRecDepth 100000 in
theorem rgname_any (w : World) (base : ByteArray) (i : Int) (hb : base.size ≤ 1048576) (h1 : -9223372036854775808 ≤ i) (h2 : i ≤ 9223372036854775807) :
    Calls Tryz.prog 31 #[.string base, .int .i64 i] w fun e w' => e = .returned (.string (genName base i)) ∧ Keeps (fun _ => False) w w' := by
  by_cases hi : i ≤ 0
  · have HG := Lib.hid (genName_zero (base := base) hi)
    go_enter Tryz.func31, Tryz.ntmps31
    go_wp2_with fail
    go_ret
    exact ⟨by rw [HG.out]; rfl, Keeps.refl _ _⟩
  · have HG := Lib.hid (genName_pos (base := base) (i := i) (by omega))
    have hd := dec_le h1 h2
    have hs := str_size (dec i)
    have hs2 : (str (dec i)).size ≤ 20 := by rw [hs]; exact hd
    have hds := str_dot base
    have hds2 : (base ++ (⟨#[46]⟩ : ByteArray)).size ≤ 1048577 := by omega
    have HP := Lib.hid (rput_any i.natAbs w i (Nat.le_refl _) h1 h2)
    clear hd hs hds
    go_enter Tryz.func31, Tryz.ntmps31
    go_wp2_with fail
    refine HP.out.mono ?_
    rintro e w1 ⟨rfl, k⟩
    have HK := Lib.hid k
    clear k
    go_wp2_with fail
    go_ret
    exact ⟨by rw [HG.out]; rfl, HK.out⟩
theorem held_any (w : World) (n : Int) : Calls Tryz.prog 83 #[.int .i64 n] w fun e w' => e = .returned (.int .i64 (heldP n : Nat)) ∧ w' = w := by
  have hh : ((heldP n : Nat) : Int) = max 1 (min n 16) := by unfold heldP; omega
  have HH := Lib.hid hh
  clear hh
  go_enter Tryz.func83, Tryz.ntmps83
  go_wp2_with fail
  go_ret
  exact ⟨by rw [HH.out]; rfl, rfl⟩

section
variable [Res] {w0 w w' : World} {s M bad n : Nat} {most : Int} {L : List SRep}
/-- what is read of a name, whether there is such a file or not -/
def readV (l : List SFile) (nm : ByteArray) : Value := match getG SFile.name nm l with
  | some f => .tuple #[.string f.data, .bool true]
  | none => .tuple #[.string ⟨#[]⟩, .bool false]
theorem sread_any (h : Sto w0 w s M most bad L n) {nm : ByteArray} (hn : nm.size ≤ maxLen) : Calls Tryz.prog 8 #[.pointer (some ⟨s, 0, none⟩), .string nm] w fun e w' => e = .returned (readV (L.map SRep.f) nm) ∧ w' = w := by
  unfold readV
  cases hg : getG SFile.name nm (L.map SRep.f) with
  | none => exact sread_none h hn hg
  | some f => exact sread_some h hn hg

set_option maxRecDepth 100000 in
set_option maxHeartbeats 1000000 in
theorem gnames_any (h : Sto w0 w s M most bad L n) (base : ByteArray) (k : Int) (hb : base.size ≤ 1048576) :
    Calls Tryz.prog 50 #[.pointer (some ⟨s, 0, none⟩), .string base, .int .i64 k] w fun e w' => (∃ v, e = .returned v ∧ OwnL w' w.heap.size 9 v ((namesP (L.map SRep.f) base (heldP k)).map Value.string)) ∧ Keeps (fun _ => False) w w' := by
  obtain ⟨l, hl⟩ : ∃ l, l = L.map SRep.f := ⟨_, rfl⟩
  have HL := Lib.hid hl
  rw [← hl]
  have H := Lib.hid h
  obtain ⟨q1, q2⟩ := heldP_le k
  obtain ⟨q, hq⟩ : ∃ q, q = heldP k := ⟨_, rfl⟩
  have HQ := Lib.hid hq
  rw [← hq] at q1 q2 ⊢
  clear hl h hq
  go_enter Tryz.func50, Tryz.ntmps50
  go_wp2_with fail
  refine (held_any _ k).mono ?_
  rw [← HQ.out]
  rintro e w1 ⟨rfl, hw⟩
  obtain rfl : w = w1 := hw.symm
  go_wp2_with fail
  go_loopw [7, 8] (fun u7 u8 wr => ∃ (j : Nat) (vs : List ByteArray), u8 = .int .i64 ((j : Int) - 1) ∧ j ≤ 16 ∧ Hid (vs ++ namesP l base j = namesP l base q ∧ OwnL wr w.heap.size 9 u7 (vs.map Value.string) ∧ Keeps (fun _ => False) w wr)) (fun _ u8 _ => (intOf u8 + 1).toNat)
  case atStart => exact ⟨q, [], by first | rfl | go_num, by omega, Lib.hid ⟨rfl, OwnL.none_ _ _ _, Keeps.refl _ _⟩⟩
  case round =>
    obtain ⟨j, vs, rfl, hj, HI⟩ := hrel
    rename World => wr
    rcases j with _ | j
    · have hh := HI.out.1
      rw [show namesP l base 0 = [] from rfl, List.append_nil] at hh
      have HH := Lib.hid hh
      clear hh
      go_wp2_with fail
      go_ret
      exact ⟨⟨u7, rfl, by rw [← HH.out]; exact HI.out.2.1⟩, HI.out.2.2⟩
    · have ej : ((j + 1 : Nat) : Int) - 1 = (j : Int) := by omega
      rw [ej]
      have hsz := genName_size (base := base) (i := j) (by omega)
      have hsu := namesP_succ l base j
      have hvl : vs.length ≤ 16 := by
        have h1 := congrArg List.length HI.out.1
        rw [List.length_append] at h1
        have h2 := namesP_len l base q
        omega
      have HSU := Lib.hid hsu
      clear ej hsu
      go_wp2_with fail
      refine (gname_any _ base j hb (by omega) (by omega)).mono ?_
      rintro e w2 ⟨rfl, k2⟩
      have HS2 := Lib.hid (H.out.same (HI.out.2.2.trans k2))
      have HO2 := Lib.hid (HI.out.2.1.keeps k2 (fun _ _ _ => id))
      have HK2 := Lib.hid (HI.out.2.2.trans k2)
      clear k2
      obtain ⟨nm, hnm⟩ : ∃ nm, nm = genName base (j : Nat) := ⟨_, rfl⟩
      rw [← hnm] at hsz ⊢
      have HNM := Lib.hid hnm
      clear hnm
      cases hg : getG SFile.name nm l with
      | none =>
        have hgf : genF l base j = none := by unfold genF; rw [← HNM.out]; exact hg
        have hrr := sread_none HS2.out (nm := nm) (by unfold maxLen; omega) (by rw [← HL.out]; exact hg)
        have HRR := Lib.hid hrr
        have HGF := Lib.hid hgf
        clear hg hrr hgf
        go_wp2_with fail
        refine HRR.out.mono ?_
        rintro e w3 ⟨rfl, hw⟩
        obtain rfl : w2 = w3 := hw.symm
        go_wp2_with fail
        go_roundw
        case rel => exact ⟨j, vs, by go_num, by omega, Lib.hid ⟨by have := HI.out.1; rw [HSU.out, HGF.out] at this; exact this, HO2.out, HK2.out⟩⟩
        case measure => simp [intOf]
      | some f =>
        have hgf : genF l base j = some f := by unfold genF; rw [← HNM.out]; exact hg
        have hrr := sread_some HS2.out (nm := nm) (by unfold maxLen; omega) (by rw [← HL.out]; exact hg)
        have HRR := Lib.hid hrr
        have HGF := Lib.hid hgf
        clear hg hrr hgf
        have hsz2 := HK2.out.size
        go_wp2_with fail
        refine HRR.out.mono ?_
        rintro e w3 ⟨rfl, hw⟩
        obtain rfl : w2 = w3 := hw.symm
        go_wp2_with (with_reducible show wpList _ _ _ (⟨some 32, _, _, _, _, _⟩ :: _) _ _; go_must (refine wpList_append_onet rfl (.tmp 29) (.tmp 31) 44 rfl w.heap.size 9 (.string ⟨#[]⟩) 16 Tryz.underlying44 (by kernel_rfl) rfl (by omega) u7 (vs.map Value.string) rfl (OwnL.keeps (S := fun _ => False) HO2.out ((Keeps.refl _ _).alloc _) (fun _ _ _ => id)) ⟨w2.heap.size, 0, none⟩ 1 (.string nm) rfl (by go_simp) rfl (by rw [List.length_map]; omega) (by simp; omega) ?_; intro v7 w7 O7 k7; have HO7 := Lib.hid O7; have HK7 := Lib.hid (Keeps.and_ (S := fun _ => False) (HK2.out.alloc _) k7 (fun i hi e => by have := e.1; omega)); clear O7 k7))
        go_roundw
        case rel => exact ⟨j, vs ++ [nm], by go_num, by omega, Lib.hid ⟨by have := HI.out.1; rw [HSU.out, HGF.out] at this; rw [← this, HNM.out]; simp, by rw [List.map_append]; exact HO7.out, HK7.out⟩⟩
        case measure => simp [intOf]

/-- what a name's file holds, or nothing -/
def heldD (l : List SFile) (nm : ByteArray) : ByteArray := match getG SFile.name nm l with | some f => f.data | none => ⟨#[]⟩
theorem sread_val (h : Sto w0 w s M most bad L n) {nm : ByteArray} (hn : nm.size ≤ maxLen) : Calls Tryz.prog 8 #[.pointer (some ⟨s, 0, none⟩), .string nm] w fun e w' => (∃ ok, e = .returned (.tuple #[.string (heldD (L.map SRep.f) nm), .bool ok])) ∧ w' = w := by
  unfold heldD
  cases hg : getG SFile.name nm (L.map SRep.f) with
  | none => exact (sread_none h hn hg).mono fun _ _ ⟨he, hw⟩ => ⟨⟨false, he⟩, hw⟩
  | some f => exact (sread_some h hn hg).mono fun _ _ ⟨he, hw⟩ => ⟨⟨true, he⟩, hw⟩
omit [Res] in
set_option maxRecDepth 100000 in
/-- the closure that gathers -/
theorem all1_any (w : World) (B0 B1 : Nat) (v : Value) (vs : List ByteArray) (b : ByteArray) (hb : Blk w B0 44 #[v]) (ho : OwnL w B1 9 v (vs.map Value.string)) (hB : B1 ≤ w.heap.size) (hlt : B0 < B1) (hl : vs.length ≤ 1048576) :
    Calls Tryz.prog 49 #[.string b, .pointer (some ⟨B0, 0, none⟩)] w fun e w' => e = .returned (.tuple #[]) ∧ (∃ v', Blk w' B0 44 #[v'] ∧ OwnL w' B1 9 v' ((vs ++ [b]).map Value.string)) ∧ Keeps (fun i => i = B0 ∨ B1 ≤ i) w w' := by
  have c0 := hb.cell 0
  have f0 := hb.frozen 0
  simp only [List.getElem?_toArray, List.getElem?_cons_zero] at c0
  have HB := Lib.hid hb
  have HO := Lib.hid ho
  have hB0 := hb.lt
  clear hb ho
  go_enter Tryz.func49, Tryz.ntmps49
  go_wp2_with (with_reducible show wpList _ _ _ (⟨some 6, _, _, _, _, _⟩ :: _) _ _; go_must (refine wpList_append_onet rfl (.tmp 3) (.tmp 5) 44 rfl B1 9 (.string ⟨#[]⟩) 16 Tryz.underlying44 (by kernel_rfl) rfl (by omega) v (vs.map Value.string) rfl (OwnL.keeps (S := fun _ => False) HO.out ((Keeps.refl _ _).alloc _) (fun _ _ _ => id)) ⟨w.heap.size, 0, none⟩ 1 (.string b) rfl (by go_simp) rfl (by rw [List.length_map]; omega) (by simp; omega) ?_; intro v7 w7 O7 k7; obtain ⟨av7, cv7, hv7⟩ := O7.sl'; obtain ⟨n7, hn7⟩ : ∃ n7, n7 = (vs.map Value.string ++ [Value.string b]).length := ⟨_, rfl⟩; rw [← hn7] at hv7; subst hv7; clear hn7; have kk := Keeps.and_ (S := fun i => B1 ≤ i) ((Keeps.refl _ w).alloc _) k7 (fun i hi e => e.1); have hb7 := HB.out.keeps kk (by omega); have c7 := hb7.cell 0; have f7 := hb7.frozen 0; have HB7 := Lib.hid hb7; have HO7 := Lib.hid O7; have HK7 := Lib.hid kk; clear O7 k7 kk hb7))
  refine bodyPost_end (results_none rfl _ _ _) rfl ⟨rfl, ⟨_, HB7.out.set_ 0 _, ?_⟩, ?_⟩
  · rw [List.map_append]
    exact OwnL.keeps (S := fun i => i = B0) HO7.out ((Keeps.refl (fun i => i = B0) w7).setCell (fun _ => rfl) _) (fun i hi _ e => by omega)
  · exact (HK7.out.mono fun i _ e => .inr e).trans (((Keeps.refl (fun i => i = B0) w7).setCell (fun _ => rfl) _).mono fun i _ e => .inl e)
end
end Go.Proofs.YtdbnalocmjkncaaGreatDoor
