/-
  The desk: Emit, the walk.
-/
import Derived.Test.YtcblaeleaebinaaDeskO
namespace Go.Proofs.Ytcblaeleaebinaa
open Go.RowKit
section
variable (w : World) (E : Nat → PastD) (d : Nat) (F : Nat → Prop) (most : Nat) (torn : Bool) (bg : List UInt8) (l : List DPart) (v : Value)

set_option maxRecDepth 100000 in
set_option maxHeartbeats 2000000 in
theorem demit_any (n : Int) (h : DeskAt w E d F most torn bg l v) (hP : PastsOk w E F l) (hn : -9223372036854775808 ≤ n ∧ n ≤ 9223372036854775807) :
    Calls Try.prog 13 #[.pointer (some ⟨d, 0, none⟩), .int .i64 n] w (Emitted w E d F most torn bg l n) := by
  have H := Lib.hid h
  have HP := Lib.hid hP
  clear h hP
  have hm := Lib.hid (dmade_yes w E d F most torn bg l v H.out)
  go_enter Try.func13, Try.ntmps13
  go_wp2_with fail
  refine hm.out.mono ?_
  rintro e w1 ⟨rfl, n1, rfl⟩
  go_wp2_with fail
  go_loopg [9] n.toNat (fun g _ wr => ∃ k bg' l' v' bs, g + k = n.toNat ∧ EmitAt w wr E d w.heap.size F most torn bg l n k bg' l' v' bs)
  case atStart =>
    refine ⟨0, bg, l, v, [], by omega, ?_⟩
    exact {
      kk := ((Keeps.refl _ w).drewN n1).alloc _
      at_ := H.out.z.below.keeps (((Keeps.refl (fun _ => False) w).drewN n1).alloc _) (fun _ _ => id)
      from_ := FromL.refl l
      sent := ⟨Nat.zero_le _, fun _ h => absurd h (by omega), fun _ => rfl⟩
      flow := rfl
      le := Nat.zero_le _
      bs_ := rfl
      bld := Lib.fresh_isBuilder _ _ (w.drewN n1)
      sz := rfl }
  case round =>
    obtain ⟨k, bg', l', v', bs, hg, hE⟩ := hrel
    have hlen := hE.len
    have hL : ∀ w1, Lib.IsBuilder 84 5 w.heap.size w.heap.size bs w1 → Calls Try.prog 36 #[.pointer (some ⟨w.heap.size, 0, none⟩)] w1 fun e w' => e = .returned (.int .i64 k) ∧ w1 = w' := fun w1 h1 => by
      have := Try.Builder_Len _ _ _ w1 h1
      rw [hlen] at this
      exact this.mono fun e w' h => ⟨h.1, h.2.symm⟩
    have HL := Lib.hid hL
    have c0 := hE.at_.top.cell 0
    simp at c0
    have hp1 : PastsOk wr E (fun i => F i ∧ i < w.heap.size) l' := ((HP.out.less (G := fun i => F i ∧ i < w.heap.size) (fun _ h => h.1)).keeps hE.kk (fun _ _ h => h)).from_ hE.from_
    have HP1 := Lib.hid hp1
    have hdB : d < w.heap.size := hE.at_.inD.2
    have hnB : ∀ i, w.heap.size ≤ i → ¬ (F i ∧ i < w.heap.size) := fun i h e => by omega
    have hI := hE.bld
    have hszw : w.heap.size ≤ wr.heap.size := hE.kk.size
    have HNB := Lib.hid hnB
    have HI := Lib.hid hI
    have HE := Lib.hid hE
    have HG := Lib.hid hg
    clear hlen hL hp1 hE hg hnB hI
    by_cases hk : (k : Int) < n
    · have hw : IntKind.i64.wrap (n - (k : Int)) = n - (k : Int) := IntWalk.i64_in _ (by omega)
      by_cases hb : bg' = []
      · subst hb
        have hemp : (str []).toList.isEmpty = true := by rw [ByteArray.toList_eq]; rfl
        go_wp2_with (go_at_call 36; go_must (refine (HL.out _ HI.out).mono ?_; rintro e w2 ⟨rfl, rfl⟩))
        refine (dbegin_any wr E d _ most torn l' v' k (n - k) HE.out.at_ (by omega) (by omega) HP1.out).mono ?_
        rintro e w2 ⟨K2, ⟨rfl, torn2, v2, h2, ht⟩ | ⟨rfl, bg2, l2, v2, h2, hF, fl, e1, e2, e3, e4, e5⟩⟩
        · obtain ⟨M, hM⟩ : ∃ M, M = (flowP E [] l').length + k := ⟨_, rfl⟩
          have B2 := (h2).top
          rw [← hM] at B2
          have hI2 := IsBuilder.keeps HI.out K2 HNB.out
          have HI2 := Lib.hid hI2
          have H2 := Lib.hid (h2)
          have HT := Lib.hid (show k = min n.toNat (flowP E bg l).length ∧ torn2 = torn ∨ torn2 = true ∧ ¬ (∀ q ∈ l', q.kept E) from ht.imp (fun h => ⟨by have h1 := HE.out.flow; rw [h.1] at h1; have h2 := congrArg List.length h1; have h3 := HE.out.sent.le; have h4 : (flowP E [] []).length = 0 := rfl; rw [h4, List.length_drop] at h2; omega, h.2⟩) id)
          have HM := Lib.hid hM
          have hMN : (M : Int) - (k : Int) = (flowP E [] l').length := by omega
          have hMb : M ≤ 1099511627776 := by rw [hM]; exact (h2).fit.1
          obtain ⟨N, hN⟩ : ∃ N, N = (flowP E [] l').length := ⟨_, rfl⟩
          rw [← hN] at hMN
          have HN := Lib.hid hN
          have c2 := B2.cell 2
          have f2 := B2.frozen 2
          simp at c2
          have hw7 : IntKind.i64.wrap ((M : Int) - (k : Int)) = (N : Int) := by rw [hMN]; exact wrap_in (by omega) (by omega)
          have HB2 := Lib.hid B2
          clear hI2 hM hN hMN B2
          go_wp2_with fail
          go_region_with (go_at_call 36; go_must (refine (HL.out _ (IsBuilder.keeps HI2.out (show Keeps (fun _ => False) w2 _ by (repeat (first | (with_reducible assumption) | (with_reducible exact Keeps.refl _ _) | refine Keeps.drew ?_ | refine Keeps.drewN ?_ _ | refine Keeps.setCell ?_ (by simp) _ | refine Keeps.setRow ?_ (by simp) _ | refine Keeps.alloc ?_ _))) (fun _ _ => id))).mono ?_; rintro e w3 ⟨rfl, rfl⟩))
          all_goals
            have K3 : Keeps (fun i => i = d) w2 (w2.setCell ⟨d, 2, none⟩ (.int .i64 N)).drew := ((Keeps.refl (fun i => i = d) w2).setCell (p := ⟨d, 2, none⟩) (fun _ => rfl) _).drew
            have hI3 := IsBuilder.keeps HI2.out K3 (fun i hi e => by omega)
            obtain ⟨OB, hOB⟩ : ∃ OB, OB = ((flowP E bg l).take k).map Prod.fst := ⟨_, rfl⟩
            rw [HE.out.bs_, ← hOB] at hI3
            have HOB := Lib.hid hOB
            clear hOB
            have HI3 := Lib.hid hI3
            clear hI3
            have hsz3 : w.heap.size ≤ w2.heap.size := Nat.le_trans hszw (K2).size
            go_wp2_with fail
            refine (Try.Builder_String_any _ _ _ _ HI3.out (by simp; omega)).mono ?_
            rintro e w5 ⟨rfl, k5⟩
            go_wp2_with fail
            go_ret
            have hfin := EmitAt.done HE.out K2 H2.out HT.out K3 (by have := (HB2.out.set_ 2 (.int .i64 N)).drew; rw [← HN.out]; simpa using this) ⟨k5.os, k5.tape, k5.output, k5.size, fun i hi hn => k5.block i (by omega)⟩
            rw [← HOB.out] at hfin
            exact hfin
        · obtain ⟨r, hr⟩ : ∃ r : Nat, r = (n - (k : Int)).toNat := ⟨_, rfl⟩
          have hI2 := IsBuilder.keeps HI.out K2 HNB.out
          have B2 := (h2).top
          have hbl : bg2.length ≤ 1099511627776 := by
            have h1 := (h2).fit.1
            have h2 : bg2.length ≤ (flowP E bg2 l2).length := by unfold flowP; rw [List.length_append, markP_len]; omega
            omega
          have hkb : k ≤ 1099511627776 := by have h1 := (h2).fit.1; omega
          have hlb := HE.out.len
          have hsz3 : w.heap.size ≤ w2.heap.size := Nat.le_trans hszw (K2).size
          have hwl : bs.length + (str (bg2.take r)).size ≤ 140737488355328 := by rw [str_size, List.length_take]; omega
          have hrel : ∀ (w3 w4 : World), Keeps (fun i => i = d) w2 w3 → Blk w3 d 72 #[.string (str (bg2.drop r)), v2, .int .i64 ((flowP E bg2 l2).length + k : Nat), .int .i64 most, .bool torn] → Keeps (fun i => w.heap.size ≤ i) w3 w4 → Lib.IsBuilder 84 5 w.heap.size w.heap.size (bs ++ Lib.strCells (str (bg2.take r))) w4 → (k < k + min r bg2.length ∧ EmitAt w w4 E d w.heap.size F most torn bg l n (k + min r bg2.length) (bg2.drop r) l2 v2 (bs ++ Lib.strCells (str (bg2.take r)))) := fun w3 w4 K3 hb K4 hI => by
            subst hr
            exact EmitAt.step HE.out K2 (h2) (hF) (e1) (e2) (e3) (e4) (e5) hk K3 hb K4 hI
          have htk : ∀ w3, Blk w3 d 72 #[.string (str bg2), v2, .int .i64 ((flowP E bg2 l2).length + k : Nat), .int .i64 most, .bool torn] → Calls Try.prog 39 #[.pointer (some ⟨d, 0, none⟩), .int .i64 (n - (k : Int))] w3 fun e w' => e = .returned (.string (str (bg2.take r))) ∧ Blk w' d 72 #[.string (str (bg2.drop r)), v2, .int .i64 ((flowP E bg2 l2).length + k : Nat), .int .i64 most, .bool torn] ∧ Keeps (fun i => i = d) w3 w' := fun w3 hb => by
            rw [hr]
            exact take_any w3 d 72 [v2, .int .i64 ((flowP E bg2 l2).length + k : Nat), .int .i64 most, .bool torn] bg2 (n - (k : Int)) hb (by omega) (by omega)
          have HTK := Lib.hid htk
          have HR := Lib.hid hr
          have HREL := Lib.hid hrel
          have HI2 := Lib.hid hI2
          have HB2 := Lib.hid B2
          have HWL := Lib.hid hwl
          have HLB := Lib.hid hlb
          clear hI2 B2 hwl hlb hrel htk hr
          go_wp2_with fail
          go_region_with (first
            | (go_at_call 36; go_must (refine (HL.out _ (IsBuilder.keeps HI2.out (show Keeps (fun _ => False) w2 _ by (repeat (first | (with_reducible assumption) | (with_reducible exact Keeps.refl _ _) | refine Keeps.drew ?_ | refine Keeps.drewN ?_ _ | refine Keeps.setCell ?_ (by simp) _ | refine Keeps.setRow ?_ (by simp) _ | refine Keeps.alloc ?_ _))) (fun _ _ => id))).mono ?_; rintro e w3 ⟨rfl, rfl⟩))
            | (go_at_call 39; go_must (refine (HTK.out _ (Blk.keeps HB2.out (show Keeps (fun _ => False) w2 _ by (repeat (first | (with_reducible assumption) | (with_reducible exact Keeps.refl _ _) | refine Keeps.drew ?_ | refine Keeps.drewN ?_ _ | refine Keeps.setCell ?_ (by simp) _ | refine Keeps.setRow ?_ (by simp) _ | refine Keeps.alloc ?_ _))) id)).mono ?_; rintro e w3 ⟨rfl, B3, k3⟩; have K3 : Keeps (fun i => i = d) w2 w3 := Keeps.trans (by (repeat (first | (with_reducible assumption) | (with_reducible exact Keeps.refl _ _) | refine Keeps.drew ?_ | refine Keeps.drewN ?_ _ | refine Keeps.setCell ?_ (by simp) _ | refine Keeps.setRow ?_ (by simp) _ | refine Keeps.alloc ?_ _))) k3; have HB3 := Lib.hid B3; have HI3 := Lib.hid (IsBuilder.keeps HI2.out K3 (fun i hi e => by omega)); clear B3))
            | (go_at_call 38; go_must (refine (bwrite _ _ bs _ _ HI3.out HWL.out (Nat.le_trans hsz3 (by have := K3.size; exact this))).mono ?_; rintro e w4 ⟨rfl, hI4, k4⟩; have HI4 := Lib.hid hI4; clear hI4)))
          all_goals
            obtain ⟨t1, t2⟩ := HREL.out _ _ K3 HB3.out ⟨k4.os, k4.tape, k4.output, k4.size, fun i hi hn => k4.block i (by omega)⟩ (.inr HI4.out)
            go_wp2_with fail
            go_roundg (n.toNat - (k + min r bg2.length))
            case measure => have := HG.out; omega
            case rel => exact ⟨_, _, _, _, _, by have := t2.le; omega, t2⟩
      · obtain ⟨c1, tl, hbe⟩ : ∃ c1 tl, bg' = c1 :: tl := by cases bg' with | nil => exact absurd rfl hb | cons a b => exact ⟨a, b, rfl⟩
        subst hbe
        have hemp : (str (c1 :: tl)).toList.isEmpty = false := by rw [ByteArray.toList_eq]; rfl
        obtain ⟨r, hr⟩ : ∃ r : Nat, r = (n - (k : Int)).toNat := ⟨_, rfl⟩
        have hI2 := IsBuilder.keeps HI.out (Keeps.refl (fun i => F i ∧ i < w.heap.size) wr) HNB.out
        have B2 := (HE.out.at_).top
        have hbl : (c1 :: tl).length ≤ 1099511627776 := by
          have h1 := (HE.out.at_).fit.1
          have h2 : (c1 :: tl).length ≤ (flowP E (c1 :: tl) l').length := by unfold flowP; rw [List.length_append, markP_len]; omega
          omega
        have hkb : k ≤ 1099511627776 := by have h1 := (HE.out.at_).fit.1; omega
        have hlb := HE.out.len
        have hsz3 : w.heap.size ≤ wr.heap.size := Nat.le_trans hszw ((Keeps.refl (fun i => F i ∧ i < w.heap.size) wr)).size
        have hwl : bs.length + (str ((c1 :: tl).take r)).size ≤ 140737488355328 := by rw [str_size, List.length_take]; omega
        have hrel : ∀ (w3 w4 : World), Keeps (fun i => i = d) wr w3 → Blk w3 d 72 #[.string (str ((c1 :: tl).drop r)), v', .int .i64 ((flowP E (c1 :: tl) l').length + k : Nat), .int .i64 most, .bool torn] → Keeps (fun i => w.heap.size ≤ i) w3 w4 → Lib.IsBuilder 84 5 w.heap.size w.heap.size (bs ++ Lib.strCells (str ((c1 :: tl).take r))) w4 → (k < k + min r (c1 :: tl).length ∧ EmitAt w w4 E d w.heap.size F most torn bg l n (k + min r (c1 :: tl).length) ((c1 :: tl).drop r) l' v' (bs ++ Lib.strCells (str ((c1 :: tl).take r)))) := fun w3 w4 K3 hb K4 hI => by
          subst hr
          exact EmitAt.step HE.out (Keeps.refl (fun i => F i ∧ i < w.heap.size) wr) (HE.out.at_) (FromL.refl l') (rfl) (markP_fst _) ((fun h => by have := markP_len (c1 :: tl); rw [h] at this; simp at this)) (.inl rfl) (markP_last _) hk K3 hb K4 hI
        have htk : ∀ w3, Blk w3 d 72 #[.string (str (c1 :: tl)), v', .int .i64 ((flowP E (c1 :: tl) l').length + k : Nat), .int .i64 most, .bool torn] → Calls Try.prog 39 #[.pointer (some ⟨d, 0, none⟩), .int .i64 (n - (k : Int))] w3 fun e w' => e = .returned (.string (str ((c1 :: tl).take r))) ∧ Blk w' d 72 #[.string (str ((c1 :: tl).drop r)), v', .int .i64 ((flowP E (c1 :: tl) l').length + k : Nat), .int .i64 most, .bool torn] ∧ Keeps (fun i => i = d) w3 w' := fun w3 hb => by
          rw [hr]
          exact take_any w3 d 72 [v', .int .i64 ((flowP E (c1 :: tl) l').length + k : Nat), .int .i64 most, .bool torn] (c1 :: tl) (n - (k : Int)) hb (by omega) (by omega)
        have HTK := Lib.hid htk
        have HR := Lib.hid hr
        have HREL := Lib.hid hrel
        have HI2 := Lib.hid hI2
        have HB2 := Lib.hid B2
        have HWL := Lib.hid hwl
        have HLB := Lib.hid hlb
        clear hI2 B2 hwl hlb hrel htk hr
        go_wp2_with (go_at_call 36; go_must (refine (HL.out _ HI.out).mono ?_; rintro e w2 ⟨rfl, rfl⟩))
        go_region_with (first
          | (go_at_call 36; go_must (refine (HL.out _ (IsBuilder.keeps HI2.out (show Keeps (fun _ => False) wr _ by (repeat (first | (with_reducible assumption) | (with_reducible exact Keeps.refl _ _) | refine Keeps.drew ?_ | refine Keeps.drewN ?_ _ | refine Keeps.setCell ?_ (by simp) _ | refine Keeps.setRow ?_ (by simp) _ | refine Keeps.alloc ?_ _))) (fun _ _ => id))).mono ?_; rintro e w3 ⟨rfl, rfl⟩))
          | (go_at_call 39; go_must (refine (HTK.out _ (Blk.keeps HB2.out (show Keeps (fun _ => False) wr _ by (repeat (first | (with_reducible assumption) | (with_reducible exact Keeps.refl _ _) | refine Keeps.drew ?_ | refine Keeps.drewN ?_ _ | refine Keeps.setCell ?_ (by simp) _ | refine Keeps.setRow ?_ (by simp) _ | refine Keeps.alloc ?_ _))) id)).mono ?_; rintro e w3 ⟨rfl, B3, k3⟩; have K3 : Keeps (fun i => i = d) wr w3 := Keeps.trans (by (repeat (first | (with_reducible assumption) | (with_reducible exact Keeps.refl _ _) | refine Keeps.drew ?_ | refine Keeps.drewN ?_ _ | refine Keeps.setCell ?_ (by simp) _ | refine Keeps.setRow ?_ (by simp) _ | refine Keeps.alloc ?_ _))) k3; have HB3 := Lib.hid B3; have HI3 := Lib.hid (IsBuilder.keeps HI2.out K3 (fun i hi e => by omega)); clear B3))
          | (go_at_call 38; go_must (refine (bwrite _ _ bs _ _ HI3.out HWL.out (Nat.le_trans hsz3 (by have := K3.size; exact this))).mono ?_; rintro e w4 ⟨rfl, hI4, k4⟩; have HI4 := Lib.hid hI4; clear hI4)))
        all_goals
          obtain ⟨t1, t2⟩ := HREL.out _ _ K3 HB3.out ⟨k4.os, k4.tape, k4.output, k4.size, fun i hi hn => k4.block i (by omega)⟩ (.inr HI4.out)
          go_wp2_with fail
          go_roundg (n.toNat - (k + min r (c1 :: tl).length))
          case measure => have := HG.out; omega
          case rel => exact ⟨_, _, _, _, _, by have := t2.le; omega, t2⟩
    · have hkn : k = n.toNat := by have := HE.out.le; omega
      have HKN := Lib.hid hkn
      clear hkn
      obtain ⟨M, hM⟩ : ∃ M, M = (flowP E bg' l').length + k := ⟨_, rfl⟩
      have B2 := (HE.out.at_).top
      rw [← hM] at B2
      have hI2 := IsBuilder.keeps HI.out (Keeps.refl (fun i => F i ∧ i < w.heap.size) wr) HNB.out
      have HI2 := Lib.hid hI2
      have H2 := Lib.hid (HE.out.at_)
      have HT := Lib.hid (show k = min n.toNat (flowP E bg l).length ∧ torn = torn ∨ torn = true ∧ ¬ (∀ q ∈ l', q.kept E) from .inl ⟨by have := HE.out.sent.le; have := HKN.out; omega, rfl⟩)
      have HM := Lib.hid hM
      have hMN : (M : Int) - (k : Int) = (flowP E bg' l').length := by omega
      have hMb : M ≤ 1099511627776 := by rw [hM]; exact (HE.out.at_).fit.1
      obtain ⟨N, hN⟩ : ∃ N, N = (flowP E bg' l').length := ⟨_, rfl⟩
      rw [← hN] at hMN
      have HN := Lib.hid hN
      have c2 := B2.cell 2
      have f2 := B2.frozen 2
      simp at c2
      have hw7 : IntKind.i64.wrap ((M : Int) - (k : Int)) = (N : Int) := by rw [hMN]; exact wrap_in (by omega) (by omega)
      have HB2 := Lib.hid B2
      clear hI2 hM hN hMN B2
      go_wp2_with (go_at_call 36; go_must (refine (HL.out _ HI.out).mono ?_; rintro e w2 ⟨rfl, rfl⟩))
      go_region_with (go_at_call 36; go_must (refine (HL.out _ (IsBuilder.keeps HI2.out (show Keeps (fun _ => False) wr _ by (repeat (first | (with_reducible assumption) | (with_reducible exact Keeps.refl _ _) | refine Keeps.drew ?_ | refine Keeps.drewN ?_ _ | refine Keeps.setCell ?_ (by simp) _ | refine Keeps.setRow ?_ (by simp) _ | refine Keeps.alloc ?_ _))) (fun _ _ => id))).mono ?_; rintro e w3 ⟨rfl, rfl⟩))
      all_goals
        have K3 : Keeps (fun i => i = d) wr (wr.setCell ⟨d, 2, none⟩ (.int .i64 N)).drew := ((Keeps.refl (fun i => i = d) wr).setCell (p := ⟨d, 2, none⟩) (fun _ => rfl) _).drew
        have hI3 := IsBuilder.keeps HI2.out K3 (fun i hi e => by omega)
        obtain ⟨OB, hOB⟩ : ∃ OB, OB = ((flowP E bg l).take k).map Prod.fst := ⟨_, rfl⟩
        rw [HE.out.bs_, ← hOB] at hI3
        have HOB := Lib.hid hOB
        clear hOB
        have HI3 := Lib.hid hI3
        clear hI3
        have hsz3 : w.heap.size ≤ wr.heap.size := Nat.le_trans hszw ((Keeps.refl (fun i => F i ∧ i < w.heap.size) wr)).size
        go_wp2_with fail
        refine (Try.Builder_String_any _ _ _ _ HI3.out (by simp; omega)).mono ?_
        rintro e w5 ⟨rfl, k5⟩
        go_wp2_with fail
        go_ret
        have hfin := EmitAt.done HE.out (Keeps.refl (fun i => F i ∧ i < w.heap.size) wr) H2.out (HT.out.imp (fun h => ⟨h.1, rfl⟩) id) K3 (by have := (HB2.out.set_ 2 (.int .i64 N)).drew; rw [← HN.out]; simpa using this) ⟨k5.os, k5.tape, k5.output, k5.size, fun i hi hn => k5.block i (by omega)⟩
        rw [← HOB.out] at hfin
        exact hfin
end
end Go.Proofs.Ytcblaeleaebinaa
