/-
  The past's Back: where the last lines begin.
-/
import Derived.Test.YtclgjcdkjgkchaaPastB
import Derived.Test.YtclgjcdkjgkchaaLines
import Derived.ScopeJumps
import Derived.WalkMore
namespace Go.Proofs.Ytclgjcdkjgkchaa
open Go.RowKit

/-- a scope with one label to which the run jumps back: what follows the label is walked once -/
theorem wp_scope_both {P : Program} {a : Act} {w : World} {Q : Exit → Act → World → Prop} {c rest : Code} (l : Nat) (J : Act → World → Prop) (μ : Act → World → Nat) (hf : findLabel c l = some (.seq .skip rest))
    (pass : ∀ a w, J a w → rest.wp P (Exit.jump l (fun a' w' => J a' w' ∧ μ a' w' < μ a w) Q) a w)
    (first : Hid (∀ a w, J a w → rest.wp P (Exit.jump l J Q) a w) → c.wp P (Exit.jump l J Q) a w) : (Code.scope c).wp P Q a w :=
  wp_scope_jumps l J μ hf (first fun a w h => wp_mono (pass a w h) fun e a' w' hq => by
    cases e <;> first | exact hq | exact ⟨hq.1, hq.2.1⟩) fun a w h => wp_seq (wp_skip (pass a w h))

theorem ret_int' {k : IntKind} {a b : Int} (h : a = b) : Ending.returned (.int k a) = .returned (.int k b) := by rw [h]
/-- the frame at the label: the lines that are asked for yet, and the place -/
def BackJ (w : World) (p g b m : Nat) (A : List UInt8) (R : Nat) (a : Act) (w' : World) : Prop :=
  ∃ (Lv : Int) (i : Nat) (u2 u3 u4 u5 u7 u8 u9 u10 u11 u12 u13 u14 u15 u16 u17 u18 u19 u20 u21 u22 u23 u24 u25 u26 u27 u28 u29 u30 u31 u32 u33 u34 u35 u36 u37 u38 u39 u40 u41 u42 u43 u44 u45 u46 : Value), a = ⟨#[.pointer (some ⟨p, 0, none⟩), .int .i64 Lv, u2, u3, u4, u5, .int .i64 (i : Nat), u7, u8, u9, u10, u11, u12, u13, u14, u15, u16, u17, u18, u19, u20, u21, u22, u23, u24, u25, u26, u27, u28, u29, u30, u31, u32, u33, u34, u35, u36, u37, u38, u39, u40, u41, u42, u43, u44, u45, u46], []⟩ ∧ Lv ≤ 4611686018427387904 ∧ i ≤ A.length - (A.length - m) ∧ (A.length - m) + backN (A.drop (A.length - m)) i Lv.toNat = R ∧ IsPast w' p g b m A ∧ Keeps (fun _ => False) w w'
def BackM (a : Act) (_w : World) : Nat := (intOf (a.tmps.getD 6 undef)).toNat

set_option maxRecDepth 100000 in
set_option maxHeartbeats 2000000 in
theorem pback_yes (w : World) (p g b m : Nat) (A : List UInt8) (L : Int) (h : IsPast w p g b m A) (hA : A.length ≤ 2305843009213693952) (hL : L ≤ 4611686018427387904) :
    Calls Try.prog 32 #[.pointer (some ⟨p, 0, none⟩), .int .i64 L] w fun e w' => e = .returned (.int .i64 ((A.length - m) + backN (A.drop (A.length - m)) (A.length - (A.length - m)) L.toNat : Nat)) ∧ Keeps (fun _ => False) w w' := by
  obtain ⟨R, hR⟩ : ∃ R, R = (A.length - m) + backN (A.drop (A.length - m)) (A.length - (A.length - m)) L.toNat := ⟨_, rfl⟩
  rw [← hR]
  have HR := Lib.hid hR
  clear hR
  go_enter Try.func32, Try.ntmps32
  go_wp2_with fail
  refine wp_scope_both 0 (BackJ w p g b m A R) BackM rfl ?pass ?first
  case pass =>
    rintro a w1 ⟨Lv, i, u2, u3, u4, u5, u7, u8, u9, u10, u11, u12, u13, u14, u15, u16, u17, u18, u19, u20, u21, u22, u23, u24, u25, u26, u27, u28, u29, u30, u31, u32, u33, u34, u35, u36, u37, u38, u39, u40, u41, u42, u43, u44, u45, u46, rfl, hLv, hi, hB, hP, hK⟩
    have hBL := Lib.hid hB
    clear hB
    have hst : ∀ wx, IsPast wx p g b m A → Calls Try.prog 31 #[.pointer (some ⟨p, 0, none⟩)] wx fun e w' => e = .returned (.int .i64 (A.length - m : Nat)) ∧ Keeps (fun _ => False) wx w' := fun wx hx => Qt.k (pfrom_yes wx p g b m A hx (by omega))
    have HST := Lib.hid hst
    clear hst
    by_cases ht : Lv < 1
    · have hz : backN (A.drop (A.length - m)) i Lv.toNat = i := by rw [show Lv.toNat = 0 by omega]; rfl
      go_wp2_with (go_at_call 31; refine (HST.out _ hP).mono ?_; rintro e w2 ⟨rfl, k2⟩)
      simp only [Exit.jump]
      go_ret
      exact ⟨ret_int' (by have := hBL.out; rw [hz] at this; omega), hK.trans k2⟩
    · by_cases h0 : i = 0
      · subst h0
        have hz : backN (A.drop (A.length - m)) 0 Lv.toNat = 0 := backN_zero _ _
        go_wp2_with (go_at_call 31; refine (HST.out _ hP).mono ?_; rintro e w2 ⟨rfl, k2⟩)
        simp only [Exit.jump]
        go_ret
        exact ⟨ret_int' (by have := hBL.out; rw [hz] at this; omega), hK.trans k2⟩
      · have hne : ((i : Int) == 0) = false := by rw [beq_eq_false_iff_ne]; omega
        have hL1 : 1 ≤ Lv := by omega
        have hi0 : 0 < i := by omega
        obtain ⟨n, hn⟩ : ∃ n, Lv.toNat = n + 1 := ⟨Lv.toNat - 1, by omega⟩
        have hBn : A.length - m + backN (A.drop (A.length - m)) (scanP (A.drop (A.length - m)) (i - 1)) n = R := by
          have := hBL.out
          rw [hn] at this
          exact this
        have HBn := Lib.hid hBn
        have HN := Lib.hid (show (Lv - 1).toNat = n from by omega)
        clear hBn hn ht h0
        go_wp2_with fail
        go_loopw [6, 7, 8] (fun s6 s7 s8 wr => ∃ j : Nat, s6 = .int .i64 j ∧ j + 1 ≤ i ∧ scanP (A.drop (A.length - m)) j = scanP (A.drop (A.length - m)) (i - 1) ∧ IsPast wr p g b m A ∧ Keeps (fun _ => False) w wr) (fun s6 _ _ _ => (intOf s6).toNat)
        case atStart => exact ⟨i - 1, by go_num, by omega, rfl, hP, hK⟩
        case round =>
          obtain ⟨j, rfl, hj, hs, hI, hk⟩ := hrel
          have HS := Lib.hid hs
          clear hs
          rcases Nat.eq_zero_or_pos j with h0 | h0
          · subst h0
            have hz : scanP (A.drop (A.length - m)) (i - 1) = 0 := HS.out.symm
            go_wp2_with (go_at_call 31; refine (HST.out _ hI).mono ?_; rintro e w2 ⟨rfl, k2⟩)
            simp only [Exit.jump]
            go_ret
            exact ⟨ret_int' (by have := HBn.out; rw [hz, backN_zero] at this; omega), hk.trans k2⟩
          · obtain ⟨c, hc⟩ : ∃ c, (A.drop (A.length - m))[((j : Int) - 1).toNat]? = some c := ⟨_, List.getElem?_eq_getElem (by rw [List.length_drop]; omega)⟩
            have hc2 : (A.drop (A.length - m))[j - 1]? = some c := by rw [← hc]; congr 1; omega
            have HC := Lib.hid hc
            have HC2 := Lib.hid hc2
            clear hc hc2
            have c0 := hI.top.cell 0
            simp at c0
            have hj1 : 1 ≤ j := h0
            by_cases h10 : c = 10
            · subst h10
              go_wp2_with (go_at_call 23; go_must (refine (Qt.k (iat_in _ g b m _ _ _ 10 hI.ring (by omega) HC.out)).mono ?_; rintro e w2 ⟨rfl, k2⟩))
              go_step3
              have hsj : scanP (A.drop (A.length - m)) j = j := by
                obtain ⟨q, rfl⟩ : ∃ q, j = q + 1 := ⟨j - 1, by omega⟩
                exact scanP_hit _ q (by have := HC2.out; simpa using this)
              refine And.intro rfl (And.intro ⟨Lv - 1, j, _, _, _, _, _, _, _, _, _, _, _, _, _, _, _, _, _, _, _, _, _, _, _, _, _, _, _, _, _, _, _, _, _, _, _, _, _, _, _, _, _, _, _, _, rfl, by omega, by omega, ?_, hI.keeps k2 id id id, hk.trans k2⟩ ?_)
              · rw [HN.out, ← HBn.out, ← HS.out, hsj]
              · simp [BackM, intOf]; omega
            · have hcn : ((c.toNat : Int) == 10) = false := by
                rw [beq_eq_false_iff_ne]
                intro e
                exact h10 (UInt8.toNat_inj.1 (by simpa using (show c.toNat = 10 by omega)))
              go_wp2_with (go_at_call 23; go_must (refine (Qt.k (iat_in _ g b m _ _ _ c hI.ring (by omega) HC.out)).mono ?_; rintro e w2 ⟨rfl, k2⟩))
              go_roundw
              case rel =>
                refine ⟨j - 1, by go_num, by omega, ?_, hI.keeps k2 id id id, hk.trans k2⟩
                rw [← HS.out]
                obtain ⟨q, rfl⟩ : ∃ q, j = q + 1 := ⟨j - 1, by omega⟩
                rw [scanP_miss _ q (by have := HC2.out; simp at this ⊢; rw [this]; intro e; injection e with e; exact h10 e)]
                rfl
              case measure => simp [intOf]; omega
  case first =>
    intro hpass
    go_wp2_with (first | (go_at_call 30; refine (Qt.k (pcame_yes _ p g b m A h)).mono ?_; rintro e w2 ⟨rfl, k2⟩; have h2 := h.keeps k2 id id id) | (go_at_call 31; refine (Qt.k (pfrom_yes _ p g b m A h2 (by omega))).mono ?_; rintro e w3 ⟨rfl, k3⟩; have h3 := h2.keeps k3 id id id; have K3 := k2.trans k3))
    have e : (A.length : Int) - ((A.length - m : Nat) : Int) = ((A.length - (A.length - m) : Nat) : Int) := by omega
    rw [e]
    refine wp_label ?_
    rename_i hk
    exact hk _ _ (hpass.out _ _ ⟨L, A.length - (A.length - m), _, _, _, _, _, _, _, _, _, _, _, _, _, _, _, _, _, _, _, _, _, _, _, _, _, _, _, _, _, _, _, _, _, _, _, _, _, _, _, _, _, _, _, _, rfl, hL, Nat.le_refl _, HR.out.symm, h3, K3⟩)
end Go.Proofs.Ytclgjcdkjgkchaa
