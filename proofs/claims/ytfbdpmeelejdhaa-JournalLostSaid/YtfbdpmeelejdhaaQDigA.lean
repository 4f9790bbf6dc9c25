/-
  digit.small and digit.Put, and the document's Put: a number in decimal.
-/
import Derived.Test.YtfbdpmeelejdhaaChecked
import Derived.Test.YtfbdpmeelejdhaaQGround
import Derived.ScopeJumps
import Derived.WalkMore
namespace Go.Proofs.Ytfbdpmeelejdhaa
open Go.RowKit

/-- a scope with one label to which the run jumps back: what follows the label is walked once -/
theorem wp_scope_both {P : Program} {a : Act} {w : World} {Q : Exit → Act → World → Prop} {c rest : Code} (l : Nat) (J : Act → World → Prop) (μ : Act → World → Nat) (hf : findLabel c l = some (.seq .skip rest))
    (pass : ∀ a w, J a w → rest.wp P (Exit.jump l (fun a' w' => J a' w' ∧ μ a' w' < μ a w) Q) a w)
    (first : Hid (∀ a w, J a w → rest.wp P (Exit.jump l J Q) a w) → c.wp P (Exit.jump l J Q) a w) : (Code.scope c).wp P Q a w :=
  wp_scope_jumps l J μ hf (first fun a w h => wp_mono (pass a w h) fun e a' w' hq => by
    cases e <;> first | exact hq | exact ⟨hq.1, hq.2.1⟩) fun a w h => wp_seq (wp_skip (pass a w h))

theorem add_plain' (b off k : Nat) : (⟨b, off, none⟩ : Addr).add k = ⟨b, off + k, none⟩ := by
  unfold Addr.add
  split <;> simp_all
/-- a slice of an array of one-cell values, from l on -/
theorem arr_from (P : Program) (w : World) (t : TypeId) (g n : Nat) (l : Int) {e : TypeId} (hu : P.underlying t = some (.array n e)) (hs : (P.info? e).map (·.size) = some 1) (h0 : 0 ≤ l) (h1 : l < n) :
    (Instr.sliceAt t (.pointer (some ⟨g, 0, none⟩)) (some (.int .i64 l)) none none).run P w = .ok (.slice (some ⟨g, l.toNat, none⟩) (n - l.toNat) (n - l.toNat)) w := by
  have hl : P.arrayLen t = n := by simp [Program.arrayLen, hu]
  have he : P.elem t = e := by simp [Program.elem, hu]
  cases hq : P.info? e with
  | none => simp [hq] at hs
  | some i =>
    have hi : i.size = 1 := by simpa [hq] using hs
    rw [run_sliceAt_array_l w t ⟨g, 0, none⟩ (by rw [hl, he]; exact hu) .i64 l h0 (by rw [hl]; omega), he, hl]
    simp [sizeOf, typeInfo, hq, hi, slicedAt, add_plain']
    omega

theorem append_str' (a b : ByteArray) : (a ++ b).data.toList = a.data.toList ++ b.data.toList := by simp

def SmallJ (w : World) (g : Nat) (R : List UInt8) (a : Act) (w' : World) : Prop :=
  ∃ (N k : Nat) (L : List UInt8) (u0 u4 u1 u2 u5 u6 u7 u8 u9 u10 u11 u12 u13 u14 u15 u16 u17 u18 u19 : Value),
    a = ⟨#[u0, u1, u2, .pointer (some ⟨g, 0, none⟩), u4, u5, u6, u7, u8, u9, u10, u11, u12, u13, u14, u15, u16, u17, u18, u19], []⟩ ∧ u0 = .int .i64 (-(N : Int)) ∧ u4 = .int .i64 k ∧
    N ≤ 9223372036854775808 ∧ 1 ≤ k ∧ k ≤ 20 ∧ L.length = 20 ∧ N < 10 ^ k ∧ decN N ++ L.drop k = R ∧ Blk w' g 97 (bv L) ∧ Keeps (fun _ => False) w w' ∧ w.heap.size ≤ g
def SmallM (a : Act) (_w : World) : Nat := (intOf (a.tmps.getD 4 undef)).toNat

set_option maxRecDepth 100000 in
set_option maxHeartbeats 1000000 in
theorem small_any (w : World) (N : Nat) (hN : N ≤ 9223372036854775808) :
    Calls Try.prog 41 #[.int .i64 (-(N : Int))] w fun e w' => e = .returned (.string (str (decN N))) ∧ Keeps (fun _ => False) w w' := by
  go_enter Try.func41, Try.ntmps41
  go_wp2_with fail
  obtain ⟨g0, hg0⟩ : ∃ g0, g0 = w.heap.size := ⟨_, rfl⟩
  have HG := Lib.hid hg0
  clear hg0
  refine wp_scope_both 0 (SmallJ w g0 (decN N)) SmallM rfl ?pass ?first
  case pass =>
    rintro a w1 ⟨M, k, L, u0, u4, u1, u2, u5, u6, u7, u8, u9, u10, u11, u12, u13, u14, u15, u16, u17, u18, u19, rfl, rfl, rfl, hM, hk1, hk2, hL, hp, hR, hB, hK, hg⟩
    have hr := dec_round M k L (by omega) (by omega)
    have h1 := tmod_neg M
    have h2 := tdiv_neg M
    obtain ⟨c0, hc⟩ : ∃ c0, w1.cell? ⟨g0, k - 1, none⟩ = some c0 := ⟨_, bv_cell hB (k - 1) L[k - 1] (List.getElem?_eq_getElem (by omega))⟩
    have hf := hB.frozen (k - 1)
    have hp1 : 10 ^ k = 10 ^ (k - 1) * 10 := by rw [← Nat.pow_succ]; congr 1; omega
    have hB2 := hB.set_ (k - 1) (.int .u8 ((digc (M % 10)).toNat : Nat))
    rw [bv_set] at hB2
    have he : (((digc (M % 10)).toNat : Nat) : Int) = 48 + (M : Int) % 10 := by
      rw [digc_nat (by omega)]; omega
    rw [he] at hB2
    have hK2 := hK.setCell (p := ⟨g0, k - 1, none⟩) (fun h => absurd h (by show ¬ g0 < w.heap.size; omega)) (.int .u8 (48 + (M : Int) % 10))
    have hrest : (M / 10 ≠ 0) → 1 ≤ k - 1 ∧ M / 10 < 10 ^ (k - 1) ∧ decN (M / 10) ++ (L.set (k - 1) (digc (M % 10))).drop (k - 1) = decN N := fun h => by
      have h4 : M / 10 < 10 ^ (k - 1) := by omega
      refine ⟨?_, h4, ?_⟩
      · rcases Nat.eq_zero_or_pos (k - 1) with h5 | h5
        · rw [h5] at h4; simp at h4; omega
        · exact h5
      · rw [hr, ← hR, decN_big (n := M) (by omega)]; simp
    have hlast : M / 10 = 0 → (L.set (k - 1) (digc (M % 10))).drop (k - 1) = decN N := fun h => by
      rw [hr, ← hR, decN_small (n := M) (by omega)]; simp [Nat.mod_eq_of_lt (show M < 10 by omega)]
    have HR := Lib.hid hrest
    have HL := Lib.hid hlast
    have H20 : Hid ((L.set (k - 1) (digc (M % 10))).length = 20) := Lib.hid (by simp [hL])
    have HB := Lib.hid hB2
    clear hr hp1 hB2 he hrest hlast hp hR hL hB
    by_cases hz : M / 10 = 0
    · have ht : (-((M : Int) / 10) != 0) = false := by simp; omega
      have hs := fun W => arr_from Try.prog W 97 g0 20 (k - 1 : Int) Try.underlying97 (by kernel_rfl) (by omega) (by omega)
      rw [show ((k : Int) - 1).toNat = k - 1 by omega] at hs
      have hcs : ((L.set (k - 1) (digc (M % 10))).drop (k - 1)).length = 20 - (k - 1) := by rw [List.length_drop, H20.out]
      have hcs2 := bv_at HB.out (k - 1) ((L.set (k - 1) (digc (M % 10))).drop (k - 1)) (fun j c hj => by rw [List.getElem?_drop] at hj; exact hj)
      rw [HL.out hz] at hcs hcs2
      have HC := Lib.hid hcs
      have HC2 := Lib.hid hcs2
      clear hcs hcs2
      go_wp2_with (with_reducible show wpList _ _ _ (⟨some 19, _, _, _, _, _⟩ :: _) _ _; go_must (refine wpList_string_bytes _ rfl (.tmp 18) _ _ rfl 5 Try.underlying72 Try.underlying5 Try.underlying9 g0 (k - 1) (20 - (k - 1)) (20 - (k - 1)) rfl (decN N) HC.out (fun j v hj => by have := HC2.out j v hj; rw [add_plain'] at this; exact this) ?_))
      simp only [Exit.jump]
      go_ret
      exact ⟨rfl, hK2⟩
    · have ht : (-((M : Int) / 10) != 0) = true := by simp; omega
      go_wp2_with fail
      go_step3
      have hq := HR.out hz
      refine And.intro rfl (And.intro ⟨M / 10, k - 1, _, _, _, _, _, _, _, _, _, _, _, _, _, _, _, _, _, _, _, _, rfl, int_eq (by omega), int_eq (by omega), by omega, hq.1, by omega, H20.out, hq.2.1, hq.2.2, HB.out, hK2, hg⟩ ?_)
      simp [SmallM, intOf]
      omega
  case first =>
    intro hpass
    go_wp2_with fail
    obtain rfl := HG.out
    refine wp_label ?_
    rename_i hk
    refine hk _ _ (hpass.out _ _ ⟨N, 20, List.replicate 20 0, _, _, _, _, _, _, _, _, _, _, _, _, _, _, _, _, _, _, _, rfl, rfl, rfl, hN, by omega, by omega, by simp, by omega, by simp, ?_, (Keeps.refl _ _).alloc _, by omega⟩)
    exact Blk.new _ _ _

set_option maxRecDepth 100000 in
theorem put_any (w : World) (n : Int) (h1 : -9223372036854775808 ≤ n) (h2 : n ≤ 9223372036854775807) :
    Calls Try.prog 25 #[.int .i64 n] w fun e w' => e = .returned (.string (str (dec n))) ∧ Keeps (fun _ => False) w w' := by
  by_cases h : n < 0
  · obtain ⟨N, rfl⟩ : ∃ N : Nat, n = -(N : Int) := ⟨(-n).toNat, by omega⟩
    have hd := dec_neg h
    rw [show (- -(N : Int)).toNat = N by omega] at hd
    have HD := Lib.hid hd
    clear hd
    have hsz : ((str (decN N)).size : Int) ≤ 19 := by rw [str_size]; have := decN_le (n := N) (by omega); omega
    go_enter Try.func25, Try.ntmps25
    go_wp2_with (go_at_call 41; refine (small_any _ N (by omega)).mono ?_; rintro e w2 ⟨rfl, k2⟩)
    go_ret
    exact ⟨by rw [HD.out]; exact congrArg (fun s => Ending.returned (Value.string s)) (ba_ext (by rw [append_str', str_list, str_list]; rfl)), k2⟩
  · obtain ⟨N, rfl⟩ : ∃ N : Nat, n = (N : Int) := ⟨n.toNat, by omega⟩
    have hd := dec_pos (n := (N : Int)) (by omega)
    rw [Int.toNat_natCast] at hd
    have HD := Lib.hid hd
    clear hd
    go_enter Try.func25, Try.ntmps25
    go_wp2_with (go_at_call 41; refine (small_any _ N (by omega)).mono ?_; rintro e w2 ⟨rfl, k2⟩)
    go_ret
    exact ⟨by rw [HD.out]; rfl, k2⟩

theorem hex_at : ∀ n : Nat, n < 10 → ({ data := #[48, 49, 50, 51, 52, 53, 54, 55, 56, 57, 97, 98, 99, 100, 101, 102] } : ByteArray).extract n (n + 1) = str [digc n]
  | 0, _ => rfl | 1, _ => rfl | 2, _ => rfl | 3, _ => rfl | 4, _ => rfl | 5, _ => rfl | 6, _ => rfl | 7, _ => rfl | 8, _ => rfl | 9, _ => rfl
  | n + 10, h => by omega
/-- the document's digit -/
theorem rdigit_any (w : World) (n : Int) (h0 : 0 ≤ n) (h1 : n < 10) :
    Calls Try.prog 47 #[.int .i64 n] w fun e w' => e = .returned (.string (str [digc n.toNat])) ∧ Keeps (fun _ => False) w w' := by
  have hh := hex_at n.toNat (by omega)
  rw [show n.toNat + 1 = (n + 1).toNat by omega] at hh
  have HH := Lib.hid hh
  clear hh
  go_enter Try.func47, Try.ntmps47
  go_wp2
  go_ret
  exact ⟨congrArg (fun s => Ending.returned (Value.string s)) HH.out, Keeps.refl _ _⟩

theorem dec_last (n : Int) (h : n < -9 ∨ 9 < n) (r : Int) (hr : r = (n.tmod 10).natAbs) : dec n = dec (n.tdiv 10) ++ [digc r.toNat] := by
  rcases h with h | h
  · obtain ⟨N, rfl⟩ : ∃ N : Nat, n = -(N : Int) := ⟨(-n).toNat, by omega⟩
    rw [tmod_neg] at hr
    rw [tdiv_neg, dec_neg (by omega), dec_neg (by omega), show (-(-(N : Int))).toNat = N by omega, show (-(-((N / 10 : Nat) : Int))).toNat = N / 10 by omega, decN_big (by omega)]
    rw [show r.toNat = N % 10 by omega]; simp
  · obtain ⟨N, rfl⟩ : ∃ N : Nat, n = (N : Int) := ⟨n.toNat, by omega⟩
    rw [show ((10 : Int)) = ((10 : Nat) : Int) from rfl, tmod_nat] at hr
    rw [Int.tdiv_eq_ediv_of_nonneg (by omega), dec_pos (by omega), dec_pos (by omega), show ((N : Int)).toNat = N by omega, show ((N : Int) / 10).toNat = N / 10 by omega, decN_big (by omega)]
    rw [show r.toNat = N % 10 by omega]

set_option maxRecDepth 100000 in
/-- the document's Put -/
theorem rput_any : ∀ (k : Nat) (w : World) (n : Int), n.natAbs ≤ k → -9223372036854775808 ≤ n → n ≤ 9223372036854775807 →
    Calls Try.prog 32 #[.int .i64 n] w fun e w' => e = .returned (.string (str (dec n))) ∧ Keeps (fun _ => False) w w' := by
  intro k
  induction k with
  | zero =>
    intro w n hk h1 h2
    obtain rfl : n = 0 := by omega
    go_enter Try.func32, Try.ntmps32
    go_wp2_with (go_at_call 47; refine (rdigit_any _ _ (by omega) (by omega)).mono ?_; rintro e w2 ⟨rfl, k2⟩)
    go_ret
    exact ⟨congrArg (fun s => Ending.returned (Value.string s)) (ba_ext (by rw [dec_pos (by omega), decN_small (by omega)]; rfl)), k2⟩
  | succ k ih =>
    intro w n hk h1 h2
    by_cases ha : 0 ≤ n ∧ n < 10
    · obtain ⟨ha1, ha2⟩ := ha
      have hd := dec_pos ha1
      rw [decN_small (by omega)] at hd
      have HD := Lib.hid hd
      clear hd ih
      go_enter Try.func32, Try.ntmps32
      go_wp2_with (go_at_call 47; refine (rdigit_any _ _ (by omega) (by omega)).mono ?_; rintro e w2 ⟨rfl, k2⟩)
      go_ret
      exact ⟨by rw [HD.out]; rfl, k2⟩
    · by_cases hb : n < 0 ∧ -10 < n
      · obtain ⟨hb1, hb2⟩ := hb
        have hd := dec_neg hb1
        rw [decN_small (by omega)] at hd
        have HD := Lib.hid hd
        have hn0 : decide (0 ≤ n) = false := by simp; omega
        clear hd ih ha
        go_enter Try.func32, Try.ntmps32
        go_wp2_with (go_at_call 47; refine (rdigit_any _ _ (by omega) (by omega)).mono ?_; rintro e w2 ⟨rfl, k2⟩)
        go_ret
        exact ⟨by rw [HD.out]; exact congrArg (fun s => Ending.returned (Value.string s)) (ba_ext (by rw [append_str', str_list, str_list]; rfl)), k2⟩
      · have hc : n < -9 ∨ 9 < n := by omega
        have hd : ∀ r, r = ((n.tmod 10).natAbs : Int) → dec n = dec (n.tdiv 10) ++ [digc r.toNat] := fun r => dec_last n hc r
        have hq : (n.tdiv 10).natAbs ≤ k := by rw [Int.natAbs_tdiv]; show n.natAbs / 10 ≤ k; omega
        have hq1 : -9223372036854775808 ≤ n.tdiv 10 ∧ n.tdiv 10 ≤ 9223372036854775807 := by
          rcases hc with hc | hc
          · obtain ⟨N, rfl⟩ : ∃ N : Nat, n = -(N : Int) := ⟨(-n).toNat, by omega⟩
            rw [tdiv_neg]; omega
          · rw [Int.tdiv_eq_ediv_of_nonneg (by omega)]; omega
        have hm : -10 < n.tmod 10 ∧ n.tmod 10 < 10 := by
          rcases hc with hc | hc
          · obtain ⟨N, rfl⟩ : ∃ N : Nat, n = -(N : Int) := ⟨(-n).toNat, by omega⟩
            rw [tmod_neg]; omega
          · rw [Int.tmod_eq_emod_of_nonneg (by omega)]; omega
        obtain ⟨q, hqq⟩ : ∃ q, n.tdiv 10 = q := ⟨_, rfl⟩
        obtain ⟨m, hmm⟩ : ∃ m, n.tmod 10 = m := ⟨_, rfl⟩
        rw [hqq] at hd hq hq1
        rw [hmm] at hd hm
        obtain ⟨hq1, hq2⟩ := hq1
        obtain ⟨hm1, hm2⟩ := hm
        have HD := Lib.hid hd
        have HI := Lib.hid (ih · q hq hq1 hq2)
        have hsz : ((str (dec q)).size : Int) ≤ 20 := by rw [str_size]; have := dec_le hq1 hq2; omega
        have hX : (0 ≤ n ∧ n < 10) = False := eq_false ha
        have hY : (n < 0 ∧ -10 < n) = False := eq_false hb
        have g1 : (decide (0 ≤ n) && decide (n < 10)) = false := by simp; omega
        have g2 : (decide (n < 0) && decide (-10 < n)) = false := by simp; omega
        have e1 : n.tmod 10 = m := hmm
        have e2 : n.tdiv 10 = q := hqq
        clear hd ih hX hY hk hq
        have hone : ∀ x : Nat, (str [digc x]).size = 1 := fun _ => rfl
        go_enter Try.func32, Try.ntmps32
        go_wp2_with (first
          | (go_at_call 47; go_must (refine (rdigit_any _ _ (by omega) (by omega)).mono ?_; rintro e w3 ⟨rfl, k3⟩))
          | (go_at_call 32; go_must (refine (HI.out _).mono ?_; rintro e w2 ⟨rfl, k2⟩)))
        all_goals go_ret
        all_goals exact ⟨congrArg (fun s => Ending.returned (Value.string s)) (ba_ext (by rw [append_str', str_list, str_list, str_list]; exact (HD.out _ (by omega)).symm)), k2.trans k3⟩
end Go.Proofs.Ytfbdpmeelejdhaa
