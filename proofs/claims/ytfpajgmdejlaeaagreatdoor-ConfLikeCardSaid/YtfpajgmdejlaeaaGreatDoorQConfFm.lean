/-
  What may be can be printed: how many bytes that takes at most. No program in sight.
-/
import Derived.Test.YtfpajgmdejlaeaaGreatDoorQConfIs
import Derived.Test.YtfpajgmdejlaeaaGreatDoorQConfFn
namespace Go.Proofs.YtfpajgmdejlaeaaGreatDoor
open Go.RowKit

theorem arg_len (s : List UInt8) : (argPr s).1.length ≤ 2 * s.length + 2 := by
  unfold argPr
  split
  · simp only; omega
  · exact put_len_lexbackm 2 s
theorem argsT_len : ∀ (l : List ByteArray) (M : Nat), (∀ s ∈ l, s.size ≤ M) → (argsT l).length ≤ l.length * (2 * M + 3)
  | [], M, _ => by simp [argsT]
  | a :: l, M, h => by
    have ih := argsT_len l M fun s hs => h s (by simp [hs])
    have h1 := arg_len a.data.toList
    have h2 := h a (by simp)
    have hl : a.data.toList.length = a.size := by simp
    show (32 :: (argPr a.data.toList).1 ++ argsT l).length ≤ _
    rw [List.length_append, List.length_cons, List.length_cons, Nat.succ_mul]
    omega
theorem cost_one {k : ByteArray} {as_ : List ByteArray} {d n M : Nat} (hk : k.size ≤ 10) (hl : as_.length ≤ n) (h : ∀ s ∈ as_, s.size ≤ M) : costN (oneN k as_) d ≤ 4 * d + 18 + n * (2 * M + 3) := by
  unfold oneN
  rw [costN, costL, head_text, List.length_append]
  have h1 := argsT_len as_ M h
  have h2 := Nat.mul_le_mul_right (2 * M + 3) hl
  have h3 : k.data.toList.length = k.size := by simp
  omega
theorem costL_app (d : Nat) : ∀ (xs ys : List Nd), costL (xs ++ ys) d = costL xs d + costL ys d
  | [], ys => by rw [List.nil_append, costL, Nat.zero_add]
  | x :: xs, ys => by rw [List.cons_append, costL, costL, costL_app d xs ys]; omega
theorem costL_map {α : Type} {f : α → Nd} {K d : Nat} : ∀ (l : List α), (∀ x ∈ l, costN (f x) d ≤ K) → costL (l.map f) d ≤ l.length * K
  | [], _ => by rw [List.map_nil, costL]; simp
  | x :: l, h => by
    rw [List.map_cons, costL, List.length_cons, Nat.succ_mul]
    have := costL_map l fun y hy => h y (by simp [hy])
    have := h x (by simp)
    omega
theorem digS_small {n : Int} (h1 : -9223372036854775808 ≤ n) (h2 : n ≤ 9223372036854775807) : (digS n).size ≤ 20 := by
  unfold digS
  rw [str_size]
  exact dec_le h1 h2
theorem kindW_small (k : Int) : (kindW k).size ≤ 20 := by unfold kindW; split; decide; split <;> decide
theorem levelW_small (k : Int) : (levelW k).size ≤ 20 := by
  unfold levelW
  split
  · rename_i h
    obtain ⟨j, rfl⟩ : ∃ j : Nat, k = j := ⟨k.toNat, by omega⟩
    have : j = 0 ∨ j = 1 ∨ j = 2 ∨ j = 3 := by omega
    rcases this with rfl | rfl | rfl | rfl <;> decide
  · decide
theorem cost_told {x : Con} {M : Nat} (hM : 20 ≤ M) (hn : x.name.size ≤ M) (hi : x.init.size ≤ M) (h : ∀ n ∈ [x.lines, x.bytes, x.gens, x.size, x.base, x.cap, x.jitter], -9223372036854775808 ≤ n ∧ n ≤ 9223372036854775807) : costN (toldN x) 0 ≤ 300 + 10 * (2 * M + 3) := by
  unfold toldN
  rw [costN, head_text, List.length_append]
  have h0 := argsT_len [x.name] M (fun s hs => by obtain rfl := List.mem_singleton.1 hs; exact hn)
  have d := fun n hn => digS_small (h n hn).1 (h n hn).2
  have one1 : ∀ (k a : ByteArray), k.size ≤ 10 → a.size ≤ M → costN (oneN k [a]) 1 ≤ 22 + (2 * M + 3) := fun k a hk ha => by
    have := cost_one (d := 1) (n := 1) (M := M) hk (show [a].length ≤ 1 by simp) (fun s hs => by obtain rfl := List.mem_singleton.1 hs; exact ha)
    omega
  have dM : ∀ n ∈ [x.lines, x.bytes, x.gens, x.size, x.base, x.cap, x.jitter], (digS n).size ≤ M := fun n hn => Nat.le_trans (d n hn) hM
  have c1 := one1 kKind (kindW x.kind) (by decide) (Nat.le_trans (kindW_small _) hM)
  have c2 := one1 kLines (digS x.lines) (by decide) (dM _ (by simp))
  have c3 := one1 kBytes (digS x.bytes) (by decide) (dM _ (by simp))
  have c4 := one1 kGens (digS x.gens) (by decide) (dM _ (by simp))
  have c5 := one1 kSize (digS x.size) (by decide) (dM _ (by simp))
  have c6 := cost_one (d := 1) (n := 3) (M := M) (show kRetry.size ≤ 10 by decide) (show [digS x.base, digS x.cap, digS x.jitter].length ≤ 3 by simp) (fun s hs => by
    simp only [List.mem_cons, List.not_mem_nil, or_false] at hs
    rcases hs with rfl | rfl | rfl <;> exact dM _ (by simp))
  have c7 := one1 kInit x.init (by decide) hi
  have hk : kConsole.data.toList.length = 7 := rfl
  unfold subT
  rw [costL, costL, costL, costL, costL, costL, costL, costL]
  simp only [List.length_cons, List.length_nil] at h0
  simp only [Nat.zero_add]
  omega
theorem cost_brks {M : Nat} (hM : 20 ≤ M) : ∀ (l : List ByteArray) (i : Int), 0 ≤ i → i + l.length ≤ 1000 → (∀ s ∈ l, s.size ≤ M) → costL (brkNds i l) 0 ≤ l.length * (18 + 2 * (2 * M + 3))
  | [], i, _, _, _ => by rw [brkNds, costL]; simp
  | s :: l, i, h0, h1, h => by
    rw [List.length_cons] at h1
    have ih := cost_brks hM l (i + 1) (by omega) (by omega) fun x hx => h x (by simp [hx])
    rw [brkNds, List.length_cons, Nat.succ_mul]
    split
    · omega
    · rw [costL]
      have := cost_one (d := 0) (n := 2) (M := M) (show kBreak.size ≤ 10 by decide) (show [digS i, s].length ≤ 2 by simp) (fun a ha => by
        simp only [List.mem_cons, List.not_mem_nil, or_false] at ha
        rcases ha with rfl | rfl
        · exact Nat.le_trans (digS_small (by omega) (by omega)) hM
        · exact h a (by simp))
      omega
/-- how many bytes a configuration takes at most, whose texts have so many -/
theorem cost_conf {c : Cf} {M N : Nat} (hM : 20 ≤ M) (hcons : ∀ x ∈ c.cons, x.name.size ≤ M ∧ x.init.size ≤ M ∧ ∀ n ∈ [x.lines, x.bytes, x.gens, x.size, x.base, x.cap, x.jitter], -9223372036854775808 ≤ n ∧ n ≤ 9223372036854775807) (hgrps : ∀ x ∈ c.grps, x.name.size ≤ M ∧ x.pats.length ≤ N ∧ ∀ s ∈ x.pats, s.size ≤ M) (husrs : ∀ x ∈ c.usrs, x.name.size ≤ M ∧ x.pass.size ≤ M) (haccs : ∀ x ∈ c.accs, x.con.size ≤ M ∧ x.user.size ≤ M) (hbrks : c.brks.length ≤ 10 ∧ ∀ s ∈ c.brks, s.size ≤ M) :
    costL (nodesC c) 0 ≤ 10 * (18 + 2 * (2 * M + 3)) + c.cons.length * (300 + 10 * (2 * M + 3)) + c.grps.length * (18 + (N + 1) * (2 * M + 3)) + c.usrs.length * (18 + 2 * (2 * M + 3)) + c.accs.length * (18 + 3 * (2 * M + 3)) := by
  unfold nodesC
  rw [costL_app, costL_app, costL_app, costL_app]
  have h1 := cost_brks hM c.brks 0 (by omega) (by have := hbrks.1; omega) hbrks.2
  have h1' := Nat.mul_le_mul_right (18 + 2 * (2 * M + 3)) hbrks.1
  have h2 := costL_map (f := toldN) (d := 0) c.cons (fun x hx => cost_told hM (hcons x hx).1 (hcons x hx).2.1 (hcons x hx).2.2)
  have h3 := costL_map (f := grpN) (d := 0) (K := 18 + (N + 1) * (2 * M + 3)) c.grps (fun x hx => by
    have := cost_one (d := 0) (n := N + 1) (M := M) (show kGroup.size ≤ 10 by decide) (show (x.name :: x.pats).length ≤ N + 1 by rw [List.length_cons]; have := (hgrps x hx).2.1; omega) (fun a ha => by
      rcases List.mem_cons.1 ha with rfl | ha
      · exact (hgrps x hx).1
      · exact (hgrps x hx).2.2 a ha)
    unfold grpN; omega)
  have h4 := costL_map (f := usrN) (d := 0) (K := 18 + 2 * (2 * M + 3)) c.usrs (fun x hx => by
    have := cost_one (d := 0) (n := 2) (M := M) (show kUser.size ≤ 10 by decide) (show [x.name, x.pass].length ≤ 2 by simp) (fun a ha => by
      simp only [List.mem_cons, List.not_mem_nil, or_false] at ha
      rcases ha with rfl | rfl
      · exact (husrs x hx).1
      · exact (husrs x hx).2)
    unfold usrN; omega)
  have h5 := costL_map (f := accN) (d := 0) (K := 18 + 3 * (2 * M + 3)) c.accs (fun x hx => by
    have := cost_one (d := 0) (n := 3) (M := M) (show kAccess.size ≤ 10 by decide) (show [x.con, x.user, levelW x.level].length ≤ 3 by simp) (fun a ha => by
      simp only [List.mem_cons, List.not_mem_nil, or_false] at ha
      rcases ha with rfl | rfl | rfl
      · exact (haccs x hx).1
      · exact (haccs x hx).2
      · exact Nat.le_trans (levelW_small _) hM)
    unfold accN; omega)
  omega
theorem CfG.fine {c : Cf} (h : CfG c) : CfFine c := by
  have hs := h.short
  have hcons : ∀ x ∈ c.cons, x.name.size ≤ 255 ∧ x.init.size ≤ 255 ∧ ∀ n ∈ [x.lines, x.bytes, x.gens, x.size, x.base, x.cap, x.jitter], -9223372036854775808 ≤ n ∧ n ≤ 9223372036854775807 := fun x hx => ⟨by have := is_size (h.cons x hx).1; omega, brk_size (h.cons x hx).2.init, (hs.cons x hx).2.2⟩
  refine ⟨h.few, fun x hx => (hs.cons x hx).2.2, fun x hx => (hs.grps x hx).2.1, fine_good h, ?_⟩
  have := cost_conf (c := c) (M := 255) (N := 15) (by omega) hcons (fun x hx => by
    obtain ⟨h1, h2, h3, h4⟩ := h.grps x hx
    exact ⟨by have := is_size h1; omega, h3, fun s hs => by have := fits_size (List.all_eq_true.1 h4 s hs); omega⟩) (fun x hx => by
    obtain ⟨h1, h2⟩ := h.usrs x hx
    exact ⟨by have := is_size h1; omega, by have := secret_size h2; omega⟩) (fun x hx => by
    obtain ⟨h1, h2, -⟩ := h.accs x hx
    exact ⟨by have := fits_size h1; omega, by have := fits_size h2; omega⟩) ⟨by rw [h.brksL]; omega, fun s hs => by
    rcases h.brks s hs with e | e
    · omega
    · exact brk_size e⟩
  have a1 := h.consL
  have a2 := h.grpsL
  have a3 := h.usrsL
  have a4 := h.accsL
  omega
end Go.Proofs.YtfpajgmdejlaeaaGreatDoor
