/-
  conf: default; statement.
-/
import Derived.Test.YtfpajgmdejlaeaaGreatDoorQConfN
import Derived.Test.YtfpajgmdejlaeaaGreatDoorQConfO
import Derived.Test.YtfpajgmdejlaeaaGreatDoorQConfR
namespace Go.Proofs.YtfpajgmdejlaeaaGreatDoor
open Go.RowKit Go.Maps

theorem Ld.setU {w w' : World} {g M B : Nat} {cv gv uv av : Value} {b0 b1 b2 b3 b4 b5 b6 b7 b8 b9 : ByteArray} {c : Cf} {u y : Con} {ks : List SK} {cs' : Array Value} (h : Ld w g M B cv gv uv av b0 b1 b2 b3 b4 b5 b6 b7 b8 b9 c u ks) (k : Keeps (fun i => i = g) w w') (hc : ConAt w' 57 g 14 y cs') (hb : Beside (ldL cv gv uv av b0 b1 b2 b3 b4 b5 b6 b7 b8 b9 u M).toArray cs' 14) : Ld w' g M B cv gv uv av b0 b1 b2 b3 b4 b5 b6 b7 b8 b9 c y ks := by
  have e : cs' = (ldL cv gv uv av b0 b1 b2 b3 b4 b5 b6 b7 b8 b9 y M).toArray := by
    apply Array.ext_getElem?
    intro i
    by_cases h1 : i < 14
    · rw [hb.2 i (.inl h1)]
      match i, h1 with
      | 0, _ => rfl
      | 1, _ => rfl
      | 2, _ => rfl
      | 3, _ => rfl
      | 4, _ => rfl
      | 5, _ => rfl
      | 6, _ => rfl
      | 7, _ => rfl
      | 8, _ => rfl
      | 9, _ => rfl
      | 10, _ => rfl
      | 11, _ => rfl
      | 12, _ => rfl
      | 13, _ => rfl
    · by_cases h2 : i < 24
      · obtain ⟨j, rfl⟩ : ∃ j, i = 14 + j := ⟨i - 14, by omega⟩
        have hj : j < (conR y).length := by rw [conR_len]; omega
        rw [hc.2 j _ (List.getElem?_eq_getElem hj)]
        have hj10 : j < 10 := by omega
        match j, hj10 with
        | 0, _ => rfl
        | 1, _ => rfl
        | 2, _ => rfl
        | 3, _ => rfl
        | 4, _ => rfl
        | 5, _ => rfl
        | 6, _ => rfl
        | 7, _ => rfl
        | 8, _ => rfl
        | 9, _ => rfl
      · rw [hb.2 i (.inr (by omega))]
        by_cases h3 : i = 24
        · subst h3; rfl
        · rw [Array.getElem?_eq_none (by simp [ldL]; omega), Array.getElem?_eq_none (by simp [ldL]; omega)]
  rw [e] at hc
  have hm := h.seen.isMap
  obtain ⟨rs, g1, g2⟩ := h.grps
  exact ⟨hc.1, h.brk, h.cons.keeps k (fun i _ _ ⟨cs, hb'⟩ e => Blk.ne_ hb' h.blk (by decide) e), ⟨rs, g1.keeps k (fun i _ _ ⟨cs, hb'⟩ e => Blk.ne_ hb' h.blk (by decide) e), g2.keeps k (fun i cs hb' e => Blk.ne_ hb' h.blk (by decide) e)⟩, h.usrs.keeps k (fun i _ _ ⟨cs, hb'⟩ e => Blk.ne_ hb' h.blk (by decide) e), h.accs.keeps k (fun i _ _ ⟨cs, hb'⟩ e => Blk.ne_ hb' h.blk (by decide) e), h.seen.keeps k (fun e => map_ne15 h.blk hm e.symm), h.hg, h.hM, h.pos⟩
theorem Ld.usual {w : World} {g M B : Nat} {cv gv uv av : Value} {b0 b1 b2 b3 b4 b5 b6 b7 b8 b9 : ByteArray} {c : Cf} {u : Con} {ks : List SK} (h : Ld w g M B cv gv uv av b0 b1 b2 b3 b4 b5 b6 b7 b8 b9 c u ks) : ConAt w 57 g 14 u (ldL cv gv uv av b0 b1 b2 b3 b4 b5 b6 b7 b8 b9 u M).toArray :=
  ⟨h.blk, fun k v hv => by
    have hk : k < 10 := (List.getElem?_eq_some_iff.1 hv).1
    rw [List.getElem?_toArray]
    match k, hk, hv with
    | 0, _, hv => exact hv
    | 1, _, hv => exact hv
    | 2, _, hv => exact hv
    | 3, _, hv => exact hv
    | 4, _, hv => exact hv
    | 5, _, hv => exact hv
    | 6, _, hv => exact hv
    | 7, _, hv => exact hv
    | 8, _, hv => exact hv
    | 9, _, hv => exact hv⟩
theorem StmtPost.ret {O : (Int × Int) ⊕ (Cf × Con)} {g M B n : Nat} {w w' : World} {e : Ending} (h : StmtPost O g M B n w e w') : ∃ v, e = .returned v ∧ StmtPost O g M B n w (.returned v) w' := by
  cases O with
  | inl c => obtain ⟨v, ch, rfl, -⟩ := h.2.1 c.1 c.2 rfl; exact ⟨v, rfl, h⟩
  | inr y => obtain ⟨rfl, -⟩ := h.1 y.1 y.2 rfl; exact ⟨_, rfl, h⟩
theorem StmtPost.from_ {O O' : (Int × Int) ⊕ (Cf × Con)} {g M B n : Nat} {w wa w' : World} {e : Ending} (h : StmtPost O g M B n wa e w') (k : Keeps (fun _ => False) w wa) (hO : O' = O) : StmtPost O' g M B n w e w' := by
  subst hO; exact ⟨h.1, h.2.1, k.none_.and_ h.2.2 (fun _ _ h => h)⟩
def defS (c : Cf) (u : Con) (x : Nd) : (Int × Int) ⊕ (Cf × Con) :=
  if formP x 0 true then (match setsS c.cons u (subN x) with
      | .inl e => .inl e
      | .inr y => .inr (c, y))
  else .inl (3, lineN x)
theorem stmtS_console {c : Cf} {u : Con} {x : Nd} (h : keyN x = kConsole) : stmtS c u x = consoleS c u x := by unfold stmtS; rw [if_pos h]; rfl
theorem stmtS_user {c : Cf} {u : Con} {x : Nd} (h : keyN x = kUser) : stmtS c u x = userS c u x := by unfold stmtS; rw [if_neg (by rw [h]; decide), if_neg (by rw [h]; decide), if_pos h]; rfl
theorem stmtS_access {c : Cf} {u : Con} {x : Nd} (h : keyN x = kAccess) : stmtS c u x = accessS c u x := by unfold stmtS; rw [if_neg (by rw [h]; decide), if_neg (by rw [h]; decide), if_neg (by rw [h]; decide), if_pos h]; rfl
theorem stmtS_break {c : Cf} {u : Con} {x : Nd} (h : keyN x = kBreak) : stmtS c u x = brkS c u x := by unfold stmtS; rw [if_neg (by rw [h]; decide), if_neg (by rw [h]; decide), if_neg (by rw [h]; decide), if_neg (by rw [h]; decide), if_pos h]; rfl
theorem stmtS_default {c : Cf} {u : Con} {x : Nd} (h : keyN x = kDefault) : stmtS c u x = defS c u x := by unfold stmtS; rw [if_neg (by rw [h]; decide), if_neg (by rw [h]; decide), if_neg (by rw [h]; decide), if_neg (by rw [h]; decide), if_neg (by rw [h]; decide), if_pos h]; rfl
theorem stmtS_else {c : Cf} {u : Con} {x : Nd} (h : ∀ k ∈ [kConsole, kGroup, kUser, kAccess, kBreak, kDefault], keyN x ≠ k) : stmtS c u x = .inl (3, lineN x) := by
  simp only [List.mem_cons, List.not_mem_nil, or_false, forall_eq_or_imp, forall_eq] at h
  obtain ⟨h1, h2, h3, h4, h5, h6⟩ := h
  unfold stmtS
  rw [if_neg h1, if_neg h2, if_neg h3, if_neg h4, if_neg h5, if_neg h6]
end Go.Proofs.YtfpajgmdejlaeaaGreatDoor
