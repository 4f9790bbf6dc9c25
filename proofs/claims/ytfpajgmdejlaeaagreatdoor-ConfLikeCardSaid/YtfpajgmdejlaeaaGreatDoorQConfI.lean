/-
  conf: which names were, in a map.
-/
import Derived.Test.YtfpajgmdejlaeaaGreatDoorQGround3
import Derived.Test.YtfpajgmdejlaeaaGreatDoorQStoM
namespace Go.Proofs.YtfpajgmdejlaeaaGreatDoor
open Go.RowKit Go.Maps

/-- a name that was: its key, its line -/
structure SK where
  nm : ByteArray
  n : Nat
def natR : Value → Option (DataW Unit × List MemPlace)
  | .int .i64 n => some (.lit (.int .i64 n), [])
  | _ => none
theorem natR_inv {v : Value} {n : Int} {ps : List MemPlace} (h : natR v = some (.lit (.int .i64 n), ps)) : v = .int .i64 n := by
  unfold natR at h
  split at h
  · simp only [Option.some.injEq, Prod.mk.injEq, DataW.lit.injEq, Lit.int.injEq, true_and] at h
    rw [h.1]
  · cases h
/-- the map of names -/
def SeenAt (w : World) (M : Nat) (ks : List SK) : Prop := w.ownsMap Tryz.prog 9 natR M ks.length (mapD SK.nm SK.n ks)
abbrev strK : Keyed Tryz.prog 9 := string_keyed Tryz.underlying9
theorem str_key (nm : ByteArray) (hn : nm.size ≤ maxLen) : keyOf Tryz.prog 9 (.string nm) = some (.string nm.data.toList) := WideMaps.keyOf_string_mk Tryz.underlying9 hn
theorem int_zero (w : World) : (zeroValue 3).run Tryz.prog w = .ok (.int .i64 0) w := by kernel_rfl
theorem SeenAt.keeps {w w' : World} {M : Nat} {ks : List SK} {S : Nat → Prop} (h : SeenAt w M ks) (k : Keeps S w w') (hS : ¬ S M) : SeenAt w' M ks := ownsMap_keeps h k hS
theorem SeenAt.isMap {w : World} {M : Nat} {ks : List SK} (h : SeenAt w M ks) : ∃ es c, w.heap[M]? = some (.map es c) := by
  obtain ⟨es, c, hb, _⟩ := h
  exact ⟨es, c, hb⟩
theorem SeenAt.lt {w : World} {M : Nat} {ks : List SK} (h : SeenAt w M ks) : M < w.heap.size := World.ownsMap.lt h
/-- the line of a name that was; 0 -/
def seenN (ks : List SK) (nm : ByteArray) : Int := match getG SK.nm nm ks with | some x => x.n | none => 0
theorem SeenAt.look {w : World} {M : Nat} {ks : List SK} (h : SeenAt w M ks) (nm : ByteArray) (hn : nm.size ≤ maxLen) : (Instr.lookup 55 (.map (some M)) (.string nm) false).run Tryz.prog w = .ok (.int .i64 (seenN ks nm)) w := by
  obtain ⟨v, ps, hrun, hv⟩ := World.ownsMap.lookup h strK Tryz.underlying55 (int_zero w) (zd := .lit (.int .i64 0)) (zp := []) rfl (str_key nm hn)
  rw [mapD_at] at hv
  rw [hrun]
  unfold seenN
  cases hg : getG SK.nm nm ks with
  | none => rw [hg] at hv; rw [natR_inv hv]
  | some r => rw [hg] at hv; rw [natR_inv hv]
theorem SeenAt.put {w : World} {M : Nat} {ks : List SK} (h : SeenAt w M ks) (r : SK) (hn : r.nm.size ≤ maxLen) (hL : ks.length < maxLen) :
    ∃ w', (Instr.mapUpdate 55 (.map (some M)) (.string r.nm) (.int .i64 r.n)).run Tryz.prog w = .ok () w' ∧ SeenAt w' M (putG SK.nm r ks) ∧ Keeps (fun i => i = M) w w' := by
  obtain ⟨w', hrun, hm, ht⟩ := World.ownsMap.store h strK Tryz.underlying55 hL (str_key r.nm hn) (val := .int .i64 r.n) (d := .lit (.int .i64 r.n)) (ps := []) rfl
  refine ⟨w', hrun, ?_, turned_keeps ht⟩
  have hm2 : w'.ownsMap Tryz.prog 9 natR M (ks.length + 1) (mapD SK.nm SK.n (putG SK.nm r ks)) := by
    rw [← mapD_put]; exact hm
  have := ownsMap_len hm2
  rwa [List.length_map] at this
theorem putG_get {ks : List SK} {r : SK} {nm : ByteArray} : (getG SK.nm nm (putG SK.nm r ks)).isSome = (decide (r.nm = nm) || (getG SK.nm nm ks).isSome) := by
  unfold getG
  rw [List.isSome_find?, List.isSome_find?, Bool.eq_iff_iff]
  simp only [List.any_eq_true, Bool.or_eq_true, decide_eq_true_eq]
  constructor
  · rintro ⟨y, hy, he⟩
    rcases insG_mem.1 hy with rfl | hy
    · exact .inl he
    · exact .inr ⟨y, (delG_mem.1 hy).1, he⟩
  · rintro (he | ⟨y, hy, he⟩)
    · exact ⟨r, insG_mem.2 (.inl rfl), he⟩
    · by_cases e : SK.nm y = SK.nm r
      · exact ⟨r, insG_mem.2 (.inl rfl), by rw [← e]; exact he⟩
      · exact ⟨y, insG_mem.2 (.inr (delG_mem.2 ⟨hy, e⟩)), he⟩
theorem putG_pos {ks : List SK} {r : SK} (h : ∀ x ∈ ks, 0 < x.n) (hr : 0 < r.n) : ∀ x ∈ putG SK.nm r ks, 0 < x.n := by
  intro x hx
  rcases insG_mem.1 hx with rfl | hx
  · exact hr
  · exact h x (delG_mem.1 hx).1
theorem seenN_pos {ks : List SK} {nm : ByteArray} (h : ∀ x ∈ ks, 0 < x.n) : (0 < seenN ks nm) = ((getG SK.nm nm ks).isSome = true) := by
  unfold seenN
  cases hg : getG SK.nm nm ks with
  | none => simp
  | some x =>
    have := h x (getG_some hg).1
    simp; omega
theorem putG_len (r : SK) (ks : List SK) : (putG SK.nm r ks).length ≤ ks.length + 1 := by
  unfold putG
  rw [insG_len]
  have : (delG SK.nm r.nm ks).length ≤ ks.length := List.length_filter_le _ _
  exact Nat.succ_le_succ this
end Go.Proofs.YtfpajgmdejlaeaaGreatDoor
