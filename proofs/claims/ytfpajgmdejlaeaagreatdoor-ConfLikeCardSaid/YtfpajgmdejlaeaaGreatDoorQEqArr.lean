/-
  The model's '==' at an array of texts. No program in sight.
-/
import Derived.Test.YtfpajgmdejlaeaaGreatDoorQGround1
import Derived.Laws.StructEq
namespace Go.Proofs.YtfpajgmdejlaeaaGreatDoor
open Go.RowKit

def eqElems (d : Nat) (e : TypeId) (n : Nat) (xs ys : Array Value) : List Nat → Sem Bool
  | [] => pure true
  | i :: l => do
    let a ← part e xs (i * n)
    let b ← part e ys (i * n)
    let r ← Op.equalIn d e a b
    if (!r) = true then pure false else eqElems d e n xs ys l
section
variable {P : Program} (w : World)
theorem run_equalIn_arr (d : Nat) (t e : TypeId) (len n : Nat) (xs ys : Array Value) (ht : P.underlying t = some (.array len e)) (hn : (sizeOf e).run P w = .ok n w) :
    (Op.equalIn (d + 1) t (.agg xs) (.agg ys)).run P w = (eqElems d e n xs ys (List.range' 0 len)).run P w := by
  simp only [Op.equalIn, Sem.run_bind, run_underlying ht, Result.andThen_ok, hn]
  rw [Std.Legacy.Range.forIn_eq_forIn_range']
  simp only [Std.Legacy.Range.size, Nat.sub_zero, Nat.add_sub_cancel, Nat.div_one]
  generalize List.range' 0 len = fs
  clear ht hn
  induction fs generalizing w with
  | nil => simp [eqElems]
  | cons f fs ih =>
    simp only [List.forIn_cons, eqElems, Sem.run_bind, Sem.run_ite]
    generalize (part e xs (f * n)).run P w = r1
    cases r1 with
    | ok a w1 =>
      simp only [Result.andThen_ok]
      generalize (part e ys (f * n)).run P w1 = r2
      cases r2 with
      | ok b w2 =>
        simp only [Result.andThen_ok]
        generalize (Op.equalIn d e a b).run P w2 = r3
        cases r3 with
        | ok r w3 =>
          cases r
          · simp only [Result.andThen_ok, Bool.not_false, if_true, Sem.run_pure]
          · simp only [Result.andThen_ok, Bool.not_true, Bool.false_eq_true, if_false, Sem.run_pure]
            exact ih w3
        | halt x w3 => simp [Result.andThen]
      | halt x w2 => simp [Result.andThen]
    | halt x w1 => simp [Result.andThen]
theorem run_eqElems_str (d : Nat) (e : TypeId) (xs ys : List ByteArray) (he : P.underlying e = some .string) : ∀ (l : List Nat), (∀ i ∈ l, i < xs.length ∧ i < ys.length) →
    (eqElems (d + 1) e 1 (xs.map Value.string).toArray (ys.map Value.string).toArray l).run P w = .ok (l.all fun i => (xs.getD i ⟨#[]⟩).toList == (ys.getD i ⟨#[]⟩).toList) w
  | [], _ => by simp [eqElems]
  | i :: l, h => by
    obtain ⟨h1, h2⟩ := h i (by simp)
    have hx : ((xs.map Value.string).toArray)[i]? = some (.string (xs.getD i ⟨#[]⟩)) := by simp [h1]
    have hy : ((ys.map Value.string).toArray)[i]? = some (.string (ys.getD i ⟨#[]⟩)) := by simp [h2]
    have ih := run_eqElems_str d e xs ys he l (fun j hj => h j (by simp [hj]))
    have p1 : ∀ (zs : Array Value) (v : Value), zs[i]? = some v → (part e zs i).run P w = .ok v w := fun zs v hv => by simp [part, isAgg, run_underlying he, hv]
    rw [eqElems]
    simp only [Nat.mul_one, Sem.run_bind, p1 _ _ hx, p1 _ _ hy, Result.andThen_ok, run_equalIn_string w d e _ _ he, Sem.run_ite, Sem.run_pure, ih, List.all_cons]
    cases ((xs.getD i ⟨#[]⟩).toList == (ys.getD i ⟨#[]⟩).toList) <;> simp
/-- '==' of two arrays of texts -/
theorem run_eql_strs (t e : TypeId) (len : Nat) (xs ys : List ByteArray) (ht : P.underlying t = some (.array len e)) (he : P.underlying e = some .string) (hn : (sizeOf e).run P w = .ok 1 w) (hx : xs.length = len) (hy : ys.length = len) :
    (Op.equalIn 10000 t (.agg (xs.map Value.string).toArray) (.agg (ys.map Value.string).toArray)).run P w = .ok (decide (xs = ys)) w := by
  rw [show (10000 : Nat) = 9998 + 1 + 1 from rfl, run_equalIn_arr w (9998 + 1) t e len 1 _ _ ht hn, run_eqElems_str w 9998 e xs ys he _ (fun i hi => by
    have := List.mem_range'.1 hi
    obtain ⟨k, hk, e⟩ := this
    omega)]
  congr 1
  by_cases hxy : xs = ys
  · subst hxy
    rw [decide_eq_true rfl, List.all_eq_true]
    intro i hi
    simp
  · rw [decide_eq_false hxy, ← Bool.not_eq_true, List.all_eq_true]
    intro hall
    apply hxy
    apply List.ext_getElem (hx.trans hy.symm)
    intro i h1 h2
    have := hall i (by rw [List.mem_range']; exact ⟨i, by omega, by omega⟩)
    rw [beq_iff_eq, ByteArray.toList_eq, ByteArray.toList_eq] at this
    have := ba_ext this
    simpa [List.getD_eq_getElem?_getD, h1, h2] using this
end
end Go.Proofs.YtfpajgmdejlaeaaGreatDoor
