/-
  Check of a splitter that is at a console's byte; law28's Parts; an append of many parts.
-/
import Derived.Test.YtcblaeleaebinaaFeedC
import Derived.Deep.RegionLaw
import Derived.Test.YtcblaeleaebinaaRef28
namespace Go.Proofs.Ytcblaeleaebinaa
open Go.RowKit

set_option maxRecDepth 100000 in
theorem check_ok (w : World) (sp : Nat) (v : Value) (hb : Blk w sp 57 #[.int .i64 0, v]) : Calls Try.prog 29 #[.pointer (some ⟨sp, 0, none⟩)] w (Qt (.int .i64 0) w) := by
  have c0 := hb.cell 0
  simp at c0
  go_enter Try.func29, Try.ntmps29
  go_wp2_with fail
  go_ret
  exact Qt.of0 rfl

set_option maxRecDepth 100000 in
set_option maxHeartbeats 2000000 in
theorem parts_any (w : World) (B : Nat) (vl : Value) (xs : List (List UInt8 × Bool)) (ho : OwnS partR 2 w B 95 vl xs) (hl : xs.length ≤ 4194304) :
    Calls Try.prog 27 #[vl] w fun e w' => ∃ v, e = .returned v ∧ OwnS partR 2 w' w.heap.size 52 v xs ∧ Keeps (fun _ => False) w w' := by
  obtain ⟨a8, c8, rfl, -, -, hne, hcl⟩ := ho.shape partR_len
  have HNE := Lib.hid hne
  have HCL := Lib.hid hcl
  clear hne hcl ho
  go_enter Try.func27, Try.ntmps27
  go_wp2_with fail
  go_loopw [3, 4] (fun u3 u4 wr => ∃ j : Nat, j ≤ xs.length ∧ u4 = .int .i64 j ∧ Hid (OwnS partR 2 wr w.heap.size 52 u3 (xs.take j) ∧ Keeps (fun _ => False) w wr)) (fun _ u4 _ => xs.length - (intOf u4).toNat)
  case atStart => exact ⟨0, Nat.zero_le _, rfl, Lib.hid ⟨OwnS.none_, Keeps.refl _ _⟩⟩
  case round =>
    obtain ⟨j, hj, rfl, HH⟩ := hrel
    by_cases hlt : j < xs.length
    · obtain ⟨x, hx⟩ : ∃ x, xs[j]? = some x := ⟨_, List.getElem?_eq_getElem hlt⟩
      obtain ⟨g8, rfl, -, hg8, -⟩ := HNE.out (by omega)
      have hc0 : ∀ w', Keeps (fun _ => False) wr w' → w'.cell? ⟨g8, j * 2, none⟩ = some (.string (str x.1)) := fun w' kk => by
        rw [(HH.out.2.trans kk).cellq _ _ hg8]; exact (HCL.out g8 rfl j x 0 _ hx rfl).1
      have hc1 : ∀ w', Keeps (fun _ => False) wr w' → w'.cell? ⟨g8, j * 2 + 1, none⟩ = some (.bool x.2) := fun w' kk => by
        rw [(HH.out.2.trans kk).cellq _ _ hg8]; exact (HCL.out g8 rfl j x 1 _ hx rfl).1
      have d0 := hc0 wr (Keeps.refl _ _)
      have d1 := hc1 wr (Keeps.refl _ _)
      have htk : xs.take (j + 1) = xs.take j ++ [x] := by rw [List.take_add_one, hx]; rfl
      have hszr := HH.out.2.size
      have hgr : g8 < wr.heap.size := by omega
      have htl : (xs.take j).length ≤ 17179869184 := by simp; omega
      obtain ⟨ys, hys⟩ : ∃ ys, ys = xs.take j := ⟨_, rfl⟩
      rw [← hys] at htk htl
      have hown := HH.out.1
      rw [← hys] at hown
      have HT := Lib.hid htk
      have HOW := Lib.hid hown
      have HTL := Lib.hid htl
      clear hx htk hys hown htl hc0 hc1
      go_wp2_with fail
      go_region_law ((refine step_append_st partR 2 partR_len (by decide) rfl _ _ _ rfl w.heap.size 52 (.agg #[.string ⟨#[]⟩, .bool false]) 24 Try.underlying48 (by kernel_rfl) rfl (by omega) u3 ys rfl (by exact OwnS.keeps (S := fun _ => False) HOW.out (by (repeat (first | (with_reducible assumption) | (with_reducible exact Keeps.refl _ _) | refine Keeps.drew ?_ | refine Keeps.drewN ?_ _ | refine Keeps.setCell ?_ (by simp) _ | refine Keeps.setRow ?_ (by simp) _ | refine Keeps.alloc ?_ _))) (fun _ _ _ _ => id)) wr.heap.size 1 x rfl (by first | exact Blk.new _ _ _ | exact (Blk.new _ _ _).drew) (partR_one _) HTL.out (by simp; omega) ?_; intro g7 cap7 w7 O7 k7 hat7; have kk7 : Keeps (fun i => w.heap.size ≤ i) wr w7 := (Keeps.and_ (by (repeat (first | (with_reducible assumption) | (with_reducible exact Keeps.refl _ _) | refine Keeps.drew ?_ | refine Keeps.drewN ?_ _ | refine Keeps.setCell ?_ (by simp) _ | refine Keeps.setRow ?_ (by simp) _ | refine Keeps.alloc ?_ _))) k7 (fun i _ h => (World.ownsRow.lt HOW.out i h).1)); clear k7; have HO7 := Lib.hid O7; have HK7 := Lib.hid kk7; clear O7 kk7 hat7))
      all_goals
        go_wp2_with fail
        go_roundw
        case rel => exact ⟨j + 1, by omega, by go_num, Lib.hid ⟨by rw [HT.out]; exact HO7.out, HH.out.2.and_ HK7.out (fun i hi e => by omega)⟩⟩
        case measure => simp [intOf]; omega
    · have hjx : xs.take j = xs := List.take_of_length_le (by omega)
      have HJX := Lib.hid hjx
      clear hjx
      go_wp2_with fail
      go_ret
      have := HH.out.1
      rw [HJX.out] at this
      exact ⟨u3, rfl, this, HH.out.2⟩

section
variable {P : Program} {α : Type}
/-- append of many elements, which lie in a slice of their own -/
theorem wpList_append_many (R : α → List Value) (size : Nat) (hR : ∀ x, (R x).length = size) (hsz : 0 < size) (h1 : ∀ x, ∀ u ∈ R x, u.oneCell' = true) {w : World} {ops : Array Oper} {rest : List Oper} {o : Oper} {a : Act} {Q : Exit → Act → World → Prop} (hgd : o.guard = none) (s x : Operand) (t : TypeId)
    (ho : o.op = .call { callee := .builtin .append, args := #[s, x], argTypes := #[t, t] }) (B B2 : Nat) (e : TypeId) (z : Value) (bytes : Nat) (ht : P.underlying t = some (.slice e))
    (hi : (P.info? e).map (fun i => (i.zero, i.size, i.bytes)) = some (some z, size, bytes)) (hz : z.cells.size = size) (hb16 : bytes ≤ 4096)
    (v v2 : Value) (xs ys : List α) (hs : a.eval s = v) (hown : OwnS R size w B e v xs) (hx : a.eval x = v2) (hown2 : OwnS R size w B2 e v2 ys)
    (hlen : xs.length + ys.length ≤ 17179869184) (hbase : B ≤ w.heap.size)
    (h : ∀ v' w', OwnS R size w' B e v' (xs ++ ys) → Keeps (fun i => B ≤ i ∧ ∃ cs, Blk w i e cs) w w' → wpList P ops Q rest (a.put o.dst v') w') : wpList P ops Q (o :: rest) a w := by
  refine wpList_plain hgd fun K hK => ?_
  obtain ⟨i, hi0, hzi, hsi, hbi⟩ := info_parts hi
  obtain ⟨a2, c2, hv2, hle2, -, hne2, hcl2⟩ := hown2.shape hR
  subst hv2
  have hrun : ∃ v' w', (Builtin.append_ #[t, t] o.type #[v, .slice a2 ys.length c2]).run P w = .ok v' w' ∧ OwnS R size w' B e v' (xs ++ ys) ∧ Keeps (fun i => B ≤ i ∧ ∃ cs, Blk w i e cs) w w' := by
    cases ys with
    | nil =>
      obtain ⟨a1, c1, rfl, hle1, -, -, -⟩ := hown.shape hR
      refine ⟨.slice a1 xs.length c1, w, ?_, by simpa using hown, Keeps.refl _ _⟩
      cases a2 with
      | none => exact run_append_nothing w t t o.type e i ht hi0 a1 xs.length c1 hle1 _ (Src.ofNil w ht c2)
      | some ad => exact run_append_nothing w t t o.type e i ht hi0 a1 xs.length c1 hle1 _ (Src.ofSlice w ht ad 0 c2 [] (by simp) (fun j u hj => by simp at hj) (fun u hu => by cases hu))
    | cons y r =>
      obtain ⟨g, rfl, -, -, -⟩ := hne2 (by simp)
      obtain ⟨v', w', hrun, h2, h3, -⟩ := run_append_own (P := P) w B t o.type e i z size bytes ht hi0 hzi hsi hbi hz hsz v xs.length _ hown ⟨g, 0, none⟩ (y :: r).length c2 ((y :: r).map R).flatten (by rw [flat_len hR]) (by
        intro j u hj
        have hjl : j < (y :: r).length * size := by rw [← flat_len hR]; exact (List.getElem?_eq_some_iff.1 hj).1
        obtain ⟨q, hq⟩ : ∃ q, q = j / size := ⟨_, rfl⟩
        have hjq : j = q * size + j % size := by rw [hq, Nat.mul_comm]; exact (Nat.div_add_mod j size).symm
        have hql : q < (y :: r).length := by rw [hq]; exact Nat.div_lt_of_lt_mul (by rw [Nat.mul_comm]; exact hjl)
        obtain ⟨x0, hx0⟩ : ∃ x0, (y :: r)[q]? = some x0 := ⟨_, List.getElem?_eq_getElem hql⟩
        have hml : j % size < (R x0).length := by rw [hR]; exact Nat.mod_lt _ hsz
        obtain ⟨u0, hu0⟩ : ∃ u0, (R x0)[j % size]? = some u0 := ⟨_, List.getElem?_eq_getElem hml⟩
        have h5 := flat_get hR (y :: r) q x0 (j % size) u0 hx0 hu0
        rw [← hjq] at h5
        rw [h5] at hj
        injection hj with hj
        subst hj
        have h6 := (hcl2 g rfl q x0 (j % size) u0 hx0 hu0).1
        rw [← hjq] at h6
        rw [Addr.add_lit, Nat.zero_add]
        exact h6) (by
        intro u hu
        obtain ⟨l, hl, hul⟩ := List.mem_flatten.1 hu
        obtain ⟨x0, _, rfl⟩ := List.mem_map.1 hl
        exact h1 x0 u hul) (by unfold maxLen; omega) (by
        have := Nat.mul_le_mul (show xs.length + (y :: r).length ≤ 17179869184 by omega) hb16
        omega) hbase
      refine ⟨v', w', hrun, ?_, (Keeps.refl _ _).grown h3 (fun k hk _ => ⟨(hown.lt k hk).1, hown.ownBlk k hk⟩)⟩
      unfold OwnS
      rw [List.map_append, List.flatten_append, List.length_append]
      exact h2
  obtain ⟨v', w', hr, h2, h3⟩ := hrun
  unfold Oper.wp
  simp only [execOp, ho, resolve, invoke, builtin, Sem.run_bind, Sem.run_pure, Result.andThen_ok, List.map_toArray, List.map_cons, List.map_nil, hs, hx, hr]
  exact hK _ _ (h v' w' h2 h3)
end
end Go.Proofs.Ytcblaeleaebinaa
