/-
  tree: statements, up to the end of a block, or of all.
-/
import Derived.Test.YtemjbblehiaobaaDoorTreeC
namespace Go.Proofs.YtemjbblehiaobaaDoor
open Go.RowKit

/-- a block's statements end where it is closed -/
theorem listP_end (last : Int) : ∀ (n f depth : Nat) (out xs : List Nd) (l t : List Pc), l.length ≤ n → l.length + 1 ≤ f → 0 < depth → listP last f depth out l = .inr (xs, t) → kindP t = 4
  | n, 0, depth, out, xs, l, t, hn, hf, hd, h => by omega
  | n, f + 1, depth, out, xs, l, t, hn, hf, hd, h => by
    rw [listP] at h
    by_cases hq : doneP depth l = true
    · rw [if_pos hq] at h
      injection h with h
      injection h with h1 h2
      subst h2
      unfold doneP at hq
      simp only [decide_eq_true_eq] at hq
      omega
    · rw [if_neg hq] at h
      cases ho : oneP_t last (listP last f (depth + 1) []) depth l with
      | inl e => rw [ho] at h; cases h
      | inr p =>
        obtain ⟨x, t2⟩ := p
        rw [ho] at h
        have h1 := oneP_t_len (fun a b c hh => listP_len last f _ _ _ _ _ hh) ho
        cases n with
        | zero => omega
        | succ n => exact listP_end last n f depth _ xs t2 t (by omega) (by omega) hd h
theorem wpList_append_stx {P : Program} {α : Type} (R : α → List Value) (size : Nat) (hR : ∀ x, (R x).length = size) (hsz : 0 < size) {w : World} {ops : Array Oper} {rest : List Oper} {o : Oper} {a : Act} {Q : Exit → Act → World → Prop} (hgd : o.guard = none) (s x : Operand) (t : TypeId)
    (ho : o.op = .call { callee := .builtin .append, args := #[s, x], argTypes := #[t, t] }) (B : Nat) (e : TypeId) (z : Value) (bytes : Nat) (ht : P.underlying t = some (.slice e))
    (hi : (P.info? e).map (fun i => (i.zero, i.size, i.bytes)) = some (some z, size, bytes)) (hz : z.cells.size = size) (hb16 : bytes ≤ 4096)
    (v : Value) (xs : List α) (hs : a.eval s = v) (hown : OwnS R size w B e v xs) (g c : Nat) (y : α) (hx : a.eval x = .slice (some ⟨g, 0, none⟩) 1 c) (hu : Blk w g e (R y).toArray) (h1 : ∀ u ∈ R y, u.oneCell' = true)
    (hlen : xs.length ≤ 17179869184) (hbase : B ≤ w.heap.size)
    (h : ∀ g' cap' w', OwnS R size w' B e (.slice (some ⟨g', 0, none⟩) (xs.length + 1) cap') (xs ++ [y]) → Keeps (fun i => v.ownBlock = some i) w w' → (v.ownBlock = some g' ∨ g' = w.heap.size) → wpList P ops Q rest (a.put o.dst (.slice (some ⟨g', 0, none⟩) (xs.length + 1) cap')) w') : wpList P ops Q (o :: rest) a w :=
  wpList_plain hgd fun _ hK => wp_append_st R size hR hsz s x t ho B e z bytes ht hi hz hb16 v xs hs hown g c y hx hu h1 hlen hbase (fun g' cap' w' h1 h2 h3 => hK _ _ (h g' cap' w' h1 h2 h3))

/-- a list's fuel: enough for what is left -/
def restP (l : List Pc) (depth : Nat) (out : List Nd) (j : Nat) : (Int × Int) ⊕ (List Nd × List Pc) := listP (lastP l) ((l.drop j).length + 1) depth out (l.drop j)
theorem restP_fuel (l : List Pc) (depth : Nat) (out : List Nd) (j f : Nat) (h : (l.drop j).length + 1 ≤ f) : listP (lastP l) f depth out (l.drop j) = restP l depth out j := listP_fuel _ _ _ _ _ _ _ (Nat.le_refl _) h (Nat.le_refl _)
theorem restP_step (l : List Pc) (depth : Nat) (out : List Nd) (j : Nat) (h : doneP depth (l.drop j) = false) : restP l depth out j = match oneP_t (lastP l) (listP (lastP l) (l.drop j).length (depth + 1) []) depth (l.drop j) with
    | .inl e => .inl e
    | .inr (x, t) => listP (lastP l) (l.drop j).length depth (out ++ [x]) t := by
  unfold restP
  rw [listP, if_neg (by simp [h])]
  cases oneP_t (lastP l) (listP (lastP l) (l.drop j).length (depth + 1) []) depth (l.drop j) <;> rfl
theorem restP_done (l : List Pc) (depth : Nat) (out : List Nd) (j : Nat) (h : doneP depth (l.drop j) = true) : restP l depth out j = .inr (out, l.drop j) := by
  unfold restP
  rw [listP, if_pos h]

theorem NdsOwn.push {w3 w4 w7 : World} {B M g' cap' : Nat} {S Sx : Nat → Prop} {e : TypeId} {v : Value} {xs : List Nd} {x : Nd} {rs : List NdV} {r : NdV} (h2 : NdAll w3 S xs rs) (h3 : ∀ k, v.ownBlock = some k → ¬ S k) (h4 : ∀ i, S i → B ≤ i ∧ i < w3.heap.size)
    (hx : NdM w3 Sx x r) (hSx : ∀ i, Sx i → M ≤ i ∧ i < w3.heap.size) (hv : ∀ k, v.ownBlock = some k → k < M) (hB : B ≤ M) (k34 : Keeps (fun _ => False) w3 w4)
    (O7 : OwnS ndR 5 w7 B e (.slice (some ⟨g', 0, none⟩) (rs.length + 1) cap') (rs ++ [r])) (k47 : Keeps (fun i => v.ownBlock = some i) w4 w7) (hg : v.ownBlock = some g' ∨ g' = w4.heap.size) :
    NdsOwn w7 B (fun i => S i ∨ Sx i) e (.slice (some ⟨g', 0, none⟩) (rs.length + 1) cap') (xs ++ [x]) := by
  have z34 := k34.size
  have z47 := k47.size
  refine ⟨rs ++ [r], O7, NdAll.snoc x r ?_ xs rs ?_, fun k hk hh => ?_, fun i hi => ?_⟩
  · exact NdM.mono (fun i h => .inr h) _ _ (NdM.keeps k47 (fun i _ hi he => by have := hv i he; have := (hSx i hi).1; omega) _ _ (NdM.keeps k34 (fun _ _ _ => id) _ _ hx))
  · exact NdAll.mono (fun i h => .inl h) _ _ (NdAll.keeps k47 (fun i _ hi he => h3 i he hi) _ _ (NdAll.keeps k34 (fun _ _ _ => id) _ _ h2))
  · have hk' : g' = k := by simpa [Value.ownBlock] using hk
    subst hk'
    rcases hg with hg | hg
    · rcases hh with hh | hh
      · exact h3 _ hg hh
      · have := hv _ hg; have := (hSx _ hh).1; omega
    · rcases hh with hh | hh
      · have := (h4 _ hh).2; omega
      · have := (hSx _ hh).2; omega
  · rcases hi with hi | hi
    · have := h4 i hi; omega
    · have := hSx i hi; omega
section
variable {w w' : World} {g U : Nat} {l : List Pc} {at_ : Nat}
set_option maxRecDepth 100000 in
set_option maxHeartbeats 2000000 in
theorem plist_any : ∀ (f depth : Nat) (w : World) (at_ : Nat), depth ≤ 4 → l.length - at_ ≤ f → IsP w g U l at_ →
    Calls Tryd.prog 13 #[.pointer (some ⟨g, 0, none⟩), .int .i64 depth] w (ParsPost (restP l depth [] at_) (fun v xs W' => NdsBack w.heap.size v xs W') w g U l) := by
  intro f
  induction f using Nat.strongRecOn with
  | _ f IHF =>
  intro depth w at_ hdep hf h
  obtain ⟨O, hO⟩ : ∃ O, O = restP l depth [] at_ := ⟨_, rfl⟩
  rw [← hO]
  have HO := Lib.hid hO
  have H := Lib.hid h
  have HF := Lib.hid IHF
  have hgl : g < U := h.lt
  have hup := h.up
  clear hO h IHF
  go_enter Tryd.func13, Tryd.ntmps13
  go_wp2_with fail
  go_loopg [5] (l.length - at_) (fun k u wr => ∃ (j : Nat) (out : List Nd) (S : Nat → Prop), k = l.length - j ∧ at_ ≤ j ∧ out.length ≤ j ∧ Hid (NdsOwn wr w.heap.size S 35 u out ∧ IsP wr g U l j ∧ restP l depth out j = O ∧ Keeps (fun i => i = g) w wr))
  case atStart => exact ⟨at_, [], fun _ => False, rfl, Nat.le_refl _, Nat.zero_le _, Lib.hid ⟨NdsOwn.none_, H.out, HO.out.symm, Keeps.refl _ _⟩⟩
  case round =>
    obtain ⟨j, out, S, rfl, haj, hoj, HR⟩ := hrel
    obtain ⟨hN, hP, hR, hK⟩ := HR.out
    obtain ⟨av, cv, rfl⟩ := hN.sl
    have HP := Lib.hid hP
    have hszr := hK.size
    have hupr := hP.up
    clear hN hP hR hK
    go_wp2_with fail
    refine (pkind_any HP.out).mono ?_
    rintro e w2 ⟨rfl, k2⟩
    have HP2 := Lib.hid (HP.out.same k2)
    have HK2 := Lib.hid k2
    have hs2 := k2.size
    have HDN := Lib.hid (fun (hd : doneP depth (l.drop j) = true) => restP_done l depth out j hd)
    clear k2
    go_wp2_with fail
    all_goals
      first
      | (go_ret
         have hdone : doneP depth (l.drop j) = true := by
           unfold doneP
           simp only [beq_iff_eq, decide_eq_true_eq] at *
           omega
         obtain ⟨hN, hP, hR, hK⟩ := HR.out
         have hE := HDN.out hdone
         rw [hR] at hE
         refine .ok hE ?_ HP2.out rfl (hK.and_ HK2.out (fun _ _ h => h.elim))
         have hN2 := hN.keeps HK2.out (fun _ _ _ => id)
         refine ⟨_, hN2.at_, fun i hi => ?_⟩
         obtain ⟨rs, -, -, -, h4⟩ := id hN2
         rcases hi with hi | hi
         · exact h4 i hi
         · exact hN2.lt i hi)
      | skip
    all_goals
      have hdone : doneP depth (l.drop j) = false := by
        unfold doneP
        simp only [beq_eq_false_iff_ne, ne_eq, decide_eq_false_iff_not] at *
        omega
      obtain ⟨hN, hP, hR, hK⟩ := HR.out
      have hjl := hP.le
      have hst := restP_step l depth out j hdone
      rw [hR] at hst
      have hone := pone_any (g := g) (U := U) (w := w2) depth hdep (listP (lastP l) (l.drop j).length (depth + 1) []) HP2.out (fun j' xs t3 hj' hjj he => listP_end (lastP l) (l.drop j').length (l.drop j).length (depth + 1) [] xs (l.drop j') t3 (Nat.le_refl _) (by rw [List.length_drop, List.length_drop]; omega) (by omega) he)
        (fun hd4 W j' hW hjj => by
          have hW2 := hW.le
          have := HF.out (l.length - j') (by omega) (depth + 1) W j' (by omega) (Nat.le_refl _) hW
          have e : ((depth + 1 : Nat) : Int) = (depth : Int) + 1 := by omega
          rw [e] at this
          rw [restP_fuel _ _ _ _ _ (by rw [List.length_drop, List.length_drop]; omega)]
          exact this)
      have HN := Lib.hid hN
      have HK := Lib.hid hK
      clear hN hP hR hK hdone
      cases ho : oneP_t (lastP l) (listP (lastP l) (l.drop j).length (depth + 1) []) depth (l.drop j) with
      | inl ee =>
        obtain ⟨c, n⟩ := ee
        rw [ho] at hone hst
        have HEND := Lib.hid hst
        clear hst ho
        refine hone.mono ?_
        rintro e w3 ⟨-, hgv, k3⟩
        obtain ⟨v3, rfl, h3⟩ := hgv _ _ rfl
        exact ⟨rfl, .gave HEND.out ⟨_, rfl, h3⟩ ((HK.out.and_ HK2.out (fun _ _ h => h.elim)).trans k3)⟩
      | inr p =>
        obtain ⟨x, t⟩ := p
        have hlen := oneP_t_len (fun a b c hh => listP_len (lastP l) _ _ _ _ _ _ hh) ho
        rw [ho] at hone hst
        have HEND := Lib.hid hst
        clear hst ho
        refine hone.mono ?_
        rintro e w3 ⟨hgv, -, k3⟩
        obtain ⟨v3, j3, rfl, hb, P3, d3⟩ := hgv _ _ rfl
        obtain ⟨⟨rk, ra, rn, rc, rb, rla, rln, rlc, rli⟩, Sx, rfl, hx, hSx⟩ := hb
        have hgS : ∀ i, S i ∨ (Value.slice av out.length cv).ownBlock = some i → w.heap.size ≤ i ∧ i < wr.heap.size := fun i hi => by
          obtain ⟨rs, -, -, -, h4⟩ := id HN.out
          rcases hi with hi | hi
          · exact h4 i hi
          · exact HN.out.lt i hi
        have hN3 := (HN.out.keeps HK2.out (fun _ _ _ => id)).keeps k3 (fun i _ hi e => by have := (hgS i hi).1; omega)
        obtain ⟨rs, o1, o2, o3, o4⟩ := hN3
        have hrl := NdAll.len _ _ o2
        have HO1 := Lib.hid o1
        have HKK := Lib.hid ((HK.out.and_ HK2.out (fun _ _ h => h.elim)).trans k3)
        have hs3 := k3.size
        have hrl2 : rs.length ≤ 1048576 := by have := P3.len; omega
        simp only [ndR]
        clear o1 k3 hgv hone
        go_wp2_with (with_reducible show wpList _ _ _ (⟨some 28, _, _, _, _, _⟩ :: _) _ _; go_must (refine wpList_append_stx ndR 5 ndR_len (by decide) rfl (.tmp 23) (.tmp 27) 23 rfl w.heap.size 35 (.agg #[.string ⟨#[]⟩, .slice none 0 0, .bool false, .slice none 0 0, .int .i64 0]) 80 Tryd.underlying23 (by kernel_rfl) rfl (by omega) (.slice av out.length cv) rs rfl (OwnS.keeps (S := fun _ => False) HO1.out ((Keeps.refl _ _).alloc _) (fun _ _ _ _ => id)) w3.heap.size 1 ⟨rk, ra, rn, rc, rb, rla, rln, rlc, rli⟩ rfl (Blk.new _ _ _) (ndR_one _) (by omega) (by simp; omega) ?_; intro g7 c7 w7 O7 k7 hg7; have HO7 := Lib.hid O7; have HK7 := Lib.hid k7; have HG7 := Lib.hid hg7; clear O7 k7 hg7))
        have z3 : (w3.alloc (.cells #[.string rk, .slice ra rn rc, .bool rb, .slice rla rln rlc, .int .i64 rli] 35)).heap.size = w3.heap.size + 1 := by simp
        have hN7 := NdsOwn.push (M := w2.heap.size) o2 o3 o4 hx hSx (fun k hk => by have := (hgS k (.inr hk)).2; omega) (by omega) ((Keeps.refl _ _).alloc _) HO7.out HK7.out HG7.out
        have hP7 := (P3.same ((Keeps.refl _ _).alloc (.cells #[.string rk, .slice ra rn rc, .bool rb, .slice rla rln rlc, .int .i64 rli] 35))).far HK7.out (fun i hi => by have := (hgS i (.inr hi)).1; omega)
        have hj3 : (l.drop j3).length < (l.drop j).length := by rw [d3]; exact hlen
        rw [List.length_drop, List.length_drop] at hj3
        have hj3l := P3.le
        have hR7 : restP l depth (out ++ [x]) j3 = O := by rw [HEND.out, ← d3]; exact (restP_fuel _ _ _ _ _ (by rw [List.length_drop, List.length_drop]; omega)).symm
        have hK7 := (HKK.out.alloc (.cells #[.string rk, .slice ra rn rc, .bool rb, .slice rla rln rlc, .int .i64 rli] 35)).and_ HK7.out (fun i hi he => by have := (hgS i (.inr he)).1; omega)
        have HH := Lib.hid (⟨hN7, hP7, hR7, hK7⟩ : _ ∧ _ ∧ _ ∧ _)
        clear hN7 hP7 hR7 hK7 o2 o3 o4 hx hSx hgS P3 d3 hlen
        go_roundg (l.length - j3)
        case rel => exact ⟨j3, out ++ [x], _, rfl, by omega, by rw [List.length_append]; simp only [List.length_cons, List.length_nil]; omega, HH⟩
        all_goals omega
end
end Go.Proofs.YtemjbblehiaobaaDoor
