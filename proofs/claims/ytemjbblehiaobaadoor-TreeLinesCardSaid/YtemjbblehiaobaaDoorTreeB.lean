/-
  tree: stop, args.
-/
import Derived.Test.YtemjbblehiaobaaDoorTreeA
namespace Go.Proofs.YtemjbblehiaobaaDoor
open Go.RowKit

def stmtB : ByteArray := ⟨#[115, 116, 97, 116, 101, 109, 101, 110, 116]⟩
/-- given up, with a code and a line -/
def Gave (c n : Int) (e : Ending) (w' : World) : Prop := ∃ v, e = .panicked [{ v := v, recovered := false }] ∧ Chain w' [(n, stmtB)] c v
set_option maxRecDepth 100000 in
theorem pstop_any (w : World) (c n : Int) (hc : c ≠ 0) : Calls Tryd.prog 39 #[.int .i64 c, .int .i64 n] w fun e w' => Gave c n e w' ∧ Keeps (fun _ => False) w w' := by
  go_enter Tryd.func39, Tryd.ntmps39
  go_wp2_with fail
  refine (new_flt w c n _ hc).mono ?_
  rintro e w' ⟨rfl, hw⟩
  have HW := Lib.hid hw
  clear hw
  go_wp2_with fail
  refine ⟨rfl, ⟨_, rfl, ?_⟩, ?_⟩
  · rw [HW.out]
    exact .layer _ _ _ _ _ _ (Blk.new _ _ _) (.kind c)
  · rw [HW.out]
    exact (Keeps.refl _ _).alloc _
/-- newer blocks are written -/
theorem IsP.far {w w' : World} {g U : Nat} {l : List Pc} {at_ : Nat} (h : IsP w g U l at_) {S : Nat → Prop} (k : Keeps S w w') (hS : ∀ i, S i → U ≤ i) : IsP w' g U l at_ := by
  obtain ⟨a, c, h1, h2, h3⟩ := h.blk
  have h4 := h.lt
  exact ⟨⟨a, c, h1.keeps k (fun e => by have := hS _ e; omega), h2.keepsS h3 k (fun i _ hi e => by have := hS _ e; omega), h3⟩, h.lt, Nat.le_trans h.up k.size, h.le, h.len⟩
/-- behind an act of a parser at g: what it hands back, the parser further on; or it gave up -/
def ParsPost {α : Type} (O : (Int × Int) ⊕ (α × List Pc)) (R : Value → α → World → Prop) (w : World) (g U : Nat) (l : List Pc) (e : Ending) (w' : World) : Prop :=
  (∀ x t, O = .inr (x, t) → ∃ v at', e = .returned v ∧ R v x w' ∧ IsP w' g U l at' ∧ l.drop at' = t) ∧ (∀ c n, O = .inl (c, n) → Gave c n e w') ∧ Keeps (fun i => i = g) w w'
theorem ParsPost.ok {α : Type} {O : (Int × Int) ⊕ (α × List Pc)} {R : Value → α → World → Prop} {w w' : World} {g U : Nat} {l : List Pc} {x : α} {t : List Pc} {v : Value} {at' : Nat} (hO : O = .inr (x, t)) (hR : R v x w') (hp : IsP w' g U l at') (ht : l.drop at' = t) (k : Keeps (fun i => i = g) w w') : ParsPost O R w g U l (.returned v) w' := by
  refine ⟨fun x' t' h => ?_, fun c n h => ?_, k⟩
  · rw [hO] at h
    injection h with h
    injection h with h1 h2
    subst h1 h2
    exact ⟨v, at', rfl, hR, hp, ht⟩
  · rw [hO] at h; cases h
theorem ParsPost.gave {α : Type} {O : (Int × Int) ⊕ (α × List Pc)} {R : Value → α → World → Prop} {w w' : World} {g U : Nat} {l : List Pc} {c n : Int} {e : Ending} (hO : O = .inl (c, n)) (hG : Gave c n e w') (k : Keeps (fun i => i = g) w w') : ParsPost O R w g U l e w' := by
  refine ⟨fun x' t' h => ?_, fun c' n' h => ?_, k⟩
  · rw [hO] at h; cases h
  · rw [hO] at h
    injection h with h
    injection h with h1 h2
    subst h1 h2
    exact hG
theorem drop_at_cons {l : List Pc} {i : Nat} {x : Pc} {t : List Pc} (h : l.drop i = x :: t) : l[i]? = some x ∧ l.drop (i + 1) = t := by
  have h1 : (l.drop i)[0]? = some x := by rw [h]; rfl
  rw [List.getElem?_drop, Nat.add_zero] at h1
  refine ⟨h1, ?_⟩
  have := drop_pc h1
  rw [h] at this
  injection this with _ this
  exact this.symm
set_option maxRecDepth 100000 in
theorem field_text (k n : Int) (s : ByteArray) (w : World) : (Instr.field 91 (.agg #[.int .i64 k, .string s, .int .i64 n]) 1).run Tryd.prog w = .ok (.string s) w := by
  unfold Instr.field
  rw [Sem.run_bind, run_underlying Tryd.underlying91]
  rfl
section
variable {w w' : World} {g U : Nat} {l : List Pc} {at_ : Nat}
set_option maxRecDepth 100000 in
set_option maxHeartbeats 1000000 in
theorem pargs_any (h : IsP w g U l at_) : Calls Tryd.prog 42 #[.pointer (some ⟨g, 0, none⟩)] w (ParsPost (argsP [] (l.drop at_)) (fun v x W => OwnL W w.heap.size 9 v (x.map Value.string)) w g U l) := by
  obtain ⟨O, hO⟩ : ∃ O, O = argsP [] (l.drop at_) := ⟨_, rfl⟩
  rw [← hO]
  have HO := Lib.hid hO
  have H := Lib.hid h
  have hgl : g < w.heap.size := by obtain ⟨a, c, hb, -⟩ := h.blk; exact hb.lt
  clear hO h
  go_enter Tryd.func42, Tryd.ntmps42
  go_wp2_with fail
  go_loopg [3] (l.length - at_) (fun k u wr => ∃ (j : Nat) (acc : List ByteArray), k = l.length - j ∧ OwnL wr w.heap.size 9 u (acc.map Value.string) ∧ acc.length ≤ 16 ∧ IsP wr g U l j ∧ argsP acc (l.drop j) = O ∧ Keeps (fun i => i = g) w wr)
  case atStart => exact ⟨at_, [], rfl, OwnL.none_ _ _ _, Nat.zero_le _, H.out, HO.out.symm, Keeps.refl _ _⟩
  case round =>
    obtain ⟨j, acc, rfl, hO3, hacc, hP, hAR, hK⟩ := hrel
    obtain ⟨av, cv, rfl⟩ := hO3.sl'
    rw [List.length_map] at hO3 ⊢
    have HO3 := Lib.hid hO3
    have HP := Lib.hid hP
    have HAR := Lib.hid hAR
    have HK := Lib.hid hK
    have hjl := hP.le
    have hKD := fun W (kk : Keeps (fun _ => False) wr W) => pkind_any (hP.same kk)
    clear hO3 hP hAR hK
    cases hd : l.drop j with
    | nil =>
      rw [hd] at hKD
      unfold kindP at hKD
      simp only at hKD
      have HKD := Lib.hid hKD
      have HEND := Lib.hid (show O = .inr (acc, []) by rw [← HAR.out, hd, argsP])
      have HD := Lib.hid hd
      clear hKD hd
      go_wp2_with fail
      refine (HKD.out _ (Keeps.refl _ _)).mono ?_
      rintro e w2 ⟨rfl, k2⟩
      have HK2 := Lib.hid k2
      clear k2
      go_wp2_with fail
      refine (HKD.out _ HK2.out).mono ?_
      rintro e w3 ⟨rfl, k3⟩
      have HK3 := Lib.hid (HK2.out.trans k3)
      clear k3
      go_wp2_with fail
      go_ret
      exact .ok HEND.out (HO3.out.keeps HK3.out (fun _ _ _ => id)) (HP.out.same HK3.out) HD.out (HK.out.and_ HK3.out (fun _ _ h => h.elim))
    | cons x tt =>
      obtain ⟨hx, hdt⟩ := drop_at_cons hd
      have hjlt : j < l.length := (List.getElem?_eq_some_iff.1 hx).1
      rw [hd] at hKD
      unfold kindP at hKD
      simp only at hKD
      have HKD := Lib.hid hKD
      have HX := Lib.hid hx
      have HDT := Lib.hid hdt
      have har := HAR.out
      rw [hd, argsP] at har
      have HAR2 := Lib.hid har
      have HD := Lib.hid hd
      clear hKD hx hdt har hd
      by_cases hk : x.kind = 1 ∨ x.kind = 2
      · have har := HAR2.out
        rw [if_pos hk] at har
        have HAR3 := Lib.hid har
        clear har
        rcases hk with hk | hk
        · rw [hk] at HKD
          go_wp2_with fail
          refine (HKD.out _ (Keeps.refl _ _)).mono ?_
          rintro e w2 ⟨rfl, k2⟩
          have HK2 := Lib.hid k2
          clear k2 hk
          by_cases h16 : acc.length = 16
          · have har := HAR3.out
            rw [if_pos h16] at har
            have HEND := Lib.hid har.symm
            have hbe : ((acc.length : Int) == 16) = true := by rw [beq_iff_eq]; omega
            clear har h16
            go_wp2_with fail
            refine (pline_any (HP.out.same HK2.out)).mono ?_
            rintro e w3 ⟨rfl, k3⟩
            rw [HD.out]
            unfold lineP
            simp only
            have HK3 := Lib.hid (HK2.out.trans k3)
            clear k3
            go_wp2_with fail
            refine (pstop_any w3 15 x.line (by decide)).mono ?_
            rintro e w4 ⟨⟨v4, rfl, h4⟩, k4⟩
            have HG := Lib.hid h4
            have HK4 := Lib.hid (HK3.out.trans k4)
            clear h4 k4
            go_wp2_with fail
            exact ⟨rfl, .gave HEND.out ⟨_, rfl, HG.out⟩ (HK.out.and_ HK4.out (fun _ _ h => h.elim))⟩
          · have har := HAR3.out
            rw [if_neg h16] at har
            have HAR4 := Lib.hid har
            have hbe : ((acc.length : Int) == 16) = false := by rw [beq_eq_false_iff_ne]; omega
            have hacc2 : acc.length ≤ 15 := by omega
            clear har h16
            go_wp2_with fail
            refine (ptake_any (HP.out.same HK2.out) HX.out).mono ?_
            rintro e w3 ⟨rfl, P3, k3⟩
            have HP3 := Lib.hid P3
            have HK3 := Lib.hid ((HK.out.and_ HK2.out (fun _ _ h => h.elim)).trans k3)
            have HO4 := Lib.hid (OwnL.keeps (HO3.out.keeps HK2.out (fun _ _ _ => id)) k3 (fun i hi _ e => by omega))
            have hft := field_text x.kind x.line x.text
            have hz3 := HK3.out.size
            clear P3 k3
            go_wp2_with (with_reducible show wpList _ _ _ (⟨some 23, _, _, _, _, _⟩ :: _) _ _; go_must (refine wpList_append_onet rfl (.tmp 18) (.tmp 22) 33 rfl w.heap.size 9 (.string ⟨#[]⟩) 16 Tryd.underlying33 (by kernel_rfl) rfl (by omega) (.slice av acc.length cv) (acc.map Value.string) rfl (OwnL.keeps (S := fun _ => False) HO4.out ((Keeps.refl _ _).alloc _) (fun _ _ _ => id)) ⟨w3.heap.size, 0, none⟩ 1 (.string x.text) rfl (by go_simp) rfl (by rw [List.length_map]; omega) (by simp; omega) ?_; intro v7 w7 O7 k7; have HO7 := Lib.hid O7; have HK7 := Lib.hid k7; clear O7 k7))
            have hk7 : Keeps (fun i => i = g) w w7 := (HK3.out.alloc _).and_ HK7.out (fun i hi e => by have := e.1; omega)
            have hp7 : IsP w7 g U l (j + 1) := (HP3.out.same ((Keeps.refl _ _).alloc _)).far HK7.out (fun i hi => by have := hi.1; have := H.out.up; omega)
            go_roundg (l.length - (j + 1))
            case rel => exact ⟨j + 1, acc ++ [x.text], rfl, by rw [List.map_append]; exact HO7.out, by rw [List.length_append]; simp only [List.length_cons, List.length_nil]; omega, hp7, by rw [HDT.out]; exact HAR4.out, hk7⟩
            all_goals omega
        · rw [hk] at HKD
          go_wp2_with fail
          refine (HKD.out _ (Keeps.refl _ _)).mono ?_
          rintro e w1 ⟨rfl, k1⟩
          have HK1 := Lib.hid k1
          clear k1
          go_wp2_with fail
          refine (HKD.out _ HK1.out).mono ?_
          rintro e w2 ⟨rfl, k2⟩
          have HK2 := Lib.hid (HK1.out.trans k2)
          clear k2 hk
          by_cases h16 : acc.length = 16
          · have har := HAR3.out
            rw [if_pos h16] at har
            have HEND := Lib.hid har.symm
            have hbe : ((acc.length : Int) == 16) = true := by rw [beq_iff_eq]; omega
            clear har h16
            go_wp2_with fail
            refine (pline_any (HP.out.same HK2.out)).mono ?_
            rintro e w3 ⟨rfl, k3⟩
            rw [HD.out]
            unfold lineP
            simp only
            have HK3 := Lib.hid (HK2.out.trans k3)
            clear k3
            go_wp2_with fail
            refine (pstop_any w3 15 x.line (by decide)).mono ?_
            rintro e w4 ⟨⟨v4, rfl, h4⟩, k4⟩
            have HG := Lib.hid h4
            have HK4 := Lib.hid (HK3.out.trans k4)
            clear h4 k4
            go_wp2_with fail
            exact ⟨rfl, .gave HEND.out ⟨_, rfl, HG.out⟩ (HK.out.and_ HK4.out (fun _ _ h => h.elim))⟩
          · have har := HAR3.out
            rw [if_neg h16] at har
            have HAR4 := Lib.hid har
            have hbe : ((acc.length : Int) == 16) = false := by rw [beq_eq_false_iff_ne]; omega
            have hacc2 : acc.length ≤ 15 := by omega
            clear har h16
            go_wp2_with fail
            refine (ptake_any (HP.out.same HK2.out) HX.out).mono ?_
            rintro e w3 ⟨rfl, P3, k3⟩
            have HP3 := Lib.hid P3
            have HK3 := Lib.hid ((HK.out.and_ HK2.out (fun _ _ h => h.elim)).trans k3)
            have HO4 := Lib.hid (OwnL.keeps (HO3.out.keeps HK2.out (fun _ _ _ => id)) k3 (fun i hi _ e => by omega))
            have hft := field_text x.kind x.line x.text
            have hz3 := HK3.out.size
            clear P3 k3
            go_wp2_with (with_reducible show wpList _ _ _ (⟨some 23, _, _, _, _, _⟩ :: _) _ _; go_must (refine wpList_append_onet rfl (.tmp 18) (.tmp 22) 33 rfl w.heap.size 9 (.string ⟨#[]⟩) 16 Tryd.underlying33 (by kernel_rfl) rfl (by omega) (.slice av acc.length cv) (acc.map Value.string) rfl (OwnL.keeps (S := fun _ => False) HO4.out ((Keeps.refl _ _).alloc _) (fun _ _ _ => id)) ⟨w3.heap.size, 0, none⟩ 1 (.string x.text) rfl (by go_simp) rfl (by rw [List.length_map]; omega) (by simp; omega) ?_; intro v7 w7 O7 k7; have HO7 := Lib.hid O7; have HK7 := Lib.hid k7; clear O7 k7))
            have hk7 : Keeps (fun i => i = g) w w7 := (HK3.out.alloc _).and_ HK7.out (fun i hi e => by have := e.1; omega)
            have hp7 : IsP w7 g U l (j + 1) := (HP3.out.same ((Keeps.refl _ _).alloc _)).far HK7.out (fun i hi => by have := hi.1; have := H.out.up; omega)
            go_roundg (l.length - (j + 1))
            case rel => exact ⟨j + 1, acc ++ [x.text], rfl, by rw [List.map_append]; exact HO7.out, by rw [List.length_append]; simp only [List.length_cons, List.length_nil]; omega, hp7, by rw [HDT.out]; exact HAR4.out, hk7⟩
            all_goals omega
      · have h1 : (x.kind == 1) = false := by rw [beq_eq_false_iff_ne]; exact fun h => hk (.inl h)
        have h2 : (x.kind == 2) = false := by rw [beq_eq_false_iff_ne]; exact fun h => hk (.inr h)
        have HEND := Lib.hid (show O = .inr (acc, x :: tt) by have := HAR2.out; rw [if_neg hk] at this; exact this.symm)
        clear hk
        go_wp2_with fail
        refine (HKD.out _ (Keeps.refl _ _)).mono ?_
        rintro e w2 ⟨rfl, k2⟩
        have HK2 := Lib.hid k2
        clear k2
        go_wp2_with fail
        refine (HKD.out _ HK2.out).mono ?_
        rintro e w3 ⟨rfl, k3⟩
        have HK3 := Lib.hid (HK2.out.trans k3)
        clear k3
        go_wp2_with fail
        go_ret
        exact .ok HEND.out (HO3.out.keeps HK3.out (fun _ _ _ => id)) (HP.out.same HK3.out) HD.out (HK.out.and_ HK3.out (fun _ _ h => h.elim))
end
end Go.Proofs.YtemjbblehiaobaaDoor
