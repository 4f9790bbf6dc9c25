/-
  The document's break sequences: Read.
-/
import Derived.Test.YtkmpdobojgiegaaGreatDoorQR14
import Derived.Test.YtkmpdobojgiegaaGreatDoorQGround1
import Derived.Laws.OwnMore
import Derived.Deep.DeepCutAuto
import Derived.Deep.CutBlock
import Derived.Deep.RegionHeld3
namespace Go.Proofs.YtkmpdobojgiegaaGreatDoor
open Go.RowKit

/-- one of a row of three cells each is written anew -/
theorem flat_set3 {α : Type} {R : α → List Value} (hR : ∀ x, (R x).length = 3) (y : α) (a b c : Value) (hy : R y = [a, b, c]) : ∀ (xs : List α) (i : Nat), i < xs.length → ((((xs.map R).flatten.set (i * 3) a).set (i * 3 + 1) b).set (i * 3 + 2) c) = ((xs.set i y).map R).flatten
  | [], i, h => by simp at h
  | x :: xs, 0, _ => by
    obtain ⟨p, q, r, he⟩ : ∃ p q r, R x = [p, q, r] := by
      match R x, hR x with
      | [p, q, r], _ => exact ⟨p, q, r, rfl⟩
    simp [he, hy]
  | x :: xs, i + 1, h => by
    have ih := flat_set3 hR y a b c hy xs i (by simpa using h)
    rw [List.map_cons, List.flatten_cons, List.set_cons_succ, List.map_cons, List.flatten_cons, ← ih]
    have e : ∀ (l : List Value) (j : Nat) (u : Value), (R x ++ l).set ((i + 1) * 3 + j) u = R x ++ l.set (i * 3 + j) u := fun l j u => by
      rw [List.set_append_right _ _ (by rw [hR]; omega), hR, show (i + 1) * 3 + j - 3 = i * 3 + j by omega]
    have e0 := fun l u => e l 0 u
    simp only [Nat.add_zero] at e0
    rw [e0, e, e]
theorem OwnS.put3 {α : Type} {R : α → List Value} (hR : ∀ x, (R x).length = 3) {w : World} {B : Nat} {e : TypeId} {g n cap : Nat} {xs : List α} (h : OwnS R 3 w B e (.slice (some ⟨g, 0, none⟩) n cap) xs) (i : Nat) (hi : i < xs.length) (y : α) (a b c : Value) (hy : R y = [a, b, c]) :
    OwnS R 3 (((w.setCell ⟨g, i * 3, none⟩ a).setCell ⟨g, i * 3 + 1, none⟩ b).setCell ⟨g, i * 3 + 2, none⟩ c) B e (.slice (some ⟨g, 0, none⟩) n cap) (xs.set i y) := by
  obtain ⟨a', cap', he⟩ := h.sl
  injection he with he1 he2 he3
  subst he2
  unfold OwnS at h ⊢
  rw [List.length_set]
  have h1 := (h.stored (i * 3) a).1
  have h2 := (h1.stored (i * 3 + 1) b).1
  have h3 := (h2.stored (i * 3 + 2) c).1
  rw [flat_set3 hR y a b c hy xs i hi] at h3
  exact h3
theorem set_last' {α : Type} (l : List α) (a b : α) (n : Nat) (h : n = l.length) : (l ++ [a]).set n b = l ++ [b] := by subst h; simp
set_option maxRecDepth 100000 in
set_option maxHeartbeats 2000000 in
theorem r14read_any (w : World) (l : List UInt8) (hs : l.length ≤ 1073741824) : Calls Tryz.prog 119 #[.string (str l)] w fun e w' => BrkPost (brkP l) w e w' := by
  obtain ⟨O, hO⟩ : ∃ O, O = brkP l := ⟨_, rfl⟩
  rw [← hO]
  by_cases hbig : 255 < l.length
  · have HO : Hid (O = (5, [])) := Lib.hid (by rw [hO]; unfold brkP; rw [if_pos hbig])
    have hb2 : 255 < ((str l).size : Int) := by rw [str_size]; omega
    clear hO hbig
    go_enter Tryz.func119, Tryz.ntmps119
    go_wp2
    go_ret2
    exact ⟨⟨_, by rw [HO.out]; rfl, by rw [HO.out]; exact OwnS.none_⟩, Keeps.refl _ _⟩
  · have hb2 : ¬ 255 < ((str l).size : Int) := by rw [str_size]; omega
    obtain ⟨R, hR⟩ : ∃ R, R = stepsP l.length [] l := ⟨_, rfl⟩
    have HO : Hid (O = brkOut R) := Lib.hid (by rw [hO, hR]; unfold brkP; rw [if_neg hbig]; cases stepsP l.length [] l <;> rfl)
    have HR := Lib.hid hR
    have hll : l.length ≤ 255 := by omega
    clear hO hR hbig
    go_enter Tryz.func119, Tryz.ntmps119
    go_wp2_with fail
    go_loopg [0, 4] l.length (fun k u0 u4 wr => ∃ (rs : List UInt8) (out : List Stp) (f : Nat), k = rs.length ∧ u0 = .string (str rs) ∧ rs.length ≤ f ∧ Hid (OwnS stpR 3 wr w.heap.size 272 u4 out ∧ OutOk out rs.length ∧ stepsP f out rs = R ∧ Keeps (fun _ => False) w wr))
    case atStart => exact ⟨l, [], l.length, rfl, rfl, Nat.le_refl _, Lib.hid ⟨OwnS.none_, ⟨by simp; omega, by simp⟩, HR.out.symm, Keeps.refl _ _⟩⟩
    case round =>
      obtain ⟨rs, out, f, rfl, rfl, hf, HI⟩ := hrel
      obtain ⟨hOw, hok, hst, hK⟩ := HI.out
      obtain ⟨av, cv, rfl⟩ := hOw.sl
      have hol : out.length ≤ 255 := by have := hok.1; omega
      have HOW := Lib.hid hOw
      have HOK := Lib.hid hok
      have HST := Lib.hid hst
      have HK := Lib.hid hK
      have hszr := hK.size
      clear HI hOw hok hst hK
      cases rs with
      | nil =>
        have hnil : (str ([] : List UInt8)) = ⟨#[]⟩ := rfl
        have HRE : Hid (R = some out) := Lib.hid (by rw [← HST.out, stepsP_nil])
        have HO2 : Hid (O = (0, out)) := Lib.hid (by rw [HO.out, HRE.out]; rfl)
        rw [hnil]
        clear hnil
        go_wp2_with fail
        go_ret2
        exact ⟨⟨_, by rw [HO2.out]; rfl, by rw [HO2.out]; exact HOW.out⟩, HK.out⟩
      | cons c t =>
        have hne : (str (c :: t)).toList.isEmpty = false := ne_nil (by rw [str_list]; simp)
        have hon := fun W => r14one_any W (str (c :: t)) c t (str_list _) (by have := HOK.out.1; rw [str_size]; omega)
        have HON := Lib.hid hon
        clear hon
        go_wp2_with fail
        refine (HON.out _).mono ?_
        rintro e w2 ⟨rfl, k2⟩
        have HK2 := Lib.hid (HK.out.trans k2)
        have HOW2 := Lib.hid (HOW.out.keeps k2 (fun _ _ _ _ => id))
        have hs2 := k2.size
        clear k2
        cases hq : stepP (c :: t) with
        | none =>
          have HO2 : Hid (O = (3, [])) := Lib.hid (by
            have := HST.out
            obtain ⟨f', rfl⟩ : ∃ f', f = f' + 1 := ⟨f - 1, by rw [List.length_cons] at hf; omega⟩
            rw [stepsP_cons, hq] at this
            rw [HO.out, ← this]; rfl)
          clear hq
          unfold oneV
          simp only
          go_wp2_with fail
          go_ret2
          exact ⟨⟨_, by rw [HO2.out]; rfl, by rw [HO2.out]; exact OwnS.none_⟩, HK2.out.alloc _⟩
        | some p =>
          obtain ⟨⟨xk, xs, xn⟩, n⟩ := p
          have hfx := stepP_fine hq
          have hsz := HOK.out.1
          simp only [List.length_cons] at hfx hsz hf
          have HST2 : Hid (∃ f', (t.length + 1 - n) ≤ f' ∧ stepsP f' (pushP out ⟨xk, xs, xn⟩) ((c :: t).drop n) = R) := Lib.hid (by
            have := HST.out
            obtain ⟨f', rfl⟩ : ∃ f', f = f' + 1 := ⟨f - 1, by omega⟩
            rw [stepsP_cons, hq] at this
            exact ⟨f', by omega, this⟩)
          have HOKN := Lib.hid (HOK.out.push (x := ⟨xk, xs, xn⟩) (n := n) (by rw [List.length_cons]; exact hfx))
          have HDX : Hid ((str (c :: t)).extract n (str (c :: t)).size = str ((c :: t).drop n)) := Lib.hid (dropx _ _ (str_list _) n)
          have hn1 := hfx.1
          have hn2 : (n : Int) ≤ ((str (c :: t)).size : Int) := by rw [str_size, List.length_cons]; omega
          have hn0 : ((n : Int) == 0) = false := by rw [beq_eq_false_iff_ne]; omega
          have hnl := hfx.2.1
          obtain ⟨hx1, hx2, hx3, hx4⟩ := hfx.2.2
          have hxk : xk = 1 ∨ xk = 2 ∨ xk = 3 := by unfold StpOk at hx4; simp only at hx4; omega
          have HX4 := Lib.hid hx4
          clear hq hfx hx4
          rw [show oneV (some (⟨xk, xs, xn⟩, n)) = .tuple #[.agg #[.int .i64 xk, .string (str xs), .int .i64 xn], .int .i64 n] from rfl]
          go_upto_region 10 with (fail)
          obtain ⟨wx, hwx⟩ : ∃ wx, wx = w2.alloc (.cells #[.int .i64 xk, .string (str xs), .int .i64 xn] 272) := ⟨_, rfl⟩
          have kx : Keeps (fun _ => False) w2 wx := by rw [hwx]; exact (Keeps.refl _ _).alloc _
          have hbx : Blk wx w2.heap.size 272 #[.int .i64 xk, .string (str xs), .int .i64 xn] := by rw [hwx]; exact Blk.new _ _ _
          rw [← hwx]
          have HOWX := Lib.hid (HOW2.out.keeps kx (fun _ _ _ _ => id))
          have HKX := Lib.hid (HK2.out.trans kx)
          have hsx := kx.size
          clear hwx kx
          obtain ⟨⟨x0, x1, x2⟩, -, -, -⟩ := hbx.all3
          have HBX := Lib.hid hbx
          have hw2 : w.heap.size ≤ w2.heap.size := by omega
          clear hbx
          have HOWL : Hid (∀ g0, av = some ⟨g0, 0, none⟩ → 0 < out.length → g0 < w2.heap.size) := Lib.hid (fun g0 e hp => by
            obtain ⟨a5, c5, hv5, -, -, h35, -⟩ := HOW2.out.shape stpR_len
            injection hv5 with e1 _ _
            obtain ⟨g5, e5, _, h6, _⟩ := h35 hp
            rw [e, e5] at e1
            injection e1 with e1; injection e1 with e1; omega)
          rcases List.eq_nil_or_concat out with rfl | ⟨o, y, rfl⟩
          · have HPN : Hid (pushP [] ⟨xk, xs, xn⟩ = [] ++ [⟨xk, xs, xn⟩]) := Lib.hid rfl
            have hm1 : (((0 : Nat) : Int) - 1) = -1 := rfl
            simp only [List.length_nil]
            rw [hm1]
            go_region
            go_wp2_with (with_reducible show wpList _ _ _ (⟨some 68, _, _, _, _, _⟩ :: _) _ _; go_must (refine wpList_append_st stpR 3 stpR_len (by decide) rfl (.tmp 65) (.tmp 67) 34 rfl w.heap.size 272 (.agg #[.int .i64 0, .string ⟨#[]⟩, .int .i64 0]) 32 Tryz.underlying34 (by kernel_rfl) rfl (by omega) (.slice av 0 cv) ([]) rfl (OwnS.keeps (S := fun _ => False) HOWX.out ((Keeps.refl _ _).alloc _).drew (fun _ _ _ _ => id)) wx.heap.size 1 ⟨xk, xs, xn⟩ rfl (Blk.new _ _ _).drew (stpR_one _) (by first | omega | (simp; done) | (simp; omega)) (by first | omega | (simp; done) | (simp; omega)) ?_; intro v7 w7 O7 k7; have HO7 := Lib.hid O7; have HK7 := Lib.hid k7; clear O7 k7))
            go_roundg (t.length + 1 - n)
            case rel =>
              obtain ⟨f', hf', hst'⟩ := HST2.out
              have hlen : ((c :: t).drop n).length = t.length + 1 - n := by rw [List.length_drop, List.length_cons]
              exact ⟨(c :: t).drop n, [] ++ [⟨xk, xs, xn⟩], f', hlen.symm, by rw [HDX.out], by rw [hlen]; exact hf', Lib.hid ⟨HO7.out, by have := HOKN.out; rw [HPN.out] at this; rw [hlen]; exact this, by rw [← HPN.out]; exact hst', (HKX.out.alloc (.cells #[.int .i64 xk, .string (str xs), .int .i64 xn] 272)).drew.and_ HK7.out (fun i hi e => by have := e.1; omega)⟩⟩
            all_goals first | omega | (simp only [List.length_cons]; omega)
          · rw [List.concat_eq_append] at *
            obtain ⟨yk, ys, yn⟩ := y
            have hol2 : (o ++ [(⟨yk, ys, yn⟩ : Stp)]).length = o.length + 1 := by simp
            obtain ⟨av2, cv2, hv2, h1, h2, h3, h4⟩ := HOWX.out.shape stpR_len
            injection hv2 with e1 _ e3
            subst e1 e3
            obtain ⟨g, rfl, hg1, hg2, -⟩ := h3 (by simp)
            have hy := fun j u => h4 g rfl o.length ⟨yk, ys, yn⟩ j u (by simp)
            have y0 := (hy 0 _ rfl).1
            have y1 := (hy 1 _ rfl).1
            have y2 := (hy 2 _ rfl).1
            have f0 := (hy 0 _ rfl).2
            have f1 := (hy 1 _ rfl).2
            have f2 := (hy 2 _ rfl).2
            rw [Nat.add_zero] at y0 f0
            have hne2 : g ≠ w2.heap.size := Nat.ne_of_lt (HOWL.out g rfl (by simp))
            rw [hol2]
            have HOWZ : Hid (OwnS stpR 3 wx w.heap.size 272 (.slice (some ⟨g, 0, none⟩) (o.length + 1) cv) (o ++ [⟨yk, ys, yn⟩])) := Lib.hid (by have := HOWX.out; rw [hol2] at this; exact this)
            clear hy h4 h3 h2 h1
            have hyo := HOK.out.2 ⟨yk, ys, yn⟩ (by simp)
            have hyz : (str ys).size ≤ 255 := by rw [str_size]; have := hyo.1; simp only at this; omega
            have hxz : (str xs).size ≤ 1 := by rw [str_size]; exact hx1
            have hw1 : -1000000 ≤ yn ∧ yn ≤ 1000000 := by
              have e1 := hyo.2.1
              have e2 := hyo.2.2.1
              simp only at e1 e2
              omega
            obtain ⟨hw11, hw12⟩ := hw1
            have hw : IntKind.i64.wrap (yn + xn) = yn + xn := IntWalk.i64_in _ (by omega)
            clear hyo
            by_cases hj : xk < 3
            · by_cases hk : yk = xk
              · subst hk
                have HPJ : Hid (pushP (o ++ [⟨yk, ys, yn⟩]) ⟨yk, xs, xn⟩ = o ++ [⟨yk, ys ++ xs, yn + xn⟩]) := Lib.hid (pushP_join (y := ⟨yk, ys, yn⟩) (x := ⟨yk, xs, xn⟩) ⟨rfl, hj⟩)
                go_region
                go_wp2_with fail
                go_region
                go_wp2_with fail
                have hset := OwnS.put3 (y := ⟨yk, ys ++ xs, yn + xn⟩) stpR_len HOWZ.out o.length (by simp) (.int .i64 yk) (.string (str ys ++ str xs)) (.int .i64 (yn + xn)) (by simp only [stpR]; rw [str_cat])
                rw [set_last' o _ _ _ rfl] at hset
                have HSET := Lib.hid hset
                clear hset
                go_roundg (t.length + 1 - n)
                case rel =>
                  obtain ⟨f', hf', hst'⟩ := HST2.out
                  have hlen : ((c :: t).drop n).length = t.length + 1 - n := by rw [List.length_drop, List.length_cons]
                  exact ⟨(c :: t).drop n, o ++ [⟨yk, ys ++ xs, yn + xn⟩], f', hlen.symm, by rw [HDX.out], by rw [hlen]; exact hf', Lib.hid ⟨HSET.out.keeps (S := fun _ => False) (Keeps.refl _ _).drew.drew (fun _ _ _ _ => id), by have := HOKN.out; rw [HPJ.out] at this; rw [hlen]; exact this, by rw [← HPJ.out]; exact hst', (((HKX.out.setCell (p := ⟨g, o.length * 3, none⟩) (fun h => absurd (show g < w.heap.size from h) (by omega)) _).setCell (p := ⟨g, o.length * 3 + 1, none⟩) (fun h => absurd (show g < w.heap.size from h) (by omega)) _).setCell (p := ⟨g, o.length * 3 + 2, none⟩) (fun h => absurd (show g < w.heap.size from h) (by omega)) _).drew.drew⟩⟩
                all_goals first | omega | (simp only [List.length_cons]; omega)
              · have HPN : Hid (pushP (o ++ [⟨yk, ys, yn⟩]) ⟨xk, xs, xn⟩ = o ++ [⟨yk, ys, yn⟩] ++ [⟨xk, xs, xn⟩]) := Lib.hid (pushP_new (y := ⟨yk, ys, yn⟩) (x := ⟨xk, xs, xn⟩) (fun h => hk h.1))
                have bk : (yk == xk) = false := beq_eq_false_iff_ne.2 hk
                clear hk
                go_region
                go_wp2_with (with_reducible show wpList _ _ _ (⟨some 68, _, _, _, _, _⟩ :: _) _ _; go_must (refine wpList_append_st stpR 3 stpR_len (by decide) rfl (.tmp 65) (.tmp 67) 34 rfl w.heap.size 272 (.agg #[.int .i64 0, .string ⟨#[]⟩, .int .i64 0]) 32 Tryz.underlying34 (by kernel_rfl) rfl (by omega) (.slice (some ⟨g, 0, none⟩) (o.length + 1) cv) (o ++ [⟨yk, ys, yn⟩]) rfl (OwnS.keeps (S := fun _ => False) HOWZ.out ((Keeps.refl _ _).alloc _).drew (fun _ _ _ _ => id)) wx.heap.size 1 ⟨xk, xs, xn⟩ rfl (Blk.new _ _ _).drew (stpR_one _) (by first | omega | (simp; done) | (simp; omega)) (by first | omega | (simp; done) | (simp; omega)) ?_; intro v7 w7 O7 k7; have HO7 := Lib.hid O7; have HK7 := Lib.hid k7; clear O7 k7))
                go_roundg (t.length + 1 - n)
                case rel =>
                  obtain ⟨f', hf', hst'⟩ := HST2.out
                  have hlen : ((c :: t).drop n).length = t.length + 1 - n := by rw [List.length_drop, List.length_cons]
                  exact ⟨(c :: t).drop n, o ++ [⟨yk, ys, yn⟩] ++ [⟨xk, xs, xn⟩], f', hlen.symm, by rw [HDX.out], by rw [hlen]; exact hf', Lib.hid ⟨HO7.out, by have := HOKN.out; rw [HPN.out] at this; rw [hlen]; exact this, by rw [← HPN.out]; exact hst', (HKX.out.alloc (.cells #[.int .i64 xk, .string (str xs), .int .i64 xn] 272)).drew.and_ HK7.out (fun i hi e => by have := e.1; omega)⟩⟩
                all_goals first | omega | (simp only [List.length_cons]; omega)
            · have HPN : Hid (pushP (o ++ [⟨yk, ys, yn⟩]) ⟨xk, xs, xn⟩ = o ++ [⟨yk, ys, yn⟩] ++ [⟨xk, xs, xn⟩]) := Lib.hid (pushP_new (y := ⟨yk, ys, yn⟩) (x := ⟨xk, xs, xn⟩) (fun h => hj h.2))
              go_region
              go_wp2_with (with_reducible show wpList _ _ _ (⟨some 68, _, _, _, _, _⟩ :: _) _ _; go_must (refine wpList_append_st stpR 3 stpR_len (by decide) rfl (.tmp 65) (.tmp 67) 34 rfl w.heap.size 272 (.agg #[.int .i64 0, .string ⟨#[]⟩, .int .i64 0]) 32 Tryz.underlying34 (by kernel_rfl) rfl (by omega) (.slice (some ⟨g, 0, none⟩) (o.length + 1) cv) (o ++ [⟨yk, ys, yn⟩]) rfl (OwnS.keeps (S := fun _ => False) HOWZ.out ((Keeps.refl _ _).alloc _).drew (fun _ _ _ _ => id)) wx.heap.size 1 ⟨xk, xs, xn⟩ rfl (Blk.new _ _ _).drew (stpR_one _) (by first | omega | (simp; done) | (simp; omega)) (by first | omega | (simp; done) | (simp; omega)) ?_; intro v7 w7 O7 k7; have HO7 := Lib.hid O7; have HK7 := Lib.hid k7; clear O7 k7))
              go_roundg (t.length + 1 - n)
              case rel =>
                obtain ⟨f', hf', hst'⟩ := HST2.out
                have hlen : ((c :: t).drop n).length = t.length + 1 - n := by rw [List.length_drop, List.length_cons]
                exact ⟨(c :: t).drop n, o ++ [⟨yk, ys, yn⟩] ++ [⟨xk, xs, xn⟩], f', hlen.symm, by rw [HDX.out], by rw [hlen]; exact hf', Lib.hid ⟨HO7.out, by have := HOKN.out; rw [HPN.out] at this; rw [hlen]; exact this, by rw [← HPN.out]; exact hst', (HKX.out.alloc (.cells #[.int .i64 xk, .string (str xs), .int .i64 xn] 272)).drew.and_ HK7.out (fun i hi e => by have := e.1; omega)⟩⟩
              all_goals first | omega | (simp only [List.length_cons]; omega)
end Go.Proofs.YtkmpdobojgiegaaGreatDoor
