/-
  The desk: begin, a piece first that is kept.
-/
import Derived.Test.YtcblaeleaebinaaDeskK
namespace Go.Proofs.Ytcblaeleaebinaa
open Go.RowKit
/-- what begin leaves, a piece first that is kept -/
def BeganP (w : World) (E : Nat → PastD) (d : Nat) (F : Nat → Prop) (most : Nat) (torn : Bool) (l : List DPart) (z : Nat) (k : Int) (x p f t : Nat) (e : Ending) (w' : World) : Prop :=
  ∃ c l' v', e = .returned (.bool true) ∧ Keeps F w w' ∧ 1 ≤ c ∧ f + c ≤ t ∧ (((dblP (((E p).A.drop f).take c)).length : Int) ≤ k ∨ c = 1) ∧ (f + c = t ∧ l' = l ∨ f + c < t ∧ l' = .pc x p (f + c) t :: l) ∧ DeskZ w' E d F most torn (dblP (((E p).A.drop f).take c)) l' v' z
section
variable (w : World) (E : Nat → PastD) (d : Nat) (F : Nat → Prop) (most : Nat) (torn : Bool) (l : List DPart) (v : Value) (z : Nat)

set_option maxRecDepth 100000 in
set_option maxHeartbeats 2000000 in
theorem dbegin_kept (k : Int) (x p f t : Nat) (h : DeskZ w E d F most torn [] (.pc x p f t :: l) v z) (hk1 : 1 ≤ k) (hk2 : k ≤ 9223372036854775807) (hp : IsPast w p (E p).g (E p).b (E p).m (E p).A) (hA : (E p).A.length ≤ 2305843009213693952) (hg : (E p).A.length - (E p).m ≤ f) :
    Calls Try.prog 37 #[.pointer (some ⟨d, 0, none⟩), .int .i64 k] w (BeganP w E d F most torn l z k x p f t) := by
  obtain ⟨vs, hvs⟩ : ∃ vs, vs = l.map DPart.val := ⟨_, rfl⟩
  have hown : OwnQ w 79 v (.iface 76 (.pointer (some ⟨x, 0, none⟩)) :: vs) := by rw [hvs]; exact h.own
  obtain ⟨g, off, cap, hv, hcl, -, hgl, hgb⟩ := hown.cell (j := 0) (u := .iface 76 (.pointer (some ⟨x, 0, none⟩))) rfl
  obtain ⟨nf, hnf⟩ : ∃ nf, nf = (flowP E [] (.pc x p f t :: l)).length + z := ⟨_, rfl⟩
  have B := h.top
  rw [← hnf] at B
  obtain ⟨m, hm⟩ : ∃ m, m = vs.length := ⟨_, rfl⟩
  have hv2 : v = .slice (some ⟨g, off, none⟩) (m + 1) cap := by rw [hv, hm]; rfl
  subst hv2
  clear hv
  have PB : Blk w x 81 #[.pointer (some ⟨p, 0, none⟩), .int .i64 f, .int .i64 t, .int .i64 (dblF (((E p).A.drop f).take (t - f))).length] := (h.pcs _ List.mem_cons_self).1
  have hok : f < t ∧ t ≤ (E p).A.length := (h.pcs _ List.mem_cons_self).2
  have hgd : g ≠ d := by obtain ⟨cs, hb⟩ := hgb; exact hb.ne_ B (by decide)
  have hgx : g ≠ x := by obtain ⟨cs, hb⟩ := hgb; exact hb.ne_ PB (by decide)
  have hxd : x ≠ d := PB.ne_ B (by decide)
  obtain ⟨many, hmany⟩ : ∃ many, many = (dblF (((E p).A.drop f).take (t - f))).length := ⟨_, rfl⟩
  have hmb : many ≤ 1099511627776 := by
    have h1 := h.fit.1
    have h2 := kept_len (E := E) (x := x) (l := l) (p := p) (f := f) (t := t) (c := t - f) (by omega)
    rw [dblF_len] at hmany
    omega
  rw [← hmany] at PB
  obtain ⟨mm, hmm⟩ : ∃ mm : Nat, (mm : Int) = min k ((t : Int) - (f : Int)) := ⟨(min k ((t : Int) - (f : Int))).toNat, by omega⟩
  have hmm1 : 1 ≤ mm ∧ f + mm ≤ t ∧ (mm : Int) ≤ k := by omega
  obtain ⟨sg, hsg⟩ : ∃ sg, sg = ((E p).A.drop f).take mm := ⟨_, rfl⟩
  have hpos := hp.pos
  have hsl : sg.length = mm := by rw [hsg]; simp; omega
  have hmb2 : mm ≤ 1048576 := by omega
  have htb : t ≤ 2305843009213693952 := by omega
  have hw1 : IntKind.i64.wrap ((t : Int) - (f : Int)) = (t : Int) - (f : Int) := wrap_in (by omega) (by omega)
  have hw2 : IntKind.i64.wrap ((f : Int) + min k ((t : Int) - (f : Int))) = (f : Int) + min k ((t : Int) - (f : Int)) := wrap_in (by omega) (by omega)
  have hy : ∀ w1, Keeps (fun _ => False) w w1 → Calls Try.prog 33 #[.pointer (some ⟨p, 0, none⟩), .int .i64 f, .int .i64 ((f : Int) + min k ((t : Int) - (f : Int)))] w1 fun e w' => e = .returned (.tuple #[.string (str sg), .bool true]) ∧ Keeps (fun _ => False) w1 w' := fun w1 k1 => by
    have := pslice_yes w1 p _ _ _ _ (f : Int) ((f : Int) + min k ((t : Int) - (f : Int))) (hp.keeps k1 id id id) hA (by omega) (by omega) (by omega)
    have e1 : ((f : Int) + min k ((t : Int) - (f : Int))).toNat - (f : Int).toNat = mm := by omega
    rw [e1, Int.toNat_natCast, ← hsg] at this
    exact this
  have HY := Lib.hid hy
  have c1 := B.cell 1
  have p0 := PB.cell 0
  have p1 := PB.cell 1
  have p2 := PB.cell 2
  simp at c1 hcl p0 p1 p2
  have HB := Lib.hid B
  have HPB := Lib.hid PB
  have H := Lib.hid h
  have HOW := Lib.hid hown
  have HVS := Lib.hid hvs
  have HNF := Lib.hid hnf
  have HM := Lib.hid hm
  have HSG := Lib.hid hsg
  have HMANY := Lib.hid hmany
  have HGB := Lib.hid hgb
  have ht := ta_piece_yes
  have ht2 := ta_reply_no
  have HMM := Lib.hid hmm
  clear hmm
  clear h B hown hvs hnf hm hgb hy hp hA hg PB hsg hmany
  go_enter Try.func37, Try.ntmps37
  go_wp2_with fail
  refine wp_region_noPanic ?_
  go_region_held3 (fun w' => w'.cell? ⟨x, 0, none⟩ = some (.pointer (some ⟨p, 0, none⟩)) ∧ w'.cell? ⟨x, 1, none⟩ = some (.int .i64 f) ∧ w'.cell? ⟨x, 2, none⟩ = some (.int .i64 t) ∧ Keeps (fun _ => False) w w')
    ((first | exact ⟨p0, p1, p2, ((Keeps.refl _ _).drewN _).drew⟩ | exact ⟨p0, p1, p2, (Keeps.refl _ _).drew⟩ | (have bb := HPB.out.keeps kk id; exact ⟨bb.cell 0, bb.cell 1, bb.cell 2, kk⟩)))
    ((go_at_call 33; rename_i hh _ _; have hk := hh.2.2.2; refine (HY.out _ hk).mono ?_; rintro e w3 ⟨rfl, k3⟩; have kk := hk.trans k3))
  rename_i hh
  have kk := hh.2.2.2
  clear hh
  refine NoPanic.normal ?_
  have hss : (str sg).size = mm := by rw [str_size]; exact hsl
  go_wp2_with (go_at_call 54; go_must (refine (fit_any _ (str sg) k (by omega) hk1).mono ?_; rintro e w4 ⟨c, rfl, hc1, hc2, hc3, k4⟩))
  have hcut : (str sg).extract 0 c = str (((E p).A.drop f).take c) := by rw [str_ext0, HSG.out, List.take_take, Nat.min_eq_left (by omega)]
  have hc3' : ((dblP (((E p).A.drop f).take c)).length : Int) ≤ k ∨ c = 1 := by
    rw [str_list, HSG.out, List.take_take, Nat.min_eq_left (by omega)] at hc3
    exact hc3.imp id fun h => by omega
  obtain ⟨sc, hsc⟩ : ∃ sc, sc = ((E p).A.drop f).take c := ⟨_, rfl⟩
  have hscl : sc.length = c := by rw [hsc]; simp; omega
  rw [hcut, ← hsc]
  obtain ⟨D, hD⟩ : ∃ D, D = dblP sc := ⟨_, rfl⟩
  have hDl : D.length ≤ many := by
    rw [HMANY.out, drop_cut _ f c t (by omega), dblF_app, List.length_append, dblF_len ((List.drop f _).take c), ← hsc, ← hD]; omega
  have hdat := data_any w4 (str sc) (by rw [str_size]; omega)
  rw [str_list, ← hD] at hdat
  refine hdat.mono ?_
  rintro e w5 ⟨rfl, k5⟩
  have K5 : Keeps (fun _ => False) w w5 := (kk.trans k4).trans k5
  have B5 := HB.out.keeps K5 id
  have P5 := HPB.out.keeps K5 id
  have f0 := B5.frozen 0
  have b0 := B5.cell 0
  simp at b0
  have hq : ∀ y, (w5.setCell ⟨d, 0, none⟩ y).cell? ⟨x, 1, none⟩ = some (.int .i64 f) ∧ (w5.setCell ⟨d, 0, none⟩ y).cell? ⟨x, 3, none⟩ = some (.int .i64 many) ∧ (w5.setCell ⟨d, 0, none⟩ y).frozen? ⟨x, 1, none⟩ = false ∧ (w5.setCell ⟨d, 0, none⟩ y).frozen? ⟨x, 3, none⟩ = false ∧ (w5.setCell ⟨d, 0, none⟩ y).cell? ⟨d, 0, none⟩ = some y := fun y => by
    have b := P5.far (p := ⟨d, 0, none⟩) hxd y
    refine ⟨b.cell 1, b.cell 3, b.frozen 1, b.frozen 3, (B5.set_ 0 y).cell 0⟩
  have q1 := fun y => (hq y).1
  have q3 := fun y => (hq y).2.1
  have r1 := fun y => (hq y).2.2.1
  have r3 := fun y => (hq y).2.2.2.1
  have q0 := fun y => (hq y).2.2.2.2
  have hw3 : IntKind.i64.wrap ((f : Int) + (c : Int)) = (f : Int) + (c : Int) := wrap_in (by omega) (by omega)
  have hw4 : IntKind.i64.wrap ((many : Int) - (D.length : Int)) = (many : Int) - (D.length : Int) := wrap_in (by omega) (by omega)
  have hs1 : (str sc).size = c := by rw [str_size, hscl]
  have hs2 : (str D).size = D.length := str_size D
  have hcm : c ≤ mm := by omega
  have hc1p : 1 ≤ c := hc2 (by omega)
  have HHC := Lib.hid hcm
  have HHC2 := Lib.hid hc1p
  have HHC3 := Lib.hid hc3'
  have HSC := Lib.hid hsc
  have HD := Lib.hid hD
  have HDL := Lib.hid hDl
  clear hcut hc3 hc3' hsc hD hDl hdat hq hcm hc1p hc1 hc2 hsl hss
  go_wp2_with fail
  go_region
  obtain ⟨w9, hw9⟩ : ∃ w9, w9 = ((w5.setCell ⟨d, 0, none⟩ (.string (str D))).setCell ⟨x, 1, none⟩ (.int .i64 ((f : Int) + c))).setCell ⟨x, 3, none⟩ (.int .i64 ((many : Int) - D.length)) := ⟨_, rfl⟩
  rw [← hw9]
  have K9 : Keeps (fun i => i = d ∨ i = x) w w9 := by
    rw [hw9]
    exact ((K5.none_.setCell (p := ⟨d, 0, none⟩) (fun _ => .inl rfl) _).setCell (p := ⟨x, 1, none⟩) (fun _ => .inr rfl) _).setCell (p := ⟨x, 3, none⟩) (fun _ => .inr rfl) _
  have B9 : Blk w9 d 72 #[.string (str D), .slice (some ⟨g, off, none⟩) (m + 1) cap, .int .i64 nf, .int .i64 most, .bool torn] := by
    rw [hw9]
    have := ((B5.set_ 0 (.string (str D))).far (p := ⟨x, 1, none⟩) (Ne.symm hxd) (.int .i64 ((f : Int) + c))).far (p := ⟨x, 3, none⟩) (Ne.symm hxd) (.int .i64 ((many : Int) - D.length))
    simpa using this
  have P9 : Blk w9 x 81 #[.pointer (some ⟨p, 0, none⟩), .int .i64 ((f : Int) + c), .int .i64 t, .int .i64 ((many : Int) - D.length)] := by
    rw [hw9]
    have := ((P5.far (p := ⟨d, 0, none⟩) hxd (.string (str D))).set_ 1 (.int .i64 ((f : Int) + c))).set_ 3 (.int .i64 ((many : Int) - D.length))
    simpa using this
  clear hw9 q1 q3 r1 r3 q0 b0 f0 B5 P5 K5 k5 k4 kk
  have x1 := P9.cell 1
  have x2 := P9.cell 2
  have d1 := B9.cell 1
  have g1 := B9.frozen 1
  simp at x1 x2 d1
  have HB9 := Lib.hid B9
  have HP9 := Lib.hid P9
  clear B9 P9
  by_cases hft : f + c < t
  · have hlt : ((f : Int) + c < (t : Int)) = True := eq_true (by omega)
    go_wp2_with fail
    go_quiet (fail)
    go_wp2
    go_ret
    have KN : Keeps (fun i => i = d ∨ i = x) w ((w9.drew).drewN nq) := (K9.drew).drewN nq
    obtain ⟨t1, t2⟩ := kept_stay (c := c) H.out hft KN (by rw [← HSC.out, ← HD.out, ← HNF.out]; exact HB9.out) (by rw [← HSC.out, ← HD.out, ← HMANY.out]; exact HP9.out)
    exact ⟨c, _, _, rfl, t1, HHC2.out, by omega, HHC3.out, .inr ⟨hft, rfl⟩, t2⟩
  · have hlt : ((f : Int) + c < (t : Int)) = False := eq_false (by omega)
    have hfc : f + c = t := by have := HHC.out; omega
    have hF : rowB (.slice (some ⟨g, off, none⟩) (m + 1) cap) = some g → F g := fun e => H.out.inV g e
    have hend : ∀ (nq : Nat) (v9 : Value), OwnQ w 79 v9 vs → (∀ i, rowB v9 = some i → F i) → BeganP w E d F most torn l z k x p f t (.returned (.bool true)) ((w9.drewN nq).setCell ⟨d, 1, none⟩ v9) := fun nq v9 hO hV => by
      have KN : Keeps (fun i => i = d ∨ i = x) w ((w9.drewN nq).setCell ⟨d, 1, none⟩ v9) := (K9.drewN nq).setCell (p := ⟨d, 1, none⟩) (fun _ => .inl rfl) _
      obtain ⟨t1, t2⟩ := kept_go (c := c) (v9 := v9) H.out hfc KN (by
        rw [← HSC.out, ← HD.out, ← HNF.out]
        have := (HB9.out.drewN nq).set_ 1 v9
        simpa using this) (by
        rw [← HVS.out]
        exact hO.keeps KN fun i hi ⟨cs, hb⟩ e => by
          rcases e with rfl | rfl
          · exact hb.ne_ HB.out (by decide) rfl
          · exact hb.ne_ HPB.out (by decide) rfl) hV
      exact ⟨c, _, _, rfl, t1, HHC2.out, by omega, HHC3.out, .inl ⟨hfc, rfl⟩, t2⟩
    have HEND := Lib.hid hend
    clear hend
    by_cases hcap : cap = 1
    · subst hcap
      go_wp2_with fail
      go_quiet (fail)
      go_wp2_with fail
      go_ret
      exact HEND.out (1 + nq) _ (by have := HOW.out.tail rfl; simpa using this) (fun i hi => by rw [rowB_zero] at hi; cases hi)
    · go_wp2_with fail
      go_quiet (fail)
      go_wp2_with fail
      go_ret
      refine HEND.out (1 + nq) _ (by have := HOW.out.tail rfl; rw [if_neg hcap] at this; simpa [Addr.add] using this) (fun i hi => ?_)
      have hc : cap ≠ 0 := by
        have := HOW.out
        rcases this with ⟨h, _⟩ | ⟨g', off', cap', cur, h, _, h1, _⟩
        · cases h
        · injection h with _ _ h3; subst h3; simp at h1; omega
      have h2 : i = g := by
        have h3 := rowB_some g (off + 1) m (cap - 1) (by omega)
        rw [h3] at hi; injection hi with hi; exact hi.symm
      subst h2
      exact hF (rowB_some _ _ _ _ (by omega))
end
end Go.Proofs.Ytcblaeleaebinaa
