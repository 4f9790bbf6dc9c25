/-
  The desk: Show, by walk.
-/
import Derived.Test.YtcblaeleaebinaaDeskH
namespace Go.Proofs.Ytcblaeleaebinaa
open Go.RowKit
section
variable (w : World) (E : Nat → PastD) (d : Nat) (F : Nat → Prop) (most : Nat) (torn : Bool) (bg : List UInt8) (l : List DPart) (v : Value)

set_option maxRecDepth 100000 in
set_option maxHeartbeats 2000000 in
theorem dshow_yes (p x y : Nat) (h : DeskAt w E d F most torn bg l v) (hp : IsPast w p (E p).g (E p).b (E p).m (E p).A) (hA : (E p).A.length ≤ 2305843009213693952)
    (hx : (E p).A.length - (E p).m ≤ x) (hxy : x ≤ y) (hy : y ≤ (E p).A.length) (hz : (flowP E bg l).length ≤ 549755813888 ∧ l.length ≤ 8589934592) (hyx : y - x ≤ 1073741824) (hpast : ∀ x1 p1 f1 t1, DPart.pc x1 p1 f1 t1 ∈ l → ∃ cs, Blk w p1 67 cs) :
    Calls Try.prog 12 #[.pointer (some ⟨d, 0, none⟩), .pointer (some ⟨p, 0, none⟩), .int .i64 x, .int .i64 y] w fun e w' => e = .returned (.bool true) ∧ Keeps F w w' ∧
      ∃ v' l', DeskAt w' E d (fun i => F i ∨ w.heap.size ≤ i) most torn bg l' v' ∧ flowP E bg l' = flowP E bg l ++ dblF (((E p).A.drop x).take (y - x)) ∧ l'.length ≤ l.length + 1 ∧
        ∀ q ∈ l', ∀ x1 p1 f1 t1, q = DPart.pc x1 p1 f1 t1 → (p1 = p ∧ x ≤ f1) ∨ ∃ x0 t0, DPart.pc x0 p1 f1 t0 ∈ l := by
  obtain ⟨seg, hseg⟩ : ∃ seg, seg = ((E p).A.drop x).take (y - x) := ⟨_, rfl⟩
  have hsl : seg.length = y - x := by rw [hseg]; simp; omega
  have hs := pslice_yes w p _ _ _ _ (x : Int) (y : Int) hp hA (by omega) (by omega) (by omega)
  simp only [Int.toNat_natCast] at hs
  rw [← hseg] at hs ⊢
  have hpl := hp.lt
  obtain ⟨c, hc⟩ : ∃ c, c = (dblP seg).length := ⟨_, rfl⟩
  have hcost : ∀ w, Calls Try.prog 35 #[.string (str seg)] w fun e w' => e = .returned (.int .i64 c) ∧ Keeps (fun _ => False) w w' := fun w => by
    rw [hc]; exact cost_any w (str seg) (by rw [str_size]; omega)
  have hc2 := dblP_len seg
  have hcb : c ≤ 2147483648 := by omega
  have hc0 : c = 0 ↔ x = y := by
    constructor
    · intro h0
      by_cases hne : seg = []
      · rw [hne] at hsl; simp at hsl; omega
      · have := dblP_pos hne; omega
    · intro h0
      have : seg = [] := List.eq_nil_of_length_eq_zero (by omega)
      rw [hc, this]; rfl
  have HC := Lib.hid hc
  have HC0 := Lib.hid hc0
  have HCO := Lib.hid hcost
  clear hc hc2 hc0 hcost
  have HS := Lib.hid hs
  have HSEG := Lib.hid hseg
  have H := Lib.hid h
  clear hs hseg h
  go_enter Try.func12, Try.ntmps12
  go_wp2_with fail
  refine HS.out.mono ?_
  rintro e w1 ⟨rfl, k1⟩
  have h1 := H.out.keeps k1 (fun _ _ => id)
  go_wp2_with fail
  refine (dmade_yes w1 E d F most torn bg l v h1).mono ?_
  rintro e w2 ⟨rfl, n2, rfl⟩
  go_wp2_with fail
  refine (HCO.out _).mono ?_
  rintro e w3 ⟨rfl, k3⟩
  have K3 : Keeps (fun _ => False) w w3 := (k1.drewN n2).trans k3
  have h3 := H.out.keeps K3 (fun _ _ => id)
  clear k1 k3 h1 H
  obtain ⟨n, hn⟩ : ∃ n, n = (flowP E bg l).length := ⟨_, rfl⟩
  have B3 := h3.top
  rw [← hn] at B3 hz
  have HN := Lib.hid hn
  clear hn
  obtain ⟨hz1, hz2⟩ := hz
  obtain ⟨vs, hvs⟩ : ∃ vs, vs = l.map DPart.val := ⟨_, rfl⟩
  have hvl : vs.length = l.length := by rw [hvs]; simp
  have hown := h3.own
  rw [← hvs] at hown
  obtain ⟨av, cv, hv⟩ := hown.sl
  obtain ⟨m, hm⟩ : ∃ m, m = vs.length := ⟨_, rfl⟩
  rw [← hm] at hv hvl
  subst hv
  have HM := Lib.hid hm
  clear hm
  have hvd : ∀ i, rowB (.slice av m cv) = some i → i ≠ d ∧ i ≠ w3.heap.size := fun i hi => by
    obtain ⟨cs, hb⟩ := hown.row i hi
    exact ⟨hb.ne_ B3 (by decide), by have := hb.lt; omega⟩
  have hml : m ≤ 17179869184 := by omega
  have hw : IntKind.i64.wrap ((n : Int) + (c : Int)) = (n : Int) + (c : Int) := wrap_in (by omega) (by omega)
  have c1 := B3.cell 1
  have c2 := B3.cell 2
  have f2 := B3.frozen 2
  have f1 := B3.frozen 1
  simp at c1 c2
  have hd3 := B3.lt
  have HB3 := Lib.hid B3
  have H3 := Lib.hid h3
  have HOW := Lib.hid hown
  have HVD := Lib.hid hvd
  have HVS := Lib.hid hvs
  have HVL := Lib.hid hvl
  clear B3 h3 hown hvd hvs hvl
  have hend : ∀ (w7 : World) (v7 : Value), Keeps (fun i => i = d ∨ rowB (.slice av m cv) = some i) w3 w7 → (rowB v7 = rowB (.slice av m cv) ∨ ∃ k, rowB v7 = some k ∧ w.heap.size ≤ k) →
      Blk w7 d 72 #[.string (str bg), .slice av m cv, .int .i64 ((n : Int) + c), .int .i64 most, .bool torn] → OwnQ w7 79 v7 (vs ++ [.iface 76 (.pointer (some ⟨w3.heap.size, 0, none⟩))]) →
      Blk w7 w3.heap.size 81 #[.pointer (some ⟨p, 0, none⟩), .int .i64 x, .int .i64 y, .int .i64 c] → 0 < c →
      Keeps F w (w7.setCell ⟨d, 1, none⟩ v7) ∧ ∃ v' l', DeskAt (w7.setCell ⟨d, 1, none⟩ v7) E d (fun i => F i ∨ w.heap.size ≤ i) most torn bg l' v' ∧ flowP E bg l' = flowP E bg l ++ dblF seg ∧ l'.length ≤ l.length + 1 ∧
        ∀ q ∈ l', ∀ x1 p1 f1 t1, q = DPart.pc x1 p1 f1 t1 → (p1 = p ∧ x ≤ f1) ∨ ∃ x0 t0, DPart.pc x0 p1 f1 t0 ∈ l := fun w7 v7 K7 hv7 B7 O7 P7 hc7 => by
    rw [HVS.out] at O7
    rw [← Int.natCast_add] at B7
    have hxlt : x < y := by
      have := HC0.out
      omega
    obtain ⟨t1, t2⟩ := show_end p x y w3.heap.size H3.out K3 K7 hv7 HN.out (by rw [← HSEG.out, dblF_len]; exact HC.out) hxlt hy (Nat.le_refl _) B7 O7 P7 ⟨by omega, by omega⟩
    refine ⟨t1, v7, _, t2, ?_, by simp, fun q hq x1 p1 f1 t1 he => ?_⟩
    · rw [flowP_snoc, HSEG.out]; rfl
    · rcases List.mem_append.1 hq with hq | hq
      · subst he; exact .inr ⟨_, _, hq⟩
      · rw [List.mem_singleton] at hq; rw [hq] at he; injection he with e1 e2 e3 e4
        exact .inl ⟨e2.symm, by omega⟩
  have HEND := Lib.hid hend
  clear hend
  have hend0 : c = 0 → Keeps F w (w3.setCell ⟨d, 2, none⟩ (.int .i64 n)) ∧ ∃ v' l', DeskAt (w3.setCell ⟨d, 2, none⟩ (.int .i64 n)) E d (fun i => F i ∨ w.heap.size ≤ i) most torn bg l' v' ∧ flowP E bg l' = flowP E bg l ++ dblF seg ∧ l'.length ≤ l.length + 1 ∧
        ∀ q ∈ l', ∀ x1 p1 f1 t1, q = DPart.pc x1 p1 f1 t1 → (p1 = p ∧ x ≤ f1) ∨ ∃ x0 t0, DPart.pc x0 p1 f1 t0 ∈ l := fun h0 => by
    have hsg : seg = [] := List.eq_nil_of_length_eq_zero (by have := HC0.out.1 h0; omega)
    have ks := (Keeps.refl (fun i => i = d) w3).setCell (p := ⟨d, 2, none⟩) (fun _ => rfl) (.int .i64 n)
    refine ⟨K3.none_.trans (ks.mono fun i _ h => h ▸ H3.out.inD), .slice av m cv, l, ?_, by rw [hsg]; simp [dblF], by omega, fun q hq x1 p1 f1 t1 he => .inr ⟨x1, t1, he ▸ hq⟩⟩
    exact {
      top := by
        have := HB3.out.set_ 2 (.int .i64 n)
        rw [← HN.out]
        simpa using this
      own := H3.out.own.keeps ks fun i hi ⟨cs, hb⟩ e => hb.ne_ HB3.out (by decide) e
      pcs := pcs_keeps H3.out.pcs ks (fun i cs hb h => hb.ne_ HB3.out (by decide) h)
      dist := H3.out.dist
      inD := .inl H3.out.inD
      inV := fun i hi => .inl (H3.out.inV i hi)
      inX := fun q hq => .inl (H3.out.inX q hq)
      mst := H3.out.mst
      fit := H3.out.fit }
  have HEND0 := Lib.hid hend0
  clear hend0
  rcases l.eq_nil_or_concat with hl0 | ⟨l0, q, hl0⟩
  · have hvn : vs = [] := by rw [HVS.out, hl0]; rfl
    subst hvn
    obtain rfl : m = 0 := HM.out
    by_cases hcz : 0 < c
    · go_wp2_with (with_reducible show wpList _ _ _ (⟨some 103, _, _, _, _, _⟩ :: _) _ _; go_must (refine wpList_append_q rfl _ _ _ rfl 79 .nilIface 16 Try.underlying70 (by kernel_rfl) rfl (by omega) (.slice av 0 cv) [] rfl (OwnQ.keeps (S := fun i => i = d) HOW.out (by (repeat (first | (with_reducible assumption) | (with_reducible exact Keeps.refl _ _) | refine Keeps.drew ?_ | refine Keeps.drewN ?_ _ | refine Keeps.setCell ?_ (by simp) _ | refine Keeps.setRow ?_ (by simp) _ | refine Keeps.alloc ?_ _))) (fun i hi _ => (HVD.out i hi).1)) _ _ (.iface 76 (.pointer (some ⟨w3.heap.size, 0, none⟩))) rfl (cell_new (by simp)) rfl (by simp) ?_; intro v7 w7 O7 k7 hv7; obtain ⟨a7, n7, c7, rfl⟩ := O7.sl3; have B7 := (((HB3.out.set_ 2 (.int .i64 ((n : Int) + c))).alloc _).alloc _).keeps k7 (fun e => absurd rfl (HVD.out d e).1); have P7 := ((blk_new (by simp)).alloc _).keeps k7 (fun e => absurd rfl (HVD.out w3.heap.size e).2); have K7 : Keeps (fun i => i = d ∨ rowB (.slice av 0 cv) = some i) w3 w7 := Keeps.and_ (by (repeat (first | (with_reducible assumption) | (with_reducible exact Keeps.refl _ _) | refine Keeps.drew ?_ | refine Keeps.drewN ?_ _ | refine Keeps.setCell ?_ (by simp) _ | refine Keeps.setRow ?_ (by simp) _ | refine Keeps.alloc ?_ _))) k7 (fun i _ h => .inr h); have e1 := B7.cell 1; have g1 := B7.frozen 1; simp at e1))
      simp at B7
      have K0 := K3.size
      go_ret
      exact ⟨rfl, HEND.out w7 (.slice a7 n7 c7) K7 (hv7.imp id (fun h => ⟨_, h, by simp; omega⟩)) B7 O7 P7 hcz⟩
    · obtain rfl : c = 0 := by omega
      go_wp2_with fail
      go_ret
      exact ⟨rfl, HEND0.out (by trivial)⟩
  · obtain ⟨m0, hm0⟩ : ∃ m0, m = m0 + 1 := ⟨l0.length, by rw [HVL.out, hl0]; simp⟩
    subst hm0
    have hcl := HOW.out.cell (j := m0) (u := q.val) (by
      have h1 := HVL.out
      rw [HVS.out, hl0]
      have : m0 = l0.length := by rw [hl0] at h1; simp at h1; omega
      subst this
      simp)
    obtain ⟨g, off, cap, hvg, hcl, -, hgl, hgb⟩ := hcl
    injection hvg with hav hmm hcv
    subst hav; subst hcv
    clear hmm
    have hgd : g ≠ d := by obtain ⟨cs, hb⟩ := hgb; exact hb.ne_ HB3.out (by decide)
    have hcell4 : ∀ z, (w3.setCell ⟨d, 2, none⟩ z).cell? ⟨g, off + m0, none⟩ = some q.val := fun z => by
      obtain ⟨cs, hb⟩ := hgb
      rw [(hb.far (p := ⟨d, 2, none⟩) hgd _).cell, ← hb.cell]
      exact hcl
    clear hgb
    have HC4 := Lib.hid hcell4
    clear hcell4 hcl
    cases q with
    | rep s =>
      have hcell4 : ∀ z, (w3.setCell ⟨d, 2, none⟩ z).cell? ⟨g, off + m0, none⟩ = some (.iface 92 (.agg #[.string (str s)])) := HC4.out
      have hi1 : (0 : Int) ≤ (m0 : Int) := by omega
      have hi2 : IntKind.i64.wrap (((m0 + 1 : Nat) : Int) - 1) = (m0 : Int) := by rw [wrap_in (by omega) (by omega)]; omega
      have hi3 : (m0 : Int) < ((m0 + 1 : Nat) : Int) := by omega
      have ht := ta_piece_no
      by_cases hcz : 0 < c
      · go_wp2_with (with_reducible show wpList _ _ _ (⟨some 103, _, _, _, _, _⟩ :: _) _ _; go_must (refine wpList_append_q rfl _ _ _ rfl 79 .nilIface 16 Try.underlying70 (by kernel_rfl) rfl (by omega) (.slice (some ⟨g, off, none⟩) (m0 + 1) cv) vs rfl (OwnQ.keeps (S := fun i => i = d) HOW.out (by (repeat (first | (with_reducible assumption) | (with_reducible exact Keeps.refl _ _) | refine Keeps.drew ?_ | refine Keeps.drewN ?_ _ | refine Keeps.setCell ?_ (by simp) _ | refine Keeps.setRow ?_ (by simp) _ | refine Keeps.alloc ?_ _))) (fun i hi _ => (HVD.out i hi).1)) _ _ (.iface 76 (.pointer (some ⟨w3.heap.size, 0, none⟩))) rfl (cell_new (by simp)) rfl (by rw [← HM.out]; omega) ?_; intro v7 w7 O7 k7 hv7; obtain ⟨a7, n7, c7, rfl⟩ := O7.sl3; have B7 := (((HB3.out.set_ 2 (.int .i64 ((n : Int) + c))).alloc _).alloc _).keeps k7 (fun e => absurd rfl (HVD.out d e).1); have P7 := ((blk_new (by simp)).alloc _).keeps k7 (fun e => absurd rfl (HVD.out w3.heap.size e).2); have K7 : Keeps (fun i => i = d ∨ rowB (.slice (some ⟨g, off, none⟩) (m0 + 1) cv) = some i) w3 w7 := Keeps.and_ (by (repeat (first | (with_reducible assumption) | (with_reducible exact Keeps.refl _ _) | refine Keeps.drew ?_ | refine Keeps.drewN ?_ _ | refine Keeps.setCell ?_ (by simp) _ | refine Keeps.setRow ?_ (by simp) _ | refine Keeps.alloc ?_ _))) k7 (fun i _ h => .inr h); have e1 := B7.cell 1; have g1 := B7.frozen 1; simp at e1))
        simp at B7
        have K0 := K3.size
        go_ret
        exact ⟨rfl, HEND.out w7 (.slice a7 n7 c7) K7 (hv7.imp id (fun h => ⟨_, h, by simp; omega⟩)) B7 O7 P7 hcz⟩
      · obtain rfl : c = 0 := by omega
        go_wp2_with fail
        go_ret
        exact ⟨rfl, HEND0.out (by trivial)⟩
    | pc x' p' f t =>
      have hcell4 : ∀ z, (w3.setCell ⟨d, 2, none⟩ z).cell? ⟨g, off + m0, none⟩ = some (.iface 76 (.pointer (some ⟨x', 0, none⟩))) := HC4.out
      have hi1 : (0 : Int) ≤ (m0 : Int) := by omega
      have hi2 : IntKind.i64.wrap (((m0 + 1 : Nat) : Int) - 1) = (m0 : Int) := by rw [wrap_in (by omega) (by omega)]; omega
      have hi3 : (m0 : Int) < ((m0 + 1 : Nat) : Int) := by omega
      have ht := ta_piece_yes
      have PB : Blk w3 x' 81 #[.pointer (some ⟨p', 0, none⟩), .int .i64 f, .int .i64 t, .int .i64 (dblF (((E p').A.drop f).take (t - f))).length] := (H3.out.pcs (.pc x' p' f t) (by rw [hl0]; simp)).1
      obtain ⟨many, hmany⟩ : ∃ many, many = (dblF (((E p').A.drop f).take (t - f))).length := ⟨_, rfl⟩
      rw [← hmany] at PB
      have HMANY := Lib.hid hmany
      clear hmany
      have hxd : x' ≠ d := PB.ne_ HB3.out (by decide)
      have hp4 : ∀ z, (w3.setCell ⟨d, 2, none⟩ z).cell? ⟨x', 0, none⟩ = some (.pointer (some ⟨p', 0, none⟩)) ∧ (w3.setCell ⟨d, 2, none⟩ z).cell? ⟨x', 2, none⟩ = some (.int .i64 t) ∧ (w3.setCell ⟨d, 2, none⟩ z).cell? ⟨x', 3, none⟩ = some (.int .i64 many) ∧ (w3.setCell ⟨d, 2, none⟩ z).frozen? ⟨x', 2, none⟩ = false ∧ (w3.setCell ⟨d, 2, none⟩ z).frozen? ⟨x', 3, none⟩ = false := fun z => by
        have b := PB.far (p := ⟨d, 2, none⟩) hxd z
        exact ⟨b.cell 0, b.cell 2, b.cell 3, b.frozen 2, b.frozen 3⟩
      have q0 := fun z => (hp4 z).1
      have q2 := fun z => (hp4 z).2.1
      have q3 := fun z => (hp4 z).2.2.1
      have r2 := fun z => (hp4 z).2.2.2.1
      have r3 := fun z => (hp4 z).2.2.2.2
      clear hp4
      by_cases hpp : p' = p
      · by_cases htx : t = x
        · subst hpp
          subst htx
          have hok : f < t ∧ t ≤ (E p').A.length := (H3.out.pcs (.pc x' p' f t) (by rw [hl0]; simp)).2
          have hl1 : l = l0 ++ [.pc x' p' f t] := by rw [hl0, List.concat_eq_append]
          have hzz : n + c ≤ 1099511627776 := by omega
          have T := show_join (n := n) (c := c) (many := many) p' t y x' f H3.out K3 hl1 hxy hy HN.out (by rw [← HSEG.out, dblF_len]; exact HC.out) HMANY.out hzz
          have hmb : many ≤ 1099511627776 := by
            have h1 := H3.out.fit.1
            rw [hl1, flowP_snoc, List.length_append] at h1
            have h2 : (DPart.flow E (.pc x' p' f t)).length = many := HMANY.out.symm
            omega
          have hw2 : IntKind.i64.wrap ((many : Int) + (c : Int)) = (many : Int) + (c : Int) := wrap_in (by omega) (by omega)
          have HT := Lib.hid T
          have HL0 := Lib.hid hl1
          clear T hok hl0 hl1
          have heq := eql_past_same ⟨p', 0, none⟩
          go_wp2_with fail
          go_ret
          refine ⟨rfl, HT.out.1, _, _, HT.out.2.1.more (fun _ h => .inl h), by rw [HSEG.out]; exact HT.out.2.2, by rw [HL0.out]; simp, fun q hq x1 p1 f1 t1 he => .inr ?_⟩
          rcases List.mem_append.1 hq with hq | hq
          · exact ⟨x1, t1, by rw [HL0.out, ← he]; exact List.mem_append_left _ hq⟩
          · rw [List.mem_singleton] at hq
            rw [hq] at he
            injection he with e1 e2 e3 e4
            subst e1; subst e2; subst e3
            exact ⟨x', t, by rw [HL0.out]; simp⟩
        · have htx2 : ((t : Int) == (x : Int)) = false := by rw [beq_eq_false_iff_ne]; omega
          subst hpp
          have heq := eql_past_same ⟨p', 0, none⟩
          by_cases hcz : 0 < c
          · go_wp2_with (with_reducible show wpList _ _ _ (⟨some 103, _, _, _, _, _⟩ :: _) _ _; go_must (refine wpList_append_q rfl _ _ _ rfl 79 .nilIface 16 Try.underlying70 (by kernel_rfl) rfl (by omega) (.slice (some ⟨g, off, none⟩) (m0 + 1) cv) vs rfl (OwnQ.keeps (S := fun i => i = d) HOW.out (by (repeat (first | (with_reducible assumption) | (with_reducible exact Keeps.refl _ _) | refine Keeps.drew ?_ | refine Keeps.drewN ?_ _ | refine Keeps.setCell ?_ (by simp) _ | refine Keeps.setRow ?_ (by simp) _ | refine Keeps.alloc ?_ _))) (fun i hi _ => (HVD.out i hi).1)) _ _ (.iface 76 (.pointer (some ⟨w3.heap.size, 0, none⟩))) rfl (cell_new (by simp)) rfl (by rw [← HM.out]; omega) ?_; intro v7 w7 O7 k7 hv7; obtain ⟨a7, n7, c7, rfl⟩ := O7.sl3; have B7 := (((HB3.out.set_ 2 (.int .i64 ((n : Int) + c))).alloc _).alloc _).keeps k7 (fun e => absurd rfl (HVD.out d e).1); have P7 := ((blk_new (by simp)).alloc _).keeps k7 (fun e => absurd rfl (HVD.out w3.heap.size e).2); have K7 : Keeps (fun i => i = d ∨ rowB (.slice (some ⟨g, off, none⟩) (m0 + 1) cv) = some i) w3 w7 := Keeps.and_ (by (repeat (first | (with_reducible assumption) | (with_reducible exact Keeps.refl _ _) | refine Keeps.drew ?_ | refine Keeps.drewN ?_ _ | refine Keeps.setCell ?_ (by simp) _ | refine Keeps.setRow ?_ (by simp) _ | refine Keeps.alloc ?_ _))) k7 (fun i _ h => .inr h); have e1 := B7.cell 1; have g1 := B7.frozen 1; simp at e1))
            simp at B7
            have K0 := K3.size
            go_ret
            exact ⟨rfl, HEND.out w7 (.slice a7 n7 c7) K7 (hv7.imp id (fun h => ⟨_, h, by simp; omega⟩)) B7 O7 P7 hcz⟩
          · obtain rfl : c = 0 := by omega
            go_wp2_with fail
            go_ret
            exact ⟨rfl, HEND0.out (by trivial)⟩
      · have heq : ∀ z, (binOp .eql 23 (.pointer (some ⟨p', 0, none⟩)) (.pointer (some ⟨p, 0, none⟩))).run Try.prog (w3.setCell ⟨d, 2, none⟩ z) = .ok (.bool false) (w3.setCell ⟨d, 2, none⟩ z) := fun z => by
          obtain ⟨cs, hb⟩ := hpast x' p' f t (by rw [hl0]; simp)
          have hb3 := hb.keeps K3 id
          have hb4 := hp.top.keeps K3 id
          exact eql_past_other p' p _ hpp (hb3.far (p := ⟨d, 2, none⟩) (hb3.ne_ HB3.out (by decide)) z) (hb4.far (p := ⟨d, 2, none⟩) (hb4.ne_ HB3.out (by decide)) z)
        by_cases hcz : 0 < c
        · go_wp2_with (with_reducible show wpList _ _ _ (⟨some 103, _, _, _, _, _⟩ :: _) _ _; go_must (refine wpList_append_q rfl _ _ _ rfl 79 .nilIface 16 Try.underlying70 (by kernel_rfl) rfl (by omega) (.slice (some ⟨g, off, none⟩) (m0 + 1) cv) vs rfl (OwnQ.keeps (S := fun i => i = d) HOW.out (by (repeat (first | (with_reducible assumption) | (with_reducible exact Keeps.refl _ _) | refine Keeps.drew ?_ | refine Keeps.drewN ?_ _ | refine Keeps.setCell ?_ (by simp) _ | refine Keeps.setRow ?_ (by simp) _ | refine Keeps.alloc ?_ _))) (fun i hi _ => (HVD.out i hi).1)) _ _ (.iface 76 (.pointer (some ⟨w3.heap.size, 0, none⟩))) rfl (cell_new (by simp)) rfl (by rw [← HM.out]; omega) ?_; intro v7 w7 O7 k7 hv7; obtain ⟨a7, n7, c7, rfl⟩ := O7.sl3; have B7 := (((HB3.out.set_ 2 (.int .i64 ((n : Int) + c))).alloc _).alloc _).keeps k7 (fun e => absurd rfl (HVD.out d e).1); have P7 := ((blk_new (by simp)).alloc _).keeps k7 (fun e => absurd rfl (HVD.out w3.heap.size e).2); have K7 : Keeps (fun i => i = d ∨ rowB (.slice (some ⟨g, off, none⟩) (m0 + 1) cv) = some i) w3 w7 := Keeps.and_ (by (repeat (first | (with_reducible assumption) | (with_reducible exact Keeps.refl _ _) | refine Keeps.drew ?_ | refine Keeps.drewN ?_ _ | refine Keeps.setCell ?_ (by simp) _ | refine Keeps.setRow ?_ (by simp) _ | refine Keeps.alloc ?_ _))) k7 (fun i _ h => .inr h); have e1 := B7.cell 1; have g1 := B7.frozen 1; simp at e1))
          simp at B7
          have K0 := K3.size
          go_ret
          exact ⟨rfl, HEND.out w7 (.slice a7 n7 c7) K7 (hv7.imp id (fun h => ⟨_, h, by simp; omega⟩)) B7 O7 P7 hcz⟩
        · obtain rfl : c = 0 := by omega
          go_wp2_with fail
          go_ret
          exact ⟨rfl, HEND0.out (by trivial)⟩
end
end Go.Proofs.Ytcblaeleaebinaa
