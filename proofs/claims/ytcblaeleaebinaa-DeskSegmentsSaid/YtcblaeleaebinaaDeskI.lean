/-
  The desk: begin (nothing waits; a reply is first).
-/
import Derived.Test.YtcblaeleaebinaaDeskH
namespace Go.Proofs.Ytcblaeleaebinaa
open Go.RowKit
/-- a desk while some is sent: z bytes more are counted than wait -/
structure DeskZ (w : World) (E : Nat → PastD) (d : Nat) (F : Nat → Prop) (most : Nat) (torn : Bool) (bg : List UInt8) (l : List DPart) (v : Value) (z : Nat) : Prop where
  top : Blk w d 72 #[.string (str bg), v, .int .i64 ((flowP E bg l).length + z : Nat), .int .i64 most, .bool torn]
  own : OwnQ w 79 v (l.map DPart.val)
  pcs : ∀ q ∈ l, q.at w E ∧ q.ok E
  dist : (l.filterMap DPart.x?).Nodup
  inD : F d
  inV : ∀ i, rowB v = some i → F i
  inX : ∀ x ∈ l.filterMap DPart.x?, F x
  mst : 1 ≤ most ∧ most ≤ 1048576
  fit : (flowP E bg l).length + z ≤ 1099511627776 ∧ l.length ≤ 1099511627776
theorem DeskAt.z {w : World} {E : Nat → PastD} {d : Nat} {F : Nat → Prop} {most : Nat} {torn : Bool} {bg : List UInt8} {l : List DPart} {v : Value} (h : DeskAt w E d F most torn bg l v) : DeskZ w E d F most torn bg l v 0 :=
  ⟨h.top, h.own, h.pcs, h.dist, h.inD, h.inV, h.inX, h.mst, h.fit⟩
theorem DeskZ.keeps {w w' : World} {E : Nat → PastD} {d : Nat} {F : Nat → Prop} {most : Nat} {torn : Bool} {bg : List UInt8} {l : List DPart} {v : Value} {z : Nat} {S : Nat → Prop} (h : DeskZ w E d F most torn bg l v z) (k : Keeps S w w') (hS : ∀ i, F i → ¬ S i) : DeskZ w' E d F most torn bg l v z where
  top := h.top.keeps k (hS d h.inD)
  own := h.own.keeps k fun i hi _ => hS i (h.inV i hi)
  pcs := fun q hq => ⟨by
    have := (h.pcs q hq).1
    cases q with
    | rep s => trivial
    | pc x p f t => exact Blk.keeps this k (hS x (h.inX x (List.mem_filterMap.2 ⟨_, hq, rfl⟩))), (h.pcs q hq).2⟩
  dist := h.dist
  inD := h.inD
  inV := h.inV
  inX := h.inX
  mst := h.mst
  fit := h.fit
section
variable (w : World) (E : Nat → PastD) (d : Nat) (F : Nat → Prop) (most : Nat) (torn : Bool) (bg : List UInt8) (l : List DPart) (v : Value) (z : Nat)

set_option maxRecDepth 100000 in
theorem dbegin_nil (k : Int) (h : DeskZ w E d F most torn bg [] v z) : Calls Try.prog 37 #[.pointer (some ⟨d, 0, none⟩), .int .i64 k] w (Qt (.bool false) w) := by
  obtain ⟨av, cv, rfl⟩ := h.own.sl
  have c1 := h.top.cell 1
  simp at c1
  go_enter Try.func37, Try.ntmps37
  go_wp2_with fail
  go_ret
  exact Qt.of0 rfl

set_option maxRecDepth 100000 in
set_option maxHeartbeats 1000000 in
/-- a reply is first: it is begun whole -/
theorem dbegin_rep (k : Int) (s : List UInt8) (h : DeskZ w E d F most torn [] (.rep s :: l) v z) : Calls Try.prog 37 #[.pointer (some ⟨d, 0, none⟩), .int .i64 k] w fun e w' => e = .returned (.bool true) ∧ Keeps F w w' ∧ ∃ v', DeskZ w' E d F most torn s l v' z := by
  obtain ⟨vs, hvs⟩ : ∃ vs, vs = l.map DPart.val := ⟨_, rfl⟩
  have hown : OwnQ w 79 v (.iface 92 (.agg #[.string (str s)]) :: vs) := by rw [hvs]; exact h.own
  obtain ⟨g, off, cap, hv, hcl, -, hgl, hgb⟩ := hown.cell (j := 0) (u := .iface 92 (.agg #[.string (str s)])) rfl
  obtain ⟨n, hn⟩ : ∃ n, n = (flowP E [] (.rep s :: l)).length + z := ⟨_, rfl⟩
  have B := h.top
  rw [← hn] at B
  obtain ⟨m, hm⟩ : ∃ m, m = vs.length := ⟨_, rfl⟩
  have hv2 : v = .slice (some ⟨g, off, none⟩) (m + 1) cap := by rw [hv, hm]; rfl
  subst hv2
  clear hv
  have c0 := B.cell 0
  have c1 := B.cell 1
  have f0 := B.frozen 0
  have f1 := B.frozen 1
  simp at c0 c1 hcl
  have hgd : g ≠ d := by obtain ⟨cs, hb⟩ := hgb; exact hb.ne_ B (by decide)
  have hlt := B.lt
  have H := Lib.hid h
  have HB := Lib.hid B
  have HOW := Lib.hid hown
  have HVS := Lib.hid hvs
  have HN := Lib.hid hn
  have HM := Lib.hid hm
  have ht := ta_reply_yes
  clear h B hown hvs hn hm hgb
  have hend : ∀ v7, OwnQ w 79 v7 vs → (∀ i, rowB v7 = some i → F i) →
      Keeps F w (((w.setCell ⟨d, 0, none⟩ (.string (str s))).setCell ⟨d, 1, none⟩ v7).alloc (.cells #[.string (str s)] 92)) ∧ ∃ v', DeskZ (((w.setCell ⟨d, 0, none⟩ (.string (str s))).setCell ⟨d, 1, none⟩ v7).alloc (.cells #[.string (str s)] 92)) E d F most torn s l v' z := fun v7 hO hV => by
    have kk : Keeps (fun i => i = d) w (((w.setCell ⟨d, 0, none⟩ (.string (str s))).setCell ⟨d, 1, none⟩ v7).alloc (.cells #[.string (str s)] 92)) :=
      (((Keeps.refl (fun i => i = d) w).setCell (p := ⟨d, 0, none⟩) (fun _ => rfl) _).setCell (p := ⟨d, 1, none⟩) (fun _ => rfl) _).alloc _
    have hfl : flowP E [] (.rep s :: l) = flowP E s l := by unfold flowP; rw [List.flatMap_cons]; rfl
    refine ⟨kk.mono fun i _ e => e ▸ H.out.inD, v7, ?_⟩
    exact {
      top := by
        have := ((HB.out.set_ 0 (.string (str s))).set_ 1 v7).alloc (.cells #[.string (str s)] 92)
        rw [← hfl, ← HN.out]
        simpa using this
      own := by
        rw [← HVS.out]
        exact hO.keeps kk fun i hi ⟨cs, hb⟩ e => hb.ne_ HB.out (by decide) e
      pcs := pcs_keeps (fun q hq => H.out.pcs q (List.mem_cons_of_mem _ hq)) kk (fun i cs hb e => hb.ne_ HB.out (by decide) e)
      dist := H.out.dist
      inD := H.out.inD
      inV := hV
      inX := H.out.inX
      mst := H.out.mst
      fit := by
        have := H.out.fit
        rw [← hfl]
        exact ⟨this.1, by have := this.2; simp at this; omega⟩ }
  have HEND := Lib.hid hend
  clear hend
  have hF : rowB (.slice (some ⟨g, off, none⟩) (m + 1) cap) = some g → F g := fun e => H.out.inV g e
  by_cases hcap : cap = 1
  · subst hcap
    go_enter Try.func37, Try.ntmps37
    go_wp2_with fail
    go_ret
    exact ⟨rfl, HEND.out _ (by have := HOW.out.tail rfl; simpa using this) (fun i hi => by rw [rowB_zero] at hi; cases hi)⟩
  · go_enter Try.func37, Try.ntmps37
    go_wp2_with fail
    go_ret
    refine ⟨rfl, HEND.out _ (by have := HOW.out.tail rfl; rw [if_neg hcap] at this; simpa [Addr.add] using this) (fun i hi => ?_)⟩
    have hc : cap ≠ 0 := by
      have := HOW.out
      rcases this with ⟨h, _⟩ | ⟨g', off', cap', cur, h, _, h1, _⟩
      · cases h
      · injection h with _ _ h3; subst h3; simp at h1; omega
    have h2 : i = g := by
      have h3 := rowB_some g (off + 1) m (cap - 1) (by omega)
      rw [h3] at hi; injection hi with hi; exact hi.symm
    subst h2
    exact hF (rowB_some _ _ _ _ (by omega))
end
end Go.Proofs.Ytcblaeleaebinaa
