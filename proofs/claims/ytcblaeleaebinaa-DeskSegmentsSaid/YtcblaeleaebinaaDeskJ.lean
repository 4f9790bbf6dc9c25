/-
  The desk: begin, a piece first that is kept no more.
-/
import Derived.Test.YtcblaeleaebinaaDeskI
namespace Go.Proofs.Ytcblaeleaebinaa
open Go.RowKit
section
variable (w : World) (E : Nat → PastD) (d : Nat) (F : Nat → Prop) (most : Nat) (torn : Bool) (bg : List UInt8) (l : List DPart) (v : Value) (z : Nat)

set_option maxRecDepth 100000 in
set_option maxHeartbeats 1000000 in
theorem dbegin_gone (k : Int) (x p f t : Nat) (h : DeskZ w E d F most torn [] (.pc x p f t :: l) v z) (hk : 1 ≤ k) (hk2 : k ≤ 9223372036854775807) (hp : IsPast w p (E p).g (E p).b (E p).m (E p).A) (hA : (E p).A.length ≤ 2305843009213693952) (hg : f < (E p).A.length - (E p).m) :
    Calls Try.prog 37 #[.pointer (some ⟨d, 0, none⟩), .int .i64 k] w fun e w' => e = .returned (.bool false) ∧ Keeps F w w' ∧ DeskZ w' E d F most true [] (.pc x p f t :: l) v z := by
  obtain ⟨vs, hvs⟩ : ∃ vs, vs = l.map DPart.val := ⟨_, rfl⟩
  have hown : OwnQ w 79 v (.iface 76 (.pointer (some ⟨x, 0, none⟩)) :: vs) := by rw [hvs]; exact h.own
  obtain ⟨g, off, cap, hv, hcl, -, hgl, hgb⟩ := hown.cell (j := 0) (u := .iface 76 (.pointer (some ⟨x, 0, none⟩))) rfl
  have B := h.top
  obtain ⟨m, hm⟩ : ∃ m, m = vs.length := ⟨_, rfl⟩
  have hv2 : v = .slice (some ⟨g, off, none⟩) (m + 1) cap := by rw [hv, hm]; rfl
  subst hv2
  clear hv
  have PB : Blk w x 81 #[.pointer (some ⟨p, 0, none⟩), .int .i64 f, .int .i64 t, .int .i64 (dblF (((E p).A.drop f).take (t - f))).length] := (h.pcs _ List.mem_cons_self).1
  have hok : f < t ∧ t ≤ (E p).A.length := (h.pcs _ List.mem_cons_self).2
  obtain ⟨many, hmany⟩ : ∃ many, many = (dblF (((E p).A.drop f).take (t - f))).length := ⟨_, rfl⟩
  rw [← hmany] at PB
  have c1 := B.cell 1
  have f4 := B.frozen 4
  have c4 := B.cell 4
  have HB := Lib.hid B
  have p0 := PB.cell 0
  have p1 := PB.cell 1
  have p2 := PB.cell 2
  simp at c1 c4 hcl p0 p1 p2
  have hw1 : IntKind.i64.wrap ((t : Int) - (f : Int)) = (t : Int) - (f : Int) := wrap_in (by omega) (by omega)
  have hmn : (f : Int) ≤ (f : Int) + min k ((t : Int) - (f : Int)) ∧ (f : Int) + min k ((t : Int) - (f : Int)) ≤ 4611686018427387904 := by omega
  have hw2 : IntKind.i64.wrap ((f : Int) + min k ((t : Int) - (f : Int))) = (f : Int) + min k ((t : Int) - (f : Int)) := wrap_in (by omega) (by omega)
  have hno := fun n => pslice_no (w.drewN n) p _ _ _ _ (f : Int) ((f : Int) + min k ((t : Int) - (f : Int))) (hp.drewN n) hA (.inl (by omega))
  have HNO := Lib.hid hno
  have H := Lib.hid h
  have ht := ta_piece_yes
  have ht2 := ta_reply_no
  clear hno h hvs hown hm hmany hgb B
  go_enter Try.func37, Try.ntmps37
  go_wp2_with fail
  go_quiet ((go_at_call 33; exact Qt.quiet (HNO.out _)))
  go_wp2
  go_ret
  have ks : Keeps (fun i => i = d) w ((w.drewN nq).setCell ⟨d, 4, none⟩ (.bool true)) := ((Keeps.refl (fun i => i = d) w).drewN nq).setCell (p := ⟨d, 4, none⟩) (fun _ => rfl) _
  refine ⟨rfl, ks.mono fun i _ e => e ▸ H.out.inD, ?_⟩
  exact { H.out with
    top := by
      have := (HB.out.drewN nq).set_ 4 (.bool true)
      simpa using this
    own := H.out.own.keeps ks fun i hi ⟨cs, hb⟩ e => hb.ne_ HB.out (by decide) e
    pcs := pcs_keeps H.out.pcs ks (fun i cs hb e => hb.ne_ HB.out (by decide) e) }
end
end Go.Proofs.Ytcblaeleaebinaa
