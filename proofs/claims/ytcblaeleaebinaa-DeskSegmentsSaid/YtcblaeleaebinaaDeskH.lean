/-
  The desk: what Show leaves where the last piece is made longer.
-/
import Derived.Test.YtcblaeleaebinaaDeskF
namespace Go.Proofs.Ytcblaeleaebinaa
open Go.RowKit

theorem seg_join (A : List UInt8) (f x y : Nat) (h1 : f ≤ x) (h2 : x ≤ y) : (A.drop f).take (y - f) = (A.drop f).take (x - f) ++ (A.drop x).take (y - x) := by
  rw [show y - f = (x - f) + (y - x) by omega, List.take_add, List.drop_drop]
  congr 3
  omega

theorem show_join {w w3 : World} {E : Nat → PastD} {d : Nat} {F : Nat → Prop} {most : Nat} {torn : Bool} {bg : List UInt8} {l l0 : List DPart} {v : Value} {n c many : Nat} (p x y x' f : Nat)
    (H3 : DeskAt w3 E d F most torn bg l v) (K3 : Keeps (fun _ => False) w w3) (hl : l = l0 ++ [.pc x' p f x]) (hxy : x ≤ y) (hy : y ≤ (E p).A.length)
    (hn : n = (flowP E bg l).length) (hc : c = (dblF (((E p).A.drop x).take (y - x))).length) (hm : many = (dblF (((E p).A.drop f).take (x - f))).length) (hz : n + c ≤ 1099511627776) :
    Keeps F w (((w3.setCell ⟨d, 2, none⟩ (.int .i64 ((n : Int) + c))).setCell ⟨x', 2, none⟩ (.int .i64 y)).setCell ⟨x', 3, none⟩ (.int .i64 ((many : Int) + c))) ∧
    DeskAt (((w3.setCell ⟨d, 2, none⟩ (.int .i64 ((n : Int) + c))).setCell ⟨x', 2, none⟩ (.int .i64 y)).setCell ⟨x', 3, none⟩ (.int .i64 ((many : Int) + c))) E d F most torn bg (l0 ++ [.pc x' p f y]) v ∧
    flowP E bg (l0 ++ [.pc x' p f y]) = flowP E bg l ++ dblF (((E p).A.drop x).take (y - x)) := by
  subst hl
  have hq := H3.pcs (.pc x' p f x) (by simp)
  have PB : Blk w3 x' 81 #[.pointer (some ⟨p, 0, none⟩), .int .i64 f, .int .i64 x, .int .i64 (dblF (((E p).A.drop f).take (x - f))).length] := hq.1
  rw [← hm] at PB
  have hfx : f < x ∧ x ≤ (E p).A.length := hq.2
  have hfl : flowP E bg (l0 ++ [.pc x' p f y]) = flowP E bg (l0 ++ [.pc x' p f x]) ++ dblF (((E p).A.drop x).take (y - x)) := by
    rw [flowP_snoc, flowP_snoc, List.append_assoc]
    congr 1
    show dblF (((E p).A.drop f).take (y - f)) = dblF (((E p).A.drop f).take (x - f)) ++ _
    rw [seg_join _ f x y (by omega) hxy, dblF_app]
  have hF : F d := H3.inD
  have hFx : F x' := H3.inX x' (by rw [List.filterMap_append]; simp [DPart.x?])
  have hxd : x' ≠ d := PB.ne_ H3.top (by decide)
  have kk : Keeps (fun i => i = d ∨ i = x') w3 (((w3.setCell ⟨d, 2, none⟩ (.int .i64 ((n : Int) + c))).setCell ⟨x', 2, none⟩ (.int .i64 y)).setCell ⟨x', 3, none⟩ (.int .i64 ((many : Int) + c))) :=
    (((Keeps.refl _ w3).setCell (p := ⟨d, 2, none⟩) (fun _ => .inl rfl) _).setCell (p := ⟨x', 2, none⟩) (fun _ => .inr rfl) _).setCell (p := ⟨x', 3, none⟩) (fun _ => .inr rfl) _
  have hfm : List.filterMap DPart.x? (l0 ++ [.pc x' p f y]) = List.filterMap DPart.x? (l0 ++ [.pc x' p f x]) := by rw [List.filterMap_append, List.filterMap_append]; rfl
  refine ⟨K3.none_.trans (kk.mono fun i _ h => h.elim (fun e => e ▸ hF) (fun e => e ▸ hFx)), ?_, hfl⟩
  have hdist := H3.dist
  rw [List.filterMap_append] at hdist
  exact {
    top := by
      have := ((H3.top.set_ 2 (.int .i64 ((n : Int) + c))).far (p := ⟨x', 2, none⟩) (fun e => hxd e.symm) (.int .i64 y)).far (p := ⟨x', 3, none⟩) (fun e => hxd e.symm) (.int .i64 ((many : Int) + c))
      rw [hfl, List.length_append, ← hn, ← hc, Int.natCast_add]
      simpa using this
    own := by
      have := H3.own.keeps kk (fun i hi ⟨cs, hb⟩ e => by
        rcases e with e | e
        · exact hb.ne_ H3.top (by decide) e
        · exact hb.ne_ PB (by decide) e)
      rw [List.map_append] at this ⊢
      exact this
    pcs := fun q hq => by
      rcases List.mem_append.1 hq with hq | hq
      · have h0 := H3.pcs q (List.mem_append_left _ hq)
        cases q with
        | rep s => exact ⟨trivial, h0.2⟩
        | pc x1 p1 f1 t1 =>
          have hb : Blk w3 x1 81 _ := h0.1
          refine ⟨hb.keeps kk (fun e => ?_), h0.2⟩
          rcases e with e | e
          · exact hb.ne_ H3.top (by decide) e
          · exact (List.nodup_append.1 hdist).2.2 x1 (List.mem_filterMap.2 ⟨_, hq, rfl⟩) x' (by simp [DPart.x?]) e
      · rw [List.mem_singleton] at hq; subst hq
        refine ⟨?_, by omega, hy⟩
        show Blk _ _ _ _
        have := ((PB.far (p := ⟨d, 2, none⟩) hxd (.int .i64 ((n : Int) + c))).set_ 2 (.int .i64 y)).set_ 3 (.int .i64 ((many : Int) + c))
        rw [seg_join _ f x y (by omega) hxy, dblF_app, List.length_append, ← hm, ← hc, Int.natCast_add]
        simpa using this
    dist := by rw [hfm]; exact H3.dist
    inD := hF
    inV := H3.inV
    inX := by rw [hfm]; exact H3.inX
    mst := H3.mst
    fit := by
      have := H3.fit
      rw [hfl, List.length_append, ← hn, ← hc]
      exact ⟨hz, by simpa using this.2⟩ }
end Go.Proofs.Ytcblaeleaebinaa
