/-
  The desk: what Tell leaves.
-/
import Derived.Test.YtcblaeleaebinaaDeskB
namespace Go.Proofs.Ytcblaeleaebinaa
open Go.RowKit

theorem rsize_any (w : World) (s : ByteArray) : Calls Try.prog 42 #[.agg #[.string s]] w fun e w' => e = .returned (.int .i64 s.size) ∧ Keeps (fun _ => False) w w' := by
  go_enter Try.func42, Try.ntmps42
  go_wp2
  go_ret
  exact ⟨rfl, (Keeps.refl _ _).alloc _⟩

theorem pcs_keeps {w w' : World} {E : Nat → PastD} {l : List DPart} {S : Nat → Prop} (h : ∀ q ∈ l, q.at w E ∧ q.ok E) (k : Keeps S w w') (hS : ∀ i cs, Blk w i 81 cs → ¬ S i) : ∀ q ∈ l, q.at w' E ∧ q.ok E := fun q hq => ⟨by
  have := (h q hq).1
  cases q with
  | rep s => trivial
  | pc x p f t => exact Blk.keeps this k (hS x _ this), (h q hq).2⟩
theorem flowP_snoc (E : Nat → PastD) (bg : List UInt8) (l : List DPart) (q : DPart) : flowP E bg (l ++ [q]) = flowP E bg l ++ q.flow E := by
  unfold flowP; rw [List.flatMap_append, List.append_assoc]; simp
theorem toldP_len (l : List UInt8) : (toldP l).length = (dblP l).length + 4 := by unfold toldP; simp

/-- a reply put behind -/
theorem tell_end {w w3 w9 : World} {E : Nat → PastD} {d : Nat} {F : Nat → Prop} {most : Nat} {torn : Bool} {bg : List UInt8} {l : List DPart} {v v7 : Value} (tl : List UInt8)
    (H3 : DeskAt w3 E d F most torn bg l v) (K3 : Keeps (fun _ => False) w w3) (K9 : Keeps (fun i => i = d ∨ rowB v = some i) w3 w9) (hv7 : rowB v7 = rowB v ∨ ∃ k, rowB v7 = some k ∧ w.heap.size ≤ k)
    (B9 : Blk w9 d 72 #[.string (str bg), v7, .int .i64 (flowP E bg l).length, .int .i64 most, .bool torn]) (O9 : OwnQ w9 79 v7 (l.map DPart.val ++ [.iface 92 (.agg #[.string (str tl)])])) (htl : tl ≠ [])
    (hz : (flowP E bg l).length + tl.length ≤ 1099511627776 ∧ l.length + 1 ≤ 1099511627776) :
    Keeps F w (w9.setCell ⟨d, 2, none⟩ (.int .i64 ((flowP E bg l).length + tl.length : Nat))) ∧ ∃ v', DeskAt (w9.setCell ⟨d, 2, none⟩ (.int .i64 ((flowP E bg l).length + tl.length : Nat))) E d (fun i => F i ∨ w.heap.size ≤ i) most torn bg (l ++ [.rep tl]) v' := by
  have hF : ∀ i, (i = d ∨ rowB v = some i) → F i := fun i hi => hi.elim (fun h => h ▸ H3.inD) (H3.inV i)
  have ks := (Keeps.refl (fun i => i = d) w9).setCell (p := ⟨d, 2, none⟩) (fun _ => rfl) (.int .i64 ((flowP E bg l).length + tl.length : Nat))
  have kk : Keeps (fun i => i = d ∨ rowB v = some i) w3 (w9.setCell ⟨d, 2, none⟩ (.int .i64 ((flowP E bg l).length + tl.length : Nat))) := K9.and_ ks (fun i _ h => .inl h)
  refine ⟨K3.none_.trans (kk.mono fun i _ => hF i), v7, ?_⟩
  exact {
    top := by
      have := B9.set_ 2 (.int .i64 ((flowP E bg l).length + tl.length : Nat))
      rw [flowP_snoc, List.length_append, show (DPart.flow E (.rep tl)).length = tl.length from markP_len tl]
      simpa using this
    own := by
      rw [List.map_append]
      exact O9.keeps ks fun i hi ⟨cs, hb⟩ e => hb.ne_ B9 (by decide) e
    pcs := fun q hq => by
      rcases List.mem_append.1 hq with hq | hq
      · exact pcs_keeps H3.pcs kk (fun i cs hb h => by
          rcases h with h | h
          · exact hb.ne_ H3.top (by decide) h
          · obtain ⟨cs', hb'⟩ := H3.own.row i h
            exact hb.ne_ hb' (by decide) rfl) q hq
      · rw [List.mem_singleton] at hq; subst hq; exact ⟨trivial, htl⟩
    dist := by rw [List.filterMap_append, show List.filterMap DPart.x? [DPart.rep tl] = [] from rfl, List.append_nil]; exact H3.dist
    inD := .inl H3.inD
    inV := fun i hi => by
      rcases hv7 with h | ⟨k, h, hk⟩
      · exact .inl (H3.inV i (h ▸ hi))
      · rw [h] at hi; injection hi with hi; subst hi; exact .inr hk
    inX := fun x hx => by rw [List.filterMap_append, show List.filterMap DPart.x? [DPart.rep tl] = [] from rfl, List.append_nil] at hx; exact .inl (H3.inX x hx)
    mst := H3.mst
    fit := by
      rw [flowP_snoc, List.length_append, List.length_append, show (DPart.flow E (.rep tl)).length = tl.length from markP_len tl]
      exact hz }

end Go.Proofs.Ytcblaeleaebinaa
