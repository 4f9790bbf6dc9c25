/-
  The desk: Show.
-/
import Derived.Test.YtcblaeleaebinaaDeskC
import Derived.LaidEql
namespace Go.Proofs.Ytcblaeleaebinaa
open Go.RowKit
theorem cell_new {w : World} {cs : Array Value} {t : TypeId} {k : Nat} (h : k = w.heap.size) : (w.alloc (.cells cs t)).cell? ⟨k, 0, none⟩ = cs[0]? := by subst h; exact (Blk.new w t cs).cell 0
theorem ta_piece_no (v : Value) (xT : TypeId) (w : World) : (Instr.typeAssert (.iface 92 v) xT 76 true).run Try.prog w = .ok (.tuple #[.pointer none, .bool false]) w := by
  obtain ⟨i, hi, hz, -, -⟩ := info_parts (show (Try.prog.info? 76).map (fun i => (i.zero, i.size, i.bytes)) = some (some (.pointer none), 1, 8) by kernel_rfl)
  simp [Instr.typeAssert, run_underlying Try.underlying76, zeroValue, typeInfo, hi, hz]
theorem ta_piece_yes (v : Value) (xT : TypeId) (w : World) : (Instr.typeAssert (.iface 76 v) xT 76 true).run Try.prog w = .ok (.tuple #[v, .bool true]) w := by
  simp [Instr.typeAssert, run_underlying Try.underlying76]
theorem ta_reply_yes (v : Value) (xT : TypeId) (w : World) : (Instr.typeAssert (.iface 92 v) xT 92 true).run Try.prog w = .ok (.tuple #[v, .bool true]) w := by
  simp [Instr.typeAssert, run_underlying Try.underlying92]
theorem ta_reply_no (v : Value) (xT : TypeId) (w : World) : (Instr.typeAssert (.iface 76 v) xT 92 true).run Try.prog w = .ok (.tuple #[.agg #[.string ⟨#[]⟩], .bool false]) w := by
  obtain ⟨i, hi, hz, -, -⟩ := info_parts (show (Try.prog.info? 92).map (fun i => (i.zero, i.size, i.bytes)) = some (some (.agg #[.string ⟨#[]⟩]), 1, 16) by kernel_rfl)
  simp [Instr.typeAssert, run_underlying Try.underlying92, zeroValue, typeInfo, hi, hz]
theorem eql_past_same (a : Addr) (w : World) : (binOp .eql 23 (.pointer (some a)) (.pointer (some a))).run Try.prog w = .ok (.bool true) w := by
  obtain ⟨j, hj, -⟩ := Option.map_eq_some_iff.1 (show (Try.prog.info? 67).map (·.size) = some 2 by kernel_rfl)
  have h : ∀ d : Nat, (Op.equalIn (d + 1) 23 (.pointer (some a)) (.pointer (some a))).run Try.prog w = .ok true w := fun d => by
    simp [Op.equalIn, run_underlying Try.underlying23, sizeOf, typeInfo, hj, run_sameAddr_same]
  simp only [binOp]
  simp [Op.equal, Op.maxDepth, h 9999]
theorem eql_past_other (p q : Nat) (w : World) {cs ds : Array Value} {t u : TypeId} (hne : p ≠ q) (hp : Blk w p t cs) (hq : Blk w q u ds) : (binOp .eql 23 (.pointer (some ⟨p, 0, none⟩)) (.pointer (some ⟨q, 0, none⟩))).run Try.prog w = .ok (.bool false) w := by
  obtain ⟨j, hj, hjs⟩ := Option.map_eq_some_iff.1 (show (Try.prog.info? 67).map (·.size) = some 2 by kernel_rfl)
  have h : ∀ d : Nat, (Op.equalIn (d + 1) 23 (.pointer (some ⟨p, 0, none⟩)) (.pointer (some ⟨q, 0, none⟩))).run Try.prog w = .ok false w := fun d => by
    simp [Op.equalIn, run_underlying Try.underlying23, sizeOf, typeInfo, hj, hjs, run_sameAddr_other w (a := ⟨p, 0, none⟩) (b := ⟨q, 0, none⟩) (fun e => hne (by injection e)) hp hq]
  simp only [binOp]
  simp [Op.equal, Op.maxDepth, h 9999]
theorem blk_new {w : World} {cs : Array Value} {t : TypeId} {k : Nat} (h : k = w.heap.size) : Blk (w.alloc (.cells cs t)) k t cs := by subst h; exact Blk.new w t cs

/-- a piece put behind -/
theorem show_end {w w3 w7 : World} {E : Nat → PastD} {d : Nat} {F : Nat → Prop} {most : Nat} {torn : Bool} {bg : List UInt8} {l : List DPart} {v v7 : Value} {n c : Nat} (p x y k : Nat)
    (H3 : DeskAt w3 E d F most torn bg l v) (K3 : Keeps (fun _ => False) w w3) (K7 : Keeps (fun i => i = d ∨ rowB v = some i) w3 w7) (hv7 : rowB v7 = rowB v ∨ ∃ k, rowB v7 = some k ∧ w.heap.size ≤ k)
    (hn : n = (flowP E bg l).length) (hc : c = (dblF (((E p).A.drop x).take (y - x))).length) (hxy : x < y) (hy : y ≤ (E p).A.length) (hk : w3.heap.size ≤ k)
    (B7 : Blk w7 d 72 #[.string (str bg), v, .int .i64 (n + c : Nat), .int .i64 most, .bool torn]) (O7 : OwnQ w7 79 v7 (l.map DPart.val ++ [.iface 76 (.pointer (some ⟨k, 0, none⟩))]))
    (P7 : Blk w7 k 81 #[.pointer (some ⟨p, 0, none⟩), .int .i64 x, .int .i64 y, .int .i64 c]) (hz : n + c ≤ 1099511627776 ∧ l.length + 1 ≤ 1099511627776) :
    Keeps F w (w7.setCell ⟨d, 1, none⟩ v7) ∧ DeskAt (w7.setCell ⟨d, 1, none⟩ v7) E d (fun i => F i ∨ w.heap.size ≤ i) most torn bg (l ++ [.pc k p x y]) v7 := by
  have hF : ∀ i, (i = d ∨ rowB v = some i) → F i := fun i hi => hi.elim (fun h => h ▸ H3.inD) (H3.inV i)
  have ks := (Keeps.refl (fun i => i = d) w7).setCell (p := ⟨d, 1, none⟩) (fun _ => rfl) v7
  have kk : Keeps (fun i => i = d ∨ rowB v = some i) w3 (w7.setCell ⟨d, 1, none⟩ v7) := K7.and_ ks (fun i _ h => .inl h)
  have hfl : (DPart.flow E (.pc k p x y)).length = c := hc.symm
  have hxs : ∀ q, q ∈ l.filterMap DPart.x? → q < w3.heap.size := fun q hq => by
    obtain ⟨a, ha, hx⟩ := List.mem_filterMap.1 hq
    cases a with
    | rep s => cases hx
    | pc x0 p0 f0 t0 =>
      injection hx with hx; subst hx
      exact Blk.lt (H3.pcs _ ha).1
  refine ⟨K3.none_.trans (kk.mono fun i _ => hF i), ?_⟩
  exact {
    top := by
      have := B7.set_ 1 v7
      rw [flowP_snoc, List.length_append, hfl, ← hn]
      simpa using this
    own := by
      rw [List.map_append]
      exact O7.keeps ks fun i hi ⟨cs, hb⟩ e => hb.ne_ B7 (by decide) e
    pcs := fun q hq => by
      rcases List.mem_append.1 hq with hq | hq
      · exact pcs_keeps H3.pcs kk (fun i cs hb h => by
          rcases h with h | h
          · exact hb.ne_ H3.top (by decide) h
          · obtain ⟨cs', hb'⟩ := H3.own.row i h
            exact hb.ne_ hb' (by decide) rfl) q hq
      · rw [List.mem_singleton] at hq; subst hq
        refine ⟨?_, hxy, hy⟩
        show Blk _ _ _ _
        rw [← hc]
        exact P7.keeps ks (fun e => P7.ne_ B7 (by decide) e)
    dist := by
      rw [List.filterMap_append, show List.filterMap DPart.x? [DPart.pc k p x y] = [k] from rfl]
      exact List.nodup_append.2 ⟨H3.dist, by simp, fun a ha b hb e => by
        rw [List.mem_singleton] at hb; subst hb; subst e; have := hxs a ha; omega⟩
    inD := .inl H3.inD
    inV := fun i hi => by
      rcases hv7 with h | ⟨j, h, hk⟩
      · exact .inl (H3.inV i (h ▸ hi))
      · rw [h] at hi; injection hi with hi; subst hi; exact .inr hk
    inX := fun q hq => by
      rw [List.filterMap_append, show List.filterMap DPart.x? [DPart.pc k p x y] = [k] from rfl] at hq
      rcases List.mem_append.1 hq with hq | hq
      · exact .inl (H3.inX q hq)
      · rw [List.mem_singleton] at hq; subst hq; exact .inr (Nat.le_trans K3.size hk)
    mst := H3.mst
    fit := by
      rw [flowP_snoc, List.length_append, List.length_append, hfl, ← hn]
      exact hz }

section
variable (w : World) (E : Nat → PastD) (d : Nat) (F : Nat → Prop) (most : Nat) (torn : Bool) (bg : List UInt8) (l : List DPart) (v : Value)

set_option maxRecDepth 100000 in
theorem dshow_no (p : Nat) (x y : Int) (h : DeskAt w E d F most torn bg l v) (hp : IsPast w p (E p).g (E p).b (E p).m (E p).A) (hA : (E p).A.length ≤ 2305843009213693952) (hx : x < ((E p).A.length - (E p).m : Nat) ∨ y < x ∨ ((E p).A.length : Int) < y) :
    Calls Try.prog 12 #[.pointer (some ⟨d, 0, none⟩), .pointer (some ⟨p, 0, none⟩), .int .i64 x, .int .i64 y] w (Qt (.bool false) w) := by
  have hn := pslice_no w p _ _ _ _ x y hp hA hx
  go_enter Try.func12, Try.ntmps12
  go_wp2_with fail
  refine hn.mono ?_
  rintro e w1 ⟨rfl, n1, rfl⟩
  go_wp2_with (go_at_call 34; go_must (refine (dmade_yes _ E d F most torn bg l v (h.drewN n1)).mono ?_; rintro e w2 ⟨rfl, n2, rfl⟩))
  go_ret
  exact ⟨rfl, _, rfl⟩

end
end Go.Proofs.Ytcblaeleaebinaa
