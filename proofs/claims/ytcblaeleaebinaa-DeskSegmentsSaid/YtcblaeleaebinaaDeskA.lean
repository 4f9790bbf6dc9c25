/-
  The desk's small functions: New, made, Waits, Late, cost, fit, take.
-/
import Derived.Test.YtcblaeleaebinaaDeskM
import Derived.Test.YtcblaeleaebinaaOwnQ
import Derived.Test.YtcblaeleaebinaaPastB
import Derived.Test.YtcblaeleaebinaaBld
namespace Go.Proofs.Ytcblaeleaebinaa
open Go.RowKit

def DPart.val : DPart → Value
  | .rep s => .iface 92 (.agg #[.string (str s)])
  | .pc x _ _ _ => .iface 76 (.pointer (some ⟨x, 0, none⟩))
/-- a part's own block -/
def DPart.at (w : World) (E : Nat → PastD) : DPart → Prop
  | .rep _ => True
  | .pc x p f t => Blk w x 81 #[.pointer (some ⟨p, 0, none⟩), .int .i64 f, .int .i64 t, .int .i64 (dblF (((E p).A.drop f).take (t - f))).length]
/-- block d is a desk: F bounds the blocks that are its own -/
structure DeskAt (w : World) (E : Nat → PastD) (d : Nat) (F : Nat → Prop) (most : Nat) (torn : Bool) (bg : List UInt8) (l : List DPart) (v : Value) : Prop where
  top : Blk w d 72 #[.string (str bg), v, .int .i64 (flowP E bg l).length, .int .i64 most, .bool torn]
  own : OwnQ w 79 v (l.map DPart.val)
  pcs : ∀ q ∈ l, q.at w E ∧ q.ok E
  dist : (l.filterMap DPart.x?).Nodup
  inD : F d
  inV : ∀ i, rowB v = some i → F i
  inX : ∀ x ∈ l.filterMap DPart.x?, F x
  mst : 1 ≤ most ∧ most ≤ 1048576
  fit : (flowP E bg l).length ≤ 1099511627776 ∧ l.length ≤ 1099511627776

section
variable {w w' : World} {E : Nat → PastD} {d : Nat} {F : Nat → Prop} {most : Nat} {torn : Bool} {bg : List UInt8} {l : List DPart} {v : Value}
theorem DeskAt.keeps {S : Nat → Prop} (h : DeskAt w E d F most torn bg l v) (k : Keeps S w w') (hS : ∀ i, F i → ¬ S i) : DeskAt w' E d F most torn bg l v where
  top := h.top.keeps k (hS d h.inD)
  own := h.own.keeps k fun i hi _ => hS i (h.inV i hi)
  pcs := fun q hq => ⟨by
    have := (h.pcs q hq).1
    cases q with
    | rep s => trivial
    | pc x p f t => exact Blk.keeps this k (hS x (h.inX x (List.mem_filterMap.2 ⟨_, hq, rfl⟩))), (h.pcs q hq).2⟩
  dist := h.dist
  inD := h.inD
  inV := h.inV
  inX := h.inX
  mst := h.mst
  fit := h.fit
theorem DeskAt.drewN (h : DeskAt w E d F most torn bg l v) (n : Nat) : DeskAt (w.drewN n) E d F most torn bg l v := h.keeps ((Keeps.refl (fun _ => False) w).drewN n) (fun _ _ => id)
theorem DeskAt.more {F' : Nat → Prop} (h : DeskAt w E d F most torn bg l v) (hF : ∀ i, F i → F' i) : DeskAt w E d F' most torn bg l v :=
  { h with inD := hF _ h.inD, inV := fun i hi => hF i (h.inV i hi), inX := fun x hx => hF x (h.inX x hx) }
theorem DeskAt.grown {E' : Nat → PastD} (h : DeskAt w E d F most torn bg l v) (hg : ∀ q ∈ l, ∀ x p f t, q = DPart.pc x p f t → Grown E E' p) : DeskAt w E' d F most torn bg l v := by
  have hf := flowP_grown (E := E) (E' := E') bg (fun q hq => (h.pcs q hq).2) hg
  exact { h with
    top := by rw [hf]; exact h.top
    fit := by rw [hf]; exact h.fit
    pcs := fun q hq => ⟨by
      have h1 := (h.pcs q hq).1
      have h2 := DPart.flow_grown (h.pcs q hq).2 (hg q hq)
      cases q with
      | rep s => trivial
      | pc x p f t =>
        show Blk _ _ _ _
        have h2 : dblF (((E' p).A.drop f).take (t - f)) = dblF (((E p).A.drop f).take (t - f)) := h2
        rw [h2]; exact h1, DPart.ok_grown (h.pcs q hq).2 (hg q hq)⟩ }
end

section
variable (w : World) (E : Nat → PastD) (d : Nat) (F : Nat → Prop) (most : Nat) (torn : Bool) (bg : List UInt8) (l : List DPart) (v : Value)

theorem dmade_yes (h : DeskAt w E d F most torn bg l v) : Calls Try.prog 34 #[.pointer (some ⟨d, 0, none⟩)] w (Qt (.bool true) w) := by
  have c3 := h.top.cell 3
  have hm := h.mst
  simp at c3
  go_enter Try.func34, Try.ntmps34
  go_wp2
  all_goals go_ret
  exact Qt.of0 (by simp; omega)
theorem dmade_nil : Calls Try.prog 34 #[.pointer none] w (Qt (.bool false) w) := by
  go_enter Try.func34, Try.ntmps34
  go_wp2
  all_goals go_ret
  exact Qt.of0 rfl
theorem dwaits_yes (h : DeskAt w E d F most torn bg l v) : Calls Try.prog 22 #[.pointer (some ⟨d, 0, none⟩)] w (Qt (.int .i64 (flowP E bg l).length) w) := by
  have c2 := h.top.cell 2
  simp at c2
  go_enter Try.func22, Try.ntmps22
  go_wp2_with (go_at_call 34; go_must (refine (dmade_yes _ _ _ _ _ _ _ _ _ h).mono ?_; rintro e w' ⟨rfl, n, rfl⟩))
  go_ret
  exact Qt.of rfl
theorem dlate_yes (h : DeskAt w E d F most torn bg l v) : Calls Try.prog 15 #[.pointer (some ⟨d, 0, none⟩)] w (Qt (.bool (decide (most < (flowP E bg l).length) || torn)) w) := by
  obtain ⟨n, hn⟩ : ∃ n, n = (flowP E bg l).length := ⟨_, rfl⟩
  have htop := h.top
  rw [← hn] at htop ⊢
  have c2 := htop.cell 2
  have c3 := htop.cell 3
  have c4 := htop.cell 4
  simp at c2 c3 c4
  have HM := Lib.hid fun k => dmade_yes (w.drewN k) E d F most torn bg l v (h.drewN k)
  have hsz := htop.lt
  clear htop hn
  by_cases hlt : most < n
  · have hd : decide ((most : Int) < (n : Int)) = true := by simp; omega
    go_enter Try.func15, Try.ntmps15
    go_wp2_with fail
    go_quiet ((go_at_call 34; exact Qt.quiet (HM.out _)))
    go_wp2
    go_ret
    exact Qt.of (by simp [hlt])
  · have hd : decide ((most : Int) < (n : Int)) = false := by simp; omega
    go_enter Try.func15, Try.ntmps15
    go_wp2_with fail
    go_quiet ((go_at_call 34; exact Qt.quiet (HM.out _)))
    go_wp2
    go_ret
    exact Qt.of (by simp [hlt])
theorem dnew_bad (k : Int) (hk : k < 1 ∨ 1048576 < k) : Calls Try.prog 9 #[.int .i64 k] w (Qt (.tuple #[.pointer none, .int .i64 2]) w) := by
  rcases hk with hk | hk
  · go_enter Try.func9, Try.ntmps9
    go_wp2
    all_goals go_ret2
    exact Qt.of0 rfl
  · have h1 : ¬ k < 1 := by omega
    go_enter Try.func9, Try.ntmps9
    go_wp2
    all_goals go_ret2
    exact Qt.of0 rfl
theorem dnew_ok (h1 : 1 ≤ most) (h2 : most ≤ 1048576) : Calls Try.prog 9 #[.int .i64 most] w fun e w' =>
    e = .returned (.tuple #[.pointer (some ⟨w.heap.size, 0, none⟩), .int .i64 0]) ∧ Keeps (fun _ => False) w w' ∧ DeskAt w' E w.heap.size (fun i => i = w.heap.size) most false [] [] (.slice none 0 0) := by
  go_enter Try.func9, Try.ntmps9
  go_wp2
  all_goals go_ret2
  refine ⟨rfl, (Keeps.refl _ _).alloc _, ⟨?_, OwnQ.none_, by simp, by simp, rfl, by simp [rowB], by simp, ⟨h1, h2⟩, by simp [flowP, markP]⟩⟩
  exact Blk.new _ _ _
end

/-- how many bytes a text has as it is sent -/
theorem cost_any (w : World) (s : ByteArray) (hs : s.size ≤ 1073741824) : Calls Try.prog 35 #[.string s] w fun e w' => e = .returned (.int .i64 (dblP s.data.toList).length) ∧ Keeps (fun _ => False) w w' := by
  have hl : s.data.toList.length = s.size := by simp
  have hc := dblP_count s.data.toList
  have hb : Lib.countByte s.data.toList 255 ≤ s.size := by rw [← hl]; exact List.count_le_length
  have hcv := run_string_bytes (P := Try.prog) (w.alloc (.cells #[.int .u8 255] 5)) 55 9 5 ⟨w.heap.size, 0, none⟩ 1 1 [255] Try.underlying55 Try.underlying5 Try.underlying9 rfl (fun j v hj => by
    match j, hj with
    | 0, hj => simp at hj; subst hj; simp [Addr.add])
  go_enter Try.func35, Try.ntmps35
  go_wp2_with (go_at_call 53; go_must (refine (Try.strings_Count_one s 255 _).mono ?_; rintro e w2 ⟨rfl, rfl⟩))
  go_ret
  exact ⟨by simp; omega, (Keeps.refl _ _).alloc _⟩
end Go.Proofs.Ytcblaeleaebinaa
