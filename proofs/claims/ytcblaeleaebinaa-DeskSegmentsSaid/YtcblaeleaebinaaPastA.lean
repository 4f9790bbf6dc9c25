/-
  The past's readers and writers: New, Add, Came, From of package past.
-/
import Derived.Test.YtcblaeleaebinaaRingD
namespace Go.Proofs.Ytcblaeleaebinaa
open Go.RowKit

/-- block p is a past for m bytes; A is all that was told; its ring is block g, with its bytes in block b -/
structure IsPast (w : World) (p g b m : Nat) (A : List UInt8) : Prop where
  top : Blk w p 67 #[.pointer (some ⟨g, 0, none⟩), .int .i64 A.length]
  ring : IsRing w g b m (A.drop (A.length - m)) (A.length - m)
  ne1 : p ≠ g
  ne2 : p ≠ b

theorem IsPast.keeps {w w' : World} {p g b m : Nat} {A : List UInt8} {S : Nat → Prop} (h : IsPast w p g b m A) (k : Keeps S w w') (h0 : ¬ S p) (h1 : ¬ S g) (h2 : ¬ S b) : IsPast w' p g b m A :=
  ⟨h.top.keeps k h0, h.ring.keeps k h1 h2, h.ne1, h.ne2⟩
theorem IsPast.drewN {w : World} {p g b m : Nat} {A : List UInt8} (h : IsPast w p g b m A) (n : Nat) : IsPast (w.drewN n) p g b m A := h.keeps ((Keeps.refl (fun _ => False) w).drewN n) id id id
theorem IsPast.lt {w : World} {p g b m : Nat} {A : List UInt8} (h : IsPast w p g b m A) : p < w.heap.size ∧ g < w.heap.size ∧ b < w.heap.size := ⟨h.top.lt, h.ring.lt.1, h.ring.lt.2⟩
theorem IsPast.pos {w : World} {p g b m : Nat} {A : List UInt8} (h : IsPast w p g b m A) : 0 < m ∧ m ≤ 1048576 := h.ring.fits.2

theorem quiet_add {P : Program} {f : FuncId} {args : Array Value} {w : World} {a n : Nat} {v : Value} (h : Calls P f args (w.drewN (a + n)) (Qt v (w.drewN (a + n)))) :
    Calls P f args (w.drewN (a + n)) fun e w'' => e = .returned v ∧ ∃ m, w'' = w.drewN (a + m) :=
  h.mono fun _ _ ⟨he, m, hm⟩ => ⟨he, n + m, by rw [hm, World.drewN_drewN, Nat.add_assoc]⟩

section
variable (w : World) (p g b m : Nat) (A : List UInt8)

theorem pmade_yes (h : IsPast w p g b m A) : Calls Try.prog 31 #[.pointer (some ⟨p, 0, none⟩)] w (Qt (.bool true) w) := by
  have c0 := h.top.cell 0
  simp at c0
  go_enter Try.func31, Try.ntmps31
  go_wp2
  all_goals go_ret
  exact ⟨rfl, 0, rfl⟩
theorem pmade_nil : Calls Try.prog 31 #[.pointer none] w (Qt (.bool false) w) := by
  go_enter Try.func31, Try.ntmps31
  go_wp2
  all_goals go_ret
  exact ⟨rfl, 0, rfl⟩
theorem pcame_yes (h : IsPast w p g b m A) : Calls Try.prog 51 #[.pointer (some ⟨p, 0, none⟩)] w (Qt (.int .i64 A.length) w) := by
  have c1 := h.top.cell 1
  simp at c1
  go_enter Try.func51, Try.ntmps51
  go_wp2_with (go_at_call 31; refine (pmade_yes _ _ _ _ _ _ h).mono ?_; rintro e w' ⟨rfl, n, rfl⟩)
  go_ret
  exact Qt.of rfl
theorem pcame_nil : Calls Try.prog 51 #[.pointer none] w (Qt (.int .i64 0) w) := by
  go_enter Try.func51, Try.ntmps51
  go_wp2_with (go_at_call 31; refine (pmade_nil _).mono ?_; rintro e w' ⟨rfl, n, rfl⟩)
  go_ret
  exact Qt.of rfl
theorem pfrom_nil : Calls Try.prog 50 #[.pointer none] w (Qt (.int .i64 0) w) := by
  go_enter Try.func50, Try.ntmps50
  go_wp2_with (go_at_call 31; refine (pmade_nil _).mono ?_; rintro e w' ⟨rfl, n, rfl⟩)
  go_ret
  exact Qt.of rfl
theorem pfrom_yes (h : IsPast w p g b m A) (hA : A.length ≤ 4611686018427387904) : Calls Try.prog 50 #[.pointer (some ⟨p, 0, none⟩)] w (Qt (.int .i64 (A.length - m : Nat)) w) := by
  have c0 := h.top.cell 0
  have c1 := h.top.cell 1
  simp at c0 c1
  have hl : ((A.drop (A.length - m)).length : Int) = ((A.length - (A.length - m) : Nat) : Int) := by simp
  have hC : ∀ k, Calls Try.prog 58 #[.pointer (some ⟨g, 0, none⟩)] (w.drewN k) (Qt (.int .i64 (A.length - (A.length - m) : Nat)) (w.drewN k)) := fun k => by
    have q := ilen_any (w.drewN k) g b m _ _ (h.ring.drewN k)
    rw [hl] at q
    exact q
  have HC := Lib.hid hC
  clear hl hC
  have hw : IntKind.i64.wrap ((A.length : Int) - ((A.length - (A.length - m) : Nat) : Int)) = ((A.length - m : Nat) : Int) := by rw [wrap_in (by omega) (by omega)]; omega
  go_enter Try.func50, Try.ntmps50
  go_wp2_with (go_at_call 31; refine (pmade_yes _ _ _ _ _ _ h).mono ?_; rintro e w' ⟨rfl, n, rfl⟩)
  go_quiet ((go_at_call 58; exact quiet_add (HC.out _)))
  go_wp2
  go_ret
  exact Qt.of2 (int_eq (by omega))
end
end Go.Proofs.Ytcblaeleaebinaa
