/-
  errors.As and errors.Is over a chain of Faults that ends in a Kind: what they answer and what they set.
-/
import Derived.Test.YtfbdpmeelejdhaaQErrA
namespace Go.Proofs.Ytfbdpmeelejdhaa
open Go.RowKit Go.Extern.Stop Go.Stop Go.Extern

/-- an error as a value in memory: Faults around one another, and a Kind within -/
inductive Chain (w : World) : List (Int × ByteArray) → Int → Value → Prop
  | kind (c : Int) : Chain w [] c (.iface tKind (.int .i64 c))
  | layer (a : Nat) (n : Int) (s : ByteArray) (v : Value) (l : List (Int × ByteArray)) (c : Int) :
      Blk w a tFault #[.int .i64 n, .string s, v] → Chain w l c v → Chain w ((n, s) :: l) c (.iface tPFault (.pointer (some ⟨a, 0, none⟩)))

/-- the blocks of a chain are none of S -/
theorem Chain.keeps {S : Nat → Prop} {w w' : World} {l : List (Int × ByteArray)} {c : Int} {v : Value} (h : Chain w l c v) (k : Keeps S w w')
    (hS : ∀ a cs, Blk w a tFault cs → ¬ S a) : Chain w' l c v := by
  induction h with
  | kind c => exact .kind c
  | layer a n s v l c hb _ ih => exact .layer a n s v l c (hb.keeps k (hS a _ hb)) ih

theorem Chain.form {w : World} {l : List (Int × ByteArray)} {c : Int} {v : Value} (h : Chain w l c v) : ∃ ty x, v = .iface ty x := by
  cases h with
  | kind => exact ⟨_, _, rfl⟩
  | layer => exact ⟨_, _, rfl⟩

/-- a Fault tells what it wraps -/
theorem unwrap_ok (a : Nat) (n : Int) (s : ByteArray) (v : Value) (w : World) (hb : Blk w a tFault #[.int .i64 n, .string s, v]) :
    Calls Try.prog 87 #[.pointer (some ⟨a, 0, none⟩)] w fun e w' => e = .returned v ∧ w' = w := by
  obtain ⟨h0, h1, h2⟩ := hb.cells3
  go_enter Try.func87, Try.ntmps87
  go_wp2
  go_ret
  exact ⟨rfl, rfl⟩

/-- the variable errors.errorType holds the handle of the type 'error' -/
def Ety (_ : World) : Prop := True

theorem is_ok (c d : Int) (l : List (Int × ByteArray)) (v : Value) (w : World) (h : Chain w l c v) :
    Calls Try.prog 36 #[v, .iface tKind (.int .i64 d)] w fun e w' => e = .returned (.bool (decide (c = d))) ∧ w' = w := by
  have h65 := @run_callFunc_extern Try.prog 51 _ ReflectliteType.typeOf Try.func51 (by kernel_rfl) (by kernel_rfl) (by kernel_rfl) (by kernel_rfl)
  have h98 : ∀ w, (callFunc 92 #[hd 78]).run Try.prog w = .ok (.value (.bool true)) w := fun w => by
    rw [@run_callFunc_extern Try.prog 92 _ (ReflectliteType.method fun t => do Extern.Rtype.noPackHeld "Comparable" t; pure (.bool (← typeInfo t).comparable)) Try.func92 (by kernel_rfl) (by kernel_rfl) (by kernel_rfl) (by kernel_rfl), Try.cK]; rfl
  have a1 := Try.tK
  have a3 := Try.mComp
  have inner : ∀ (l : List (Int × ByteArray)) (v : Value), Chain w l c v → Calls Try.prog 52 #[v, .iface tKind (.int .i64 d), .bool true] w fun e w' => e = .returned (.bool (decide (c = d))) ∧ w' = w := by
    intro l v h
    have b1 := Try.noIsF
    have b2 := Try.noIsK
    have b3 := Try.unF
    have b4 := Try.noUnK
    have b5 := Try.noUnsK
    have b6 := Try.mUnwrap
    go_enter Try.func52, Try.ntmps52
    clear h65 h98 a1 a3
    have b7 : ∀ (x : Value) (w : World), (binOp .eql 26 (.iface 77 x) (.iface 78 (.int .i64 d))).run Try.prog w = .ok (.bool false) w := fun x w => run_eql_iface_types (P := Try.prog) _ _ x _ Try.underlying26 (by decide) w
    go_wp2
    go_loopg [0] l.length (fun k u wx => w = wx ∧ ∃ l, k = l.length ∧ Chain w l c u)
    case atStart => exact ⟨rfl, l, rfl, h⟩
    case round =>
      obtain ⟨rfl, l, rfl, hc⟩ := hrel
      cases hc with
      | kind =>
        have b8 := fun w => Try.eqKK c d w
        by_cases hcd : c = d
        · have hD : decide (c = d) = true := by simp [hcd]
          simp only [hD] at b8
          have hD := Lib.hid hD
          clear hcd
          go_wp2
          go_ret
          exact ⟨by rw [show decide (c = d) = true from hD]; rfl, rfl⟩
        · have hD : decide (c = d) = false := by simp [hcd]
          simp only [hD] at b8
          have hD := Lib.hid hD
          clear hcd
          go_wp2
          go_ret
          exact ⟨by rw [show decide (c = d) = false from hD]; rfl, rfl⟩
      | layer a n s v l _ hb hc =>
        have hu := unwrap_ok a n s v _ hb
        have hv := Lib.hid (⟨l, rfl, hc⟩ : ∃ l', l.length = l'.length ∧ Chain _ l' c v)
        cases hc with
        | kind =>
          go_wp2_with (go_at_call 87; refine hu.mono ?_; rintro _ _ ⟨rfl, rfl⟩)
          go_roundg 0
          case measure => simp
          case rel => exact ⟨rfl, hv⟩
        | layer b m q u l =>
          go_wp2_with (go_at_call 87; refine hu.mono ?_; rintro _ _ ⟨rfl, rfl⟩)
          go_roundg (l.length + 1)
          case measure => simp
          case rel => exact ⟨rfl, hv⟩
  have hin := inner l v h
  obtain ⟨ty, x, rfl⟩ := h.form
  clear inner h
  go_enter Try.func36, Try.ntmps36
  go_wp2_with (go_at_call 52; refine hin.mono ?_; rintro _ _ ⟨rfl, rfl⟩)
  go_ret
  exact ⟨rfl, rfl⟩
end Go.Proofs.Ytfbdpmeelejdhaa
