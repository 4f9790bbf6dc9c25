/-
  errors.As and errors.Is over a chain of Faults that ends in a Kind: what they answer and what they set.
-/
import Derived.Test.YtemjbblehiaobaaDoorErrA
namespace Go.Proofs.YtemjbblehiaobaaDoor
open Go.RowKit Go.Extern.Stop Go.Stop Go.Extern

/-- an error as a value in memory: Faults around one another, and a Kind within -/
inductive Chain (w : World) : List (Int × ByteArray) → Int → Value → Prop
  | kind (c : Int) : Chain w [] c (.iface tKind (.int .i64 c))
  | layer (a : Nat) (n : Int) (s : ByteArray) (v : Value) (l : List (Int × ByteArray)) (c : Int) :
      Blk w a tFault #[.int .i64 n, .string s, v] → Chain w l c v → Chain w ((n, s) :: l) c (.iface tPFault (.pointer (some ⟨a, 0, none⟩)))

/-- the blocks of a chain are none of S -/
theorem Chain.keeps {S : Nat → Prop} {w w' : World} {l : List (Int × ByteArray)} {c : Int} {v : Value} (h : Chain w l c v) (k : Keeps S w w')
    (hS : ∀ a cs, Blk w a tFault cs → ¬ S a) : Chain w' l c v := by
  induction h with
  | kind c => exact .kind c
  | layer a n s v l c hb _ ih => exact .layer a n s v l c (hb.keeps k (hS a _ hb)) ih

theorem Chain.form {w : World} {l : List (Int × ByteArray)} {c : Int} {v : Value} (h : Chain w l c v) : ∃ ty x, v = .iface ty x := by
  cases h with
  | kind => exact ⟨_, _, rfl⟩
  | layer => exact ⟨_, _, rfl⟩

/-- a Fault tells what it wraps -/
theorem unwrap_ok (a : Nat) (n : Int) (s : ByteArray) (v : Value) (w : World) (hb : Blk w a tFault #[.int .i64 n, .string s, v]) :
    Calls Tryd.prog 80 #[.pointer (some ⟨a, 0, none⟩)] w fun e w' => e = .returned v ∧ w' = w := by
  obtain ⟨h0, h1, h2⟩ := hb.cells3
  go_enter Tryd.func80, Tryd.ntmps80
  go_wp2
  go_ret
  exact ⟨rfl, rfl⟩

/-- the variable errors.errorType holds the handle of the type 'error' -/
def Ety (w : World) : Prop := w.cell? ⟨0, 0, none⟩ = some (rt_ 25)

end Go.Proofs.YtemjbblehiaobaaDoor
