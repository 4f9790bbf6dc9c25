/-
  Lower texts of this claim, joined.
-/
import Derived.Test.YtdbnalocmjkncaaGreatDoorChecked
import Derived.Test.YtdbnalocmjkncaaGreatDoorQGround1
import Derived.LaidEql
import Derived.Stop.Asserts
import Derived.RowKitTokens
import Derived.Test.YtdbnalocmjkncaaGreatDoorTie
import Derived.Test.YtdbnalocmjkncaaGreatDoorCards
import Derived.ChangeSame
import Derived.ChangeVars
import Derived.JoinedOf
import Derived.LaidLaws
import Derived.LaidHandle
import Derived.Stop.Joined
import Derived.SevenTiedAt
import Derived.Deep.AppendLies
import Derived.Maps.RangeWalk
import Derived.Maps.OwnSet
import Derived.Sort.KeysCollected
import Derived.Sort.Walk0
import Derived.Lib.AppendStr
import Derived.ProofKit
import Derived.Deep.Slices
import Derived.Deep.Fields
import Derived.ScopeJumps
import Derived.WalkMore
import Derived.Deep.Upon
/-
  Closed facts on the model's entries for internal/reflectlite and on method sets, at this program's two error types; no walk.
-/
namespace Go.Proofs.YtdbnalocmjkncaaGreatDoor
open Go.RowKit Go.Extern.Stop Go.Stop Go.Extern

abbrev tKind : TypeId := 102
abbrev tPKind : TypeId := 104
abbrev tFault : TypeId := 189
abbrev tPFault : TypeId := 185
abbrev tPPFault : TypeId := 252
abbrev tRt : TypeId := 240
abbrev hd (t : TypeId) : Value := .agg #[.pointer (some ⟨2, t, none⟩)]
abbrev rt_ (t : TypeId) : Value := .iface tRt (hd t)
/-- a Value of reflectlite -/
abbrev vOf (t : TypeId) (a : Addr) (f : Int) : Value := .agg #[.pointer (some ⟨2, t, none⟩), .pointer (some a), .int .u64 f]

namespace Tryz
theorem vPPF (t : Addr) (w : World) : (ReflectliteValue.unpack (.iface 252 (.pointer (some t)))).run Tryz.prog w = .ok (vOf 252 ⟨w.heap.size, 0, none⟩ 150) (w.alloc (.cells #[.pointer (some t)] 252)) := by kernel_rfl
theorem vPK (t : Addr) (w : World) : (ReflectliteValue.unpack (.iface 104 (.pointer (some t)))).run Tryz.prog w = .ok (vOf 104 ⟨w.heap.size, 0, none⟩ 150) (w.alloc (.cells #[.pointer (some t)] 104)) := by kernel_rfl
theorem vPF (t : Addr) (w : World) : (ReflectliteValue.unpack (.iface 185 (.pointer (some t)))).run Tryz.prog w = .ok (vOf 185 ⟨w.heap.size, 0, none⟩ 150) (w.alloc (.cells #[.pointer (some t)] 185)) := by kernel_rfl
theorem vK (c : Int) (w : World) : (ReflectliteValue.unpack (.iface 102 (.int .i64 c))).run Tryz.prog w = .ok (vOf 102 ⟨w.heap.size, 0, none⟩ 130) (w.alloc (.cells #[.int .i64 c] 102)) := by kernel_rfl
theorem tyPPF (a : Addr) (w : World) : (ReflectliteValue.methodAny (ReflectliteValue.valueError "reflectlite.Value.Type" 0) (fun t _ _ _ => ReflectliteType.toType t) #[vOf 252 a 150]).run Tryz.prog w = .ok (rt_ 252) w := by kernel_rfl
theorem tyPK (a : Addr) (w : World) : (ReflectliteValue.methodAny (ReflectliteValue.valueError "reflectlite.Value.Type" 0) (fun t _ _ _ => ReflectliteType.toType t) #[vOf 104 a 150]).run Tryz.prog w = .ok (rt_ 104) w := by kernel_rfl
theorem mKind (h : Value) (w : World) : (Go.method 489 240 (.agg #[h]) "Kind").run Tryz.prog w = .ok (294, h) w := by kernel_rfl
theorem mElem (h : Value) (w : World) : (Go.method 489 240 (.agg #[h]) "Elem").run Tryz.prog w = .ok (310, .agg #[h]) w := by kernel_rfl
theorem mImpl (h : Value) (w : World) : (Go.method 489 240 (.agg #[h]) "Implements").run Tryz.prog w = .ok (311, .agg #[h]) w := by kernel_rfl
theorem mAssign (h : Value) (w : World) : (Go.method 489 240 (.agg #[h]) "AssignableTo").run Tryz.prog w = .ok (308, .agg #[h]) w := by kernel_rfl
theorem mComp (h : Value) (w : World) : (Go.method 489 240 (.agg #[h]) "Comparable").run Tryz.prog w = .ok (309, .agg #[h]) w := by kernel_rfl
theorem mUnwrap (v : Value) (w : World) : (Go.method 489 185 v "Unwrap").run Tryz.prog w = .ok (305, v) w := by kernel_rfl
theorem kPPF (w : World) : ((ReflectliteType.abiMethod fun t => (fun a : Nat => Value.int IntKind.u8 (a : Int)) <$> Rtype.kind t) #[.pointer (some ⟨2, 252, none⟩)]).run Tryz.prog w = .ok (.int .u8 22) w := by kernel_rfl
theorem kPK (w : World) : ((ReflectliteType.abiMethod fun t => (fun a : Nat => Value.int IntKind.u8 (a : Int)) <$> Rtype.kind t) #[.pointer (some ⟨2, 104, none⟩)]).run Tryz.prog w = .ok (.int .u8 22) w := by kernel_rfl
theorem kPF (w : World) : ((ReflectliteType.abiMethod fun t => (fun a : Nat => Value.int IntKind.u8 (a : Int)) <$> Rtype.kind t) #[.pointer (some ⟨2, 185, none⟩)]).run Tryz.prog w = .ok (.int .u8 22) w := by kernel_rfl
theorem kK (w : World) : ((ReflectliteType.abiMethod fun t => (fun a : Nat => Value.int IntKind.u8 (a : Int)) <$> Rtype.kind t) #[.pointer (some ⟨2, 102, none⟩)]).run Tryz.prog w = .ok (.int .u8 2) w := by kernel_rfl
theorem ePPF (w : World) : (ReflectliteType.method ReflectliteType.elem #[hd 252]).run Tryz.prog w = .ok (rt_ 185) w := by kernel_rfl
theorem ePK (w : World) : (ReflectliteType.method ReflectliteType.elem #[hd 104]).run Tryz.prog w = .ok (rt_ 102) w := by kernel_rfl
theorem iPF (w : World) : (ReflectliteType.relation "Implements" ReflectliteType.implements_ #[hd 185, rt_ 34]).run Tryz.prog w = .ok (.bool true) w := by kernel_rfl
theorem iK (w : World) : (ReflectliteType.relation "Implements" ReflectliteType.implements_ #[hd 102, rt_ 34]).run Tryz.prog w = .ok (.bool true) w := by kernel_rfl
theorem tPF (v : Value) (w : World) : (ReflectliteType.typeOf #[.iface 185 v]).run Tryz.prog w = .ok (rt_ 185) w := by kernel_rfl
theorem tK (v : Value) (w : World) : (ReflectliteType.typeOf #[.iface 102 v]).run Tryz.prog w = .ok (rt_ 102) w := by kernel_rfl
theorem aFF (w : World) : (ReflectliteType.relation "AssignableTo" ReflectliteType.assignableTo #[hd 185, rt_ 185]).run Tryz.prog w = .ok (.bool true) w := by kernel_rfl
theorem aKK (w : World) : (ReflectliteType.relation "AssignableTo" ReflectliteType.assignableTo #[hd 102, rt_ 102]).run Tryz.prog w = .ok (.bool true) w := by kernel_rfl
theorem aKF (w : World) : (ReflectliteType.relation "AssignableTo" ReflectliteType.assignableTo #[hd 102, rt_ 185]).run Tryz.prog w = .ok (.bool false) w := by kernel_rfl
theorem aFK (w : World) : (ReflectliteType.relation "AssignableTo" ReflectliteType.assignableTo #[hd 185, rt_ 102]).run Tryz.prog w = .ok (.bool false) w := by kernel_rfl
theorem cK (w : World) : ((ReflectliteType.method fun t => do Extern.Rtype.noPackHeld "Comparable" t; pure (.bool (← typeInfo t).comparable)) #[hd 102]).run Tryz.prog w = .ok (.bool true) w := by kernel_rfl

/-! method sets -/
theorem noAsF (v : Value) (xT : TypeId) (w : World) : (Instr.typeAssert (.iface 185 v) xT 245 true).run Tryz.prog w = .ok (.tuple #[.nilIface, .bool false]) w := run_typeAssert_lacksB Tryz.underlying245 (by kernel_rfl) (by kernel_rfl) v xT w
theorem noAsK (v : Value) (xT : TypeId) (w : World) : (Instr.typeAssert (.iface 102 v) xT 245 true).run Tryz.prog w = .ok (.tuple #[.nilIface, .bool false]) w := run_typeAssert_lacksB Tryz.underlying245 (by kernel_rfl) (by kernel_rfl) v xT w
theorem noIsF (v : Value) (xT : TypeId) (w : World) : (Instr.typeAssert (.iface 185 v) xT 314 true).run Tryz.prog w = .ok (.tuple #[.nilIface, .bool false]) w := run_typeAssert_lacksB Tryz.underlying314 (by kernel_rfl) (by kernel_rfl) v xT w
theorem noIsK (v : Value) (xT : TypeId) (w : World) : (Instr.typeAssert (.iface 102 v) xT 314 true).run Tryz.prog w = .ok (.tuple #[.nilIface, .bool false]) w := run_typeAssert_lacksB Tryz.underlying314 (by kernel_rfl) (by kernel_rfl) v xT w
theorem unF (v : Value) (xT : TypeId) (w : World) : (Instr.typeAssert (.iface 185 v) xT 248 true).run Tryz.prog w = .ok (.tuple #[.iface 185 v, .bool true]) w := run_typeAssert_hasB Tryz.underlying248 (by kernel_rfl) v xT w
theorem noUnK (v : Value) (xT : TypeId) (w : World) : (Instr.typeAssert (.iface 102 v) xT 248 true).run Tryz.prog w = .ok (.tuple #[.nilIface, .bool false]) w := run_typeAssert_lacksB Tryz.underlying248 (by kernel_rfl) (by kernel_rfl) v xT w
theorem noUnsK (v : Value) (xT : TypeId) (w : World) : (Instr.typeAssert (.iface 102 v) xT 249 true).run Tryz.prog w = .ok (.tuple #[.nilIface, .bool false]) w := run_typeAssert_lacksB Tryz.underlying249 (by kernel_rfl) (by kernel_rfl) v xT w

/-! the entries that read or write memory -/
theorem rlm (z : Sem Value) (f : TypeId → Addr → Nat → Nat → Sem Value) (v : Value) :
    ReflectliteValue.method z f #[v] = (do match ← ReflectliteValue.parts v with | none => z | some (t, a, fl) => f t a fl (fl % 32)) := rfl
theorem pPPF (a : Addr) (w : World) : (ReflectliteValue.parts (vOf 252 a 150)).run Tryz.prog w = .ok (some (252, a, 150)) w := by kernel_rfl
theorem pPK (a : Addr) (w : World) : (ReflectliteValue.parts (vOf 104 a 150)).run Tryz.prog w = .ok (some (104, a, 150)) w := by kernel_rfl
theorem isNilPPF (a p : Addr) (W : World) (ha : W.cell? a = some (.pointer (some p))) :
    (ReflectliteValue.method (ReflectliteValue.valueError "reflectlite.Value.IsNil" 0) ReflectliteValue.isNil #[vOf 252 a 150]).run Tryz.prog W = .ok (.bool false) W := by
  rw [rlm]
  simp only [Sem.run_bind, pPPF, Result.andThen]
  simp [ReflectliteValue.isNil, loadVar, isAgg, underlying, Tryz.underlying252, ha, Result.andThen]
theorem isNilPK (a p : Addr) (W : World) (ha : W.cell? a = some (.pointer (some p))) :
    (ReflectliteValue.method (ReflectliteValue.valueError "reflectlite.Value.IsNil" 0) ReflectliteValue.isNil #[vOf 104 a 150]).run Tryz.prog W = .ok (.bool false) W := by
  rw [rlm]
  simp only [Sem.run_bind, pPK, Result.andThen]
  simp [ReflectliteValue.isNil, loadVar, isAgg, underlying, Tryz.underlying104, ha, Result.andThen]
theorem eoPPF (w : World) : (Rtype.elem? 252).run Tryz.prog w = .ok (some 185) w := by kernel_rfl
theorem eoPK (w : World) : (Rtype.elem? 104).run Tryz.prog w = .ok (some 102) w := by kernel_rfl
theorem mkPF (p : Addr) (w : World) : (ReflectliteValue.mk 185 p ReflectliteValue.flagAddr).run Tryz.prog w = .ok (vOf 185 p 406) w := by kernel_rfl
theorem mkK (p : Addr) (w : World) : (ReflectliteValue.mk 102 p ReflectliteValue.flagAddr).run Tryz.prog w = .ok (vOf 102 p 386) w := by kernel_rfl
theorem elPPF (a p : Addr) (W : World) (ha : W.cell? a = some (.pointer (some p))) :
    (ReflectliteValue.method (ReflectliteValue.valueError "reflectlite.Value.Elem" 0) ReflectliteValue.elem #[vOf 252 a 150]).run Tryz.prog W = .ok (vOf 185 p 406) W := by
  rw [rlm]
  simp only [Sem.run_bind, pPPF, Result.andThen]
  simp [ReflectliteValue.elem, loadVar, isAgg, underlying, Tryz.underlying252, ha, Result.andThen, eoPPF, mkPF]
theorem elPK (a p : Addr) (W : World) (ha : W.cell? a = some (.pointer (some p))) :
    (ReflectliteValue.method (ReflectliteValue.valueError "reflectlite.Value.Elem" 0) ReflectliteValue.elem #[vOf 104 a 150]).run Tryz.prog W = .ok (vOf 102 p 386) W := by
  rw [rlm]
  simp only [Sem.run_bind, pPK, Result.andThen]
  simp [ReflectliteValue.elem, loadVar, isAgg, underlying, Tryz.underlying104, ha, Result.andThen, eoPK, mkK]
theorem rls (v x : Value) : ReflectliteValue.set #[v, x] = (do
    let (some (dst, a, fl), some (src, b, _)) := (← ReflectliteValue.parts v, ← ReflectliteValue.parts x)
      | unsupported (.noEntry "extern/(internal/reflectlite.Value).Set.zeroValue")
    if fl / ReflectliteValue.flagAddr % 2 == 0 then unsupported (.noEntry "extern/(internal/reflectlite.Value).Set.unaddressable")
    let val ← loadVar src b
    if ← Rtype.directlyAssignable dst src then storeVar dst a val
    else if ← Rtype.implements dst src then
      if (← Rtype.kind src) == 20 then
        match val with
        | .nilIface => unsupported (.noEntry "extern/reflectlite: a nil value of one interface type handed on as a value of another")
        | _ => storeVar dst a val
      else storeVar dst a (.iface src val)
    else panicString ("reflectlite.Set: value of type " ++ (← Rtype.spelt src) ++ " is not assignable to type " ++ (← Rtype.spelt dst))
    pure (.tuple #[])) := rfl
theorem pPFa (a : Addr) (w : World) : (ReflectliteValue.parts (vOf 185 a 406)).run Tryz.prog w = .ok (some (185, a, 406)) w := by kernel_rfl
theorem pPF (a : Addr) (w : World) : (ReflectliteValue.parts (vOf 185 a 150)).run Tryz.prog w = .ok (some (185, a, 150)) w := by kernel_rfl
theorem pKa (a : Addr) (w : World) : (ReflectliteValue.parts (vOf 102 a 386)).run Tryz.prog w = .ok (some (102, a, 386)) w := by kernel_rfl
theorem pK (a : Addr) (w : World) : (ReflectliteValue.parts (vOf 102 a 130)).run Tryz.prog w = .ok (some (102, a, 130)) w := by kernel_rfl
theorem diF (w : World) : (Rtype.directlyAssignable 185 185).run Tryz.prog w = .ok true w := by kernel_rfl
theorem diK (w : World) : (Rtype.directlyAssignable 102 102).run Tryz.prog w = .ok true w := by kernel_rfl
theorem setF (ta b e : Addr) (old : Value) (W : World) (hb : W.cell? b = some (.pointer (some e))) (ht : W.cell? ta = some old) (hf : W.frozen? ta = false) :
    (ReflectliteValue.set #[vOf 185 ta 406, vOf 185 b 150]).run Tryz.prog W = .ok (.tuple #[]) (W.setCell ta (.pointer (some e))) := by
  rw [rls]
  simp only [Sem.run_bind, pPFa, pPF, Result.andThen]
  simp [ReflectliteValue.flagAddr, loadVar, isAgg, underlying, Tryz.underlying185, hb, Result.andThen, diF, storeVar, Value.cells, storeCells, Addr.add]
  rw [run_store Tryz.prog W ta _ _ (by rfl)]
  simp [ht, hf]
theorem setK (ta b : Addr) (c : Int) (old : Value) (W : World) (hb : W.cell? b = some (.int .i64 c)) (ht : W.cell? ta = some old) (hf : W.frozen? ta = false) :
    (ReflectliteValue.set #[vOf 102 ta 386, vOf 102 b 130]).run Tryz.prog W = .ok (.tuple #[]) (W.setCell ta (.int .i64 c)) := by
  rw [rls]
  simp only [Sem.run_bind, pKa, pK, Result.andThen]
  simp [ReflectliteValue.flagAddr, loadVar, isAgg, underlying, Tryz.underlying102, hb, Result.andThen, diK, storeVar, Value.cells, storeCells, Addr.add]
  rw [run_store Tryz.prog W ta _ _ (by rfl)]
  simp [ht, hf]

/-- two Kinds held against one another -/
theorem eqKK (c d : Int) (w : World) : (binOp .eql 34 (.iface 102 (.int .i64 c)) (.iface 102 (.int .i64 d))).run Tryz.prog w = .ok (.bool (decide (c = d))) w := by
  obtain ⟨i, hi, hcmp⟩ := Option.map_eq_some_iff.1 (show (Tryz.prog.info? 102).map (·.comparable) = some true by kernel_rfl)
  have h : ∀ n : Nat, (Op.equalIn (n + 2) 34 (.iface 102 (.int .i64 c)) (.iface 102 (.int .i64 d))).run Tryz.prog w = .ok (decide (c = d)) w := by
    intro n
    simp [Op.equalIn, run_underlying Tryz.underlying34, run_underlying Tryz.underlying102, typeInfo, hi, hcmp]
    rw [Bool.eq_iff_iff]; simp
  simp only [binOp]
  simp [Op.equal, Op.maxDepth, h 9998]
end Tryz
end Go.Proofs.YtdbnalocmjkncaaGreatDoor

/-
  errors.As and errors.Is over a chain of Faults that ends in a Kind: what they answer and what they set.
-/
namespace Go.Proofs.YtdbnalocmjkncaaGreatDoor
open Go.RowKit Go.Extern.Stop Go.Stop Go.Extern

/-- an error as a value in memory: Faults around one another, and a Kind within -/
inductive Chain (w : World) : List (Int × ByteArray) → Int → Value → Prop
  | kind (c : Int) : Chain w [] c (.iface tKind (.int .i64 c))
  | layer (a : Nat) (n : Int) (s : ByteArray) (v : Value) (l : List (Int × ByteArray)) (c : Int) :
      Blk w a tFault #[.int .i64 n, .string s, v] → Chain w l c v → Chain w ((n, s) :: l) c (.iface tPFault (.pointer (some ⟨a, 0, none⟩)))

/-- the blocks of a chain are none of S -/
theorem Chain.keeps {S : Nat → Prop} {w w' : World} {l : List (Int × ByteArray)} {c : Int} {v : Value} (h : Chain w l c v) (k : Keeps S w w')
    (hS : ∀ a cs, Blk w a tFault cs → ¬ S a) : Chain w' l c v := by
  induction h with
  | kind c => exact .kind c
  | layer a n s v l c hb _ ih => exact .layer a n s v l c (hb.keeps k (hS a _ hb)) ih

theorem Chain.form {w : World} {l : List (Int × ByteArray)} {c : Int} {v : Value} (h : Chain w l c v) : ∃ ty x, v = .iface ty x := by
  cases h with
  | kind => exact ⟨_, _, rfl⟩
  | layer => exact ⟨_, _, rfl⟩

/-- a Fault tells what it wraps -/
theorem unwrap_ok (a : Nat) (n : Int) (s : ByteArray) (v : Value) (w : World) (hb : Blk w a tFault #[.int .i64 n, .string s, v]) :
    Calls Tryz.prog 305 #[.pointer (some ⟨a, 0, none⟩)] w fun e w' => e = .returned v ∧ w' = w := by
  obtain ⟨h0, h1, h2⟩ := hb.cells3
  go_enter Tryz.func305, Tryz.ntmps305
  go_wp2
  go_ret
  exact ⟨rfl, rfl⟩

/-- the variable errors.errorType holds the handle of the type 'error' -/
def Ety (w : World) : Prop := w.cell? ⟨0, 0, none⟩ = some (rt_ 34)

theorem is_ok (c d : Int) (l : List (Int × ByteArray)) (v : Value) (w : World) (h : Chain w l c v) :
    Calls Tryz.prog 149 #[v, .iface tKind (.int .i64 d)] w fun e w' => e = .returned (.bool (decide (c = d))) ∧ w' = w := by
  have h65 := @run_callFunc_extern Tryz.prog 161 _ ReflectliteType.typeOf Tryz.func161 (by kernel_rfl) (by kernel_rfl) (by kernel_rfl) (by kernel_rfl)
  have h98 : ∀ w, (callFunc 309 #[hd 102]).run Tryz.prog w = .ok (.value (.bool true)) w := fun w => by
    rw [@run_callFunc_extern Tryz.prog 309 _ (ReflectliteType.method fun t => do Extern.Rtype.noPackHeld "Comparable" t; pure (.bool (← typeInfo t).comparable)) Tryz.func309 (by kernel_rfl) (by kernel_rfl) (by kernel_rfl) (by kernel_rfl), Tryz.cK]; rfl
  have a1 := Tryz.tK
  have a3 := Tryz.mComp
  have inner : ∀ (l : List (Int × ByteArray)) (v : Value), Chain w l c v → Calls Tryz.prog 192 #[v, .iface tKind (.int .i64 d), .bool true] w fun e w' => e = .returned (.bool (decide (c = d))) ∧ w' = w := by
    intro l v h
    have b1 := Tryz.noIsF
    have b2 := Tryz.noIsK
    have b3 := Tryz.unF
    have b4 := Tryz.noUnK
    have b5 := Tryz.noUnsK
    have b6 := Tryz.mUnwrap
    go_enter Tryz.func192, Tryz.ntmps192
    clear h65 h98 a1 a3
    have b7 : ∀ (x : Value) (w : World), (binOp .eql 34 (.iface 185 x) (.iface 102 (.int .i64 d))).run Tryz.prog w = .ok (.bool false) w := fun x w => run_eql_iface_types (P := Tryz.prog) _ _ x _ Tryz.underlying34 (by decide) w
    go_wp2
    go_loopg [0] l.length (fun k u wx => w = wx ∧ ∃ l, k = l.length ∧ Chain w l c u)
    case atStart => exact ⟨rfl, l, rfl, h⟩
    case round =>
      obtain ⟨rfl, l, rfl, hc⟩ := hrel
      cases hc with
      | kind =>
        have b8 := fun w => Tryz.eqKK c d w
        by_cases hcd : c = d
        · have hD : decide (c = d) = true := by simp [hcd]
          simp only [hD] at b8
          have hD := Lib.hid hD
          clear hcd
          go_wp2
          go_ret
          exact ⟨by rw [show decide (c = d) = true from hD]; rfl, rfl⟩
        · have hD : decide (c = d) = false := by simp [hcd]
          simp only [hD] at b8
          have hD := Lib.hid hD
          clear hcd
          go_wp2
          go_ret
          exact ⟨by rw [show decide (c = d) = false from hD]; rfl, rfl⟩
      | layer a n s v l _ hb hc =>
        have hu := unwrap_ok a n s v _ hb
        have hv := Lib.hid (⟨l, rfl, hc⟩ : ∃ l', l.length = l'.length ∧ Chain _ l' c v)
        cases hc with
        | kind =>
          go_wp2_with (go_at_call 305; refine hu.mono ?_; rintro _ _ ⟨rfl, rfl⟩)
          go_roundg 0
          case measure => simp
          case rel => exact ⟨rfl, hv⟩
        | layer b m q u l =>
          go_wp2_with (go_at_call 305; refine hu.mono ?_; rintro _ _ ⟨rfl, rfl⟩)
          go_roundg (l.length + 1)
          case measure => simp
          case rel => exact ⟨rfl, hv⟩
  have hin := inner l v h
  obtain ⟨ty, x, rfl⟩ := h.form
  clear inner h
  go_enter Tryz.func149, Tryz.ntmps149
  go_wp2_with (go_at_call 192; refine hin.mono ?_; rintro _ _ ⟨rfl, rfl⟩)
  go_ret
  exact ⟨rfl, rfl⟩
end Go.Proofs.YtdbnalocmjkncaaGreatDoor

/-
  errors.As over a chain of Faults that ends in a Kind, at the two targets: what it answers and what it sets.
-/
namespace Go.Proofs.YtdbnalocmjkncaaGreatDoor
open Go.RowKit Go.Extern.Stop Go.Stop Go.Extern

/-- the target's own variable: at its block, the first cell -/
theorem ety_lt {w : World} (h : Ety w) : 0 < w.heap.size := by
  rcases Nat.lt_or_ge 0 w.heap.size with h1 | h1
  · exact h1
  · unfold Ety at h; simp [World.cell?, Array.getElem?_eq_none h1] at h
theorem Ety.keeps {S : Nat → Prop} {w w' : World} (h : Ety w) (k : Keeps S w w') (hS : ¬ S 0) : Ety w' := by
  have hb := k.block _ (ety_lt h) hS
  unfold Ety at h ⊢
  rw [← h]
  simp [World.cell?, hb]

/-- errors.as at the Kind within -/
theorem as_k_in (c old : Int) (t b0 : Nat) (l : List (Int × ByteArray)) (v : Value) (w : World) (h : Chain w l c v)
    (hb0 : Blk w b0 tPKind #[.pointer (some ⟨t, 0, none⟩)]) (ht : Blk w t tKind #[.int .i64 old]) :
    Calls Tryz.prog 106 #[v, .iface tPKind (.pointer (some ⟨t, 0, none⟩)), vOf tPKind ⟨b0, 0, none⟩ 150, rt_ tKind] w fun e w' =>
      e = .returned (.bool true) ∧ Keeps (fun i => i = t) w w' ∧ Blk w' t tKind #[.int .i64 c] := by
  have h65 := @run_callFunc_extern Tryz.prog 161 _ ReflectliteType.typeOf Tryz.func161 (by kernel_rfl) (by kernel_rfl) (by kernel_rfl) (by kernel_rfl)
  have h97 := @run_callFunc_extern Tryz.prog 308 _ (ReflectliteType.relation "AssignableTo" ReflectliteType.assignableTo) Tryz.func308 (by kernel_rfl) (by kernel_rfl) (by kernel_rfl) (by kernel_rfl)
  have h69 := @run_callFunc_extern Tryz.prog 162 _ (ReflectliteValue.method (ReflectliteValue.valueError "reflectlite.Value.Elem" 0) ReflectliteValue.elem) Tryz.func162 (by kernel_rfl) (by kernel_rfl) (by kernel_rfl) (by kernel_rfl)
  have h58 := @run_callFunc_extern Tryz.prog 103 _ (fun args => ReflectliteValue.unpack (args.getD 0 (.tuple #[]))) Tryz.func103 (by kernel_rfl) (by kernel_rfl) (by kernel_rfl) (by kernel_rfl)
  have h70 := @run_callFunc_extern Tryz.prog 163 _ ReflectliteValue.set Tryz.func163 (by kernel_rfl) (by kernel_rfl) (by kernel_rfl) (by kernel_rfl)
  have a1 := Tryz.tK
  have a2 := Tryz.tPF
  have a3 := Tryz.aKK
  have a4 := Tryz.aFK
  have a5 := Tryz.mAssign
  have a6 := Tryz.vK
  have b1 := Tryz.noAsF
  have b3 := Tryz.unF
  have b6 := Tryz.mUnwrap
  go_enter Tryz.func106, Tryz.ntmps106
  go_wp2
  go_loopg [0] l.length (fun k u wx => w.alloc (.cells #[.pointer (some ⟨2, 104, none⟩), .pointer (some ⟨b0, 0, none⟩), .int .u64 150] 176) = wx ∧ ∃ l, k = l.length ∧ Chain w l c u)
  case atStart => exact ⟨rfl, l, rfl, h⟩
  case round =>
    obtain ⟨rfl, l, rfl, hc⟩ := hrel
    cases hc with
    | kind =>
      have el := Tryz.elPK ⟨b0, 0, none⟩ ⟨t, 0, none⟩ (w.alloc (.cells #[.pointer (some ⟨2, 104, none⟩), .pointer (some ⟨b0, 0, none⟩), .int .u64 150] 176)) ((hb0.alloc _).cell 0)
      have st := Tryz.setK ⟨t, 0, none⟩ ⟨w.heap.size + 1, 0, none⟩ c (.int .i64 old) ((w.alloc (.cells #[.pointer (some ⟨2, 104, none⟩), .pointer (some ⟨b0, 0, none⟩), .int .u64 150] 176)).alloc (.cells #[.int .i64 c] 102))
        (by simp)
        (((ht.alloc _).alloc _).cell 0) (((ht.alloc _).alloc _).frozen 0)
      go_wp2
      go_ret
      refine ⟨rfl, ?_, ?_⟩
      · exact (((Keeps.refl (fun i => i = t) w).alloc _).alloc _).setCell (fun _ => rfl) _
      · simpa using ((ht.alloc _).alloc _).set_ 0 (.int .i64 c)
    | layer a n s v l _ hb hc =>
      have hu := unwrap_ok a n s v _ (hb.alloc (.cells #[.pointer (some ⟨2, 104, none⟩), .pointer (some ⟨b0, 0, none⟩), .int .u64 150] 176))
      have hv := Lib.hid (⟨l, rfl, hc⟩ : ∃ l', l.length = l'.length ∧ Chain _ l' c v)
      cases hc with
      | kind =>
        go_wp2_with (go_at_call 305; refine hu.mono ?_; rintro _ _ ⟨rfl, rfl⟩)
        go_roundg 0
        case measure => simp
        case rel => exact ⟨rfl, hv⟩
      | layer b m q u l' =>
        go_wp2_with (go_at_call 305; refine hu.mono ?_; rintro _ _ ⟨rfl, rfl⟩)
        go_roundg (l'.length + 1)
        case measure => simp
        case rel => exact ⟨rfl, hv⟩

set_option maxHeartbeats 1000000 in
/-- errors.As at a target of the Kinds: it is found, whatever is around it -/
theorem as_kind (c old : Int) (t : Nat) (l : List (Int × ByteArray)) (v : Value) (w : World) (h : Chain w l c v) (hg : Ety w)
    (ht : Blk w t tKind #[.int .i64 old]) :
    Calls Tryz.prog 47 #[v, .iface tPKind (.pointer (some ⟨t, 0, none⟩))] w fun e w' =>
      e = .returned (.bool true) ∧ Keeps (fun i => i = t) w w' ∧ Blk w' t tKind #[.int .i64 c] := by
  have h58 := @run_callFunc_extern Tryz.prog 103 _ (fun args => ReflectliteValue.unpack (args.getD 0 (.tuple #[]))) Tryz.func103 (by kernel_rfl) (by kernel_rfl) (by kernel_rfl) (by kernel_rfl)
  have h59 := @run_callFunc_extern Tryz.prog 104 _ (ReflectliteValue.methodAny (ReflectliteValue.valueError "reflectlite.Value.Type" 0) (fun t _ _ _ => ReflectliteType.toType t)) Tryz.func104 (by kernel_rfl) (by kernel_rfl) (by kernel_rfl) (by kernel_rfl)
  have h60 := @run_callFunc_extern Tryz.prog 105 _ (ReflectliteValue.method (ReflectliteValue.valueError "reflectlite.Value.IsNil" 0) ReflectliteValue.isNil) Tryz.func105 (by kernel_rfl) (by kernel_rfl) (by kernel_rfl) (by kernel_rfl)
  have h89 := @run_callFunc_extern Tryz.prog 294 _ (ReflectliteType.abiMethod fun t => do pure (.int .u8 (← Rtype.kind t))) Tryz.func294 (by kernel_rfl) (by kernel_rfl) (by kernel_rfl) (by kernel_rfl)
  have h99 := @run_callFunc_extern Tryz.prog 310 _ (ReflectliteType.method ReflectliteType.elem) Tryz.func310 (by kernel_rfl) (by kernel_rfl) (by kernel_rfl) (by kernel_rfl)
  have h100 := @run_callFunc_extern Tryz.prog 311 _ (ReflectliteType.relation "Implements" ReflectliteType.implements_) Tryz.func311 (by kernel_rfl) (by kernel_rfl) (by kernel_rfl) (by kernel_rfl)
  have a1 := Tryz.vPK
  have a2 := Tryz.tyPK
  have a3 := Tryz.mKind
  have a4 := Tryz.kPK
  have a5 := Tryz.mElem
  have a6 := Tryz.ePK
  have a7 := Tryz.kK
  have a8 := Tryz.mImpl
  have a9 := Tryz.iK
  have n60 := Tryz.isNilPK ⟨w.heap.size, 0, none⟩ ⟨t, 0, none⟩ ((w.alloc (.cells #[.pointer (some ⟨t, 0, none⟩)] 104)).alloc (.cells #[.pointer (some ⟨2, 104, none⟩), .pointer (some ⟨w.heap.size, 0, none⟩), .int .u64 150] 176))
    (((Blk.new w 104 #[.pointer (some ⟨t, 0, none⟩)]).alloc _).cell 0)
  have hg2 : ((w.alloc (.cells #[.pointer (some ⟨t, 0, none⟩)] 104)).alloc (.cells #[.pointer (some ⟨2, 104, none⟩), .pointer (some ⟨w.heap.size, 0, none⟩), .int .u64 150] 176)).cell? ⟨0, 0, none⟩ = some (rt_ 34) :=
    hg.keeps (((Keeps.refl (fun _ => False) w).alloc _).alloc _) id
  have hin := as_k_in c old t w.heap.size l v _ (h.keeps (((Keeps.refl (fun _ => False) w).alloc (.cells #[.pointer (some ⟨t, 0, none⟩)] 104)).alloc (.cells #[.pointer (some ⟨2, 104, none⟩), .pointer (some ⟨w.heap.size, 0, none⟩), .int .u64 150] 176)) (fun _ _ _ => id))
    ((Blk.new w 104 #[.pointer (some ⟨t, 0, none⟩)]).alloc _) ((ht.alloc _).alloc _)
  have hin := Lib.hid hin
  obtain ⟨ty, x, rfl⟩ := h.form
  clear hg h ht
  go_enter Tryz.func47, Tryz.ntmps47
  go_wp2_with (go_at_call 106; refine hin.mono ?_; rintro _ w2 ⟨rfl, hk, hb⟩)
  go_ret
  exact ⟨rfl, (((Keeps.refl _ w).alloc _).alloc _).trans hk, hb⟩
end Go.Proofs.YtdbnalocmjkncaaGreatDoor

/-
  What the rows' condition on the listed variable gives a walk; a world that meets it.
-/
namespace Go.Proofs.YtdbnalocmjkncaaGreatDoor
open Go.ChangeShapes Go.WideShapes Go.RowKit

theorem cardOwn : ownKnob Tryz.prog.godebug = none := by kernel_rfl
theorem cardEt : Tryz.prog.globalNamed "errors.errorType" = some 0 := by kernel_rfl
theorem cardRt : (Tryz.prog.cutTypes.find? (·.1 == "internal/reflectlite.rtype")).map (·.2) = some tRt := by kernel_rfl
theorem cardOne : ((List.range 389).filter fun t => Tryz.prog.rowNamed t [101, 114, 114, 111, 114]) = [34] := by kernel_rfl
theorem cardSize : Tryz.prog.types.size = 389 := by kernel_rfl

/-- what the condition gives a walk: the variable's one cell -/
theorem ety_of_laid {W : World} (h : laidMetH Tryz.prog [("errors.errorType", Rows.laid_errors_errorType)] W) : Ety W := by
  have h' : laidMet Tryz.prog [] W ∧ handlesMet Tryz.prog [("errors.errorType", Rows.laid_errors_errorType)] W := h
  obtain ⟨name, u, ty, e1, e2, e3, e4, e5⟩ := h'.2 _ (List.mem_singleton.2 rfl)
  have en : name = [101, 114, 114, 111, 114] := (Option.some.inj e1).symm
  subst en
  obtain rfl := Option.some.inj (cardRt.symm.trans e2)
  have hm : ty ∈ (List.range 389).filter fun t => Tryz.prog.rowNamed t [101, 114, 114, 111, 114] := List.mem_filter.2 ⟨List.mem_range.2 (by rw [← cardSize]; exact e3), e4⟩
  rw [cardOne] at hm
  obtain rfl := List.mem_singleton.1 hm
  have hh : typeHandle Tryz.prog 34 = .pointer (some ⟨2, 34, none⟩) := by kernel_rfl
  rw [hh] at e5
  unfold Ety
  simpa using World.var?_cell cardEt e5 0

/-- a world that meets the condition: the settled one, the variable's cell laid -/
noncomputable def laidWorld (os : Os) : World :=
  let w0 := World.holding Tryz.prog os ⟨#[], #[], []⟩
  { w0 with heap := w0.heap.modify 0 fun
      | .cells _ t frozen => .cells #[rt_ 34] t frozen
      | o => o }
theorem laidWorld_met (os : Os) (args : Array Value) : laidMetH Tryz.prog [("errors.errorType", Rows.laid_errors_errorType)] ((laidWorld os).forCall (fun _ _ => 0) ⟨#[], args, []⟩).memory :=
  laidMetH_of_parts (laidMet_nil _ _) (by kernel_rfl)
end Go.Proofs.YtdbnalocmjkncaaGreatDoor

/-
  A slice that the call itself makes and appends to, as a list of one-cell values. No program in sight.
-/
namespace Go.Proofs.YtdbnalocmjkncaaGreatDoor
open Go.RowKit

/-- the slice value v, of element type e, owns the cells vs, in blocks from B on -/
def OwnL (w : World) (B : Nat) (e : TypeId) (v : Value) (vs : List Value) : Prop := w.ownsRow B e 1 v vs.length vs

theorem OwnL.none_ (w : World) (B : Nat) (e : TypeId) : OwnL w B e (.slice none 0 0) [] := World.ownsRow_nil w B e 1

theorem OwnL.keeps {w w' : World} {B : Nat} {e : TypeId} {v : Value} {vs : List Value} {S : Nat → Prop} (h : OwnL w B e v vs) (k : Keeps S w w') (hS : ∀ i, B ≤ i → i < w.heap.size → ¬ S i) : OwnL w' B e v vs := by
  refine ⟨h.1, ?_⟩
  rcases h.2 with h2 | ⟨g, cap, cur, hv, hg, hh, r⟩
  · exact .inl h2
  · have hlt : g < w.heap.size := by
      rcases Nat.lt_or_ge g w.heap.size with hlt | hge
      · exact hlt
      · rw [Array.getElem?_eq_none hge] at hh; cases hh
    exact .inr ⟨g, cap, cur, hv, hg, (k.block g hlt (hS g hg hlt)).trans hh, r⟩

/-- its shape, and its cells -/
theorem OwnL.shape {w : World} {B : Nat} {e : TypeId} {v : Value} {vs : List Value} (h : OwnL w B e v vs) :
    ∃ a cap, v = .slice a vs.length cap ∧ vs.length ≤ cap ∧ cap ≤ maxLen ∧ (0 < vs.length → ∃ g, a = some ⟨g, 0, none⟩ ∧ B ≤ g ∧ g < w.heap.size) ∧
      ∀ g, a = some ⟨g, 0, none⟩ → ∀ j u, vs[j]? = some u → w.cell? ⟨g, j, none⟩ = some u ∧ w.frozen? ⟨g, j, none⟩ = false := by
  rcases h.2 with ⟨rfl, h2⟩ | ⟨g, cap, cur, rfl, hg, hh, h1, h2, h3, h4⟩
  · refine ⟨none, 0, by rw [h2], by omega, by unfold maxLen; omega, fun h => by omega, fun g hg => by cases hg⟩
  · have hlt : g < w.heap.size := by
      rcases Nat.lt_or_ge g w.heap.size with hlt | hge
      · exact hlt
      · rw [Array.getElem?_eq_none hge] at hh; cases hh
    refine ⟨some ⟨g, 0, none⟩, cap, rfl, h1, h2, fun _ => ⟨g, rfl, hg, hlt⟩, fun g' hg' j u hu => ?_⟩
    injection hg' with hg'
    injection hg' with hg'
    subst hg'
    have hj : j < vs.length := (List.getElem?_eq_some_iff.1 hu).1
    refine ⟨?_, frozen_of_row w g j cur e hh⟩
    rw [cell_of_row w g j cur e (0, 0) hh, ← hu, ← h4, List.getElem?_take, if_pos (by omega)]
    simp

theorem OwnL.ownBlk {w : World} {B : Nat} {e : TypeId} {v : Value} {vs : List Value} (h : OwnL w B e v vs) : ∀ k, v.ownBlock = some k → ∃ cs, Blk w k e cs := by
  intro k hk
  rcases h.2 with ⟨rfl, h2⟩ | ⟨g, cap, cur, rfl, hg, hh, _⟩
  · simp [Value.ownBlock] at hk
  · simp [Value.ownBlock] at hk
    subst hk
    exact ⟨_, hh⟩

section
variable {P : Program}
theorem OwnL.made (w : World) (e : TypeId) (cs : Array Value) (cap : Nat) (hs : cs.size = cap) (hm : cap ≤ maxLen) : OwnL (w.alloc (.cells cs e)) w.heap.size e (.slice (some ⟨w.heap.size, 0, none⟩) 0 cap) [] :=
  World.ownsRow_made w cs cap (Nat.le_refl _) hm (by omega)
theorem OwnL.more {w : World} {B B' : Nat} {e : TypeId} {v : Value} {vs : List Value} (h : OwnL w B e v vs) (hB : B' ≤ B) : OwnL w B' e v vs := by
  refine ⟨h.1, ?_⟩
  rcases h.2 with h2 | ⟨g, cap, cur, hv, hg, r⟩
  · exact .inl h2
  · exact .inr ⟨g, cap, cur, hv, by omega, r⟩

/-- append of one value, the frame by types; one value, which lies in a block of its own -/
theorem wpList_append_onet {w : World} {ops : Array Oper} {rest : List Oper} {o : Oper} {a : Act} {Q : Exit → Act → World → Prop} (hgd : o.guard = none) (s x : Operand) (t : TypeId)
    (ho : o.op = .call { callee := .builtin .append, args := #[s, x], argTypes := #[t, t] }) (B : Nat) (e : TypeId) (z : Value) (bytes : Nat) (ht : P.underlying t = some (.slice e))
    (hi : (P.info? e).map (fun i => (i.zero, i.size, i.bytes)) = some (some z, 1, bytes)) (hz : z.cells.size = 1) (hb16 : bytes ≤ 4096)
    (v : Value) (vs : List Value) (hs : a.eval s = v) (hown : OwnL w B e v vs) (ad : Addr) (c : Nat) (u : Value) (hx : a.eval x = .slice (some ad) 1 c) (hu : w.cell? ad = some u) (h1 : u.oneCell' = true)
    (hlen : vs.length ≤ 17179869184) (hbase : B ≤ w.heap.size)
    (h : ∀ v' w', OwnL w' B e v' (vs ++ [u]) → Keeps (fun i => B ≤ i ∧ ∃ cs, Blk w i e cs) w w' → wpList P ops Q rest (a.put o.dst v') w') : wpList P ops Q (o :: rest) a w := by
  refine wpList_plain hgd fun K hK => ?_
  obtain ⟨i, hi0, hzi, hsi, hbi⟩ := info_parts hi
  obtain ⟨v', w', hrun, h2, h3, -⟩ := run_append_own (P := P) w B t o.type e i z 1 bytes ht hi0 hzi hsi hbi hz (by omega) v vs.length vs hown ad 1 c [u] rfl (by
    intro j y hj
    match j, hj with
    | 0, hj => simp at hj; subst hj; simpa [Addr.add] using hu
    | j + 1, hj => simp at hj) (by intro y hy; simp at hy; subst hy; exact h1) (by unfold maxLen; omega) (by
      have := Nat.mul_le_mul (show vs.length + 1 ≤ 17179869185 by omega) hb16
      omega) hbase
  unfold Oper.wp
  simp only [execOp, ho, resolve, invoke, builtin, Sem.run_bind, Sem.run_pure, Result.andThen_ok, List.map_toArray, List.map_cons, List.map_nil, hs, hx, hrun]
  refine hK _ _ (h v' w' (by unfold OwnL; simpa using h2) ((Keeps.refl _ _).grown h3 (fun k hk _ => ?_)))
  exact ⟨(hown.lt k hk).1, hown.ownBlk k hk⟩

/-- append of one value, which lies in a block of its own -/
theorem wpList_append_one {w : World} {ops : Array Oper} {rest : List Oper} {o : Oper} {a : Act} {Q : Exit → Act → World → Prop} (hgd : o.guard = none) (s x : Operand) (t : TypeId)
    (ho : o.op = .call { callee := .builtin .append, args := #[s, x], argTypes := #[t, t] }) (B : Nat) (e : TypeId) (z : Value) (bytes : Nat) (ht : P.underlying t = some (.slice e))
    (hi : (P.info? e).map (fun i => (i.zero, i.size, i.bytes)) = some (some z, 1, bytes)) (hz : z.cells.size = 1) (hb16 : bytes ≤ 4096)
    (v : Value) (vs : List Value) (hs : a.eval s = v) (hown : OwnL w B e v vs) (ad : Addr) (c : Nat) (u : Value) (hx : a.eval x = .slice (some ad) 1 c) (hu : w.cell? ad = some u) (h1 : u.oneCell' = true)
    (hlen : vs.length ≤ 17179869184) (hbase : B ≤ w.heap.size)
    (h : ∀ v' w', OwnL w' B e v' (vs ++ [u]) → Keeps (fun i => B ≤ i) w w' → wpList P ops Q rest (a.put o.dst v') w') : wpList P ops Q (o :: rest) a w :=
  wpList_append_onet hgd s x t ho B e z bytes ht hi hz hb16 v vs hs hown ad c u hx hu h1 hlen hbase fun v' w' ho k => h v' w' ho (k.mono fun _ _ h => h.1)

/-- make of an empty slice with room for c elements -/
theorem wpList_make_empty {w : World} {ops : Array Oper} {rest : List Oper} {o : Oper} {a : Act} {Q : Exit → Act → World → Prop}
    (hg : o.guard = none) (l c : Operand) (t : TypeId) (hop : o.op = Op.makeSlice t l c) (e : TypeId) (z : Value) (bytes : Nat)
    (h1 : P.underlying t = some (.slice e)) (h2 : (P.info? e).map (fun i => (i.zero, i.size, i.bytes)) = some (some z, 1, bytes)) (hb : bytes ≤ 4096)
    (C : Int) (kl : IntKind) (hl : a.eval l = .int kl 0) (hc : a.eval c = .int .i64 C) (h0 : 0 ≤ C) (b2 : C ≤ 17179869184)
    (hK : ∀ w', OwnL w' w.heap.size e (.slice (some ⟨w.heap.size, 0, none⟩) 0 C.toNat) [] → Keeps (fun _ => False) w w' → w'.heap.size = w.heap.size + 1 → wpList P ops Q rest (a.put o.dst (.slice (some ⟨w.heap.size, 0, none⟩) 0 C.toNat)) w') :
    wpList P ops Q (o :: rest) a w := by
  refine wpList_plain hg fun K hK' => ?_
  obtain ⟨i, hi, hzz, hs, hbb⟩ := info_parts h2
  have hmul : (i.bytes : Int) * C ≤ 281474976710656 := by
    rw [hbb]
    have h3 : (bytes : Int) * C ≤ (4096 : Int) * C := Int.mul_le_mul_of_nonneg_right (by omega) h0
    omega
  have hrun := run_make (P := P) w t e i z h1 hi hzz kl .i64 0 C (by omega) (by omega) hmul (by omega)
  rw [hs] at hrun
  unfold Oper.wp
  simp only [execOp, hop, hl, hc, hrun, Sem.run_bind, Sem.run_pure, Result.andThen_ok]
  refine hK' _ _ (hK _ (OwnL.made w e _ _ (by simp [madeCells]) (by unfold maxLen; omega)) ((Keeps.refl _ _).alloc _) (by simp))

/-- a string out of bytes that the call itself gathered -/
theorem wpList_string_own {w : World} {ops : Array Oper} {rest : List Oper} {o : Oper} {a : Act} {Q : Exit → Act → World → Prop}
    (hg : o.guard = none) (x : Operand) (src dst : TypeId) (hop : o.op = Op.convert src dst x) (e : TypeId) (hs : P.underlying src = some (.slice e)) (he : P.underlying e = some (.int .u8)) (hd : P.underlying dst = some .string)
    (B : Nat) (v : Value) (cs : List UInt8) (hx : a.eval x = v) (hown : OwnL w B e v (cs.map fun c => Value.int .u8 c.toNat))
    (hK : wpList P ops Q rest (a.put o.dst (.string (str cs))) w) :
    wpList P ops Q (o :: rest) a w := by
  refine wpList_plain hg fun K hK' => ?_
  obtain ⟨ad, cap, hv, h1, h2, h3, h4⟩ := hown.shape
  have hrun : (convert src dst v).run P w = .ok (.string (str cs)) w := by
    rw [hv]
    rcases Nat.eq_zero_or_pos cs.length with h0 | h0
    · obtain rfl : cs = [] := List.eq_nil_of_length_eq_zero h0
      rw [run_convert_bytes_string w src dst e _ _ cap hs he hd]
      cases ad with
      | none => rfl
      | some q => rfl
    · obtain ⟨g, rfl, hB, hlt⟩ := h3 (by simpa using h0)
      refine run_string_bytes w src dst e ⟨g, 0, none⟩ _ cap cs hs he hd (by simp) (fun j c hj => ?_)
      have := (h4 g rfl j (.int .u8 c.toNat) (by simp [hj])).1
      by_cases hz : j = 0
      · subst hz; simpa [Addr.add] using this
      · simpa [Addr.add, hz] using this
  unfold Oper.wp
  simp only [execOp, hop, hx, hrun, Sem.run_bind, Sem.run_pure, Result.andThen_ok]
  exact hK' _ _ hK
end
end Go.Proofs.YtdbnalocmjkncaaGreatDoor

/-
  A slice that the call itself makes and appends to, whose elements have several cells each. No program in sight.
-/
namespace Go.Proofs.YtdbnalocmjkncaaGreatDoor
open Go.RowKit

/-- the slice value v, of element type e (size cells each), owns the elements xs, in blocks from B on -/
def OwnS {α : Type} (R : α → List Value) (size : Nat) (w : World) (B : Nat) (e : TypeId) (v : Value) (xs : List α) : Prop := w.ownsRow B e size v xs.length (xs.map R).flatten

section
variable {α : Type} {R : α → List Value} {size : Nat} {w w' : World} {B : Nat} {e : TypeId} {v : Value} {xs : List α}
theorem OwnS.none_ : OwnS R size w B e (.slice none 0 0) [] := World.ownsRow_nil w B e size

theorem OwnS.ownBlk (h : OwnS R size w B e v xs) : ∀ k, v.ownBlock = some k → ∃ cs, Blk w k e cs := by
  intro k hk
  rcases h.2 with ⟨rfl, h2⟩ | ⟨g, cap, cur, rfl, hg, hh, _⟩
  · simp [Value.ownBlock] at hk
  · simp [Value.ownBlock] at hk
    subst hk
    exact ⟨_, hh⟩

theorem OwnS.moreS {B' : Nat} (h : OwnS R size w B e v xs) (hB : B' ≤ B) : OwnS R size w B' e v xs := by
  refine ⟨h.1, ?_⟩
  rcases h.2 with h2 | ⟨g, cap, cur, hv, hg, r⟩
  · exact .inl h2
  · exact .inr ⟨g, cap, cur, hv, by omega, r⟩
theorem OwnS.keeps {S : Nat → Prop} (h : OwnS R size w B e v xs) (k : Keeps S w w') (hS : ∀ i, B ≤ i → i < w.heap.size → (∃ cs, Blk w i e cs) → ¬ S i) : OwnS R size w' B e v xs := by
  refine ⟨h.1, ?_⟩
  rcases h.2 with h2 | ⟨g, cap, cur, hv, hg, hh, r⟩
  · exact .inl h2
  · have hlt : g < w.heap.size := by
      rcases Nat.lt_or_ge g w.heap.size with hlt | hge
      · exact hlt
      · rw [Array.getElem?_eq_none hge] at hh; cases hh
    exact .inr ⟨g, cap, cur, hv, hg, (k.block g hlt (hS g hg hlt ⟨_, hh⟩)).trans hh, r⟩

theorem flat_get (hR : ∀ x, (R x).length = size) (xs : List α) : ∀ (i : Nat) (x : α) (j : Nat) (u : Value), xs[i]? = some x → (R x)[j]? = some u → (xs.map R).flatten[i * size + j]? = some u := by
  induction xs with
  | nil => intro i x j u h; simp at h
  | cons y ys ih =>
    intro i x j u hx hu
    rw [List.map_cons, List.flatten_cons]
    cases i with
    | zero =>
      simp at hx; subst hx
      rw [Nat.zero_mul, Nat.zero_add, List.getElem?_append_left (List.getElem?_eq_some_iff.1 hu).1]; exact hu
    | succ i =>
      simp at hx
      have hj : j < size := by rw [← hR x]; exact (List.getElem?_eq_some_iff.1 hu).1
      rw [List.getElem?_append_right (by rw [hR, Nat.succ_mul]; omega), hR, show (i + 1) * size + j - size = i * size + j by rw [Nat.succ_mul]; omega]
      exact ih i x j u hx hu
theorem flat_len (hR : ∀ x, (R x).length = size) (xs : List α) : (xs.map R).flatten.length = xs.length * size := by
  induction xs with
  | nil => simp
  | cons y ys ih => rw [List.map_cons, List.flatten_cons, List.length_append, ih, hR, List.length_cons, Nat.succ_mul]; omega

/-- its shape, and its cells -/
theorem OwnS.shape (h : OwnS R size w B e v xs) (hR : ∀ x, (R x).length = size) :
    ∃ a cap, v = .slice a xs.length cap ∧ xs.length ≤ cap ∧ cap ≤ maxLen ∧ (0 < xs.length → ∃ g, a = some ⟨g, 0, none⟩ ∧ B ≤ g ∧ g < w.heap.size ∧ ∃ cs, Blk w g e cs) ∧
      ∀ g, a = some ⟨g, 0, none⟩ → ∀ (i : Nat) (x : α) (j : Nat) (u : Value), xs[i]? = some x → (R x)[j]? = some u → w.cell? ⟨g, i * size + j, none⟩ = some u ∧ w.frozen? ⟨g, i * size + j, none⟩ = false := by
  rcases h.2 with ⟨rfl, h2⟩ | ⟨g, cap, cur, rfl, hg, hh, h1, h2, h3, h4⟩
  · refine ⟨none, 0, by rw [h2], by omega, by unfold maxLen; omega, fun h => by omega, fun g hg => by cases hg⟩
  · have hlt : g < w.heap.size := by
      rcases Nat.lt_or_ge g w.heap.size with hlt | hge
      · exact hlt
      · rw [Array.getElem?_eq_none hge] at hh; cases hh
    refine ⟨some ⟨g, 0, none⟩, cap, rfl, h1, h2, fun _ => ⟨g, rfl, hg, hlt, _, hh⟩, fun g' hg' i x j u hx hu => ?_⟩
    injection hg' with hg'
    injection hg' with hg'
    subst hg'
    refine ⟨?_, frozen_of_row w g _ cur e hh⟩
    have hf := flat_get hR xs i x j u hx hu
    have hl : i * size + j < xs.length * size := by rw [← flat_len hR xs]; exact (List.getElem?_eq_some_iff.1 hf).1
    rw [cell_of_row w g _ cur e (0, 0) hh, ← hf, ← h4, List.getElem?_take, if_pos hl]
    simp
theorem OwnS.sl (h : OwnS R size w B e v xs) : ∃ a cap, v = .slice a xs.length cap := by
  rcases h.2 with ⟨rfl, h2⟩ | ⟨g, cap, cur, rfl, _⟩
  · exact ⟨none, 0, by rw [h2]⟩
  · exact ⟨_, _, rfl⟩
end

section
variable {P : Program} {α : Type}
/-- append of one element, which lies in a block of its own; the frame by types -/
theorem wpList_append_st (R : α → List Value) (size : Nat) (hR : ∀ x, (R x).length = size) (hsz : 0 < size) {w : World} {ops : Array Oper} {rest : List Oper} {o : Oper} {a : Act} {Q : Exit → Act → World → Prop} (hgd : o.guard = none) (s x : Operand) (t : TypeId)
    (ho : o.op = .call { callee := .builtin .append, args := #[s, x], argTypes := #[t, t] }) (B : Nat) (e : TypeId) (z : Value) (bytes : Nat) (ht : P.underlying t = some (.slice e))
    (hi : (P.info? e).map (fun i => (i.zero, i.size, i.bytes)) = some (some z, size, bytes)) (hz : z.cells.size = size) (hb16 : bytes ≤ 4096)
    (v : Value) (xs : List α) (hs : a.eval s = v) (hown : OwnS R size w B e v xs) (g c : Nat) (y : α) (hx : a.eval x = .slice (some ⟨g, 0, none⟩) 1 c) (hu : Blk w g e (R y).toArray) (h1 : ∀ u ∈ R y, u.oneCell' = true)
    (hlen : xs.length ≤ 17179869184) (hbase : B ≤ w.heap.size)
    (h : ∀ v' w', OwnS R size w' B e v' (xs ++ [y]) → Keeps (fun i => B ≤ i ∧ ∃ cs, Blk w i e cs) w w' → wpList P ops Q rest (a.put o.dst v') w') : wpList P ops Q (o :: rest) a w := by
  refine wpList_plain hgd fun K hK => ?_
  obtain ⟨i, hi0, hzi, hsi, hbi⟩ := info_parts hi
  obtain ⟨v', w', hrun, h2, h3, -⟩ := run_append_own (P := P) w B t o.type e i z size bytes ht hi0 hzi hsi hbi hz hsz v xs.length _ hown ⟨g, 0, none⟩ 1 c (R y) (by rw [hR]; simp) (by
    intro j u hj
    have := hu.cell j
    rw [List.getElem?_toArray, hj] at this
    by_cases h0 : j = 0
    · subst h0; simpa [Addr.add] using this
    · simpa [Addr.add, h0] using this) h1 (by unfold maxLen; omega) (by
      have := Nat.mul_le_mul (show xs.length + 1 ≤ 17179869185 by omega) hb16
      omega) hbase
  unfold Oper.wp
  simp only [execOp, ho, resolve, invoke, builtin, Sem.run_bind, Sem.run_pure, Result.andThen_ok, List.map_toArray, List.map_cons, List.map_nil, hs, hx, hrun]
  refine hK _ _ (h v' w' (by unfold OwnS; simpa using h2) ((Keeps.refl _ _).grown h3 (fun k hk _ => ⟨(hown.lt k hk).1, hown.ownBlk k hk⟩)))
end

section
variable {P : Program} {α : Type}
/-- append of one element, at the operation: the new value written out -/
theorem wp_append_st (R : α → List Value) (size : Nat) (hR : ∀ x, (R x).length = size) (hsz : 0 < size) {w : World} {o : Oper} {a : Act} {K : Act → World → Prop} {Q : Exit → Act → World → Prop} (s x : Operand) (t : TypeId)
    (ho : o.op = .call { callee := .builtin .append, args := #[s, x], argTypes := #[t, t] }) (B : Nat) (e : TypeId) (z : Value) (bytes : Nat) (ht : P.underlying t = some (.slice e))
    (hi : (P.info? e).map (fun i => (i.zero, i.size, i.bytes)) = some (some z, size, bytes)) (hz : z.cells.size = size) (hb16 : bytes ≤ 4096)
    (v : Value) (xs : List α) (hs : a.eval s = v) (hown : OwnS R size w B e v xs) (g c : Nat) (y : α) (hx : a.eval x = .slice (some ⟨g, 0, none⟩) 1 c) (hu : Blk w g e (R y).toArray) (h1 : ∀ u ∈ R y, u.oneCell' = true)
    (hlen : xs.length ≤ 17179869184) (hbase : B ≤ w.heap.size)
    (h : ∀ g' cap' w', OwnS R size w' B e (.slice (some ⟨g', 0, none⟩) (xs.length + 1) cap') (xs ++ [y]) → Keeps (fun i => v.ownBlock = some i) w w' → (v.ownBlock = some g' ∨ g' = w.heap.size) → K (a.put o.dst (.slice (some ⟨g', 0, none⟩) (xs.length + 1) cap')) w') : o.wp P a w K Q := by
  obtain ⟨i, hi0, hzi, hsi, hbi⟩ := info_parts hi
  refine wp_append_lies (P := P) w s x t ho B e i z size bytes ht hi0 hzi hsi hbi hz hsz v xs.length _ hs hown ⟨g, 0, none⟩ 1 c (R y) hx (by rw [hR]; simp) (by
    intro j u hj
    have := hu.cell j
    rw [List.getElem?_toArray, hj] at this
    by_cases h0 : j = 0
    · subst h0; simpa [Addr.add] using this
    · simpa [Addr.add, h0] using this) h1 (by omega) (by unfold maxLen; omega) (by
      have := Nat.mul_le_mul (show xs.length + 1 ≤ 17179869185 by omega) hb16
      omega) hbase _ rfl ?_
  intro g' cap' w' h2 h3 h4 _
  exact h g' cap' w' (by unfold OwnS; simpa using h2) ((Keeps.refl _ _).grown h3 (fun k hk _ => hk)) h4

/-- .. at a step of a region that draws its order -/
theorem step_append_st (R : α → List Value) (size : Nat) (hR : ∀ x, (R x).length = size) (hsz : 0 < size) {w : World} {ops : Array Oper} {o : Oper} {a : Act} {K : Act → World → Prop} {Q : Exit → Act → World → Prop} {E : Prop} (hgd : o.guard = none) (s x : Operand) (t : TypeId)
    (ho : o.op = .call { callee := .builtin .append, args := #[s, x], argTypes := #[t, t] }) (B : Nat) (e : TypeId) (z : Value) (bytes : Nat) (ht : P.underlying t = some (.slice e))
    (hi : (P.info? e).map (fun i => (i.zero, i.size, i.bytes)) = some (some z, size, bytes)) (hz : z.cells.size = size) (hb16 : bytes ≤ 4096)
    (v : Value) (xs : List α) (hs : a.eval s = v) (hown : OwnS R size w B e v xs) (g c : Nat) (y : α) (hx : a.eval x = .slice (some ⟨g, 0, none⟩) 1 c) (hu : Blk w g e (R y).toArray) (h1 : ∀ u ∈ R y, u.oneCell' = true)
    (hlen : xs.length ≤ 17179869184) (hbase : B ≤ w.heap.size)
    (h : ∀ g' cap' w', OwnS R size w' B e (.slice (some ⟨g', 0, none⟩) (xs.length + 1) cap') (xs ++ [y]) → Keeps (fun i => v.ownBlock = some i) w w' → (v.ownBlock = some g' ∨ g' = w.heap.size) → K (a.put o.dst (.slice (some ⟨g', 0, none⟩) (xs.length + 1) cap')) w') :
    if Region.wanted o (yielded ops a.tmps) = true then Oper.wp P o a w K Q else E := by
  have hw : Region.wanted o (yielded ops a.tmps) = true := by simp [Region.wanted, hgd]
  rw [if_pos hw]
  exact wp_append_st R size hR hsz s x t ho B e z bytes ht hi hz hb16 v xs hs hown g c y hx hu h1 hlen hbase h
end
end Go.Proofs.YtdbnalocmjkncaaGreatDoor

/-
  A slice of one-cell elements that begins anywhere in its row: append of one value, and what lies in it. No program in sight.
-/
namespace Go.Proofs.YtdbnalocmjkncaaGreatDoor
open Go.RowKit

/-- the slice value v, of element type e, holds the values vs; behind them, up to its capacity, the row is its own -/
def OwnQ (w : World) (e : TypeId) (v : Value) (vs : List Value) : Prop :=
  (vs = [] ∧ ∃ a, v = .slice a 0 0) ∨ ∃ g off cap cur, v = .slice (some ⟨g, off, none⟩) vs.length cap ∧ Blk w g e cur ∧ vs.length ≤ cap ∧ off + cap ≤ cur.size ∧ cap ≤ maxLen ∧ ∀ j u, vs[j]? = some u → cur[off + j]? = some u

/-- the block into which an append may write -/
def rowB : Value → Option Nat
  | .slice (some a) _ c => if c = 0 then none else some a.block
  | _ => none
theorem rowB_some (g off n c : Nat) (h : 0 < c) : rowB (.slice (some ⟨g, off, none⟩) n c) = some g := by simp only [rowB]; rw [if_neg (by omega)]
theorem rowB_zero (a : Option Addr) (n : Nat) : rowB (.slice a n 0) = none := by cases a <;> rfl

section
variable {w w' : World} {e : TypeId} {v : Value} {vs : List Value}
theorem OwnQ.none_ : OwnQ w e (.slice none 0 0) [] := .inl ⟨rfl, none, rfl⟩
theorem OwnQ.keeps {S : Nat → Prop} (h : OwnQ w e v vs) (k : Keeps S w w') (hS : ∀ i, rowB v = some i → (∃ cs, Blk w i e cs) → ¬ S i) : OwnQ w' e v vs := by
  rcases h with h | ⟨g, off, cap, cur, rfl, hb, r⟩
  · exact .inl h
  · by_cases h0 : cap = 0
    · subst h0
      exact .inl ⟨List.eq_nil_of_length_eq_zero (by omega), _, by rw [show vs.length = 0 by omega]⟩
    · exact .inr ⟨g, off, cap, cur, rfl, hb.keeps k (hS g (rowB_some _ _ _ _ (by omega)) ⟨_, hb⟩), r⟩
theorem OwnQ.row (h : OwnQ w e v vs) : ∀ i, rowB v = some i → ∃ cs, Blk w i e cs := by
  intro i hi
  rcases h with ⟨rfl, a, rfl⟩ | ⟨g, off, cap, cur, rfl, hb, r⟩
  · rw [rowB_zero] at hi; cases hi
  · by_cases h0 : cap = 0
    · subst h0; rw [rowB_zero] at hi; cases hi
    · rw [rowB_some _ _ _ _ (by omega)] at hi; injection hi with hi; subst hi; exact ⟨_, hb⟩
theorem OwnQ.sl (h : OwnQ w e v vs) : ∃ a cap, v = .slice a vs.length cap := by
  rcases h with ⟨rfl, a, rfl⟩ | ⟨g, off, cap, cur, rfl, _⟩
  · exact ⟨a, 0, rfl⟩
  · exact ⟨_, _, rfl⟩
theorem OwnQ.sl3 (h : OwnQ w e v vs) : ∃ a n c, v = .slice a n c := by obtain ⟨a, c, hv⟩ := h.sl; exact ⟨a, _, c, hv⟩
theorem OwnQ.cell (h : OwnQ w e v vs) {j : Nat} {u : Value} (hu : vs[j]? = some u) : ∃ g off cap, v = .slice (some ⟨g, off, none⟩) vs.length cap ∧ w.cell? ⟨g, off + j, none⟩ = some u ∧ w.frozen? ⟨g, off + j, none⟩ = false ∧ g < w.heap.size ∧ ∃ cs, Blk w g e cs := by
  rcases h with ⟨rfl, _⟩ | ⟨g, off, cap, cur, rfl, hb, h1, h2, h3, h4⟩
  · simp at hu
  · exact ⟨g, off, cap, rfl, by rw [hb.cell]; exact h4 j u hu, hb.frozen _, hb.lt, _, hb⟩
/-- without its first element -/
theorem OwnQ.tail {u : Value} (h : OwnQ w e v (u :: vs)) {a : Option Addr} {n c : Nat} (hv : v = .slice a n c) : OwnQ w e (.slice (if c = 1 then a else a.map (·.add 1)) (n - 1) (c - 1)) vs := by
  rcases h with ⟨h, _⟩ | ⟨g, off, cap, cur, rfl, hb, h1, h2, h3, h4⟩
  · cases h
  · injection hv with ha hn hc
    subst ha; subst hn; subst hc
    rw [List.length_cons] at h1
    by_cases h0 : cap = 1
    · subst h0
      have : vs = [] := List.eq_nil_of_length_eq_zero (by omega)
      subst this
      exact .inl ⟨rfl, _, rfl⟩
    · rw [if_neg h0]
      refine .inr ⟨g, off + 1, cap - 1, cur, ?_, hb, by omega, by omega, by omega, fun j u' hj => ?_⟩
      · simp [Addr.add]
      · have := h4 (j + 1) u' (by simpa using hj)
        rw [← this]; congr 1; omega
end

section
variable {P : Program}
theorem run_append_q (w : World) (t ty e : TypeId) (z : Value) (bytes : Nat) (ht : P.underlying t = some (.slice e))
    (hi : (P.info? e).map (fun i => (i.zero, i.size, i.bytes)) = some (some z, 1, bytes)) (hb16 : bytes ≤ 4096) (hz : z.cells.size = 1)
    (v : Value) (vs : List Value) (hown : OwnQ w e v vs) (ad : Addr) (c : Nat) (u : Value) (hu : w.cell? ad = some u) (h1 : u.oneCell' = true) (hlen : vs.length ≤ 17179869184) :
    ∃ v' w', (Builtin.append_ #[t, t] ty #[v, .slice (some ad) 1 c]).run P w = .ok v' w' ∧ OwnQ w' e v' (vs ++ [u]) ∧ Keeps (fun i => rowB v = some i) w w' ∧ (rowB v' = rowB v ∨ rowB v' = some w.heap.size) := by
  obtain ⟨i, hi0, hzi, hsi, hbi⟩ := info_parts hi
  have hnews : ∀ j u', [u][j]? = some u' → w.cell? (ad.add j) = some u' := fun j u' hj => by
    match j, hj with
    | 0, hj => simp at hj; subst hj; simpa [Addr.add] using hu
  have hone : ∀ x ∈ [u], x.oneCell' = true := fun x hx => by simp at hx; subst hx; exact h1
  have hmul : (vs.length + 1) * i.bytes ≤ 140737488355328 := by
    have := Nat.mul_le_mul (show vs.length + 1 ≤ 17179869185 by omega) (show i.bytes ≤ 4096 by omega)
    omega
  have grown : ∀ (old : Nat), ∃ w', w' = w.drew.alloc (.cells (vs.toArray ++ [u].toArray ++ Builtin.zeroCells z.cells (grownCap w (vs.length + 1) old e - (vs.length + 1))) e) ∧
      OwnQ w' e (.slice (some ⟨w.heap.size, 0, none⟩) (vs.length + 1) (grownCap w (vs.length + 1) old e)) (vs ++ [u]) ∧ Keeps (fun i => rowB v = some i) w w' := fun old => by
    have hge := grownCap_ge w (vs.length + 1) old e
    have hcm : grownCap w (vs.length + 1) old e ≤ maxLen := grownCap_le_maxLen w (vs.length + 1) old e (by unfold maxLen; omega)
    refine ⟨_, rfl, .inr ⟨w.heap.size, 0, _, _, by simp, heap_alloc_new w.drew _, by simpa using hge, ?_, hcm, fun j u' hj => ?_⟩, (Keeps.refl _ w).drew.alloc _⟩
    · simp only [Array.size_append, List.size_toArray, size_zeroCells, hz, List.length_singleton]; omega
    · rw [Nat.zero_add, Array.getElem?_append_left (by
        have := (List.getElem?_eq_some_iff.1 hj).1
        simpa using this)]
      simpa using hj
  rcases hown with ⟨rfl, a, rfl⟩ | ⟨g, off, cap, cur, rfl, hb, hnc, hcs, hcm, hget⟩
  · obtain ⟨w', hw', hO, hK⟩ := grown 0
    refine ⟨_, w', ?_, hO, hK, .inr (rowB_some _ _ _ _ (by have := grownCap_ge w (0 + 1) 0 e; simp at this ⊢; omega))⟩
    rw [hw']
    cases a with
    | none =>
      have hr := run_append_nil (P := P) w t ty e i z ht hi0 hzi ad 1 c [u] (by rw [hsi]; rfl) hnews (by omega) (by omega) (by simp at hmul; omega)
      simpa using hr
    | some b =>
      have hr := run_append_grow (P := P) w t ty e i z ht hi0 hzi b 0 0 [] (by simp) (fun j u' hj => by simp at hj) ad 1 c [u] (by rw [hsi]; rfl) hnews (by omega) (by omega) (growslice_fits (by omega) hmul)
      simpa using hr
  · by_cases hroom : vs.length + 1 ≤ cap
    · have hf := run_firstCells_some (P := P) w i.size 1 ad 1 c [u] (by rw [hsi]; rfl) hnews
      rw [hsi] at hf
      have hst := run_storeCells_at P g (off + vs.length) e [u] 0 cur w hb (by simp; omega) (fun x hx => by simp at hx; subst hx; exact h1)
      simp only [Nat.add_zero] at hst
      refine ⟨.slice (some ⟨g, off, none⟩) (vs.length + 1) cap, w.setRow g (cur.toList.take (off + vs.length) ++ [u] ++ cur.toList.drop (off + vs.length + [u].length)).toArray, ?_, .inr ⟨g, off, cap, (cur.toList.take (off + vs.length) ++ [u] ++ cur.toList.drop (off + vs.length + [u].length)).toArray, by simp, setRow_heap w g cur _ e _ hb, by simpa using hroom, ?_, hcm, fun j u' hj => ?_⟩, (Keeps.refl _ w).setRow (fun _ => rowB_some _ _ _ _ (by omega)) _, .inl ((rowB_some _ _ _ _ (by omega)).trans (rowB_some _ _ _ _ (by omega)).symm)⟩
      rotate_left
      · simp only [List.size_toArray, List.length_append, List.length_take, List.length_drop, Array.length_toList, List.length_singleton]; omega
      · have hjl : j < vs.length + 1 := by simpa using (List.getElem?_eq_some_iff.1 hj).1
        have htl : (cur.toList.take (off + vs.length)).length = off + vs.length := by simp; omega
        rw [List.getElem?_toArray, List.append_assoc]
        by_cases hjn : j < vs.length
        · rw [List.getElem?_append_left (by rw [htl]; omega), List.getElem?_take, if_pos (by omega)]
          rw [List.getElem?_append_left hjn] at hj
          simpa using hget j u' hj
        · obtain rfl : j = vs.length := by omega
          rw [List.getElem?_append_right (by rw [htl]; omega), htl]
          simpa using hj
      · simp [Builtin.append_, run_underlying ht, sizeOf, typeInfo, hi0, Builtin.lenOf, hroom, hf, Addr.add_lit, hst, hsi]
    · obtain ⟨w', hw', hO, hK⟩ := grown cap
      refine ⟨_, w', ?_, hO, hK, .inr (rowB_some _ _ _ _ (by have := grownCap_ge w (vs.length + 1) cap e; omega))⟩
      rw [hw']
      exact run_append_grow (P := P) w t ty e i z ht hi0 hzi ⟨g, off, none⟩ vs.length cap vs (by rw [hsi]; omega) (fun j u' hj => by
        rw [Addr.add_lit, hb.cell]; exact hget j u' hj) ad 1 c [u] (by rw [hsi]; rfl) hnews (by omega) (by omega) (growslice_fits (by omega) hmul)

/-- append of one value at an operation, and at a step of a region that draws its order -/
theorem wp_append_q {w : World} {o : Oper} {a : Act} {K : Act → World → Prop} {Q : Exit → Act → World → Prop} (s x : Operand) (t : TypeId)
    (ho : o.op = .call { callee := .builtin .append, args := #[s, x], argTypes := #[t, t] }) (e : TypeId) (z : Value) (bytes : Nat) (ht : P.underlying t = some (.slice e))
    (hi : (P.info? e).map (fun i => (i.zero, i.size, i.bytes)) = some (some z, 1, bytes)) (hz : z.cells.size = 1) (hb16 : bytes ≤ 4096)
    (v : Value) (vs : List Value) (hs : a.eval s = v) (hown : OwnQ w e v vs) (ad : Addr) (c : Nat) (u : Value) (hx : a.eval x = .slice (some ad) 1 c) (hu : w.cell? ad = some u) (h1 : u.oneCell' = true)
    (hlen : vs.length ≤ 17179869184)
    (h : ∀ v' w', OwnQ w' e v' (vs ++ [u]) → Keeps (fun i => rowB v = some i) w w' → (rowB v' = rowB v ∨ rowB v' = some w.heap.size) → K (a.put o.dst v') w') : o.wp P a w K Q := by
  obtain ⟨v', w', hr, h2, h3, h4⟩ := run_append_q (P := P) w t o.type e z bytes ht hi hb16 hz v vs hown ad c u hu h1 hlen
  unfold Oper.wp execOp
  simp only [ho, resolve, invoke, builtin, Sem.run_bind, Sem.run_pure, Result.andThen_ok, List.map_toArray, List.map_cons, List.map_nil, hs, hx, hr]
  exact h v' w' h2 h3 h4
theorem wpList_append_q {w : World} {ops : Array Oper} {rest : List Oper} {o : Oper} {a : Act} {Q : Exit → Act → World → Prop} (hgd : o.guard = none) (s x : Operand) (t : TypeId)
    (ho : o.op = .call { callee := .builtin .append, args := #[s, x], argTypes := #[t, t] }) (e : TypeId) (z : Value) (bytes : Nat) (ht : P.underlying t = some (.slice e))
    (hi : (P.info? e).map (fun i => (i.zero, i.size, i.bytes)) = some (some z, 1, bytes)) (hz : z.cells.size = 1) (hb16 : bytes ≤ 4096)
    (v : Value) (vs : List Value) (hs : a.eval s = v) (hown : OwnQ w e v vs) (ad : Addr) (c : Nat) (u : Value) (hx : a.eval x = .slice (some ad) 1 c) (hu : w.cell? ad = some u) (h1 : u.oneCell' = true)
    (hlen : vs.length ≤ 17179869184)
    (h : ∀ v' w', OwnQ w' e v' (vs ++ [u]) → Keeps (fun i => rowB v = some i) w w' → (rowB v' = rowB v ∨ rowB v' = some w.heap.size) → wpList P ops Q rest (a.put o.dst v') w') : wpList P ops Q (o :: rest) a w :=
  wpList_plain hgd fun _ hK => wp_append_q s x t ho e z bytes ht hi hz hb16 v vs hs hown ad c u hx hu h1 hlen fun v' w' h2 h3 h4 => hK _ _ (h v' w' h2 h3 h4)
theorem step_append_q {w : World} {ops : Array Oper} {o : Oper} {a : Act} {K : Act → World → Prop} {Q : Exit → Act → World → Prop} {E : Prop} (hgd : o.guard = none) (s x : Operand) (t : TypeId)
    (ho : o.op = .call { callee := .builtin .append, args := #[s, x], argTypes := #[t, t] }) (e : TypeId) (z : Value) (bytes : Nat) (ht : P.underlying t = some (.slice e))
    (hi : (P.info? e).map (fun i => (i.zero, i.size, i.bytes)) = some (some z, 1, bytes)) (hz : z.cells.size = 1) (hb16 : bytes ≤ 4096)
    (v : Value) (vs : List Value) (hs : a.eval s = v) (hown : OwnQ w e v vs) (ad : Addr) (c : Nat) (u : Value) (hx : a.eval x = .slice (some ad) 1 c) (hu : w.cell? ad = some u) (h1 : u.oneCell' = true)
    (hlen : vs.length ≤ 17179869184)
    (h : ∀ v' w', OwnQ w' e v' (vs ++ [u]) → Keeps (fun i => rowB v = some i) w w' → (rowB v' = rowB v ∨ rowB v' = some w.heap.size) → K (a.put o.dst v') w') :
    if Region.wanted o (yielded ops a.tmps) = true then Oper.wp P o a w K Q else E := by
  have hw : Region.wanted o (yielded ops a.tmps) = true := by simp [Region.wanted, hgd]
  rw [if_pos hw]
  exact wp_append_q s x t ho e z bytes ht hi hz hb16 v vs hs hown ad c u hx hu h1 hlen h
end
end Go.Proofs.YtdbnalocmjkncaaGreatDoor

/-
  Own slices, the frame by types: bytes as values, an iterator's block, growth seen through a new block.
-/
namespace Go.Proofs.YtdbnalocmjkncaaGreatDoor
open Go.RowKit

/-- bytes as values -/
def u8Vs (l : List UInt8) : List Value := l.map fun c => Value.int .u8 c.toNat
theorem u8Vs_len (l : List UInt8) : (u8Vs l).length = l.length := by simp [u8Vs]
theorem OwnL.of1 (w : World) (e : TypeId) (u : Value) : OwnL (w.alloc (.cells #[u] e)) w.heap.size e (.slice (some ⟨w.heap.size, 0, none⟩) 1 1) [u] :=
  ⟨rfl, .inr ⟨w.heap.size, 1, #[u], rfl, Nat.le_refl _, heap_alloc_new w _, Nat.le_refl _, by decide, rfl, rfl⟩⟩
theorem OwnL.keepsT {w w' : World} {B : Nat} {e : TypeId} {v : Value} {vs : List Value} {S : Nat → Prop} (h : OwnL w B e v vs) (k : Keeps S w w') (hS : ∀ i, B ≤ i → (∃ cs, Blk w i e cs) → ¬ S i) : OwnL w' B e v vs := by
  refine ⟨h.1, ?_⟩
  rcases h.2 with h2 | ⟨g, cap, cur, hv, hg, hh, r⟩
  · exact .inl h2
  · have hlt : g < w.heap.size := by
      rcases Nat.lt_or_ge g w.heap.size with hlt | hge
      · exact hlt
      · rw [Array.getElem?_eq_none hge] at hh; cases hh
    exact .inr ⟨g, cap, cur, hv, hg, (k.block g hlt (hS g hg ⟨_, hh⟩)).trans hh, r⟩
theorem iter_noBlk {w : World} {k : Nat} {s : ByteArray} {p : Nat} (h : w.heap[k]? = some (.stringIter s p)) {e : TypeId} : ¬ ∃ cs, Blk w k e cs := by
  rintro ⟨cs, hb⟩; unfold Blk at hb; rw [h] at hb; cases hb
theorem iterPos_of {w : World} {k : Nat} {s : ByteArray} {p : Nat} (h : w.heap[k]? = some (.stringIter s p)) : w.iterPos k = p := by simp [World.iterPos, h]
/-- moving an iterator on changes its block alone -/
theorem Keeps.iterAt {w : World} (k : Nat) (s : ByteArray) (p : Nat) : Keeps (fun i => i = k) w (w.iterAt k s p) :=
  ⟨rfl, rfl, rfl, by rw [Lib.iterAt_size]; exact Nat.le_refl _, fun i _ hn => Lib.iterAt_other w k i s p hn⟩

/-- a new block, and then a change of rows of a type that lie above B: seen from ahead of the block -/
theorem grow_alloc {B : Nat} {e : TypeId} {w w' : World} (o : Obj) (k : Keeps (fun i => B ≤ i ∧ ∃ cs, Blk (w.alloc o) i e cs) (w.alloc o) w') : Keeps (fun i => B ≤ i ∧ ∃ cs, Blk w i e cs) w w' :=
  Keeps.and_ ((Keeps.refl _ w).alloc o) k fun i hi ⟨h1, cs, h2⟩ => ⟨h1, cs, (Below.heap_alloc w o i hi).symm.trans h2⟩
theorem grow_trans {B : Nat} {e : TypeId} {a b c : World} (h : Keeps (fun i => B ≤ i ∧ ∃ cs, Blk a i e cs) a b) (k : Keeps (fun i => B ≤ i ∧ ∃ cs, Blk b i e cs) b c) : Keeps (fun i => B ≤ i ∧ ∃ cs, Blk a i e cs) a c :=
  ⟨k.os.trans h.os, k.tape.trans h.tape, k.output.trans h.output, Nat.le_trans h.size k.size, fun i hi hn => by
    have hb := h.block i hi hn
    exact (k.block i (Nat.lt_of_lt_of_le hi h.size) (fun ⟨h1, cs, h2⟩ => hn ⟨h1, cs, hb.symm.trans h2⟩)).trans hb⟩
theorem OwnL.sl' {w : World} {B : Nat} {e : TypeId} {v : Value} {vs : List Value} (h : OwnL w B e v vs) : ∃ a cap, v = .slice a vs.length cap := by
  obtain ⟨a, cap, hv, -⟩ := h.shape; exact ⟨a, cap, hv⟩
end Go.Proofs.YtdbnalocmjkncaaGreatDoor

/-
  Files by name, plainly: lists that rise by name, what is put there, what goes; and how they read in a map. No program in sight.
-/
namespace Go.Proofs.YtdbnalocmjkncaaGreatDoor
open Go.RowKit Go.Maps

def nmLt (a b : ByteArray) : Bool := bytesBefore a.data.toList b.data.toList
theorem before_less : ∀ a b : List UInt8, bytesBefore a b = Op.bytesLess a b
  | [], [] => rfl
  | [], _ :: _ => rfl
  | _ :: _, [] => rfl
  | a :: r, b :: s => by
    show (a < b || (a == b && bytesBefore r s)) = (a < b || (a == b && Op.bytesLess r s))
    rw [before_less r s]
theorem nmLt_less (a b : ByteArray) : Op.bytesLess a.toList b.toList = nmLt a b := by rw [ByteArray.toList_eq, ByteArray.toList_eq]; exact (before_less _ _).symm
theorem nmLt_irrefl (a : ByteArray) : nmLt a a = false := WideAt.bytes_irrefl _
theorem nmLt_trans {a b c : ByteArray} (h : nmLt a b = true) (k : nmLt b c = true) : nmLt a c = true := WideShapes.bytes_trans _ _ _ h k
theorem nmLt_ne {a b : ByteArray} (h : nmLt a b = true) : a ≠ b := by rintro rfl; rw [nmLt_irrefl] at h; cases h
theorem nmLt_asymm {a b : ByteArray} (h : nmLt a b = true) : nmLt b a = false := by
  cases hb : nmLt b a with
  | false => rfl
  | true => have := nmLt_trans h hb; rw [nmLt_irrefl] at this; cases this
theorem nmLt_total {a b : ByteArray} (h : a ≠ b) : nmLt a b = true ∨ nmLt b a = true := WideAt.bytes_total _ _ (fun e => h (ba_ext e))
theorem nmLt_le {a b : ByteArray} (h : nmLt a b = true) : leB a.data.toList b.data.toList = true := by
  unfold nmLt at h
  rw [before_less, bytesLess_eq] at h
  simp only [decide_eq_true_eq] at h ⊢
  exact List.le_of_lt h

/-! lists by name -/
section
variable {α : Type} (nm : α → ByteArray)
def insG (x : α) : List α → List α
  | [] => [x]
  | y :: r => if nmLt (nm x) (nm y) then x :: y :: r else y :: insG x r
def delG (n : ByteArray) (l : List α) : List α := l.filter fun y => decide (nm y ≠ n)
def getG (n : ByteArray) (l : List α) : Option α := l.find? fun y => decide (nm y = n)
def putG (x : α) (l : List α) : List α := insG nm x (delG nm (nm x) l)
def Rise (l : List α) : Prop := l.Pairwise fun a b => nmLt (nm a) (nm b) = true
variable {nm}
theorem insG_perm (x : α) : ∀ l, (insG nm x l).Perm (x :: l)
  | [] => List.Perm.refl _
  | y :: r => by
    unfold insG
    split
    · exact List.Perm.refl _
    · exact ((insG_perm x r).cons y).trans (List.Perm.swap _ _ _)
theorem insG_mem {x z : α} {l : List α} : z ∈ insG nm x l ↔ z = x ∨ z ∈ l := by rw [(insG_perm x l).mem_iff, List.mem_cons]
theorem insG_len (x : α) (l : List α) : (insG nm x l).length = l.length + 1 := by rw [(insG_perm x l).length_eq]; rfl
theorem insG_rise {x : α} : ∀ {l : List α}, Rise nm l → (∀ y ∈ l, nm y ≠ nm x) → Rise nm (insG nm x l)
  | [], _, _ => by simp [insG, Rise]
  | y :: r, h, hn => by
    obtain ⟨h1, h2⟩ := List.pairwise_cons.1 h
    unfold insG
    split
    · rename_i hlt
      refine List.pairwise_cons.2 ⟨fun z hz => ?_, h⟩
      rcases List.mem_cons.1 hz with rfl | hz
      · exact hlt
      · exact nmLt_trans hlt (h1 z hz)
    · rename_i hlt
      refine List.pairwise_cons.2 ⟨fun z hz => ?_, insG_rise h2 (fun z hz => hn z (by simp [hz]))⟩
      rcases insG_mem.1 hz with rfl | hz
      · rcases nmLt_total (hn y (by simp)) with h3 | h3
        · exact h3
        · exact absurd h3 hlt
      · exact h1 z hz
theorem delG_rise {l : List α} (h : Rise nm l) (n : ByteArray) : Rise nm (delG nm n l) := List.Pairwise.filter _ h
theorem delG_ne {n : ByteArray} {l : List α} : ∀ y ∈ delG nm n l, nm y ≠ n := fun y hy => by simpa using (List.mem_filter.1 hy).2
theorem delG_mem {n : ByteArray} {l : List α} {y : α} : y ∈ delG nm n l ↔ y ∈ l ∧ nm y ≠ n := by unfold delG; rw [List.mem_filter]; simp
theorem putG_rise {l : List α} (h : Rise nm l) (x : α) : Rise nm (putG nm x l) := insG_rise (delG_rise h _) delG_ne
theorem delG_none {n : ByteArray} {l : List α} (h : getG nm n l = none) : delG nm n l = l := by
  refine List.filter_eq_self.2 fun y hy => ?_
  have := List.find?_eq_none.1 h y hy
  simpa using this
theorem getG_some {n : ByteArray} {l : List α} {x : α} (h : getG nm n l = some x) : x ∈ l ∧ nm x = n := ⟨List.mem_of_find?_eq_some h, by simpa using List.find?_some h⟩
theorem getG_ne {n : ByteArray} {l : List α} (h : getG nm n l = none) : ∀ y ∈ l, nm y ≠ n := fun y hy => by simpa using List.find?_eq_none.1 h y hy
theorem rise_inj {l : List α} (h : Rise nm l) {x y : α} (hx : x ∈ l) (hy : y ∈ l) (e : nm x = nm y) : x = y := by
  induction l with
  | nil => cases hx
  | cons z l ih =>
    obtain ⟨h1, h2⟩ := List.pairwise_cons.1 h
    rcases List.mem_cons.1 hx with rfl | hx'
    · rcases List.mem_cons.1 hy with rfl | hy'
      · rfl
      · exact absurd e (nmLt_ne (h1 y hy'))
    · rcases List.mem_cons.1 hy with rfl | hy'
      · exact absurd e.symm (nmLt_ne (h1 x hx'))
      · exact ih h2 hx' hy'
theorem getG_of_mem {l : List α} (h : Rise nm l) {x : α} (hx : x ∈ l) : getG nm (nm x) l = some x := by
  cases hg : getG nm (nm x) l with
  | none => exact absurd rfl (getG_ne hg x hx)
  | some y => rw [rise_inj h hx (getG_some hg).1 (getG_some hg).2.symm]
theorem insG_skip {x : α} : ∀ {l : List α}, (∀ y ∈ l, nmLt (nm x) (nm y) = false) → insG nm x l = l ++ [x]
  | [], _ => rfl
  | y :: r, h => by
    unfold insG
    rw [if_neg (by rw [h y (by simp)]; simp), insG_skip (fun z hz => h z (by simp [hz]))]; rfl
theorem insG_first {x : α} {l : List α} (h : ∀ y ∈ l, nmLt (nm x) (nm y) = true) : insG nm x l = x :: l := by
  cases l with
  | nil => rfl
  | cons y r => unfold insG; rw [if_pos (h y (by simp))]
/-- what is put in place of one of its name stands in its place -/
theorem putG_there {x : α} : ∀ {l : List α}, Rise nm l → (∃ y ∈ l, nm y = nm x) → putG nm x l = l.map fun y => if nm y = nm x then x else y
  | [], _, h => by obtain ⟨y, hy, _⟩ := h; cases hy
  | y :: r, hr, h => by
    obtain ⟨h1, h2⟩ := List.pairwise_cons.1 hr
    by_cases he : nm y = nm x
    · have hd : delG nm (nm x) (y :: r) = r := by
        unfold delG
        rw [List.filter_cons_of_neg (by simpa using he)]
        refine List.filter_eq_self.2 fun z hz => ?_
        have := nmLt_ne (h1 z hz)
        rw [he] at this
        simpa using fun e => this e.symm
      have hm : (r.map fun z => if nm z = nm x then x else z) = r := by
        refine (List.map_congr_left fun z hz => ?_).trans (List.map_id' r)
        have := nmLt_ne (h1 z hz)
        rw [he] at this
        rw [if_neg fun e => this e.symm]
      unfold putG
      rw [hd, List.map_cons, if_pos he, hm]
      exact insG_first fun z hz => by rw [← he]; exact h1 z hz
    · have hex : ∃ z ∈ r, nm z = nm x := by
        obtain ⟨z, hz, e⟩ := h
        rcases List.mem_cons.1 hz with rfl | hz
        · exact absurd e he
        · exact ⟨z, hz, e⟩
      have ih := putG_there h2 hex
      have hlt : nmLt (nm x) (nm y) = false := by
        obtain ⟨z, hz, e⟩ := hex
        rw [← e]
        exact nmLt_asymm (h1 z hz)
      unfold putG at ih ⊢
      have hd : delG nm (nm x) (y :: r) = y :: delG nm (nm x) r := by unfold delG; rw [List.filter_cons_of_pos (by simpa using he)]
      rw [hd, List.map_cons, if_neg he]
      show (if nmLt (nm x) (nm y) then x :: y :: delG nm (nm x) r else y :: insG nm x (delG nm (nm x) r)) = _
      rw [if_neg (by rw [hlt]; simp), ih]
variable {β : Type} {nb : β → ByteArray} {f : α → β}
theorem insG_map (hf : ∀ a, nb (f a) = nm a) (x : α) : ∀ l, (insG nm x l).map f = insG nb (f x) (l.map f)
  | [] => rfl
  | y :: r => by
    unfold insG
    rw [hf, List.map_cons]
    show _ = if nmLt (nm x) (nb (f y)) then _ else _
    rw [hf]
    split
    · rfl
    · rw [List.map_cons, insG_map hf x r]
theorem delG_map (hf : ∀ a, nb (f a) = nm a) (n : ByteArray) (l : List α) : (delG nm n l).map f = delG nb n (l.map f) := by
  unfold delG
  rw [List.filter_map]
  congr 1
  refine List.filter_congr fun y _ => ?_
  simp [hf]
theorem putG_map (hf : ∀ a, nb (f a) = nm a) (x : α) (l : List α) : (putG nm x l).map f = putG nb (f x) (l.map f) := by
  unfold putG
  rw [insG_map hf, delG_map hf, hf]
theorem getG_map (hf : ∀ a, nb (f a) = nm a) (n : ByteArray) (l : List α) : getG nb n (l.map f) = (getG nm n l).map f := by
  unfold getG
  rw [List.find?_map]
  congr 2
  funext y
  simp [hf]
theorem rise_map (hf : ∀ a, nb (f a) = nm a) {l : List α} : Rise nb (l.map f) ↔ Rise nm l := by
  unfold Rise
  rw [List.pairwise_map]
  simp only [hf]
end

/-! how such a list reads in a map from texts to pointers -/
/-- a pointer to a block's head reads as that block's number -/
def ptrR : Value → Option (DataW Unit × List MemPlace)
  | .pointer (some ⟨p, 0, none⟩) => some (.lit (.int .i64 p), [])
  | .pointer none => some (.lit (.bool false), [])
  | _ => none
theorem ptrR_inv {v : Value} {p : Nat} {ps : List MemPlace} (h : ptrR v = some (.lit (.int .i64 p), ps)) : v = .pointer (some ⟨p, 0, none⟩) := by
  unfold ptrR at h
  split at h
  · rename_i q
    simp only [Option.some.injEq, Prod.mk.injEq, DataW.lit.injEq, Lit.int.injEq, true_and] at h
    have : q = p := by omega
    rw [this]
  · simp at h
  · cases h
theorem ptrR_nil {v : Value} {ps : List MemPlace} (h : ptrR v = some (.lit (.bool false), ps)) : v = .pointer none := by
  unfold ptrR at h
  split at h
  · simp at h
  · rfl
  · cases h
section
variable {α : Type} {nm : α → ByteArray} {pt : α → Nat}
def ent (nm : α → ByteArray) (pt : α → Nat) (x : α) : Lit × DataW Unit := (.string (nm x).data.toList, .lit (.int .i64 (pt x)))
def mapD (nm : α → ByteArray) (pt : α → Nat) (l : List α) : DataW Unit := .map (l.map (ent nm pt))
theorem ent_same (n : ByteArray) (x : α) : (ent nm pt x).1.sameKey (.string n.data.toList) = decide (nm x = n) := by
  show ((nm x).data.toList == n.data.toList) = _
  by_cases h : nm x = n
  · rw [h]; simp
  · rw [decide_eq_false h, beq_eq_false_iff_ne]; exact fun e => h (ba_ext e)
theorem mapD_ins (x : α) : ∀ l : List α, DataW.insert (ent nm pt x) (l.map (ent nm pt)) = (insG nm x l).map (ent nm pt)
  | [] => rfl
  | y :: r => by
    rw [List.map_cons]
    unfold DataW.insert insG
    show (if nmLt (nm x) (nm y) = true then _ else _) = _
    split
    · rfl
    · rw [mapD_ins x r, List.map_cons]
theorem mapD_del (n : ByteArray) (l : List α) : (mapD nm pt l).del (.string n.data.toList) = mapD nm pt (delG nm n l) := by
  show DataW.map ((l.map (ent nm pt)).filter fun p => !p.1.sameKey (.string n.data.toList)) = DataW.map ((l.filter fun y => decide (nm y ≠ n)).map (ent nm pt))
  rw [List.filter_map]
  congr 2
  refine List.filter_congr fun y _ => ?_
  show (!(ent nm pt y).1.sameKey (.string n.data.toList)) = _
  rw [ent_same]
  by_cases h : nm y = n <;> simp [h]
theorem mapD_put (x : α) (l : List α) : (mapD nm pt l).put (.string (nm x).data.toList) (.lit (.int .i64 (pt x))) = mapD nm pt (putG nm x l) := by
  have hd := mapD_del (nm := nm) (pt := pt) (nm x) l
  unfold mapD DataW.del at hd
  injection hd with hd
  unfold mapD DataW.put
  show DataW.map (DataW.insert (ent nm pt x) _) = _
  rw [hd, mapD_ins]; rfl
theorem mapD_at (n : ByteArray) (l : List α) (zd : DataW Unit) : (mapD nm pt l).atKey (.string n.data.toList) zd = match getG nm n l with | some x => .lit (.int .i64 (pt x)) | none => zd := by
  unfold mapD DataW.atKey getG
  simp only [List.find?_map]
  have : ((fun p : Lit × DataW Unit => p.1.sameKey (.string n.data.toList)) ∘ ent nm pt) = fun y => decide (nm y = n) := by
    funext y; exact ent_same (pt := pt) n y
  rw [this]
  cases l.find? fun y => decide (nm y = n) <;> rfl
theorem mapD_has (n : ByteArray) (l : List α) : Maps.has (mapD nm pt l) (.string n.data.toList) = (getG nm n l).isSome := by
  unfold mapD getG
  rw [has_eq, List.any_map, List.isSome_find?]
  congr 1
  funext y
  exact ent_same (pt := pt) n y
theorem mapD_keys (l : List α) : strKeys (mapD nm pt l) = l.map fun x => (nm x).data.toList := by
  show (l.map (ent nm pt)).map (fun p => strOf p.1) = _
  rw [List.map_map]; rfl
/-- sorted, they are as they stand -/
theorem keys_sorted {l : List α} (h : Rise nm l) {ss : List (List UInt8)} (hp : ss.Perm (strKeys (mapD nm pt l))) : ss.mergeSort leB = l.map fun x => (nm x).data.toList := by
  rw [mergeSort_of_perm hp, mapD_keys]
  refine List.mergeSort_of_pairwise ?_
  rw [List.pairwise_map]
  exact h.imp fun h => nmLt_le h
end

section
variable {H : Type} {P : Program} {k : TypeId} {R : Value → Option (DataW H × List MemPlace)} {w w' : World} {b n : Nat}
theorem ownsMap_keeps {D : DataW H} {S : Nat → Prop} (h : w.ownsMap P k R b n D) (kk : Keeps S w w') (hS : ¬ S b) : w'.ownsMap P k R b n D := by
  have hlt := h.lt
  obtain ⟨es, clock, hb, F, hs, hD⟩ := h
  exact ⟨es, clock, (kk.block b hlt hS).trans hb, F, hs, hD⟩
theorem ownsMap_len {E : List (Lit × DataW H)} (h : w.ownsMap P k R b n (.map E)) : w.ownsMap P k R b E.length (.map E) := by
  obtain ⟨es, clock, hb, F, hs, hD⟩ := h
  refine ⟨es, clock, hb, F, ?_, hD⟩
  injection hD with hD
  rw [hD, length_read]
  exact Nat.le_refl _
theorem turned_keeps (h : w.mapTurned w' b) : Keeps (fun i => i = b) w w' := by
  have hg := h.grown
  exact ⟨hg.os, hg.tape, hg.output, hg.size, fun i hi hn => hg.block i hi (fun e => hn (by injection e))⟩
theorem turned_isMap (h : w.mapTurned w' b) : ∃ es c, w'.heap[b]? = some (.map es c) := by
  obtain ⟨es, c, es', c', hb, rfl⟩ := h
  exact ⟨es', c', ChangeMaps.heap_setBlock_same hb _⟩
end
end Go.Proofs.YtdbnalocmjkncaaGreatDoor

/-
  Own bytes that begin anywhere in their row: append of a text's bytes, of another slice's cells; the text of them; a cut with its capacity. No program in sight.
-/
namespace Go.Proofs.YtdbnalocmjkncaaGreatDoor
open Go.RowKit

theorem strCells_u8 (s : ByteArray) : Lib.strCells s = u8Vs s.data.toList := by simp [Lib.strCells, u8Vs]
theorem u8Vs_app (a b : List UInt8) : u8Vs (a ++ b) = u8Vs a ++ u8Vs b := by simp [u8Vs]
theorem u8Vs_take (l : List UInt8) (n : Nat) : u8Vs (l.take n) = (u8Vs l).take n := by simp [u8Vs]
theorem u8Vs_size (s : ByteArray) : (u8Vs s.data.toList).length = s.size := by rw [u8Vs_len]; simp

section
variable {P : Program}
/-- what an append leaves: the values, and which row they lie in -/
def Appended (w w' : World) (e : TypeId) (v v' : Value) (vs : List Value) : Prop := OwnQ w' e v' vs ∧ Keeps (fun i => rowB v = some i) w w' ∧ (rowB v' = rowB v ∨ rowB v' = some w.heap.size)

theorem app_grown {w : World} {e : TypeId} {z : Value} (hz : z.cells.size = 1) (v : Value) (vs news : List Value) (hpos : 0 < news.length) (hlen : vs.length + news.length ≤ 34359738368) (old : Nat) :
    Appended w (w.drew.alloc (.cells (vs.toArray ++ news.toArray ++ Builtin.zeroCells z.cells (grownCap w (vs.length + news.length) old e - (vs.length + news.length))) e)) e v (.slice (some ⟨w.heap.size, 0, none⟩) (vs.length + news.length) (grownCap w (vs.length + news.length) old e)) (vs ++ news) := by
  have hge := grownCap_ge w (vs.length + news.length) old e
  have hcm : grownCap w (vs.length + news.length) old e ≤ maxLen := grownCap_le_maxLen w (vs.length + news.length) old e (by unfold maxLen; omega)
  refine ⟨.inr ⟨w.heap.size, 0, _, _, by simp, heap_alloc_new w.drew _, by simpa using hge, ?_, hcm, fun j u' hj => ?_⟩, (Keeps.refl _ w).drew.alloc _, ?_⟩
  · simp only [Array.size_append, List.size_toArray, size_zeroCells, hz]; omega
  · rw [Nat.zero_add, Array.getElem?_append_left (by
      have := (List.getElem?_eq_some_iff.1 hj).1
      simpa using this)]
    simpa using hj
  · exact .inr (rowB_some _ _ _ _ (by omega))
theorem Appended.same {w : World} {e : TypeId} {v : Value} {vs : List Value} (h : OwnQ w e v vs) : Appended w w e v v (vs ++ []) := ⟨by rw [List.append_nil]; exact h, Keeps.refl _ _, .inl rfl⟩
/-- the row has room -/
theorem app_room {w : World} {e : TypeId} {g off n cap : Nat} {cur : Array Value} {vs news : List Value} (hn : n = vs.length) (hb : Blk w g e cur) (hroom : vs.length + news.length ≤ cap) (hcs : off + cap ≤ cur.size) (hcm : cap ≤ maxLen) (hget : ∀ j u, vs[j]? = some u → cur[off + j]? = some u) (hpos : 0 < news.length) :
    Appended w (w.setRow g (cur.toList.take (off + vs.length) ++ news ++ cur.toList.drop (off + vs.length + news.length)).toArray) e (.slice (some ⟨g, off, none⟩) n cap) (.slice (some ⟨g, off, none⟩) (vs.length + news.length) cap) (vs ++ news) := by
  subst hn
  refine ⟨.inr ⟨g, off, cap, (cur.toList.take (off + vs.length) ++ news ++ cur.toList.drop (off + vs.length + news.length)).toArray, by simp, setRow_heap w g cur _ e _ hb, by simpa using hroom, ?_, hcm, fun j u' hj => ?_⟩, (Keeps.refl _ w).setRow (fun _ => rowB_some _ _ _ _ (by omega)) _, .inl ?_⟩
  · simp only [List.size_toArray, List.length_append, List.length_take, List.length_drop, Array.length_toList]; omega
  · have htl : (cur.toList.take (off + vs.length)).length = off + vs.length := by simp; omega
    rw [List.getElem?_toArray, List.append_assoc]
    by_cases hjn : j < vs.length
    · rw [List.getElem?_append_left (by rw [htl]; omega), List.getElem?_take, if_pos (by omega)]
      rw [List.getElem?_append_left hjn] at hj
      simpa using hget j u' hj
    · rw [List.getElem?_append_right (by rw [htl]; omega), htl, show off + j - (off + vs.length) = j - vs.length by omega]
      rw [List.getElem?_append_right (by omega)] at hj
      rw [List.getElem?_append_left (List.getElem?_eq_some_iff.1 hj).1]
      exact hj
  · rw [rowB_some _ _ _ _ (by omega), rowB_some _ _ _ _ (by omega)]

theorem run_append_qs (w : World) (t u ty e : TypeId) (ht : P.underlying t = some (.slice e)) (hu : P.underlying u = some .string)
    (hi : (P.info? e).map (fun i => (i.zero, i.size, i.bytes)) = some (some (.int .u8 0), 1, 1))
    (v : Value) (vs : List Value) (hown : OwnQ w e v vs) (s : ByteArray) (hlen : vs.length + s.size ≤ 34359738368) :
    ∃ v' w', (Builtin.append_ #[t, u] ty #[v, .string s]).run P w = .ok v' w' ∧ Appended w w' e v v' (vs ++ u8Vs s.data.toList) := by
  obtain ⟨i, hi0, hzi, hsi, hbi⟩ := info_parts hi
  have hsl := Lib.strCells_length s
  by_cases hm : s.size = 0
  · have hn : u8Vs s.data.toList = [] := List.eq_nil_of_length_eq_zero (by rw [u8Vs_size]; exact hm)
    have hf := Lib.run_firstCells_string (P := P) w 1 s
    rw [hm, strCells_u8, hn] at hf
    obtain ⟨a, c, hv⟩ := hown.sl
    have hle : vs.length ≤ c := by
      rcases hown with ⟨rfl, a', rfl⟩ | ⟨g, off, cap, cur, rfl, hb, hnc, hcs, hcm, hget⟩
      · simp
      · injection hv with _ _ h3
        omega
    refine ⟨v, w, ?_, by rw [hn]; exact Appended.same hown⟩
    rw [hv]
    cases a with
    | none => simp [Builtin.append_, run_underlying ht, run_underlying hu, sizeOf, typeInfo, hi0, hsi, Builtin.lenOf, hm, hf, hle]
    | some a => simp [Builtin.append_, run_underlying ht, run_underlying hu, sizeOf, typeInfo, hi0, hsi, Builtin.lenOf, hm, hf, hle, storeCells]
  · have hz1 : (Value.int IntKind.u8 0).cells.size = 1 := rfl
    have hpos : 0 < (Lib.strCells s).length := by rw [hsl]; omega
    rw [← strCells_u8]
    rcases hown with ⟨rfl, a, rfl⟩ | ⟨g, off, cap, cur, rfl, hb, hnc, hcs, hcm, hget⟩
    · cases a with
      | none =>
        have hr := run_append_nil_string (P := P) w t u ty e i (.int .u8 0) ht hu hi0 hzi s (by omega) (by omega) (by rw [hbi]; omega)
        have hgr := app_grown (w := w) (e := e) hz1 (.slice none 0 0) [] (Lib.strCells s) hpos (by rw [hsl]; simpa using hlen) 0
        have e1 : (s.data.map fun b => Value.int .u8 b.toNat) = (Lib.strCells s).toArray := by
          apply Array.ext'
          simp [Lib.strCells]
        rw [e1] at hr
        simp only [List.length_nil, Nat.zero_add, hsl, List.nil_append, Array.empty_append] at hgr
        exact ⟨_, _, hr, hgr⟩
      | some b =>
        have hr := Lib.run_append_grow_string (P := P) (w := w) t u ty e i (.int .u8 0) ht hu hi0 hzi b 0 0 [] (by simp) (fun j u' hj => by simp at hj) s (by omega) (by omega) (by rw [hbi]; exact growslice_fits (by omega) (by omega))
        have hgr := app_grown (w := w) (e := e) hz1 (.slice (some b) 0 0) [] (Lib.strCells s) hpos (by rw [hsl]; simpa using hlen) 0
        simp only [List.length_nil, hsl] at hgr
        exact ⟨_, _, hr, hgr⟩
    · by_cases hroom : vs.length + s.size ≤ cap
      · have hf := Lib.run_firstCells_string (P := P) w 1 s
        have hst := run_storeCells_at P g (off + vs.length) e (Lib.strCells s) 0 cur w hb (by rw [hsl]; omega) (Lib.strCells_oneCell s)
        simp only [Nat.add_zero] at hst
        refine ⟨.slice (some ⟨g, off, none⟩) (vs.length + s.size) cap, _, ?_, by
          have := app_room (w := w) (e := e) (g := g) (off := off) (n := vs.length) (cap := cap) (vs := vs) (news := Lib.strCells s) rfl hb (by rw [hsl]; exact hroom) hcs hcm hget hpos
          rw [hsl] at this
          exact this⟩
        rw [hsl] at hst
        simp [Builtin.append_, run_underlying ht, run_underlying hu, sizeOf, typeInfo, hi0, hsi, Builtin.lenOf, hroom, hf, Addr.add_lit, hst]
      · have hr := Lib.run_append_grow_string (P := P) (w := w) t u ty e i (.int .u8 0) ht hu hi0 hzi ⟨g, off, none⟩ vs.length cap vs (by rw [hsi]; omega) (fun j u' hj => by
          rw [Addr.add_lit, hb.cell]; exact hget j u' hj) s (by omega) (by omega) (by rw [hbi]; exact growslice_fits (by omega) (by omega))
        have hgr := app_grown (w := w) (e := e) hz1 (.slice (some ⟨g, off, none⟩) vs.length cap) vs (Lib.strCells s) hpos (by rw [hsl]; exact hlen) cap
        rw [hsl] at hgr
        exact ⟨_, _, hr, hgr⟩

theorem wpList_append_qs {w : World} {ops : Array Oper} {rest : List Oper} {o : Oper} {a : Act} {Q : Exit → Act → World → Prop} (hgd : o.guard = none) (sl x : Operand) (t u : TypeId)
    (ho : o.op = .call { callee := .builtin .append, args := #[sl, x], argTypes := #[t, u] }) (e : TypeId) (ht : P.underlying t = some (.slice e)) (hu : P.underlying u = some .string)
    (hi : (P.info? e).map (fun i => (i.zero, i.size, i.bytes)) = some (some (.int .u8 0), 1, 1))
    (v : Value) (vs : List Value) (hs : a.eval sl = v) (hown : OwnQ w e v vs) (s : ByteArray) (hx : a.eval x = .string s) (hlen : vs.length + s.size ≤ 34359738368)
    (h : ∀ v' w', Appended w w' e v v' (vs ++ u8Vs s.data.toList) → wpList P ops Q rest (a.put o.dst v') w') : wpList P ops Q (o :: rest) a w :=
  wpList_plain hgd fun _ hK => by
    obtain ⟨v', w', hr, h2⟩ := run_append_qs (P := P) w t u o.type e ht hu hi v vs hown s hlen
    unfold Oper.wp execOp
    simp only [ho, resolve, invoke, builtin, Sem.run_bind, Sem.run_pure, Result.andThen_ok, List.map_toArray, List.map_cons, List.map_nil, hs, hx, hr]
    exact hK _ _ (h v' w' h2)

/-- .. of another slice's cells, behind a slice that has none -/
theorem run_append_q0 (w : World) (t ty e : TypeId) (z : Value) (bytes : Nat) (ht : P.underlying t = some (.slice e))
    (hi : (P.info? e).map (fun i => (i.zero, i.size, i.bytes)) = some (some z, 1, bytes)) (hb16 : bytes ≤ 4096) (hz : z.cells.size = 1)
    (a : Option Addr) (v : Value) (vs : List Value) (hown : OwnQ w e v vs) (hlen : vs.length ≤ 17179869184) :
    ∃ v' w', (Builtin.append_ #[t, t] ty #[.slice a 0 0, v]).run P w = .ok v' w' ∧ Appended w w' e (.slice a 0 0) v' vs := by
  obtain ⟨i, hi0, hzi, hsi, hbi⟩ := info_parts hi
  have hmul : vs.length * i.bytes ≤ 140737488355328 := by
    have := Nat.mul_le_mul hlen (show i.bytes ≤ 4096 by omega)
    omega
  by_cases hm : vs = []
  · subst hm
    obtain ⟨b, c, rfl⟩ := hown.sl
    refine ⟨.slice a 0 0, w, ?_, ⟨.inl ⟨rfl, _, rfl⟩, Keeps.refl _ _, .inl rfl⟩⟩
    cases a with
    | none => cases b <;> simp [Builtin.append_, run_underlying ht, sizeOf, typeInfo, hi0, Builtin.lenOf, Builtin.firstCells, loadCells, loadCellsFrom]
    | some a => cases b <;> simp [Builtin.append_, run_underlying ht, sizeOf, typeInfo, hi0, Builtin.lenOf, Builtin.firstCells, loadCells, loadCellsFrom, storeCells]
  · have hpos := List.length_pos_iff.2 hm
    rcases hown with ⟨rfl, _⟩ | ⟨g, off, cap, cur, rfl, hb, hnc, hcs, hcm, hget⟩
    · exact absurd rfl hm
    · have hgr := app_grown (w := w) (e := e) hz (.slice a 0 0) [] vs hpos (by simp; omega) 0
      have hnews : ∀ j u, vs[j]? = some u → w.cell? ((⟨g, off, none⟩ : Addr).add j) = some u := fun j u hj => by rw [Addr.add_lit, hb.cell]; exact hget j u hj
      simp only [List.length_nil, Nat.zero_add, List.nil_append, Array.empty_append] at hgr
      cases a with
      | none => exact ⟨_, _, run_append_nil (P := P) w t ty e i z ht hi0 hzi ⟨g, off, none⟩ vs.length cap vs (by rw [hsi]; omega) hnews hpos (by omega) (by omega), hgr⟩
      | some b =>
        have hr := run_append_grow (P := P) w t ty e i z ht hi0 hzi b 0 0 [] (by simp) (fun j u' hj => by simp at hj) ⟨g, off, none⟩ vs.length cap vs (by rw [hsi]; omega) hnews (by omega) (by omega) (growslice_fits (by omega) (by rw [Nat.zero_add]; exact hmul))
        rw [Nat.zero_add] at hr
        exact ⟨_, _, hr, by simpa using hgr⟩

theorem wpList_append_q0 {w : World} {ops : Array Oper} {rest : List Oper} {o : Oper} {ac : Act} {Q : Exit → Act → World → Prop} (hgd : o.guard = none) (sl x : Operand) (t : TypeId)
    (ho : o.op = .call { callee := .builtin .append, args := #[sl, x], argTypes := #[t, t] }) (e : TypeId) (z : Value) (bytes : Nat) (ht : P.underlying t = some (.slice e))
    (hi : (P.info? e).map (fun i => (i.zero, i.size, i.bytes)) = some (some z, 1, bytes)) (hb16 : bytes ≤ 4096) (hz : z.cells.size = 1)
    (a : Option Addr) (v : Value) (vs : List Value) (hs : ac.eval sl = .slice a 0 0) (hx : ac.eval x = v) (hown : OwnQ w e v vs) (hlen : vs.length ≤ 17179869184)
    (h : ∀ v' w', Appended w w' e (.slice a 0 0) v' vs → wpList P ops Q rest (ac.put o.dst v') w') : wpList P ops Q (o :: rest) ac w :=
  wpList_plain hgd fun _ hK => by
    obtain ⟨v', w', hr, h2⟩ := run_append_q0 (P := P) w t o.type e z bytes ht hi hb16 hz a v vs hown hlen
    unfold Oper.wp execOp
    simp only [ho, resolve, invoke, builtin, Sem.run_bind, Sem.run_pure, Result.andThen_ok, List.map_toArray, List.map_cons, List.map_nil, hs, hx, hr]
    exact hK _ _ (h v' w' h2)

/-- the text of own bytes -/
theorem run_string_q (w : World) (src dst e : TypeId) (v : Value) (cs : List UInt8) (hs : P.underlying src = some (.slice e)) (he : P.underlying e = some (.int .u8)) (hd : P.underlying dst = some .string) (h : OwnQ w e v (u8Vs cs)) :
    (convert src dst v).run P w = .ok (.string (str cs)) w := by
  rcases h with ⟨h1, a, rfl⟩ | ⟨g, off, cap, cur, rfl, hb, hnc, hcs, hcm, hget⟩
  · have : cs = [] := List.eq_nil_of_length_eq_zero (by rw [← u8Vs_len, h1]; rfl)
    subst this
    rw [run_convert_bytes_string w src dst e _ _ 0 hs he hd]
    cases a <;> rfl
  · rw [u8Vs_len]
    exact run_string_bytes w src dst e ⟨g, off, none⟩ cs.length cap cs hs he hd rfl (fun j c hj => by
      rw [Addr.add_lit, hb.cell]
      exact hget j _ (by unfold u8Vs; rw [List.getElem?_map, hj]; rfl))
/-- the first n, without room behind -/
theorem OwnQ.cut {w : World} {e : TypeId} {a : Option Addr} {m c : Nat} {vs : List Value} (h : OwnQ w e (.slice a m c) vs) {n : Nat} (hn : n ≤ vs.length) : OwnQ w e (.slice a n n) (vs.take n) ∧ (rowB (.slice a n n) = none ∨ rowB (.slice a n n) = rowB (.slice a m c)) := by
  rcases h with ⟨rfl, b, hv⟩ | ⟨g, off, cap, cur, hv, hb, h1, h2, h3, h4⟩
  · obtain rfl : n = 0 := by simpa using hn
    exact ⟨.inl ⟨by simp, _, rfl⟩, .inl (rowB_zero _ _)⟩
  · injection hv with e1 e2 e3
    subst e1 e2 e3
    by_cases h0 : n = 0
    · subst h0
      exact ⟨.inl ⟨by simp, _, rfl⟩, .inl (rowB_zero _ _)⟩
    · have hl : (vs.take n).length = n := by rw [List.length_take]; omega
      refine ⟨.inr ⟨g, off, n, cur, by rw [hl], hb, by omega, by omega, by omega, fun j u hj => ?_⟩, .inr ?_⟩
      · rw [List.getElem?_take] at hj
        split at hj
        · exact h4 j u hj
        · cases hj
      · rw [rowB_some _ _ _ _ (by omega), rowB_some _ _ _ _ (by omega)]
end
end Go.Proofs.YtdbnalocmjkncaaGreatDoor

/-
  How a store lies in memory; what its map answers; what a put, a file's change, and a delete leave.
-/
namespace Go.Proofs.YtdbnalocmjkncaaGreatDoor
open Go.RowKit Go.Maps

structure SFile where
  name : ByteArray
  data : ByteArray
  sure : Nat
/-- a file, the block that it is, and the value of its bytes -/
structure SRep where
  f : SFile
  p : Nat
  v : Value
def SRep.nm (r : SRep) : ByteArray := r.f.name
structure FileOk (w : World) (F : Nat → Prop) (r : SRep) : Prop where
  blk : Blk w r.p 84 #[r.v, .int .i64 r.f.sure]
  own : OwnQ w 5 r.v (u8Vs r.f.data.data.toList)
  fp : F r.p
  fr : ∀ i, rowB r.v = some i → F i
def Off (a b : SRep) : Prop := a.p ≠ b.p ∧ ∀ i, rowB a.v = some i → rowB b.v ≠ some i
theorem Off.symm {a b : SRep} (h : Off a b) : Off b a := ⟨fun e => h.1 e.symm, fun i hi e => h.2 i e hi⟩
/-- a store at block s, its map at M, its files L; all its blocks are among F -/
structure StoreAt (w : World) (F : Nat → Prop) (s : Nat) (most : Int) (bad M : Nat) (L : List SRep) : Prop where
  top : Blk w s 81 #[.map (some M), .int .i64 most, .int .i64 bad]
  map : w.ownsMap Tryz.prog 9 ptrR M L.length (mapD SRep.nm SRep.p L)
  fs : F s
  fM : F M
  each : ∀ r ∈ L, FileOk w F r
  apart : L.Pairwise Off
  rise : Rise SRep.nm L

section
variable {w w' : World} {F G S : Nat → Prop} {s M bad : Nat} {most : Int} {L : List SRep}
theorem FileOk.keeps {r : SRep} (h : FileOk w F r) (k : Keeps S w w') (hS : ∀ i, F i → ¬ S i) : FileOk w' F r := ⟨h.blk.keeps k (hS _ h.fp), h.own.keeps k (fun i hi _ => hS i (h.fr i hi)), h.fp, h.fr⟩
theorem FileOk.mono {r : SRep} (h : FileOk w F r) (hG : ∀ i, F i → G i) : FileOk w G r := ⟨h.blk, h.own, hG _ h.fp, fun i hi => hG i (h.fr i hi)⟩
theorem StoreAt.keeps (h : StoreAt w F s most bad M L) (k : Keeps S w w') (hS : ∀ i, F i → ¬ S i) : StoreAt w' F s most bad M L :=
  ⟨h.top.keeps k (hS _ h.fs), ownsMap_keeps h.map k (hS _ h.fM), h.fs, h.fM, fun r hr => (h.each r hr).keeps k hS, h.apart, h.rise⟩
theorem StoreAt.mono (h : StoreAt w F s most bad M L) (hG : ∀ i, F i → G i) : StoreAt w G s most bad M L :=
  ⟨h.top, h.map, hG _ h.fs, hG _ h.fM, fun r hr => (h.each r hr).mono hG, h.apart, h.rise⟩
theorem StoreAt.isMap (h : StoreAt w F s most bad M L) : ∃ es c, w.heap[M]? = some (.map es c) := by
  obtain ⟨es, c, hb, _⟩ := h.map
  exact ⟨es, c, hb⟩
theorem blk_map_ne {b M : Nat} {t : TypeId} {cs : Array Value} (h : Blk w b t cs) (hm : ∃ es c, w.heap[M]? = some (.map es c)) : b ≠ M := by
  rintro rfl
  obtain ⟨es, c, hm⟩ := hm
  unfold Blk at h
  rw [h] at hm
  cases hm
/-- the kinds of blocks that a store is made of -/
def StT (w : World) (i : Nat) : Prop := (∃ cs, Blk w i 81 cs) ∨ (∃ cs, Blk w i 84 cs) ∨ (∃ cs, Blk w i 5 cs) ∨ ∃ es c, w.heap[i]? = some (.map es c)
theorem StoreAt.shrink (h : StoreAt w F s most bad M L) : StoreAt w (fun i => F i ∧ StT w i) s most bad M L :=
  ⟨h.top, h.map, ⟨h.fs, .inl ⟨_, h.top⟩⟩, ⟨h.fM, .inr (.inr (.inr h.isMap))⟩, fun r hr => ⟨(h.each r hr).blk, (h.each r hr).own, ⟨(h.each r hr).fp, .inr (.inl ⟨_, (h.each r hr).blk⟩)⟩, fun i hi => ⟨(h.each r hr).fr i hi, .inr (.inr (.inl ((h.each r hr).own.row i hi)))⟩⟩, h.apart, h.rise⟩
theorem StT.not {i : Nat} {t : TypeId} {cs : Array Value} (h : StT w i) (hb : Blk w i t cs) (h1 : t ≠ 81) (h2 : t ≠ 84) (h3 : t ≠ 5) : False := by
  rcases h with ⟨_, h⟩ | ⟨_, h⟩ | ⟨_, h⟩ | h
  · exact Blk.ne_ hb h h1 rfl
  · exact Blk.ne_ hb h h2 rfl
  · exact Blk.ne_ hb h h3 rfl
  · exact blk_map_ne hb h rfl
theorem StT.keeps {i : Nat} (h : StT w i) (k : Keeps S w w') (hS : ¬ S i) : StT w' i := by
  rcases h with ⟨_, h⟩ | ⟨_, h⟩ | ⟨_, h⟩ | ⟨es, c, h⟩
  · exact .inl ⟨_, h.keeps k hS⟩
  · exact .inr (.inl ⟨_, h.keeps k hS⟩)
  · exact .inr (.inr (.inl ⟨_, h.keeps k hS⟩))
  · refine .inr (.inr (.inr ⟨es, c, (k.block i ?_ hS).trans h⟩))
    exact (Array.getElem?_eq_some_iff.1 h).1

theorem sto_key (nm : ByteArray) (hn : nm.size ≤ maxLen) : keyOf Tryz.prog 9 (.string nm) = some (.string nm.data.toList) := WideMaps.keyOf_string_mk Tryz.underlying9 hn
abbrev stoK : Keyed Tryz.prog 9 := string_keyed Tryz.underlying9
theorem sto_zero : (zeroValue 77).run Tryz.prog w = .ok (.pointer none) w := by kernel_rfl

/-- v, ok := m[name] -/
theorem StoreAt.look (h : StoreAt w F s most bad M L) (nm : ByteArray) (hn : nm.size ≤ maxLen) :
    (Instr.lookup 79 (.map (some M)) (.string nm) true).run Tryz.prog w = .ok (.tuple #[.pointer ((getG SRep.nm nm L).map fun r => ⟨r.p, 0, none⟩), .bool (getG SRep.nm nm L).isSome]) w := by
  obtain ⟨v, ps, hrun, hv⟩ := h.map.look_ok stoK Tryz.underlying79 sto_zero (zd := .lit (.bool false)) (zp := []) rfl (sto_key nm hn)
  rw [mapD_has] at hrun
  rw [mapD_at] at hv
  rw [hrun]
  cases hg : getG SRep.nm nm L with
  | none => rw [hg] at hv; rw [ptrR_nil hv]; rfl
  | some r => rw [hg] at hv; rw [ptrR_inv hv]; rfl
/-- m[name], of one that is there -/
theorem StoreAt.look1 (h : StoreAt w F s most bad M L) {r : SRep} (hr : r ∈ L) (hn : r.f.name.size ≤ maxLen) :
    (Instr.lookup 79 (.map (some M)) (.string r.f.name) false).run Tryz.prog w = .ok (.pointer (some ⟨r.p, 0, none⟩)) w := by
  obtain ⟨v, ps, hrun, hv⟩ := h.map.lookup stoK Tryz.underlying79 sto_zero (zd := .lit (.bool false)) (zp := []) rfl (sto_key r.f.name hn)
  rw [mapD_at, show getG SRep.nm r.f.name L = some r from getG_of_mem h.rise hr] at hv
  rw [hrun, ptrR_inv hv]

theorem off_perm {l l' : List SRep} (h : l.Pairwise Off) (p : l.Perm l') : l'.Pairwise Off := (p.pairwise_iff (fun {_ _} h => h.symm)).1 h
/-- m[name] = p -/
theorem StoreAt.put (h : StoreAt w F s most bad M L) (r : SRep) (hr : FileOk w F r) (hap : ∀ a ∈ delG SRep.nm r.f.name L, Off r a) (hn : r.f.name.size ≤ maxLen) (hL : L.length < maxLen) :
    ∃ w', (Instr.mapUpdate 79 (.map (some M)) (.string r.f.name) (.pointer (some ⟨r.p, 0, none⟩))).run Tryz.prog w = .ok () w' ∧ StoreAt w' F s most bad M (putG SRep.nm r L) ∧ Keeps (fun i => i = M) w w' := by
  obtain ⟨w', hrun, hm, ht⟩ := h.map.store stoK Tryz.underlying79 hL (sto_key r.f.name hn) (val := .pointer (some ⟨r.p, 0, none⟩)) (d := .lit (.int .i64 r.p)) (ps := []) rfl
  have k := turned_keeps ht
  have hne : ∀ {b : Nat} {t : TypeId} {cs : Array Value}, Blk w b t cs → ¬ b = M := fun hb => blk_map_ne hb h.isMap
  have hfile : ∀ a, FileOk w F a → FileOk w' F a := fun a ha => ⟨ha.blk.keeps k (hne ha.blk), ha.own.keeps k (fun i _ ⟨_, hb⟩ => hne hb), ha.fp, ha.fr⟩
  refine ⟨w', hrun, ⟨h.top.keeps k (hne h.top), ?_, h.fs, h.fM, fun a ha => ?_, ?_, putG_rise h.rise r⟩, k⟩
  · have hm2 : w'.ownsMap Tryz.prog 9 ptrR M (L.length + 1) (mapD SRep.nm SRep.p (putG SRep.nm r L)) := by
      rw [← mapD_put]; exact hm
    have := ownsMap_len hm2
    rwa [List.length_map] at this
  · rcases insG_mem.1 ha with rfl | ha
    · exact hfile _ hr
    · exact hfile a (h.each a (delG_mem.1 ha).1)
  · refine off_perm (List.pairwise_cons.2 ⟨fun a ha => hap a ha, List.Pairwise.filter _ h.apart⟩) (insG_perm r _).symm
/-- delete(m, name) -/
theorem StoreAt.del (h : StoreAt w F s most bad M L) (nm : ByteArray) (hn : nm.size ≤ maxLen) (ty : TypeId) :
    ∃ w', (Builtin.delete_ #[79, 9] ty #[.map (some M), .string nm]).run Tryz.prog w = .ok (.tuple #[]) w' ∧ StoreAt w' F s most bad M (delG SRep.nm nm L) ∧ Keeps (fun i => i = M) w w' := by
  obtain ⟨w', hrun, hm, ht⟩ := h.map.drop stoK Tryz.underlying79 (sto_key nm hn) ty
  have k := turned_keeps ht
  have hne : ∀ {b : Nat} {t : TypeId} {cs : Array Value}, Blk w b t cs → ¬ b = M := fun hb => blk_map_ne hb h.isMap
  refine ⟨w', hrun, ⟨h.top.keeps k (hne h.top), ?_, h.fs, h.fM, fun a ha => ?_, List.Pairwise.filter _ h.apart, delG_rise h.rise nm⟩, k⟩
  · rw [mapD_del] at hm
    have := ownsMap_len hm
    rwa [List.length_map] at this
  · have hf := h.each a (delG_mem.1 ha).1
    exact ⟨hf.blk.keeps k (hne hf.blk), hf.own.keeps k (fun i _ ⟨_, hb⟩ => hne hb), hf.fp, hf.fr⟩
/-- the calls that will fail -/
theorem StoreAt.setBad (h : StoreAt w F s most bad M L) (b' : Nat) (x : Int) (hx : x = b') : StoreAt (w.setCell ⟨s, 2, none⟩ (.int .i64 x)) F s most b' M L ∧ Keeps (fun i => i = s) w (w.setCell ⟨s, 2, none⟩ (.int .i64 x)) := by
  subst hx
  have k : Keeps (fun i => i = s) w (w.setCell ⟨s, 2, none⟩ (.int .i64 b')) := (Keeps.refl (fun i => i = s) w).setCell (p := ⟨s, 2, none⟩) (fun _ => rfl) _
  have hs := h.top
  refine ⟨⟨hs.set_ 2 _, ownsMap_keeps h.map k (fun e => blk_map_ne hs h.isMap e.symm), h.fs, h.fM, fun r hr => ?_, h.apart, h.rise⟩, k⟩
  have hf := h.each r hr
  exact ⟨hf.blk.keeps k (Blk.ne_ hf.blk hs (by decide)), hf.own.keeps k (fun i _ ⟨_, hb⟩ => Blk.ne_ hb hs (by decide)), hf.fp, hf.fr⟩
def swapR (r : SRep) (L : List SRep) : List SRep := L.map fun a => if a.f.name = r.f.name then r else a
theorem swap_D {r0 r : SRep} (hr : Rise SRep.nm L) (h0 : r0 ∈ L) (hn : r.f.name = r0.f.name) (hp : r.p = r0.p) : mapD SRep.nm SRep.p (swapR r L) = mapD SRep.nm SRep.p L := by
  unfold mapD swapR
  rw [List.map_map]
  congr 1
  refine List.map_congr_left fun a ha => ?_
  show ent SRep.nm SRep.p (if a.f.name = r.f.name then r else a) = ent SRep.nm SRep.p a
  by_cases he : a.f.name = r.f.name
  · rw [if_pos he]
    have hx : a = r0 := rise_inj hr ha h0 (he.trans hn)
    rw [hx]
    unfold ent
    show (Lit.string r.f.name.data.toList, DataW.lit (Lit.int .i64 (r.p : Int))) = (Lit.string r0.f.name.data.toList, DataW.lit (Lit.int .i64 (r0.p : Int)))
    rw [hn, hp]
  · rw [if_neg he]
theorem swap_mem {r0 r a : SRep} (hn : r.f.name = r0.f.name) (ha : a ∈ swapR r L) : a = r ∨ (a ∈ L ∧ a ≠ r0) := by
  obtain ⟨b, hb, rfl⟩ := List.mem_map.1 ha
  by_cases he : b.f.name = r.f.name
  · rw [if_pos he]; exact .inl rfl
  · rw [if_neg he]; exact .inr ⟨hb, fun e => he (by rw [e, hn])⟩
/-- a file of it has changed, and nothing else of it -/
theorem StoreAt.swap {r0 r : SRep} (h : StoreAt w F s most bad M L) (h0 : r0 ∈ L) (hn : r.f.name = r0.f.name) (hp : r.p = r0.p)
    (k : Keeps (fun i => i = r0.p ∨ rowB r0.v = some i) w w') (hG : ∀ i, F i → G i) (hr : FileOk w' G r) (hrow : ∀ i, rowB r.v = some i → rowB r0.v = some i ∨ w.heap.size ≤ i) : StoreAt w' G s most bad M (swapR r L) := by
  have f0 := h.each r0 h0
  have hother : ∀ a ∈ L, a ≠ r0 → Off a r0 := fun a ha hne => by
    have : ∀ {l : List SRep}, l.Pairwise Off → a ∈ l → r0 ∈ l → Off a r0 := by
      intro l hl h1 h2
      induction l with
      | nil => cases h1
      | cons x l ih =>
        obtain ⟨p1, p2⟩ := List.pairwise_cons.1 hl
        rcases List.mem_cons.1 h1 with rfl | h1'
        · rcases List.mem_cons.1 h2 with e | h2'
          · exact absurd e.symm hne
          · exact p1 r0 h2'
        · rcases List.mem_cons.1 h2 with rfl | h2'
          · exact (p1 a h1').symm
          · exact ih p2 h1' h2'
    exact this h.apart ha h0
  have hrowlt : ∀ a ∈ L, ∀ i, rowB a.v = some i → i < w.heap.size := fun a ha i hi => by obtain ⟨cs, hb⟩ := (h.each a ha).own.row i hi; exact hb.lt
  have hfar : ∀ a ∈ L, a ≠ r0 → FileOk w' G a := fun a ha hne => by
    have fa := h.each a ha
    have ho := hother a ha hne
    refine ⟨fa.blk.keeps k ?_, fa.own.keeps k ?_, hG _ fa.fp, fun i hi => hG i (fa.fr i hi)⟩
    · rintro (e | e)
      · exact ho.1 e
      · obtain ⟨cs, hb⟩ := f0.own.row _ e
        exact Blk.ne_ fa.blk hb (by decide) rfl
    · rintro i hi ⟨cs, hb⟩ (e | e)
      · subst e
        exact Blk.ne_ hb f0.blk (by decide) rfl
      · exact ho.2 i hi e
  refine ⟨h.top.keeps k ?_, ?_, hG _ h.fs, hG _ h.fM, fun a ha => ?_, ?_, ?_⟩
  · rintro (e | e)
    · exact Blk.ne_ h.top f0.blk (by decide) e
    · obtain ⟨cs, hb⟩ := f0.own.row _ e
      exact Blk.ne_ h.top hb (by decide) rfl
  · rw [swap_D h.rise h0 hn hp, show (swapR r L).length = L.length by simp [swapR]]
    refine ownsMap_keeps h.map k ?_
    rintro (e | e)
    · exact blk_map_ne f0.blk h.isMap e.symm
    · obtain ⟨cs, hb⟩ := f0.own.row _ e
      exact blk_map_ne hb h.isMap rfl
  · rcases swap_mem hn ha with rfl | ⟨ha, hne⟩
    · exact hr
    · exact hfar a ha hne
  · unfold swapR
    rw [List.pairwise_map]
    refine h.apart.imp_of_mem fun {a b} ha hb ho => ?_
    have hro : ∀ a ∈ L, a ≠ r0 → Off a r := fun a ha hne => by
      have ho := hother a ha hne
      refine ⟨by rw [hp]; exact ho.1, fun i hi e => ?_⟩
      rcases hrow i e with e | e
      · exact ho.2 i hi e
      · have := hrowlt a ha i hi; omega
    by_cases h1 : a.f.name = r.f.name
    · have e1 : a = r0 := rise_inj h.rise ha h0 (h1.trans hn)
      by_cases h2 : b.f.name = r.f.name
      · have e2 : b = r0 := rise_inj h.rise hb h0 (h2.trans hn)
        subst e1
        rw [e2] at ho
        exact absurd rfl ho.1
      · rw [if_pos h1, if_neg h2]
        exact (hro b hb fun e => h2 (by rw [e, hn])).symm
    · by_cases h2 : b.f.name = r.f.name
      · rw [if_neg h1, if_pos h2]
        exact hro a ha fun e => h1 (by rw [e, hn])
      · rw [if_neg h1, if_neg h2]; exact ho
  · have : Rise SRep.nm (swapR r L) := by
      unfold Rise swapR
      rw [List.pairwise_map]
      refine h.rise.imp fun {a b} hlt => ?_
      have hs : ∀ a : SRep, SRep.nm (if a.f.name = r.f.name then r else a) = SRep.nm a := fun a => by
        by_cases h1 : a.f.name = r.f.name
        · rw [if_pos h1]; exact h1.symm
        · rw [if_neg h1]
      rw [hs, hs]; exact hlt
    exact this
theorem swap_put {r : SRep} (hr : Rise SRep.nm L) (h0 : ∃ r0 ∈ L, SRep.nm r0 = SRep.nm r) : swapR r L = putG SRep.nm r L := (putG_there hr h0).symm
end
end Go.Proofs.YtdbnalocmjkncaaGreatDoor

/-
  Errors made, wrapped, and asked for their codes (for seats without the texts of errors).
-/
namespace Go.Proofs.YtdbnalocmjkncaaGreatDoor
open Go.RowKit

theorem new_nil (w : World) (n : Int) (s : ByteArray) : Calls Tryz.prog 76 #[.int .i64 0, .int .i64 n, .string s] w fun e w' => e = .returned .nilIface ∧ w' = w := by
  go_enter Tryz.func76, Tryz.ntmps76
  go_wp2
  go_ret
  exact ⟨rfl, rfl⟩
theorem new_flt (w : World) (c n : Int) (s : ByteArray) (hc : c ≠ 0) : Calls Tryz.prog 76 #[.int .i64 c, .int .i64 n, .string s] w fun e w' =>
    e = .returned (.iface 185 (.pointer (some ⟨w.heap.size, 0, none⟩))) ∧ w' = w.alloc (.cells #[.int .i64 n, .string s, .iface 102 (.int .i64 c)] 189) := by
  have h : (c == 0) = false := beq_eq_false_iff_ne.2 hc
  go_enter Tryz.func76, Tryz.ntmps76
  go_wp2
  go_ret
  exact ⟨rfl, rfl⟩
theorem wrap_nil (w : World) (n : Int) (s : ByteArray) : Calls Tryz.prog 86 #[.nilIface, .int .i64 n, .string s] w fun e w' => e = .returned .nilIface ∧ w' = w := by
  go_enter Tryz.func86, Tryz.ntmps86
  go_wp2
  go_ret
  exact ⟨rfl, rfl⟩
theorem wrap_flt (w : World) (ty : TypeId) (x : Value) (n : Int) (s : ByteArray) : Calls Tryz.prog 86 #[.iface ty x, .int .i64 n, .string s] w fun e w' =>
    e = .returned (.iface 185 (.pointer (some ⟨w.heap.size, 0, none⟩))) ∧ w' = w.alloc (.cells #[.int .i64 n, .string s, .iface ty x] 189) := by
  go_enter Tryz.func86, Tryz.ntmps86
  go_wp2
  go_ret
  exact ⟨rfl, rfl⟩
set_option maxRecDepth 100000 in
theorem of_nil (w : World) : Calls Tryz.prog 14 #[.nilIface] w fun e w' => e = .returned (.int .i64 0) ∧ Keeps (fun _ => False) w w' := by
  go_enter Tryz.func14, Tryz.ntmps14
  go_wp2
  go_ret
  exact ⟨rfl, (Keeps.refl _ _).alloc _⟩

set_option maxRecDepth 100000 in
theorem of_chain (w : World) (l : List (Int × ByteArray)) (c : Int) (v : Value) (h : Chain w l c v) (hg : Ety w) :
    Calls Tryz.prog 14 #[v] w fun e w' => e = .returned (.int .i64 c) ∧ Keeps (fun _ => False) w w' := by
  have hk : Keeps (fun _ => False) w (w.alloc (.cells #[.int .i64 0] tKind)) := (Keeps.refl _ w).alloc _
  have HA := Lib.hid (as_kind c 0 w.heap.size l v _ (h.keeps hk (fun _ _ _ => id)) (hg.keeps hk id) (Blk.new w tKind #[.int .i64 0]))
  obtain ⟨ty, x, rfl⟩ := h.form
  clear h hg
  go_enter Tryz.func14, Tryz.ntmps14
  go_wp2_with (go_at_call 47; go_must (refine HA.out.mono ?_; rintro e w2 ⟨rfl, k2, hb⟩; have hcell := hb.cell 0; simp only [List.getElem?_toArray, List.getElem?_cons_zero] at hcell))
  go_ret
  exact ⟨rfl, hk.and_ k2 (fun i hi e => by omega)⟩

theorem has_chain (w : World) (l : List (Int × ByteArray)) (c d : Int) (v : Value) (h : Chain w l c v) :
    Calls Tryz.prog 142 #[v, .int .i64 d] w fun e w' => e = .returned (.bool (decide (d ≠ 0 ∧ c = d))) ∧ Keeps (fun _ => False) w w' := by
  have hi := is_ok c d l v w h
  obtain ⟨ty, x, rfl⟩ := h.form
  clear h
  by_cases hd : d = 0
  · subst hd
    clear hi
    go_enter Tryz.func142, Tryz.ntmps142
    go_wp2
    go_ret
    exact ⟨rfl, Keeps.refl _ _⟩
  · have h1 : (d != 0) = true := by simpa using hd
    have h2 : decide (d ≠ 0 ∧ c = d) = decide (c = d) := by simp [hd]
    have H2 := Lib.hid h2
    have HI := Lib.hid hi
    clear h2 hi
    go_enter Tryz.func142, Tryz.ntmps142
    go_wp2_with (go_at_call 149; go_must (refine HI.out.mono ?_; rintro e w2 ⟨rfl, rfl⟩))
    go_ret
    exact ⟨by rw [H2.out]; rfl, Keeps.refl _ _⟩
set_option maxRecDepth 100000 in
theorem has_nil (w : World) (d : Int) :
    Calls Tryz.prog 142 #[.nilIface, .int .i64 d] w fun e w' => e = .returned (.bool false) ∧ Keeps (fun _ => False) w w' := by
  by_cases hd : d = 0
  · subst hd
    go_enter Tryz.func142, Tryz.ntmps142
    go_wp2
    go_ret
    exact ⟨rfl, Keeps.refl _ _⟩
  · have h1 : (d != 0) = true := by simpa using hd
    have hi : ∀ w, Calls Tryz.prog 149 #[.nilIface, .iface tKind (.int .i64 d)] w fun e w' => e = .returned (.bool false) ∧ w' = w := by
      intro w
      have hq := fun w => run_eql_iface_nil_left (P := Tryz.prog) (w := w) tKind (.int .i64 d) Tryz.underlying34
      go_enter Tryz.func149, Tryz.ntmps149
      go_wp2
      go_ret
      exact ⟨rfl, rfl⟩
    have HI := Lib.hid hi
    clear hi
    go_enter Tryz.func142, Tryz.ntmps142
    go_wp2_with (go_at_call 149; go_must (refine (HI.out _).mono ?_; rintro e w2 ⟨rfl, rfl⟩))
    go_ret
    exact ⟨rfl, Keeps.refl _ _⟩

end Go.Proofs.YtdbnalocmjkncaaGreatDoor

/-
  store: which texts may be names; the document's word on it.
-/
namespace Go.Proofs.YtdbnalocmjkncaaGreatDoor
open Go.RowKit Go.Maps

def okB (c : UInt8) : Bool := decide (33 ≤ c.toNat) && decide (c.toNat ≤ 126) && decide (c.toNat ≠ 47)
def namedP (s : ByteArray) : Bool := decide (1 ≤ s.size) && decide (s.size ≤ 64) && s.data.toList.all okB
theorem namedP_size {s : ByteArray} (h : namedP s = true) : 1 ≤ s.size ∧ s.size ≤ 64 := by
  unfold namedP at h
  simp only [Bool.and_eq_true, decide_eq_true_eq] at h
  exact ⟨h.1.1, h.1.2⟩
theorem namedP_bad {s : ByteArray} {i : Nat} {c : UInt8} (h : s.data.toList[i]? = some c) (hc : okB c = false) : namedP s = false := by
  unfold namedP
  have : s.data.toList.all okB = false := by
    rw [List.all_eq_false]
    exact ⟨c, List.mem_of_getElem? h, by rw [hc]; simp⟩
  rw [this, Bool.and_false]
theorem namedP_out {s : ByteArray} (h : s.size < 1 ∨ 64 < s.size) : namedP s = false := by
  unfold namedP
  rcases h with h | h
  · rw [decide_eq_false (by omega : ¬ 1 ≤ s.size), Bool.false_and, Bool.false_and]
  · rw [decide_eq_false (by omega : ¬ s.size ≤ 64), Bool.and_false, Bool.false_and]
theorem namedP_ok {s : ByteArray} (h1 : 1 ≤ s.size) (h2 : s.size ≤ 64) (h : s.data.toList.all okB = true) : namedP s = true := by
  unfold namedP
  rw [decide_eq_true h1, decide_eq_true h2, h]; rfl
theorem take_snoc2 {α : Type} {l : List α} {k : Nat} {x : α} (h : l[k]? = some x) : l.take (k + 1) = l.take k ++ [x] := by rw [List.take_add_one, h]; rfl
theorem byte_at {s : ByteArray} {i : Nat} (h : i < s.size) : s.data.toList[i]? = some (s[i]'h) := List.getElem?_eq_getElem (by simpa using h)
theorem all_take {s : ByteArray} {i : Nat} (h : i < s.size) (f : UInt8 → Bool) : (s.data.toList.take (i + 1)).all f = ((s.data.toList.take i).all f && f (s[i]'h)) := by
  rw [take_snoc2 (byte_at h), List.all_append]; simp

set_option maxRecDepth 100000 in
set_option maxHeartbeats 1000000 in
theorem named_any (w : World) (s : ByteArray) : Calls Tryz.prog 141 #[.string s] w fun e w' => e = .returned (.bool (namedP s)) ∧ w' = w := by
  by_cases h0 : s.size = 0
  · have hn := namedP_out (s := s) (.inl (by omega))
    have hs : s = ⟨#[]⟩ := by
      apply ba_ext
      exact List.eq_nil_of_length_eq_zero (by simpa using h0)
    subst hs
    have HN := Lib.hid hn
    clear hn h0
    go_enter Tryz.func141, Tryz.ntmps141
    go_wp2_with fail
    go_ret
    exact ⟨by rw [HN.out]; rfl, rfl⟩
  · have hne : s.toList.isEmpty = false := by
      rw [ByteArray.toList_eq]
      cases hh : s.data.toList with
      | nil =>
        have : s.data.toList.length = s.size := by simp
        rw [hh] at this
        exact absurd this.symm h0
      | cons x y => rfl
    by_cases h64 : 64 < s.size
    · have hn := namedP_out (s := s) (.inr h64)
      have HN := Lib.hid hn
      clear hn
      go_enter Tryz.func141, Tryz.ntmps141
      go_wp2_with fail
      go_ret
      exact ⟨by rw [HN.out]; rfl, rfl⟩
    · go_enter Tryz.func141, Tryz.ntmps141
      go_wp2_with fail
      go_loopw [13] (fun u13 wr => w = wr ∧ ∃ i : Nat, u13 = .int .i64 i ∧ Hid (i ≤ s.size ∧ (s.data.toList.take i).all okB = true)) (fun u13 _ => s.size - (intOf u13).toNat)
      case atStart => exact ⟨rfl, 0, rfl, Lib.hid ⟨Nat.zero_le _, by simp⟩⟩
      case round =>
        obtain ⟨rfl, i, rfl, HI⟩ := hrel
        by_cases hi : i < s.size
        · have hx8 := (s[i]'hi).toNat_lt
          by_cases hc : okB (s[i]'hi) = true
          · have hall : (s.data.toList.take (i + 1)).all okB = true := by rw [all_take hi, HI.out.2, hc]; rfl
            have HA := Lib.hid hall
            simp only [okB, Bool.and_eq_true, decide_eq_true_eq] at hc
            obtain ⟨⟨b1, b2⟩, b3⟩ := hc
            obtain ⟨x, hx⟩ : ∃ x : Nat, (s[i]'hi).toNat = x := ⟨_, rfl⟩
            rw [hx] at b1 b2 b3 hx8
            have b4 : ((x : Int) == 47) = false := by rw [beq_eq_false_iff_ne]; omega
            clear hall b3
            go_wp2_with fail
            go_roundw
            case rel => exact ⟨trivial, i + 1, by go_num, Lib.hid ⟨by omega, HA.out⟩⟩
            case measure => simp [intOf]; omega
          · have hn := namedP_bad (byte_at hi) (by simpa using hc)
            have HN := Lib.hid hn
            clear hn
            obtain ⟨x, hx⟩ : ∃ x : Nat, (s[i]'hi).toNat = x := ⟨_, rfl⟩
            unfold okB at hc
            rw [hx] at hc hx8
            by_cases b1 : 33 ≤ x
            · by_cases b2 : x ≤ 126
              · have b3 : x = 47 := by
                  by_cases b3 : x = 47
                  · exact b3
                  · exact absurd (by simp [b1, b2, b3]) hc
                subst b3
                clear hc
                go_wp2_with fail
                go_ret
                exact ⟨by rw [HN.out]; rfl, rfl⟩
              · clear hc
                go_wp2_with fail
                go_ret
                exact ⟨by rw [HN.out]; rfl, rfl⟩
            · clear hc
              go_wp2_with fail
              go_ret
              exact ⟨by rw [HN.out]; rfl, rfl⟩
        · have hn : namedP s = true := namedP_ok (by omega) (by omega) (by
            have := HI.out.2
            rwa [List.take_of_length_le (by simp; omega)] at this)
          have HN := Lib.hid hn
          clear hn
          go_wp2_with fail
          go_ret
          exact ⟨by rw [HN.out]; rfl, rfl⟩

theorem all_false {s : ByteArray} {i : Nat} (h : i < s.size) {f : UInt8 → Bool} (hc : (s.data.toList.take i).all f = false) : (s.data.toList.take (i + 1)).all f = false := by rw [all_take h, hc, Bool.false_and]
def okUp (s : ByteArray) (i : Nat) : Bool := decide (1 ≤ s.size) && decide (s.size ≤ 64) && (s.data.toList.take i).all okB
theorem okUp_end (s : ByteArray) : okUp s s.size = namedP s := by unfold okUp namedP; rw [List.take_of_length_le (by simp)]
theorem okUp_step {s : ByteArray} {i : Nat} (h : i < s.size) : okUp s (i + 1) = (okUp s i && okB (s[i]'h)) := by unfold okUp; rw [all_take h, Bool.and_assoc, Bool.and_assoc, Bool.and_assoc]

set_option maxRecDepth 100000 in
set_option maxHeartbeats 1000000 in
theorem rnamed_any (w : World) (s : ByteArray) (hs : s.size ≤ 4611686018427387904) : Calls Tryz.prog 102 #[.string s] w fun e w' => e = .returned (.bool (namedP s)) ∧ w' = w := by
  by_cases h1 : 1 ≤ s.size
  · by_cases h2 : s.size ≤ 64
    · have H0 := Lib.hid (show okUp s 0 = true by unfold okUp; rw [decide_eq_true h1, decide_eq_true h2]; rfl)
      go_enter Tryz.func102, Tryz.ntmps102
      go_wp2_with fail
      go_loopw [3, 4] (fun u3 u4 wr => w = wr ∧ ∃ (i : Nat) (b : Bool), u4 = .int .i64 i ∧ u3 = .bool b ∧ Hid (i ≤ s.size ∧ b = okUp s i)) (fun _ u4 _ => s.size - (intOf u4).toNat)
      case atStart => exact ⟨rfl, 0, true, rfl, by first | rfl | (simp; omega), Lib.hid ⟨Nat.zero_le _, H0.out.symm⟩⟩
      case round =>
        obtain ⟨rfl, i, b, rfl, rfl, HI⟩ := hrel
        by_cases hi : i < s.size
        · have hst := okUp_step hi
          rw [← HI.out.2] at hst
          cases b with
          | false =>
            have HST := Lib.hid hst
            clear hst
            go_wp2_with fail
            go_roundw
            case rel => exact ⟨trivial, i + 1, false, by go_num, rfl, Lib.hid ⟨by omega, HST.out.symm⟩⟩
            case measure => simp [intOf]; omega
          | true =>
            have hx8 := (s[i]'hi).toNat_lt
            obtain ⟨x, hx⟩ : ∃ x : Nat, (s[i]'hi).toNat = x := ⟨_, rfl⟩
            unfold okB at hst
            rw [hx] at hst hx8
            by_cases b1 : 33 ≤ x
            · by_cases b2 : x ≤ 126
              · by_cases b3 : x = 47
                · subst b3
                  have HST := Lib.hid hst
                  clear hst b1 b2
                  go_wp2_with fail
                  go_roundw
                  case rel => exact ⟨trivial, i + 1, false, by go_num, rfl, Lib.hid ⟨by omega, HST.out.symm⟩⟩
                  case measure => simp [intOf]; omega
                · have b4 : ((x : Int) == 47) = false := by rw [beq_eq_false_iff_ne]; omega
                  rw [decide_eq_true b1, decide_eq_true b2, decide_eq_true b3] at hst
                  have HST := Lib.hid hst
                  clear hst b3
                  go_wp2_with fail
                  go_roundw
                  case rel => exact ⟨trivial, i + 1, true, by go_num, by simp only [bne, b4, Bool.not_false], Lib.hid ⟨by omega, HST.out.symm⟩⟩
                  case measure => simp [intOf]; omega
              · rw [decide_eq_false b2, Bool.and_false, Bool.false_and] at hst
                have HST := Lib.hid hst
                clear hst
                go_wp2_with fail
                go_roundw
                case rel => exact ⟨trivial, i + 1, false, by go_num, rfl, Lib.hid ⟨by omega, HST.out.symm⟩⟩
                case measure => simp [intOf]; omega
            · rw [decide_eq_false b1, Bool.false_and, Bool.false_and] at hst
              have HST := Lib.hid hst
              clear hst
              go_wp2_with fail
              go_roundw
              case rel => exact ⟨trivial, i + 1, false, by go_num, rfl, Lib.hid ⟨by omega, HST.out.symm⟩⟩
              case measure => simp [intOf]; omega
        · have hn : b = namedP s := by rw [HI.out.2, ← okUp_end s, show i = s.size by have := HI.out.1; omega]
          have HN := Lib.hid hn
          clear hn
          go_wp2_with fail
          go_ret
          exact ⟨by rw [← HN.out]; rfl, rfl⟩

    · have H0 := Lib.hid (show okUp s 0 = false by unfold okUp; rw [decide_eq_false h2, Bool.and_false, Bool.false_and])
      go_enter Tryz.func102, Tryz.ntmps102
      go_wp2_with fail
      go_loopw [3, 4] (fun u3 u4 wr => w = wr ∧ ∃ (i : Nat) (b : Bool), u4 = .int .i64 i ∧ u3 = .bool b ∧ Hid (i ≤ s.size ∧ b = okUp s i)) (fun _ u4 _ => s.size - (intOf u4).toNat)
      case atStart => exact ⟨rfl, 0, false, rfl, by first | rfl | (simp; omega), Lib.hid ⟨Nat.zero_le _, H0.out.symm⟩⟩
      case round =>
        obtain ⟨rfl, i, b, rfl, rfl, HI⟩ := hrel
        by_cases hi : i < s.size
        · have hst := okUp_step hi
          rw [← HI.out.2] at hst
          cases b with
          | false =>
            have HST := Lib.hid hst
            clear hst
            go_wp2_with fail
            go_roundw
            case rel => exact ⟨trivial, i + 1, false, by go_num, rfl, Lib.hid ⟨by omega, HST.out.symm⟩⟩
            case measure => simp [intOf]; omega
          | true =>
            have hx8 := (s[i]'hi).toNat_lt
            obtain ⟨x, hx⟩ : ∃ x : Nat, (s[i]'hi).toNat = x := ⟨_, rfl⟩
            unfold okB at hst
            rw [hx] at hst hx8
            by_cases b1 : 33 ≤ x
            · by_cases b2 : x ≤ 126
              · by_cases b3 : x = 47
                · subst b3
                  have HST := Lib.hid hst
                  clear hst b1 b2
                  go_wp2_with fail
                  go_roundw
                  case rel => exact ⟨trivial, i + 1, false, by go_num, rfl, Lib.hid ⟨by omega, HST.out.symm⟩⟩
                  case measure => simp [intOf]; omega
                · have b4 : ((x : Int) == 47) = false := by rw [beq_eq_false_iff_ne]; omega
                  rw [decide_eq_true b1, decide_eq_true b2, decide_eq_true b3] at hst
                  have HST := Lib.hid hst
                  clear hst b3
                  go_wp2_with fail
                  go_roundw
                  case rel => exact ⟨trivial, i + 1, true, by go_num, by simp only [bne, b4, Bool.not_false], Lib.hid ⟨by omega, HST.out.symm⟩⟩
                  case measure => simp [intOf]; omega
              · rw [decide_eq_false b2, Bool.and_false, Bool.false_and] at hst
                have HST := Lib.hid hst
                clear hst
                go_wp2_with fail
                go_roundw
                case rel => exact ⟨trivial, i + 1, false, by go_num, rfl, Lib.hid ⟨by omega, HST.out.symm⟩⟩
                case measure => simp [intOf]; omega
            · rw [decide_eq_false b1, Bool.false_and, Bool.false_and] at hst
              have HST := Lib.hid hst
              clear hst
              go_wp2_with fail
              go_roundw
              case rel => exact ⟨trivial, i + 1, false, by go_num, rfl, Lib.hid ⟨by omega, HST.out.symm⟩⟩
              case measure => simp [intOf]; omega
        · have hn : b = namedP s := by rw [HI.out.2, ← okUp_end s, show i = s.size by have := HI.out.1; omega]
          have HN := Lib.hid hn
          clear hn
          go_wp2_with fail
          go_ret
          exact ⟨by rw [← HN.out]; rfl, rfl⟩

  · have H0 := Lib.hid (show okUp s 0 = false by unfold okUp; rw [decide_eq_false h1, Bool.false_and, Bool.false_and])
    go_enter Tryz.func102, Tryz.ntmps102
    go_wp2_with fail
    go_loopw [3, 4] (fun u3 u4 wr => w = wr ∧ ∃ (i : Nat) (b : Bool), u4 = .int .i64 i ∧ u3 = .bool b ∧ Hid (i ≤ s.size ∧ b = okUp s i)) (fun _ u4 _ => s.size - (intOf u4).toNat)
    case atStart => exact ⟨rfl, 0, false, rfl, by first | rfl | (simp; omega), Lib.hid ⟨Nat.zero_le _, H0.out.symm⟩⟩
    case round =>
      obtain ⟨rfl, i, b, rfl, rfl, HI⟩ := hrel
      by_cases hi : i < s.size
      · exact absurd hi (by omega)
      · have hn : b = namedP s := by rw [HI.out.2, ← okUp_end s, show i = s.size by have := HI.out.1; omega]
        have HN := Lib.hid hn
        clear hn
        go_wp2_with fail
        go_ret
        exact ⟨by rw [← HN.out]; rfl, rfl⟩
end Go.Proofs.YtdbnalocmjkncaaGreatDoor

/-
  store: New, made, begin, there, Fail, Read, Size, by walk.
-/
namespace Go.Proofs.YtdbnalocmjkncaaGreatDoor
open Go.RowKit Go.Maps

/-- an error of a code; none, if it is 0 -/
def ErrV (w : World) (c : Int) (v : Value) : Prop := (c = 0 ∧ v = .nilIface) ∨ (c ≠ 0 ∧ ∃ l, Chain w l c v)
section
variable {w w' : World} {F S : Nat → Prop} {s M bad : Nat} {most : Int} {L : List SRep}
theorem ErrV.ok : ErrV w 0 .nilIface := .inl ⟨rfl, rfl⟩
theorem ErrV.keeps {c : Int} {v : Value} (h : ErrV w c v) (k : Keeps S w w') (hS : ∀ i cs, Blk w i 189 cs → ¬ S i) : ErrV w' c v := by
  rcases h with h | ⟨hc, l, hl⟩
  · exact .inl h
  · refine .inr ⟨hc, l, ?_⟩
    clear hc
    induction hl with
    | kind c => exact .kind c
    | layer a n t v l c hb _ ih => exact .layer a n t v l c (hb.keeps k (hS a _ hb)) ih
theorem ErrV.keeps0 {c : Int} {v : Value} (h : ErrV w c v) (k : Keeps (fun _ => False) w w') : ErrV w' c v := h.keeps k (fun _ _ _ => id)
theorem of_err (w : World) {c : Int} {v : Value} (h : ErrV w c v) (hg : Ety w) : Calls Tryz.prog 14 #[v] w fun e w' => e = .returned (.int .i64 c) ∧ Keeps (fun _ => False) w w' := by
  rcases h with ⟨rfl, rfl⟩ | ⟨_, l, hl⟩
  · exact of_nil w
  · exact of_chain w l c v hl hg
/-- a made error -/
theorem new_err (w : World) (c : Int) (nm : ByteArray) (hc : c ≠ 0) : Calls Tryz.prog 76 #[.int .i64 c, .int .i64 0, .string nm] w fun e w' =>
    (∃ a, e = .returned (.iface 185 (.pointer (some ⟨a, 0, none⟩))) ∧ Chain w' [(0, nm)] c (.iface 185 (.pointer (some ⟨a, 0, none⟩)))) ∧ Keeps (fun _ => False) w w' := by
  refine (new_flt w c 0 nm hc).mono ?_
  rintro e w' ⟨rfl, rfl⟩
  exact ⟨⟨_, rfl, .layer _ _ _ _ _ _ (Blk.new _ _ _) (.kind c)⟩, (Keeps.refl _ _).alloc _⟩

set_option maxRecDepth 100000 in
theorem made_any (h : StoreAt w F s most bad M L) : Calls Tryz.prog 34 #[.pointer (some ⟨s, 0, none⟩)] w fun e w' => e = .returned (.bool true) ∧ w' = w := by
  obtain ⟨h0, h1, h2⟩ := h.top.cells3
  have hq : (binOp .neq 79 (.map (some M)) (.map none)).run Tryz.prog w = .ok (.bool true) w := by kernel_rfl
  clear h
  go_enter Tryz.func34, Tryz.ntmps34
  go_wp2_with fail
  go_ret
  exact ⟨rfl, rfl⟩
set_option maxRecDepth 100000 in
theorem made_nil (w : World) : Calls Tryz.prog 34 #[.pointer none] w fun e w' => e = .returned (.bool false) ∧ w' = w := by
  go_enter Tryz.func34, Tryz.ntmps34
  go_wp2_with fail
  go_ret
  exact ⟨rfl, rfl⟩

/-- what is asked ahead of a call that writes -/
def beginC (bad : Nat) (nm : ByteArray) : Int × Nat := if namedP nm then (if 0 < bad then (12, bad - 1) else (0, bad)) else (1, bad)
set_option maxRecDepth 100000 in
theorem begin_any (h : StoreAt w F s most bad M L) (nm : ByteArray) (hb : bad ≤ 9223372036854775807) :
    Calls Tryz.prog 77 #[.pointer (some ⟨s, 0, none⟩), .string nm] w fun e w' => (∃ v, e = .returned v ∧ ErrV w' (beginC bad nm).1 v) ∧ StoreAt w' F s most (beginC bad nm).2 M L ∧ Keeps (fun i => i = s) w w' := by
  have HM := Lib.hid (made_any h)
  have HN := Lib.hid (named_any w nm)
  have H := Lib.hid h
  obtain ⟨h0, h1, h2⟩ := h.top.cells3
  have f2 := h.top.frozen 2
  clear h
  by_cases hn : namedP nm = true
  · by_cases h0b : 0 < bad
    · have hc : beginC bad nm = (12, bad - 1) := by unfold beginC; rw [if_pos hn, if_pos h0b]
      rw [hc]
      have HNN := Lib.hid hn
      clear hn hc
      go_enter Tryz.func77, Tryz.ntmps77
      go_wp2_with (go_at_call 34; refine HM.out.mono ?_; rintro e w1 ⟨rfl, rfl⟩)
      refine HN.out.mono ?_
      rintro e w1 ⟨rfl, rfl⟩
      rw [HNN.out]
      go_wp2_with fail
      have hsb := H.out.setBad (bad - 1) ((bad : Int) - 1) (by omega)
      refine (new_err _ 12 nm (by decide)).mono ?_
      rintro e w2 ⟨⟨a, rfl, hch⟩, k2⟩
      have HCH := Lib.hid hch
      have HSB := Lib.hid hsb
      have HK2 := Lib.hid k2
      clear hch k2 hsb
      go_wp2_with fail
      go_ret
      exact ⟨⟨_, rfl, .inr ⟨by decide, _, HCH.out⟩⟩, HSB.out.1.keeps HK2.out (fun _ _ => id), HSB.out.2.trans (Keeps.none_ HK2.out)⟩
    · have hc : beginC bad nm = (0, bad) := by unfold beginC; rw [if_pos hn, if_neg h0b]
      rw [hc]
      have h0c : (bad : Int) ≤ 0 := by omega
      have HNN := Lib.hid hn
      clear hn hc h0b
      go_enter Tryz.func77, Tryz.ntmps77
      go_wp2_with (go_at_call 34; refine HM.out.mono ?_; rintro e w1 ⟨rfl, rfl⟩)
      refine HN.out.mono ?_
      rintro e w1 ⟨rfl, rfl⟩
      rw [HNN.out]
      go_wp2_with fail
      go_ret
      exact ⟨⟨_, rfl, ErrV.ok⟩, H.out, Keeps.refl _ _⟩
  · have hc : beginC bad nm = (1, bad) := by unfold beginC; rw [if_neg hn]
    rw [hc]
    have HNN := Lib.hid (show namedP nm = false by simpa using hn)
    clear hn hc
    go_enter Tryz.func77, Tryz.ntmps77
    go_wp2_with (go_at_call 34; refine HM.out.mono ?_; rintro e w1 ⟨rfl, rfl⟩)
    refine HN.out.mono ?_
    rintro e w1 ⟨rfl, rfl⟩
    rw [HNN.out]
    go_wp2_with fail
    refine (new_err _ 1 nm (by decide)).mono ?_
    rintro e w2 ⟨⟨a, rfl, hch⟩, k2⟩
    have HCH := Lib.hid hch
    have HK2 := Lib.hid k2
    clear hch k2
    go_wp2_with fail
    go_ret
    exact ⟨⟨_, rfl, .inr ⟨by decide, _, HCH.out⟩⟩, H.out.keeps HK2.out (fun _ _ => id), Keeps.none_ HK2.out⟩
set_option maxRecDepth 100000 in
theorem begin_nil (w : World) (nm : ByteArray) : Calls Tryz.prog 77 #[.pointer none, .string nm] w fun e w' => (∃ v, e = .returned v ∧ ErrV w' 14 v) ∧ Keeps (fun _ => False) w w' := by
  go_enter Tryz.func77, Tryz.ntmps77
  go_wp2_with (go_at_call 34; refine (made_nil _).mono ?_; rintro e w1 ⟨rfl, rfl⟩)
  refine (new_err _ 14 _ (by decide)).mono ?_
  rintro e w2 ⟨⟨a, rfl, hch⟩, k2⟩
  have HCH := Lib.hid hch
  have HK2 := Lib.hid k2
  clear hch k2
  go_wp2_with fail
  go_ret
  exact ⟨⟨_, rfl, .inr ⟨by decide, _, HCH.out⟩⟩, HK2.out⟩

set_option maxRecDepth 100000 in
/-- a file that must be there -/
theorem there_any (h : StoreAt w F s most bad M L) (nm : ByteArray) (hn : nm.size ≤ maxLen) :
    Calls Tryz.prog 82 #[.pointer (some ⟨s, 0, none⟩), .string nm] w fun e w' =>
      ((∃ r, getG SRep.nm nm L = some r ∧ e = .returned (.tuple #[.pointer (some ⟨r.p, 0, none⟩), .nilIface])) ∨
       (getG SRep.nm nm L = none ∧ ∃ a, e = .returned (.tuple #[.pointer none, .iface 185 (.pointer (some ⟨a, 0, none⟩))]) ∧ Chain w' [(0, nm)] 7 (.iface 185 (.pointer (some ⟨a, 0, none⟩))))) ∧ Keeps (fun _ => False) w w' := by
  have hl := h.look nm hn
  obtain ⟨h0, h1, h2⟩ := h.top.cells3
  clear h
  cases hg : getG SRep.nm nm L with
  | none =>
    rw [hg] at hl
    simp only [Option.map_none, Option.isSome_none] at hl
    clear hg
    go_enter Tryz.func82, Tryz.ntmps82
    go_wp2_with fail
    refine (new_err _ 7 nm (by decide)).mono ?_
    rintro e w2 ⟨⟨a, rfl, hch⟩, k2⟩
    have HCH := Lib.hid hch
    have HK2 := Lib.hid k2
    clear hch k2
    go_wp2_with fail
    go_ret2
    exact ⟨.inr ⟨by first | rfl | trivial, a, rfl, HCH.out⟩, HK2.out⟩
  | some r =>
    rw [hg] at hl
    simp only [Option.map_some, Option.isSome_some] at hl
    clear hg
    go_enter Tryz.func82, Tryz.ntmps82
    go_wp2_with fail
    go_ret2
    exact ⟨.inl ⟨r, by first | rfl | trivial, rfl⟩, Keeps.refl _ _⟩

set_option maxRecDepth 100000 in
/-- the next calls fail -/
theorem fail_any (h : StoreAt w F s most bad M L) (n : Int) :
    Calls Tryz.prog 9 #[.pointer (some ⟨s, 0, none⟩), .int .i64 n] w fun e w' => e = .returned (.tuple #[]) ∧ StoreAt w' F s most n.toNat M L ∧ Keeps (fun i => i = s) w w' := by
  have HM := Lib.hid (made_any h)
  have H := Lib.hid h
  obtain ⟨h0, h1, h2⟩ := h.top.cells3
  have f2 := h.top.frozen 2
  clear h
  have hsb := H.out.setBad n.toNat (max 0 n) (by omega)
  have HSB := Lib.hid hsb
  clear hsb
  by_cases hn : 0 < n
  · go_enter Tryz.func9, Tryz.ntmps9
    go_wp2_with (go_at_call 34; refine HM.out.mono ?_; rintro e w1 ⟨rfl, rfl⟩)
    exact bodyPost_end (results_none rfl _ _ _) rfl ⟨rfl, HSB.out⟩
  · go_enter Tryz.func9, Tryz.ntmps9
    go_wp2_with (go_at_call 34; refine HM.out.mono ?_; rintro e w1 ⟨rfl, rfl⟩)
    exact bodyPost_end (results_none rfl _ _ _) rfl ⟨rfl, HSB.out⟩
set_option maxRecDepth 100000 in
theorem fail_nil (w : World) (n : Int) : Calls Tryz.prog 9 #[.pointer none, .int .i64 n] w fun e w' => e = .returned (.tuple #[]) ∧ w' = w := by
  go_enter Tryz.func9, Tryz.ntmps9
  go_wp2_with (go_at_call 34; refine (made_nil _).mono ?_; rintro e w1 ⟨rfl, rfl⟩)
  exact bodyPost_end (results_none rfl _ _ _) rfl ⟨rfl, rfl⟩

set_option maxRecDepth 100000 in
/-- a file's bytes -/
theorem read_any (h : StoreAt w F s most bad M L) (nm : ByteArray) (hn : nm.size ≤ maxLen) :
    Calls Tryz.prog 8 #[.pointer (some ⟨s, 0, none⟩), .string nm] w fun e w' => e = .returned (match getG SRep.nm nm L with | some r => .tuple #[.string r.f.data, .bool true] | none => .tuple #[.string ⟨#[]⟩, .bool false]) ∧ w' = w := by
  have HM := Lib.hid (made_any h)
  have hl := h.look nm hn
  obtain ⟨h0, h1, h2⟩ := h.top.cells3
  cases hg : getG SRep.nm nm L with
  | none =>
    rw [hg] at hl
    simp only [Option.map_none, Option.isSome_none] at hl
    clear hg h
    go_enter Tryz.func8, Tryz.ntmps8
    go_wp2_with (go_at_call 34; refine HM.out.mono ?_; rintro e w1 ⟨rfl, rfl⟩)
    go_ret2
    exact ⟨rfl, rfl⟩
  | some r =>
    rw [hg] at hl
    simp only [Option.map_some, Option.isSome_some] at hl
    have hf := h.each r (getG_some hg).1
    obtain ⟨p, v, hr⟩ : ∃ p v, r = ⟨r.f, p, v⟩ := ⟨_, _, rfl⟩
    have c0 := hf.blk.cell 0
    simp only [List.getElem?_toArray, List.getElem?_cons_zero] at c0
    have hcv := run_string_q (P := Tryz.prog) w 82 9 5 r.v r.f.data.data.toList Tryz.underlying82 Tryz.underlying5 Tryz.underlying9 hf.own
    have hsd : str r.f.data.data.toList = r.f.data := ba_ext (by rw [str_list])
    rw [hsd] at hcv
    clear hg h hf hr hsd
    go_enter Tryz.func8, Tryz.ntmps8
    go_wp2_with (go_at_call 34; refine HM.out.mono ?_; rintro e w1 ⟨rfl, rfl⟩)
    go_ret2
    exact ⟨rfl, rfl⟩
set_option maxRecDepth 100000 in
theorem read_nil (w : World) (nm : ByteArray) : Calls Tryz.prog 8 #[.pointer none, .string nm] w fun e w' => e = .returned (.tuple #[.string ⟨#[]⟩, .bool false]) ∧ w' = w := by
  go_enter Tryz.func8, Tryz.ntmps8
  go_wp2_with (go_at_call 34; refine (made_nil _).mono ?_; rintro e w1 ⟨rfl, rfl⟩)
  go_ret2
  exact ⟨rfl, rfl⟩

set_option maxRecDepth 100000 in
/-- how many bytes, and how many are sure -/
theorem size_any (h : StoreAt w F s most bad M L) (nm : ByteArray) (hn : nm.size ≤ maxLen) :
    Calls Tryz.prog 147 #[.pointer (some ⟨s, 0, none⟩), .string nm] w fun e w' => e = .returned (match getG SRep.nm nm L with | some r => .tuple #[.int .i64 (r.f.data.size : Nat), .int .i64 (r.f.sure : Nat)] | none => .tuple #[.int .i64 0, .int .i64 0]) ∧ Keeps (fun _ => False) w w' := by
  have HM := Lib.hid (made_any h)
  have hl := h.look nm hn
  obtain ⟨h0, h1, h2⟩ := h.top.cells3
  cases hg : getG SRep.nm nm L with
  | none =>
    rw [hg] at hl
    simp only [Option.map_none, Option.isSome_none] at hl
    clear hg h
    go_enter Tryz.func147, Tryz.ntmps147
    go_wp2_with (go_at_call 34; refine HM.out.mono ?_; rintro e w1 ⟨rfl, rfl⟩)
    go_ret2
    exact ⟨rfl, Keeps.refl _ _⟩
  | some r =>
    rw [hg] at hl
    simp only [Option.map_some, Option.isSome_some] at hl
    have hf := h.each r (getG_some hg).1
    have c0 := hf.blk.cell 0
    have c1 := hf.blk.cell 1
    simp only [List.getElem?_toArray, List.getElem?_cons_zero, List.getElem?_cons_succ] at c0 c1
    obtain ⟨a, c, hv⟩ := hf.own.sl
    rw [u8Vs_size] at hv
    rw [hv] at c0
    clear hg h hf hv
    go_enter Tryz.func147, Tryz.ntmps147
    go_wp2_with (go_at_call 34; refine HM.out.mono ?_; rintro e w1 ⟨rfl, rfl⟩)
    go_region
    all_goals (go_wp2_with fail)
    all_goals go_ret2
    all_goals (refine ⟨rfl, ?_⟩)
    all_goals (repeat (first | (with_reducible assumption) | (with_reducible exact Keeps.refl _ _) | refine Keeps.drew ?_ | refine Keeps.drewN ?_ _ | refine Keeps.setCell ?_ (by simp) _ | refine Keeps.setRow ?_ (by simp) _ | refine Keeps.alloc ?_ _))
set_option maxRecDepth 100000 in
theorem size_nil (w : World) (nm : ByteArray) : Calls Tryz.prog 147 #[.pointer none, .string nm] w fun e w' => e = .returned (.tuple #[.int .i64 0, .int .i64 0]) ∧ w' = w := by
  go_enter Tryz.func147, Tryz.ntmps147
  go_wp2_with (go_at_call 34; refine (made_nil _).mono ?_; rintro e w1 ⟨rfl, rfl⟩)
  go_ret2
  exact ⟨rfl, rfl⟩
end
end Go.Proofs.YtdbnalocmjkncaaGreatDoor

/-
  store: how many bytes there are.
-/
namespace Go.Proofs.YtdbnalocmjkncaaGreatDoor
open Go.RowKit Go.Maps

def totL (L : List SRep) : Nat := (L.map fun r => r.f.data.size).sum
/-- the bytes of those that came already -/
def sumL (left : Lit → Bool) (L : List SRep) : Nat := (L.map fun r => cond (left (.string r.f.name.data.toList)) 0 r.f.data.size).sum
theorem sumL_cons (left : Lit → Bool) (r : SRep) (L : List SRep) : sumL left (r :: L) = cond (left (.string r.f.name.data.toList)) 0 r.f.data.size + sumL left L := by unfold sumL; rw [List.map_cons, List.sum_cons]
theorem totL_cons (r : SRep) (L : List SRep) : totL (r :: L) = r.f.data.size + totL L := by unfold totL; rw [List.map_cons, List.sum_cons]
theorem sumL_le (left : Lit → Bool) : ∀ L, sumL left L ≤ totL L
  | [] => Nat.le_refl _
  | r :: L => by
    have := sumL_le left L
    rw [sumL_cons, totL_cons]
    cases left (.string r.f.name.data.toList)
    · show r.f.data.size + _ ≤ _; omega
    · show 0 + _ ≤ _; omega
theorem sumL_congr {f g : Lit → Bool} : ∀ {L : List SRep}, (∀ r ∈ L, f (.string r.f.name.data.toList) = g (.string r.f.name.data.toList)) → sumL f L = sumL g L
  | [], _ => rfl
  | r :: L, h => by rw [sumL_cons, sumL_cons, h r (by simp), sumL_congr (L := L) fun a ha => h a (by simp [ha])]
theorem sumL_end {left : Lit → Bool} (h : ∀ kl, left kl = false) : ∀ L : List SRep, sumL left L = totL L
  | [] => rfl
  | r :: L => by rw [sumL_cons, totL_cons, h, sumL_end h L]; rfl
theorem sumL_start {L : List SRep} (h : Rise SRep.nm L) : sumL (Maps.has (mapD SRep.nm SRep.p L)) L = 0 := by
  have : ∀ L' : List SRep, (∀ r ∈ L', r ∈ L) → sumL (Maps.has (mapD SRep.nm SRep.p L)) L' = 0 := by
    intro L' hL
    induction L' with
    | nil => rfl
    | cons r L' ih =>
      rw [sumL_cons, ih fun a ha => hL a (by simp [ha]), mapD_has, show getG SRep.nm r.f.name L = some r from getG_of_mem h (hL r (by simp))]
      rfl
  exact this L fun _ h => h
theorem sumL_step {left : Lit → Bool} : ∀ {L : List SRep} {r : SRep}, Rise SRep.nm L → r ∈ L → left (.string r.f.name.data.toList) = true →
    sumL (fun z => left z && !z.sameKey (.string r.f.name.data.toList)) L = sumL left L + r.f.data.size
  | [], _, _, h, _ => by cases h
  | a :: L, r, hr, h, hl => by
    obtain ⟨h1, h2⟩ := List.pairwise_cons.1 hr
    have hs : ∀ b : SRep, Lit.sameKey (.string b.f.name.data.toList) (.string r.f.name.data.toList) = decide (b.f.name = r.f.name) := fun b => ent_same (nm := SRep.nm) (pt := SRep.p) r.f.name b
    rw [sumL_cons, sumL_cons, hs]
    rcases List.mem_cons.1 h with rfl | h'
    · rw [sumL_congr (g := left) fun b hb => by
        have hne : b.f.name ≠ r.f.name := fun e => nmLt_ne (h1 b hb) e.symm
        show (left _ && !Lit.sameKey _ _) = _
        rw [hs, decide_eq_false hne]; simp, hl, decide_eq_true rfl]
      show r.f.data.size + sumL left L = 0 + sumL left L + r.f.data.size
      omega
    · have hne : a.f.name ≠ r.f.name := nmLt_ne (h1 r h')
      rw [sumL_step h2 h' hl, decide_eq_false hne, Bool.not_false, Bool.and_true]
      omega

/-- what a step over the map hands out -/
theorem step_rep {L : List SRep} {x : List UInt8} {c : Value} {yd : DataW Unit} {yp : List MemPlace} (hR : ptrR c = some (yd, yp)) (hat : ∀ zd, (mapD SRep.nm SRep.p L).atKey (.string x) zd = yd) :
    ∃ r ∈ L, r.f.name.data.toList = x ∧ c = .pointer (some ⟨r.p, 0, none⟩) := by
  obtain ⟨n, hn0⟩ : ∃ n : ByteArray, n.data.toList = x := ⟨⟨x.toArray⟩, rfl⟩
  subst hn0
  have e := hat
  simp only [mapD_at] at e
  cases hg : getG SRep.nm n L with
  | none =>
    rw [hg] at e
    have h1 := (e (.lit (.bool true))).trans (e (.lit (.bool false))).symm
    simp at h1
  | some r =>
    rw [hg] at e
    have h1 : DataW.lit (Lit.int .i64 (r.p : Int)) = yd := e (.lit (.bool true))
    obtain ⟨hm, hn⟩ := getG_some hg
    refine ⟨r, hm, ?_, ptrR_inv (ps := yp) (by rw [hR, h1])⟩
    have : r.f.name = n := hn
    rw [this]

section
variable {w w' : World} {F S : Nat → Prop} {s M bad : Nat} {most : Int} {L : List SRep}
set_option maxRecDepth 100000 in
set_option maxHeartbeats 1000000 in
theorem total_any (h : StoreAt w F s most bad M L) (ht : totL L ≤ 4611686018427387904) :
    Calls Tryz.prog 78 #[.pointer (some ⟨s, 0, none⟩)] w fun e w' => e = .returned (.int .i64 (totL L : Nat)) ∧ Keeps (fun _ => False) w w' := by
  have HM := Lib.hid (made_any h)
  obtain ⟨h0, h1, h2⟩ := h.top.cells3
  have H := Lib.hid h
  have hmap := h.map
  clear h
  go_enter Tryz.func78, Tryz.ntmps78
  go_wp2_with (first
    | (go_at_call 34; refine HM.out.mono ?_; rintro e w1 ⟨rfl, hw1⟩; obtain rfl : w = w1 := hw1.symm)
    | (at_range; refine wpList_range_own _ rfl _ 79 rfl 9 77 stoK Tryz.underlying79 _ M L.length _ rfl hmap ?_; intro w0 hrg0 hg0 hs0))
  go_frame
  have hk0 : Keeps (fun _ => False) w w0 := (Keeps.refl _ _).grown hg0 (fun k hk => by cases hk)
  have HG0 := Lib.hid hk0
  clear hg0 hs0 hk0
  go_loopw [3] (fun u3 wr => ∃ (left : Lit → Bool) (cnt : Nat), wr.ranges Tryz.prog 9 ptrR M w.heap.size L.length (mapD SRep.nm SRep.p L) left cnt ∧ u3 = .int .i64 (sumL left L : Nat) ∧ Hid (Keeps (fun _ => False) w wr)) (fun _ wr => wr.rangeLeft M w.heap.size)
  case atStart => exact ⟨_, _, hrg0, by rw [sumL_start H.out.rise]; rfl, HG0⟩
  case round =>
    obtain ⟨left, cnt, hrg, rfl, HK⟩ := hrel
    have hle := sumL_le left L
    go_wp2_with (at_next; refine wpList_next_ranges _ rfl _ rfl 9 stoK ptrR Go.Proofs.encStr id (fun key kl hk => by obtain ⟨x, hx, _⟩ := Maps.keyOf_str Tryz.underlying9 hk; exact ⟨x, hx⟩) (fun v _ _ => ⟨v, rfl⟩) M w.heap.size L.length _ left cnt rfl hrg ?_ ?_)
    · intro hc0 hl0
      have he := sumL_end hl0 L
      rw [he]
      go_wp2_with fail
      go_ret
      exact ⟨rfl, HK.out⟩
    · intro x c kl yd yp w2 cnt2 hkey hlk hv hat hrg2 hlt hg2 hs2 hen
      obtain ⟨x', ex, rfl, _⟩ := Maps.keyOf_str Tryz.underlying9 hkey
      obtain rfl : x = x' := encStr_inj ex
      obtain ⟨r, hr, rfl, rfl⟩ := step_rep hv hat
      have hlk2 := sumL_step H.out.rise hr hlk
      have hle2 := sumL_le (fun z => left z && !z.sameKey (.string r.f.name.data.toList)) L
      rw [hlk2] at hle2
      have hK2 : Keeps (fun _ => False) w w2 := HK.out.and_ (Keeps.grown (Keeps.refl (fun i => i = w.heap.size) wr) hg2 (fun k hk _ => by injection hk with hk; exact hk.symm)) (fun i hi h => by omega)
      have hf := (H.out.each r hr).blk.keeps hK2 id
      have c0 := hf.cell 0
      simp only [List.getElem?_toArray, List.getElem?_cons_zero] at c0
      obtain ⟨a, c, hv2⟩ := (H.out.each r hr).own.sl
      rw [u8Vs_size] at hv2
      rw [hv2] at c0
      have HL2 := Lib.hid hlk2
      have HK2 := Lib.hid hK2
      have HLT := Lib.hid hlt
      clear hlk2 hK2 hf hv2 hg2 hs2 hlk hat hv hlt
      go_wp2_with fail
      go_roundw
      case rel => exact ⟨_, cnt2, hrg2, by rw [HL2.out]; rfl, HK2⟩
      case measure => rw [hrg2.left_eq, hrg.left_eq]; exact HLT.out
end
end Go.Proofs.YtdbnalocmjkncaaGreatDoor

/-
  store: Sync, Remove, Rename, Append, plainly and by walk.
-/
namespace Go.Proofs.YtdbnalocmjkncaaGreatDoor
open Go.RowKit Go.Maps

def totF (l : List SFile) : Nat := (l.map fun f => f.data.size).sum
def syncP (bad : Nat) (l : List SFile) (nm : ByteArray) : Int × Nat × List SFile :=
  if (beginC bad nm).1 ≠ 0 then ((beginC bad nm).1, (beginC bad nm).2, l) else
  match getG SFile.name nm l with
  | none => (7, (beginC bad nm).2, l)
  | some f => (0, (beginC bad nm).2, putG SFile.name ⟨nm, f.data, f.data.size⟩ l)
def removeP (bad : Nat) (l : List SFile) (nm : ByteArray) : Int × Nat × List SFile :=
  if (beginC bad nm).1 ≠ 0 then ((beginC bad nm).1, (beginC bad nm).2, l) else
  match getG SFile.name nm l with
  | none => (7, (beginC bad nm).2, l)
  | some _ => (0, (beginC bad nm).2, delG SFile.name nm l)
def renameP (bad : Nat) (l : List SFile) (nm to : ByteArray) : Int × Nat × List SFile :=
  if (beginC bad nm).1 ≠ 0 then ((beginC bad nm).1, (beginC bad nm).2, l) else
  if namedP to = false then (1, (beginC bad nm).2, l) else
  match getG SFile.name nm l with
  | none => (7, (beginC bad nm).2, l)
  | some f => (0, (beginC bad nm).2, putG SFile.name ⟨to, f.data, f.sure⟩ (delG SFile.name nm l))
def appendP (most : Int) (bad : Nat) (l : List SFile) (nm b : ByteArray) : Int × Nat × List SFile :=
  if (beginC bad nm).1 ≠ 0 then ((beginC bad nm).1, (beginC bad nm).2, l) else
  if most < (totF l : Int) + b.size then (6, (beginC bad nm).2, l) else
  match getG SFile.name nm l with
  | none => (0, (beginC bad nm).2, putG SFile.name ⟨nm, b, 0⟩ l)
  | some f => (0, (beginC bad nm).2, putG SFile.name ⟨nm, f.data ++ b, f.sure⟩ l)

def up (F : Nat → Prop) (w : World) (i : Nat) : Prop := F i ∨ w.heap.size ≤ i
/-- what a call leaves: its error's code, the calls that will fail, the files -/
def After (w : World) (F : Nat → Prop) (s : Nat) (most : Int) (M : Nat) (x : Int × Nat × List SFile) (e : Ending) (w' : World) : Prop :=
  ∃ v L, e = .returned v ∧ ErrV w' x.1 v ∧ StoreAt w' (up F w) s most x.2.1 M L ∧ L.map SRep.f = x.2.2 ∧ Keeps F w w'

theorem nm_f (r : SRep) : SFile.name (SRep.f r) = SRep.nm r := rfl
theorem get_f (nm : ByteArray) (L : List SRep) : getG SFile.name nm (L.map SRep.f) = (getG SRep.nm nm L).map SRep.f := getG_map nm_f nm L
theorem tot_f (L : List SRep) : totF (L.map SRep.f) = totL L := by unfold totF totL; rw [List.map_map]; rfl
theorem begin_named {bad : Nat} {nm : ByteArray} (h : (beginC bad nm).1 = 0) : namedP nm = true := by
  unfold beginC at h
  by_cases hn : namedP nm = true
  · exact hn
  · rw [if_neg hn] at h; cases h
theorem begin_bad (bad : Nat) (nm : ByteArray) : (beginC bad nm).2 ≤ bad := by
  unfold beginC
  by_cases hn : namedP nm = true
  · rw [if_pos hn]; split <;> simp
  · rw [if_neg hn]; exact Nat.le_refl _

section
variable {w w' : World} {F S : Nat → Prop} {s M bad : Nat} {most : Int} {L : List SRep}
theorem ErrV.iface {c : Int} {v : Value} (h : ErrV w c v) (hc : c ≠ 0) : ∃ ty x, v = .iface ty x := by
  rcases h with ⟨h, _⟩ | ⟨_, l, hl⟩
  · exact absurd h hc
  · exact hl.form
theorem ErrV.nil_ {v : Value} (h : ErrV w 0 v) : v = .nilIface := by
  rcases h with ⟨_, h⟩ | ⟨h, _⟩
  · exact h
  · exact absurd rfl h
theorem Keeps.up (h : Keeps (fun i => i = s) w w') (hs : F s) : Keeps F w w' := h.mono fun _ _ e => by rw [e]; exact hs
theorem After.fails {x : Int × Nat × List SFile} {v : Value} (he : ErrV w' x.1 v) (hs : StoreAt w' F s most x.2.1 M L) (hl : x.2.2 = L.map SRep.f) (k : Keeps F w w') : After w F s most M x (.returned v) w' :=
  ⟨v, L, rfl, he, hs.mono fun _ h => .inl h, hl.symm, k⟩
theorem swap_f {r0 r : SRep} (h : Rise SRep.nm L) (h0 : r0 ∈ L) (hn : r.f.name = r0.f.name) : (swapR r L).map SRep.f = putG SFile.name r.f (L.map SRep.f) := by
  rw [swap_put h ⟨r0, h0, hn.symm⟩, putG_map nm_f]
/-- how many bytes are sure -/
theorem StoreAt.setSure {r : SRep} (h : StoreAt w F s most bad M L) (hr : r ∈ L) (n : Nat) (x : Int) (hx : x = n) :
    StoreAt (w.setCell ⟨r.p, 1, none⟩ (.int .i64 x)) F s most bad M (swapR ⟨⟨r.f.name, r.f.data, n⟩, r.p, r.v⟩ L) ∧ Keeps (fun i => i = r.p) w (w.setCell ⟨r.p, 1, none⟩ (.int .i64 x)) := by
  subst hx
  have hf := h.each r hr
  have k : Keeps (fun i => i = r.p) w (w.setCell ⟨r.p, 1, none⟩ (.int .i64 n)) := (Keeps.refl (fun i => i = r.p) w).setCell (p := ⟨r.p, 1, none⟩) (fun _ => rfl) _
  refine ⟨h.swap (r := ⟨⟨r.f.name, r.f.data, n⟩, r.p, r.v⟩) hr rfl rfl (k.mono fun _ _ e => .inl e) (fun _ h => h) ⟨hf.blk.set_ 1 _, hf.own.keeps k (fun i _ ⟨_, hb⟩ => Blk.ne_ hb hf.blk (by decide)), hf.fp, hf.fr⟩ (fun i hi => .inl hi), k⟩
/-- its bytes, which an append left in a world between -/
theorem StoreAt.setBytes {r : SRep} (h : StoreAt w F s most bad M L) (hr : r ∈ L) {v' : Value} {d : ByteArray} (ha : Appended w w' 5 r.v v' (u8Vs d.data.toList)) :
    StoreAt (w'.setCell ⟨r.p, 0, none⟩ v') (up F w) s most bad M (swapR ⟨⟨r.f.name, d, r.f.sure⟩, r.p, v'⟩ L) ∧ Keeps F w (w'.setCell ⟨r.p, 0, none⟩ v') := by
  have hf := h.each r hr
  obtain ⟨ho, k1, hrow⟩ := ha
  have hb1 : Blk w' r.p 84 #[r.v, .int .i64 r.f.sure] := hf.blk.keeps k1 fun e => by
    obtain ⟨cs, hb⟩ := hf.own.row _ e
    exact Blk.ne_ hf.blk hb (by decide) rfl
  have k2 : Keeps (fun i => i = r.p) w' (w'.setCell ⟨r.p, 0, none⟩ v') := (Keeps.refl (fun i => i = r.p) w').setCell (p := ⟨r.p, 0, none⟩) (fun _ => rfl) _
  have k : Keeps (fun i => i = r.p ∨ rowB r.v = some i) w (w'.setCell ⟨r.p, 0, none⟩ v') := (k1.mono fun _ _ h => .inr h).and_ k2 (fun i _ h => .inl h)
  refine ⟨h.swap (r := ⟨⟨r.f.name, d, r.f.sure⟩, r.p, v'⟩) hr rfl rfl k (fun _ h => .inl h) ⟨hb1.set_ 0 _, ho.keeps k2 (fun i _ ⟨_, hb⟩ => Blk.ne_ hb hb1 (by decide)), .inl hf.fp, fun i hi => ?_⟩ (fun i hi => ?_), k.mono fun i _ h => ?_⟩
  · rcases hrow with e | e
    · exact .inl (hf.fr i (e ▸ hi))
    · rw [show rowB v' = some i from hi] at e
      injection e with e
      exact .inr (by omega)
  · rcases hrow with e | e
    · exact .inl (e ▸ hi)
    · rw [show rowB v' = some i from hi] at e
      injection e with e
      exact .inr (by omega)
  · rcases h with rfl | h
    · exact hf.fp
    · exact hf.fr i h

theorem there_some (h : StoreAt w F s most bad M L) {nm : ByteArray} (hn : nm.size ≤ maxLen) {r : SRep} (hg : getG SRep.nm nm L = some r) :
    Calls Tryz.prog 82 #[.pointer (some ⟨s, 0, none⟩), .string nm] w fun e w' => e = .returned (.tuple #[.pointer (some ⟨r.p, 0, none⟩), .nilIface]) ∧ Keeps (fun _ => False) w w' :=
  (there_any h nm hn).mono fun e w' hh => by
    rcases hh with ⟨⟨r', h1, h2⟩ | ⟨h1, _⟩, k⟩
    · rw [hg] at h1; injection h1 with h1; subst h1; exact ⟨h2, k⟩
    · rw [hg] at h1; cases h1
theorem there_none (h : StoreAt w F s most bad M L) {nm : ByteArray} (hn : nm.size ≤ maxLen) (hg : getG SRep.nm nm L = none) :
    Calls Tryz.prog 82 #[.pointer (some ⟨s, 0, none⟩), .string nm] w fun e w' => (∃ a, e = .returned (.tuple #[.pointer none, .iface 185 (.pointer (some ⟨a, 0, none⟩))]) ∧ Chain w' [(0, nm)] 7 (.iface 185 (.pointer (some ⟨a, 0, none⟩)))) ∧ Keeps (fun _ => False) w w' :=
  (there_any h nm hn).mono fun e w' hh => by
    rcases hh with ⟨⟨r', h1, h2⟩ | ⟨_, h2⟩, k⟩
    · rw [hg] at h1; cases h1
    · exact ⟨h2, k⟩

set_option maxRecDepth 100000 in
set_option maxHeartbeats 1000000 in
/-- all bytes of a file are sure -/
theorem sync_any (h : StoreAt w F s most bad M L) (nm : ByteArray) (hb : bad ≤ 9223372036854775807) :
    Calls Tryz.prog 32 #[.pointer (some ⟨s, 0, none⟩), .string nm] w (After w F s most M (syncP bad (L.map SRep.f) nm)) := by
  have HB := Lib.hid (begin_any h nm hb)
  have hfs := h.fs
  have HF := Lib.hid hfs
  clear h hfs
  obtain ⟨c, hc⟩ : ∃ c, c = (beginC bad nm).1 := ⟨_, rfl⟩
  obtain ⟨b', hb'⟩ : ∃ b', b' = (beginC bad nm).2 := ⟨_, rfl⟩
  by_cases h0 : c = 0
  · have hnm := begin_named (hc ▸ h0)
    have hle := (namedP_size hnm).2
    have hsync : syncP bad (L.map SRep.f) nm = match getG SFile.name nm (L.map SRep.f) with | none => (7, b', L.map SRep.f) | some f => (0, b', putG SFile.name ⟨nm, f.data, f.data.size⟩ (L.map SRep.f)) := by
      unfold syncP
      rw [if_neg (by rw [← hc, h0]; simp), ← hb']
    rw [hsync, get_f]
    rw [← hc, ← hb', h0] at HB
    clear hsync hc hb' hnm h0
    have hle2 : nm.size ≤ maxLen := by unfold maxLen; omega
    cases hg : getG SRep.nm nm L with
    | some r =>
      simp only [Option.map_some]
      have HG := Lib.hid hg
      clear hg
      go_enter Tryz.func32, Tryz.ntmps32
      go_wp2_with fail
      refine HB.out.mono ?_
      rintro e w1 ⟨⟨v, rfl, hev⟩, hs1, k1⟩
      obtain rfl := hev.nil_
      have HS1 := Lib.hid hs1
      have HK1 := Lib.hid k1
      clear hs1 k1 hev
      go_wp2_with fail
      refine (there_some HS1.out hle2 HG.out).mono ?_
      rintro e w2 ⟨rfl, k2⟩
      have hr := getG_some HG.out
      have hs2 := HS1.out.keeps k2 (fun _ _ => id)
      have hf := hs2.each r hr.1
      have c0 := hf.blk.cell 0
      have c1 := hf.blk.cell 1
      have f1 := hf.blk.frozen 1
      simp only [List.getElem?_toArray, List.getElem?_cons_zero, List.getElem?_cons_succ] at c0 c1
      obtain ⟨a, cc, hv2⟩ := hf.own.sl
      rw [u8Vs_size] at hv2
      have hss := hs2.setSure hr.1 r.f.data.size _ rfl
      rw [hv2] at c0
      have hrn : r.f.name = nm := hr.2
      have HRN := Lib.hid hrn
      have HSS := Lib.hid hss
      have HR := Lib.hid hr.1
      have HS2 := Lib.hid hs2
      have HK2 := Lib.hid k2
      clear hr hs2 hf hv2 hrn hss k2
      go_wp2_with fail
      go_ret
      refine ⟨_, _, rfl, ErrV.ok, HSS.out.1.mono fun _ h => .inl h, ?_, ?_⟩
      · refine (swap_f (r := ⟨⟨r.f.name, r.f.data, r.f.data.size⟩, r.p, r.v⟩) HS2.out.rise HR.out rfl).trans ?_
        rw [HRN.out]
      · exact ((HK1.out.up HF.out).trans (Keeps.none_ HK2.out)).trans (HSS.out.2.mono fun i _ e => by rw [e]; exact (HS2.out.each r HR.out).fp)
    | none =>
      simp only [Option.map_none]
      have HG := Lib.hid hg
      clear hg
      go_enter Tryz.func32, Tryz.ntmps32
      go_wp2_with fail
      refine HB.out.mono ?_
      rintro e w1 ⟨⟨v, rfl, hev⟩, hs1, k1⟩
      obtain rfl := hev.nil_
      have HS1 := Lib.hid hs1
      have HK1 := Lib.hid k1
      clear hs1 k1 hev
      go_wp2_with fail
      refine (there_none HS1.out hle2 HG.out).mono ?_
      rintro e w2 ⟨⟨a, rfl, hch⟩, k2⟩
      have HCH := Lib.hid hch
      have HK2 := Lib.hid k2
      clear hch k2
      go_wp2_with fail
      go_ret
      exact After.fails (.inr ⟨(by decide : (7 : Int) ≠ 0), _, HCH.out⟩) (HS1.out.keeps HK2.out (fun _ _ => id)) rfl ((HK1.out.up HF.out).trans (Keeps.none_ HK2.out))
  · have hsync : syncP bad (L.map SRep.f) nm = (c, b', L.map SRep.f) := by
      unfold syncP
      rw [if_pos (by rw [← hc]; exact h0), ← hb', ← hc]
    rw [hsync]
    rw [← hc, ← hb'] at HB
    clear hsync hc hb'
    go_enter Tryz.func32, Tryz.ntmps32
    go_wp2_with fail
    refine HB.out.mono ?_
    rintro e w1 ⟨⟨v, rfl, hev⟩, hs1, k1⟩
    have HEV := Lib.hid hev
    obtain ⟨ty, x, rfl⟩ := hev.iface h0
    have HS1 := Lib.hid hs1
    have HK1 := Lib.hid k1
    clear hs1 k1 hev
    go_wp2_with fail
    go_ret
    exact After.fails HEV.out HS1.out rfl (HK1.out.up HF.out)

theorem del_f (nm : ByteArray) (L : List SRep) : (delG SRep.nm nm L).map SRep.f = delG SFile.name nm (L.map SRep.f) := delG_map nm_f nm L
set_option maxRecDepth 100000 in
set_option maxHeartbeats 1000000 in
/-- a file goes -/
theorem remove_any (h : StoreAt w F s most bad M L) (nm : ByteArray) (hb : bad ≤ 9223372036854775807) :
    Calls Tryz.prog 85 #[.pointer (some ⟨s, 0, none⟩), .string nm] w (After w F s most M (removeP bad (L.map SRep.f) nm)) := by
  have HB := Lib.hid (begin_any h nm hb)
  have hfs := h.fs
  have HF := Lib.hid hfs
  have HFM := Lib.hid h.fM
  clear h hfs
  obtain ⟨c, hc⟩ : ∃ c, c = (beginC bad nm).1 := ⟨_, rfl⟩
  obtain ⟨b', hb'⟩ : ∃ b', b' = (beginC bad nm).2 := ⟨_, rfl⟩
  by_cases h0 : c = 0
  · have hnm := begin_named (hc ▸ h0)
    have hle := (namedP_size hnm).2
    have hsync : removeP bad (L.map SRep.f) nm = match getG SFile.name nm (L.map SRep.f) with | none => (7, b', L.map SRep.f) | some _ => (0, b', delG SFile.name nm (L.map SRep.f)) := by
      unfold removeP
      rw [if_neg (by rw [← hc, h0]; simp), ← hb']
    rw [hsync, get_f]
    rw [← hc, ← hb', h0] at HB
    clear hsync hc hb' hnm h0
    have hle2 : nm.size ≤ maxLen := by unfold maxLen; omega
    cases hg : getG SRep.nm nm L with
    | some r =>
      simp only [Option.map_some]
      have HG := Lib.hid hg
      clear hg
      go_enter Tryz.func85, Tryz.ntmps85
      go_wp2_with fail
      refine HB.out.mono ?_
      rintro e w1 ⟨⟨v, rfl, hev⟩, hs1, k1⟩
      obtain rfl := hev.nil_
      have HS1 := Lib.hid hs1
      have HK1 := Lib.hid k1
      clear hs1 k1 hev
      go_wp2_with fail
      refine (there_some HS1.out hle2 HG.out).mono ?_
      rintro e w2 ⟨rfl, k2⟩
      have hs2 := HS1.out.keeps k2 (fun _ _ => id)
      obtain ⟨c0, c1, c2⟩ := hs2.top.cells3
      obtain ⟨w3, hrun, hs3, k3⟩ := hs2.del nm hle2 0
      have HS3 := Lib.hid hs3
      have HK2 := Lib.hid k2
      have HK3 := Lib.hid k3
      clear hs2 hs3 k2 k3
      go_wp2_with fail
      go_ret
      exact ⟨_, _, rfl, ErrV.ok, HS3.out.mono fun _ h => .inl h, del_f nm L, ((HK1.out.up HF.out).trans (Keeps.none_ HK2.out)).trans (HK3.out.mono fun i _ e => by rw [e]; exact HFM.out)⟩
    | none =>
      simp only [Option.map_none]
      have HG := Lib.hid hg
      clear hg
      go_enter Tryz.func85, Tryz.ntmps85
      go_wp2_with fail
      refine HB.out.mono ?_
      rintro e w1 ⟨⟨v, rfl, hev⟩, hs1, k1⟩
      obtain rfl := hev.nil_
      have HS1 := Lib.hid hs1
      have HK1 := Lib.hid k1
      clear hs1 k1 hev
      go_wp2_with fail
      refine (there_none HS1.out hle2 HG.out).mono ?_
      rintro e w2 ⟨⟨a, rfl, hch⟩, k2⟩
      have HCH := Lib.hid hch
      have HK2 := Lib.hid k2
      clear hch k2
      go_wp2_with fail
      go_ret
      exact After.fails (.inr ⟨(by decide : (7 : Int) ≠ 0), _, HCH.out⟩) (HS1.out.keeps HK2.out (fun _ _ => id)) rfl ((HK1.out.up HF.out).trans (Keeps.none_ HK2.out))
  · have hsync : removeP bad (L.map SRep.f) nm = (c, b', L.map SRep.f) := by
      unfold removeP
      rw [if_pos (by rw [← hc]; exact h0), ← hb', ← hc]
    rw [hsync]
    rw [← hc, ← hb'] at HB
    clear hsync hc hb'
    go_enter Tryz.func85, Tryz.ntmps85
    go_wp2_with fail
    refine HB.out.mono ?_
    rintro e w1 ⟨⟨v, rfl, hev⟩, hs1, k1⟩
    have HEV := Lib.hid hev
    obtain ⟨ty, x, rfl⟩ := hev.iface h0
    have HS1 := Lib.hid hs1
    have HK1 := Lib.hid k1
    clear hs1 k1 hev
    go_wp2_with fail
    go_ret
    exact After.fails HEV.out HS1.out rfl (HK1.out.up HF.out)
end
end Go.Proofs.YtdbnalocmjkncaaGreatDoor

/-
  store: Rename, Append.
-/
namespace Go.Proofs.YtdbnalocmjkncaaGreatDoor
open Go.RowKit Go.Maps

section
variable {w w' : World} {F S : Nat → Prop} {s M bad : Nat} {most : Int} {L : List SRep}
theorem StoreAt.off (h : StoreAt w F s most bad M L) {a r : SRep} (ha : a ∈ L) (hr : r ∈ L) (hne : a ≠ r) : Off a r := by
  have : ∀ {l : List SRep}, l.Pairwise Off → a ∈ l → r ∈ l → Off a r := by
    intro l hl h1 h2
    induction l with
    | nil => cases h1
    | cons x l ih =>
      obtain ⟨p1, p2⟩ := List.pairwise_cons.1 hl
      rcases List.mem_cons.1 h1 with rfl | h1'
      · rcases List.mem_cons.1 h2 with e | h2'
        · exact absurd e.symm hne
        · exact p1 r h2'
      · rcases List.mem_cons.1 h2 with rfl | h2'
        · exact (p1 a h1').symm
        · exact ih p2 h1' h2'
  exact this h.apart ha hr
/-- one of its files under another name, the old one gone -/
theorem StoreAt.move {r : SRep} (h : StoreAt w F s most bad M L) (hr : r ∈ L) (to : ByteArray) {w1 : World} (h1 : StoreAt w1 F s most bad M (delG SRep.nm r.f.name L)) (k1 : Keeps (fun i => i = M) w w1) (hto : to.size ≤ maxLen) (hL : L.length ≤ 4294967296) :
    ∃ w2, (Instr.mapUpdate 79 (.map (some M)) (.string to) (.pointer (some ⟨r.p, 0, none⟩))).run Tryz.prog w1 = .ok () w2 ∧ StoreAt w2 F s most bad M (putG SRep.nm ⟨⟨to, r.f.data, r.f.sure⟩, r.p, r.v⟩ (delG SRep.nm r.f.name L)) ∧ Keeps (fun i => i = M) w1 w2 := by
  have hf := h.each r hr
  have hne : ∀ {b : Nat} {t : TypeId} {cs : Array Value}, Blk w b t cs → ¬ b = M := fun hb => blk_map_ne hb h.isMap
  refine h1.put ⟨⟨to, r.f.data, r.f.sure⟩, r.p, r.v⟩ ⟨hf.blk.keeps k1 (hne hf.blk), hf.own.keeps k1 (fun i _ ⟨_, hb⟩ => hne hb), hf.fp, hf.fr⟩ (fun a ha => ?_) hto ?_
  · obtain ⟨ha, _⟩ := delG_mem.1 ha
    obtain ⟨ha, hn⟩ := delG_mem.1 ha
    have ho := h.off hr ha (fun e => hn (by rw [← e]; rfl))
    exact ho
  · have : (delG SRep.nm r.f.name L).length ≤ L.length := List.length_filter_le _ _
    unfold maxLen
    omega

set_option maxRecDepth 100000 in
set_option maxHeartbeats 1000000 in
/-- a file is called otherwise -/
theorem rename_any (h : StoreAt w F s most bad M L) (nm to : ByteArray) (hb : bad ≤ 9223372036854775807) (hL : L.length ≤ 4294967296) :
    Calls Tryz.prog 87 #[.pointer (some ⟨s, 0, none⟩), .string nm, .string to] w (After w F s most M (renameP bad (L.map SRep.f) nm to)) := by
  have HB := Lib.hid (begin_any h nm hb)
  have hfs := h.fs
  have HF := Lib.hid hfs
  have HFM := Lib.hid h.fM
  clear h hfs
  obtain ⟨c, hc⟩ : ∃ c, c = (beginC bad nm).1 := ⟨_, rfl⟩
  obtain ⟨b', hb'⟩ : ∃ b', b' = (beginC bad nm).2 := ⟨_, rfl⟩
  by_cases h0 : c = 0
  · have hnm := begin_named (hc ▸ h0)
    have hle := (namedP_size hnm).2
    have hle2 : nm.size ≤ maxLen := by unfold maxLen; omega
    by_cases hto : namedP to = true
    · have htl := (namedP_size hto).2
      have htl2 : to.size ≤ maxLen := by unfold maxLen; omega
      have hsync : renameP bad (L.map SRep.f) nm to = match getG SFile.name nm (L.map SRep.f) with | none => (7, b', L.map SRep.f) | some f => (0, b', putG SFile.name ⟨to, f.data, f.sure⟩ (delG SFile.name nm (L.map SRep.f))) := by
        unfold renameP
        rw [if_neg (by rw [← hc, h0]; simp), if_neg (by rw [hto]; simp), ← hb']
        try (cases getG SFile.name nm (L.map SRep.f) <;> rfl)
      rw [hsync, get_f]
      rw [← hc, ← hb', h0] at HB
      have HTO := Lib.hid hto
      clear hsync hc hb' hnm h0 hto
      cases hg : getG SRep.nm nm L with
      | some r =>
        simp only [Option.map_some]
        have HG := Lib.hid hg
        clear hg
        go_enter Tryz.func87, Tryz.ntmps87
        go_wp2_with fail
        refine HB.out.mono ?_
        rintro e w1 ⟨⟨v, rfl, hev⟩, hs1, k1⟩
        obtain rfl := hev.nil_
        have HS1 := Lib.hid hs1
        have HK1 := Lib.hid k1
        clear hs1 k1 hev
        go_wp2_with fail
        refine (named_any w1 to).mono ?_
        rintro e wx ⟨rfl, hwx⟩
        obtain rfl : w1 = wx := hwx.symm
        rw [HTO.out]
        go_wp2_with fail
        refine (there_some HS1.out hle2 HG.out).mono ?_
        rintro e w2 ⟨rfl, k2⟩
        have hr := getG_some HG.out
        have hs2 := HS1.out.keeps k2 (fun _ _ => id)
        obtain ⟨c0, c1, c2⟩ := hs2.top.cells3
        obtain ⟨w3, hrun, hs3, k3⟩ := hs2.del nm hle2 0
        have hrn : r.f.name = nm := hr.2
        have hs3' := hs3
        rw [← hrn] at hs3'
        obtain ⟨w4, hrun4, hs4, k4⟩ := hs2.move hr.1 to hs3' k3 htl2 hL
        obtain ⟨d0, d1, d2⟩ := hs3.top.cells3
        rw [hrn] at hs4
        have HS4 := Lib.hid hs4
        have HK2 := Lib.hid k2
        have HK3 := Lib.hid k3
        have HK4 := Lib.hid k4
        have HR := Lib.hid hr.1
        clear hs2 hs3 hs3' hs4 k2 k3 k4 hr hrn
        go_wp2_with fail
        go_ret
        refine ⟨_, _, rfl, ErrV.ok, HS4.out.mono fun _ h => .inl h, ?_, (((HK1.out.up HF.out).trans (Keeps.none_ HK2.out)).trans (HK3.out.mono fun i _ e => by rw [e]; exact HFM.out)).trans (HK4.out.mono fun i _ e => by rw [e]; exact HFM.out)⟩
        refine (putG_map nm_f _ _).trans ?_
        rw [del_f]
      | none =>
        simp only [Option.map_none]
        have HG := Lib.hid hg
        clear hg
        go_enter Tryz.func87, Tryz.ntmps87
        go_wp2_with fail
        refine HB.out.mono ?_
        rintro e w1 ⟨⟨v, rfl, hev⟩, hs1, k1⟩
        obtain rfl := hev.nil_
        have HS1 := Lib.hid hs1
        have HK1 := Lib.hid k1
        clear hs1 k1 hev
        go_wp2_with fail
        refine (named_any w1 to).mono ?_
        rintro e wx ⟨rfl, hwx⟩
        obtain rfl : w1 = wx := hwx.symm
        rw [HTO.out]
        go_wp2_with fail
        refine (there_none HS1.out hle2 HG.out).mono ?_
        rintro e w2 ⟨⟨a, rfl, hch⟩, k2⟩
        have HCH := Lib.hid hch
        have HK2 := Lib.hid k2
        clear hch k2
        go_wp2_with fail
        go_ret
        exact After.fails (.inr ⟨(by decide : (7 : Int) ≠ 0), _, HCH.out⟩) (HS1.out.keeps HK2.out (fun _ _ => id)) rfl ((HK1.out.up HF.out).trans (Keeps.none_ HK2.out))
    · have hsync : renameP bad (L.map SRep.f) nm to = (1, b', L.map SRep.f) := by
        unfold renameP
        rw [if_neg (by rw [← hc, h0]; simp), if_pos (by simpa using hto), ← hb']
      rw [hsync]
      rw [← hc, ← hb', h0] at HB
      have HTO := Lib.hid (show namedP to = false by simpa using hto)
      clear hsync hc hb' hnm h0 hto
      go_enter Tryz.func87, Tryz.ntmps87
      go_wp2_with fail
      refine HB.out.mono ?_
      rintro e w1 ⟨⟨v, rfl, hev⟩, hs1, k1⟩
      obtain rfl := hev.nil_
      have HS1 := Lib.hid hs1
      have HK1 := Lib.hid k1
      clear hs1 k1 hev
      go_wp2_with fail
      refine (named_any w1 to).mono ?_
      rintro e wx ⟨rfl, hwx⟩
      obtain rfl : w1 = wx := hwx.symm
      rw [HTO.out]
      go_wp2_with fail
      refine (new_err _ 1 to (by decide)).mono ?_
      rintro e w2 ⟨⟨a, rfl, hch⟩, k2⟩
      have HCH := Lib.hid hch
      have HK2 := Lib.hid k2
      clear hch k2
      go_wp2_with fail
      go_ret
      exact After.fails (.inr ⟨(by decide : (1 : Int) ≠ 0), _, HCH.out⟩) (HS1.out.keeps HK2.out (fun _ _ => id)) rfl ((HK1.out.up HF.out).trans (Keeps.none_ HK2.out))
  · have hsync : renameP bad (L.map SRep.f) nm to = (c, b', L.map SRep.f) := by
      unfold renameP
      rw [if_pos (by rw [← hc]; exact h0), ← hb', ← hc]
    rw [hsync]
    rw [← hc, ← hb'] at HB
    clear hsync hc hb'
    go_enter Tryz.func87, Tryz.ntmps87
    go_wp2_with fail
    refine HB.out.mono ?_
    rintro e w1 ⟨⟨v, rfl, hev⟩, hs1, k1⟩
    have HEV := Lib.hid hev
    obtain ⟨ty, x, rfl⟩ := hev.iface h0
    have HS1 := Lib.hid hs1
    have HK1 := Lib.hid k1
    clear hs1 k1 hev
    go_wp2_with fail
    go_ret
    exact After.fails HEV.out HS1.out rfl (HK1.out.up HF.out)

/-- a new file, empty so far -/
theorem StoreAt.fresh (h : StoreAt w F s most bad M L) {nm : ByteArray} (hn : nm.size ≤ maxLen) (hL : L.length ≤ 4294967296) :
    ∃ w2, (Instr.mapUpdate 79 (.map (some M)) (.string nm) (.pointer (some ⟨w.heap.size, 0, none⟩))).run Tryz.prog (w.alloc (.cells #[.slice none 0 0, .int .i64 0] 84)) = .ok () w2 ∧
      StoreAt w2 (up F w) s most bad M (putG SRep.nm ⟨⟨nm, ⟨#[]⟩, 0⟩, w.heap.size, .slice none 0 0⟩ L) ∧ Keeps F w w2 := by
  have k1 : Keeps (fun _ => False) w (w.alloc (.cells #[.slice none 0 0, .int .i64 0] 84)) := (Keeps.refl _ _).alloc _
  have h1 := (h.keeps k1 (fun _ _ => id)).mono (G := up F w) (fun _ h => .inl h)
  have hap : ∀ a ∈ delG SRep.nm nm L, Off ⟨⟨nm, ⟨#[]⟩, 0⟩, w.heap.size, .slice none 0 0⟩ a := fun a ha => by
    have hb := (h.each a (delG_mem.1 ha).1).blk.lt
    refine ⟨fun e => ?_, fun i hi => ?_⟩
    · have : w.heap.size = a.p := e
      omega
    · rw [show rowB (SRep.mk ⟨nm, ⟨#[]⟩, 0⟩ w.heap.size (.slice none 0 0)).v = none from rfl] at hi
      cases hi
  obtain ⟨w2, hrun, hs, k2⟩ := h1.put ⟨⟨nm, ⟨#[]⟩, 0⟩, w.heap.size, .slice none 0 0⟩ ⟨Blk.new w _ _, .inl ⟨rfl, none, rfl⟩, .inr (Nat.le_refl _), fun i hi => by rw [show rowB (SRep.mk ⟨nm, ⟨#[]⟩, 0⟩ w.heap.size (.slice none 0 0)).v = none from rfl] at hi; cases hi⟩ hap hn (by unfold maxLen; omega)
  exact ⟨w2, hrun, hs, (Keeps.none_ k1 : Keeps F w _).and_ k2 fun i _ e => by rw [e]; exact h.fM⟩
theorem delG_insG {α : Type} {nm : α → ByteArray} {x : α} {n : ByteArray} (h : nm x = n) : ∀ l : List α, delG nm n (insG nm x l) = delG nm n l
  | [] => by unfold insG delG; rw [List.filter_cons_of_neg (by simpa using h)]
  | y :: r => by
    unfold insG
    split
    · unfold delG
      rw [List.filter_cons_of_neg (by simpa using h)]
    · have ih := delG_insG h r
      unfold delG at ih ⊢
      rw [List.filter_cons, List.filter_cons, ih]
theorem delG_delG {α : Type} {nm : α → ByteArray} {n : ByteArray} (l : List α) : delG nm n (delG nm n l) = delG nm n l := by
  unfold delG; rw [List.filter_filter]; simp
theorem tot_ge {L : List SRep} {r : SRep} (h : r ∈ L) : r.f.data.size ≤ totL L := by
  induction L with
  | nil => cases h
  | cons a L ih =>
    rw [totL_cons]
    rcases List.mem_cons.1 h with rfl | h
    · omega
    · have := ih h; omega
/-- behind an append to a file's bytes: the file as it stands, to be stored into -/
theorem app_file {w w' : World} {F : Nat → Prop} {r : SRep} {a : Option Addr} {n c : Nat} {v' : Value} {vs : List Value} (hf : FileOk w F r) (hv : r.v = .slice a n c) (ha : Appended w w' 5 (.slice a n c) v' vs) :
    (∃ a n c, v' = .slice a n c) ∧ w'.cell? ⟨r.p, 0, none⟩ = some (.slice a n c) ∧ w'.frozen? ⟨r.p, 0, none⟩ = false := by
  have hb4 : Blk w' r.p 84 #[r.v, .int .i64 r.f.sure] := hf.blk.keeps ha.2.1 fun e => by
    rw [← hv] at e
    obtain ⟨cs, hbb⟩ := hf.own.row _ e
    exact Blk.ne_ hf.blk hbb (by decide) rfl
  have g0 := hb4.cell 0
  simp only [List.getElem?_toArray, List.getElem?_cons_zero] at g0
  rw [hv] at g0
  exact ⟨ha.1.sl3, g0, hb4.frozen 0⟩
theorem up_up {F : Nat → Prop} {w w' : World} (h : w.heap.size ≤ w'.heap.size) : ∀ i, up (up F w) w' i → up F w i := fun i hi => by
  rcases hi with hi | hi
  · exact hi
  · exact .inr (by omega)
theorem keeps_of_up {w1 w2 : World} (h : Keeps F w w1) (k : Keeps (up F w) w1 w2) : Keeps F w w2 := h.and_ k fun i hi hh => by
  rcases hh with hh | hh
  · exact hh
  · omega
theorem putG_swap {r r' : SRep} (h : Rise SRep.nm L) (hn : r'.f.name = r.f.name) : (swapR r' (putG SRep.nm r L)).map SRep.f = putG SFile.name r'.f (L.map SRep.f) := by
  rw [swap_f (r0 := r) (putG_rise h r) (insG_mem.2 (.inl rfl)) hn, putG_map nm_f]
  unfold putG
  rw [hn]
  have hd : delG SFile.name r.f.name (insG SFile.name r.f (delG SFile.name r.f.name (L.map SRep.f))) = delG SFile.name r.f.name (L.map SRep.f) := by
    rw [delG_insG rfl, delG_delG]
  exact congrArg _ hd

set_option maxRecDepth 100000 in
set_option maxHeartbeats 1000000 in
/-- more bytes -/
theorem append_any (h : StoreAt w F s most bad M L) (nm b : ByteArray) (hb : bad ≤ 9223372036854775807) (hL : L.length ≤ 4294967296) (hm1 : 1 ≤ most) (hm : most ≤ 16777216) (ht : (totL L : Int) ≤ most) (hbz : b.size ≤ 17179869184) :
    Calls Tryz.prog 29 #[.pointer (some ⟨s, 0, none⟩), .string nm, .string b] w (After w F s most M (appendP most bad (L.map SRep.f) nm b)) := by
  have HB := Lib.hid (begin_any h nm hb)
  have hfs := h.fs
  have HF := Lib.hid hfs
  have HFM := Lib.hid h.fM
  clear h hfs
  obtain ⟨c, hc⟩ : ∃ c, c = (beginC bad nm).1 := ⟨_, rfl⟩
  obtain ⟨b', hb'⟩ : ∃ b', b' = (beginC bad nm).2 := ⟨_, rfl⟩
  by_cases h0 : c = 0
  · have hnm := begin_named (hc ▸ h0)
    have hle := (namedP_size hnm).2
    have hle2 : nm.size ≤ maxLen := by unfold maxLen; omega
    obtain ⟨T, hT⟩ : ∃ T, T = totL L := ⟨_, rfl⟩
    have hTot : ∀ w1 : World, StoreAt w1 F s most b' M L → Calls Tryz.prog 78 #[.pointer (some ⟨s, 0, none⟩)] w1 fun e w' => e = .returned (.int .i64 (T : Nat)) ∧ Keeps (fun _ => False) w1 w' := fun w1 h1 => by
      rw [hT]; exact total_any h1 (by omega)
    rw [← hT] at ht
    have HTOT := Lib.hid hTot
    clear hTot
    have hw : IntKind.i64.wrap (most - (T : Int)) = most - T := IntWalk.i64_in _ (by omega)
    by_cases hfull : most < (T : Int) + b.size
    · have hsync : appendP most bad (L.map SRep.f) nm b = (6, b', L.map SRep.f) := by
        unfold appendP
        rw [if_neg (by rw [← hc, h0]; simp), tot_f, ← hT, if_pos hfull, ← hb']
      rw [hsync]
      rw [← hc, ← hb', h0] at HB
      have hcmp : decide (most - (T : Int) < (b.size : Int)) = true := decide_eq_true (by omega)
      clear hsync hc hb' hnm h0 hT
      go_enter Tryz.func29, Tryz.ntmps29
      go_wp2_with fail
      refine HB.out.mono ?_
      rintro e w1 ⟨⟨v, rfl, hev⟩, hs1, k1⟩
      obtain rfl := hev.nil_
      have HS1 := Lib.hid hs1
      have HK1 := Lib.hid k1
      obtain ⟨c0, c1, c2⟩ := hs1.top.cells3
      clear hs1 k1 hev c0 c2
      go_wp2_with fail
      go_region_held3 (fun w' => w'.cell? ⟨s, 1, none⟩ = some (.int .i64 most) ∧ Keeps (fun _ => False) w1 w')
        ((first | exact ⟨c1, by (repeat (first | (with_reducible assumption) | (with_reducible exact Keeps.refl _ _) | refine Keeps.drew ?_ | refine Keeps.drewN ?_ _ | refine Keeps.setCell ?_ (by simp) _ | refine Keeps.setRow ?_ (by simp) _ | refine Keeps.alloc ?_ _))⟩ | exact ⟨d1, kk⟩))
        ((go_at_call 78; rename_i hh _ _; refine (HTOT.out _ (HS1.out.keeps hh.2 (fun _ _ => id))).mono ?_; rintro e w3 ⟨rfl, k3⟩; have kk : Keeps (fun _ => False) w1 w3 := hh.2.trans k3; have d1 := (HS1.out.top.keeps kk id).cells3.2.1))
      go_wp2_with fail
      refine (new_err _ 6 nm (by decide)).mono ?_
      rintro e w4 ⟨⟨a, rfl, hch⟩, k4⟩
      have HCH := Lib.hid hch
      have HK4 := Lib.hid (kk.trans k4)
      clear hch k4
      go_wp2_with fail
      go_ret
      exact After.fails (.inr ⟨(by decide : (6 : Int) ≠ 0), _, HCH.out⟩) (HS1.out.keeps HK4.out (fun _ _ => id)) rfl ((HK1.out.up HF.out).trans (Keeps.none_ HK4.out))
    · have hcmp : decide (most - (T : Int) < (b.size : Int)) = false := decide_eq_false (by omega)
      have hcmp2 : (b.size : Int) ≤ most - T := by omega
      have hsync : appendP most bad (L.map SRep.f) nm b = match getG SFile.name nm (L.map SRep.f) with | none => (0, b', putG SFile.name ⟨nm, b, 0⟩ (L.map SRep.f)) | some f => (0, b', putG SFile.name ⟨nm, f.data ++ b, f.sure⟩ (L.map SRep.f)) := by
        unfold appendP
        rw [if_neg (by rw [← hc, h0]; simp), tot_f, ← hT, if_neg hfull, ← hb']
        try (cases getG SFile.name nm (L.map SRep.f) <;> rfl)
      rw [hsync, get_f]
      rw [← hc, ← hb', h0] at HB
      have HT := Lib.hid hT
      clear hsync hc hb' hnm h0 hT hfull
      cases hg : getG SRep.nm nm L with
      | some r =>
        simp only [Option.map_some]
        have HG := Lib.hid hg
        clear hg
        go_enter Tryz.func29, Tryz.ntmps29
        go_wp2_with fail
        refine HB.out.mono ?_
        rintro e w1 ⟨⟨v, rfl, hev⟩, hs1, k1⟩
        obtain rfl := hev.nil_
        have HS1 := Lib.hid hs1
        have HK1 := Lib.hid k1
        obtain ⟨c0, c1, c2⟩ := hs1.top.cells3
        clear hs1 k1 hev c0 c2
        go_wp2_with fail
        go_region_held3 (fun w' => w'.cell? ⟨s, 1, none⟩ = some (.int .i64 most) ∧ Keeps (fun _ => False) w1 w')
          ((first | exact ⟨c1, by (repeat (first | (with_reducible assumption) | (with_reducible exact Keeps.refl _ _) | refine Keeps.drew ?_ | refine Keeps.drewN ?_ _ | refine Keeps.setCell ?_ (by simp) _ | refine Keeps.setRow ?_ (by simp) _ | refine Keeps.alloc ?_ _))⟩ | exact ⟨d1, kk⟩))
          ((go_at_call 78; rename_i hh _ _; refine (HTOT.out _ (HS1.out.keeps hh.2 (fun _ _ => id))).mono ?_; rintro e w3 ⟨rfl, k3⟩; have kk : Keeps (fun _ => False) w1 w3 := hh.2.trans k3; have d1 := (HS1.out.top.keeps kk id).cells3.2.1))
        have hs3 := HS1.out.keeps kk (fun _ _ => id)
        obtain ⟨d0, d1', d2⟩ := hs3.top.cells3
        have hl := hs3.look nm hle2
        rw [HG.out] at hl
        simp only [Option.map_some, Option.isSome_some] at hl
        have hr := getG_some HG.out
        have hf := hs3.each r hr.1
        have f0 := hf.blk.cell 0
        have z0 := hf.blk.frozen 0
        simp only [List.getElem?_toArray, List.getElem?_cons_zero] at f0
        have hdz : r.f.data.size ≤ 16777216 := by
          have h1 : r.f.data.size ≤ totL L := by
            exact tot_ge hr.1
          have := HT.out
          omega
        obtain ⟨a, cc, hv2⟩ := hf.own.sl
        rw [u8Vs_size] at hv2
        rw [hv2] at f0
        have HRN := Lib.hid (show r.f.name = nm from hr.2)
        have HR := Lib.hid hr.1
        have HS3 := Lib.hid hs3
        have HKK := Lib.hid kk
        have HF3 := Lib.hid hf
        have HV2 := Lib.hid hv2
        have HDZ := Lib.hid hdz
        clear hs3 hf hr hv2 kk hdz
        go_wp2_with (with_reducible show wpList _ _ _ (⟨some 53, _, _, _, _, _⟩ :: _) _ _; go_must (refine wpList_append_qs rfl (.tmp 51) (.tmp 52) 82 9 rfl 5 Tryz.underlying82 Tryz.underlying9 (by kernel_rfl) (.slice a r.f.data.size cc) (u8Vs r.f.data.data.toList) rfl (by rw [← HV2.out]; exact HF3.out.own) b rfl (by rw [u8Vs_size]; have := HDZ.out; omega) ?_; intro v' w4 ha; have hA := app_file HF3.out HV2.out ha; obtain ⟨hsl, g0, y0⟩ := hA; obtain ⟨a', n', cc', hv'⟩ := hsl; subst hv'; have HA := Lib.hid ha; clear ha))
        go_ret
        have ha2 : Appended w3 w4 5 r.v (.slice a' n' cc') (u8Vs (r.f.data ++ b).data.toList) := by
          have e : (r.f.data ++ b).data.toList = r.f.data.data.toList ++ b.data.toList := by simp
          rw [e, u8Vs_app, HV2.out]; exact HA.out
        have hsb := HS3.out.setBytes HR.out ha2
        refine ⟨_, _, rfl, ErrV.ok, hsb.1.mono (fun i hi => ?_), ?_, ((HK1.out.up HF.out).trans (Keeps.none_ HKK.out)).trans hsb.2⟩
        · rcases hi with hi | hi
          · exact .inl hi
          · exact .inr (Nat.le_trans (Nat.le_trans HK1.out.size HKK.out.size) hi)
        · refine (swap_f (r := ⟨⟨r.f.name, r.f.data ++ b, r.f.sure⟩, r.p, .slice a' n' cc'⟩) HS3.out.rise HR.out rfl).trans ?_
          rw [HRN.out]
      | none =>
        simp only [Option.map_none]
        have HG := Lib.hid hg
        clear hg
        go_enter Tryz.func29, Tryz.ntmps29
        go_wp2_with fail
        refine HB.out.mono ?_
        rintro e w1 ⟨⟨v, rfl, hev⟩, hs1, k1⟩
        obtain rfl := hev.nil_
        have HS1 := Lib.hid hs1
        have HK1 := Lib.hid k1
        obtain ⟨c0, c1, c2⟩ := hs1.top.cells3
        clear hs1 k1 hev c0 c2
        go_wp2_with fail
        go_region_held3 (fun w' => w'.cell? ⟨s, 1, none⟩ = some (.int .i64 most) ∧ Keeps (fun _ => False) w1 w')
          ((first | exact ⟨c1, by (repeat (first | (with_reducible assumption) | (with_reducible exact Keeps.refl _ _) | refine Keeps.drew ?_ | refine Keeps.drewN ?_ _ | refine Keeps.setCell ?_ (by simp) _ | refine Keeps.setRow ?_ (by simp) _ | refine Keeps.alloc ?_ _))⟩ | exact ⟨d1, kk⟩))
          ((go_at_call 78; rename_i hh _ _; refine (HTOT.out _ (HS1.out.keeps hh.2 (fun _ _ => id))).mono ?_; rintro e w3 ⟨rfl, k3⟩; have kk : Keeps (fun _ => False) w1 w3 := hh.2.trans k3; have d1 := (HS1.out.top.keeps kk id).cells3.2.1))
        have hs3 := HS1.out.keeps kk (fun _ _ => id)
        obtain ⟨d0, d1', d2⟩ := hs3.top.cells3
        have hl := hs3.look nm hle2
        rw [HG.out] at hl
        simp only [Option.map_none, Option.isSome_none] at hl
        obtain ⟨w4, hrun, hs4, k4⟩ := hs3.fresh (nm := nm) hle2 hL
        obtain ⟨p0, p1, p2⟩ := (hs3.top.alloc (.cells #[.slice none 0 0, .int .i64 0] 84)).cells3
        have hr : (⟨⟨nm, ⟨#[]⟩, 0⟩, w3.heap.size, .slice none 0 0⟩ : SRep) ∈ putG SRep.nm ⟨⟨nm, ⟨#[]⟩, 0⟩, w3.heap.size, .slice none 0 0⟩ L := insG_mem.2 (.inl rfl)
        have hf := hs4.each _ hr
        have f0 := hf.blk.cell 0
        simp only [List.getElem?_toArray, List.getElem?_cons_zero] at f0
        have HS4 := Lib.hid hs4
        have HK4 := Lib.hid k4
        have HKK := Lib.hid kk
        have HR := Lib.hid hr
        have HF3 := Lib.hid hf
        have HRS := Lib.hid hs3.rise
        clear hs3 hs4 k4 kk hr hf
        go_wp2_with (with_reducible show wpList _ _ _ (⟨some 53, _, _, _, _, _⟩ :: _) _ _; go_must (refine wpList_append_qs rfl (.tmp 51) (.tmp 52) 82 9 rfl 5 Tryz.underlying82 Tryz.underlying9 (by kernel_rfl) (.slice none 0 0) [] rfl OwnQ.none_ b rfl (by simp; omega) ?_; intro v' w5 ha; have hA := app_file HF3.out rfl ha; obtain ⟨hsl, g0, y0⟩ := hA; obtain ⟨a', n', cc', hv'⟩ := hsl; subst hv'; have HA := Lib.hid ha; clear ha))
        go_ret
        have hsb := HS4.out.setBytes (d := b) HR.out HA.out
        refine ⟨_, _, rfl, ErrV.ok, hsb.1.mono (fun i hi => ?_), ?_, keeps_of_up (((HK1.out.up HF.out).trans (Keeps.none_ HKK.out)).trans HK4.out) (hsb.2.mono fun i _ hi => ?_)⟩
        · rcases hi with hi | hi
          · rcases hi with hi | hi
            · exact .inl hi
            · exact .inr (Nat.le_trans (Nat.le_trans HK1.out.size HKK.out.size) hi)
          · exact .inr (Nat.le_trans (Nat.le_trans (Nat.le_trans HK1.out.size HKK.out.size) HK4.out.size) hi)
        · exact putG_swap (r := ⟨⟨nm, ⟨#[]⟩, 0⟩, w3.heap.size, .slice none 0 0⟩) (r' := ⟨⟨nm, b, 0⟩, w3.heap.size, .slice a' n' cc'⟩) HRS.out rfl
        · rcases hi with hi | hi
          · exact .inl hi
          · exact .inr (Nat.le_trans (Nat.le_trans HK1.out.size HKK.out.size) hi)
  · have hsync : appendP most bad (L.map SRep.f) nm b = (c, b', L.map SRep.f) := by
      unfold appendP
      rw [if_pos (by rw [← hc]; exact h0), ← hb', ← hc]
    rw [hsync]
    rw [← hc, ← hb'] at HB
    clear hsync hc hb'
    go_enter Tryz.func29, Tryz.ntmps29
    go_wp2_with fail
    refine HB.out.mono ?_
    rintro e w1 ⟨⟨v, rfl, hev⟩, hs1, k1⟩
    have HEV := Lib.hid hev
    obtain ⟨ty, x, rfl⟩ := hev.iface h0
    have HS1 := Lib.hid hs1
    have HK1 := Lib.hid k1
    clear hs1 k1 hev
    go_wp2_with fail
    go_ret
    exact After.fails HEV.out HS1.out rfl (HK1.out.up HF.out)
end
end Go.Proofs.YtdbnalocmjkncaaGreatDoor

/-
  Slices among the arguments, opened to lists: where each element's cells lie. No function of the program in sight.
-/
namespace Go.Proofs.YtdbnalocmjkncaaGreatDoor
open Go.RowKit Go.ChangeShapes Go.WideShapes Go.Deep

/-- a slice's n elements as a list l: element x lies in the cells R x, one behind the other -/
def SlAt {α : Type} (R : α → List Value) (size : Nat) (w : World) (a : Option Addr) (n : Nat) (l : List α) : Prop :=
  l.length = n ∧ (0 < n → ∃ b off, a = some ⟨b, off, none⟩ ∧ b < w.heap.size ∧ ∀ (i : Nat) (x : α) (j : Nat) (v : Value), l[i]? = some x → (R x)[j]? = some v → w.cell? ⟨b, off + i * size + j, none⟩ = some v)

theorem SlAt.keeps {α : Type} {R : α → List Value} {size : Nat} {w w' : World} {a : Option Addr} {n : Nat} {l : List α} {S : Nat → Prop} (h : SlAt R size w a n l) (k : Keeps S w w') (hS : ∀ i, i < w.heap.size → ¬ S i) : SlAt R size w' a n l := by
  refine ⟨h.1, fun hn => ?_⟩
  obtain ⟨b, off, ha, hb, hc⟩ := h.2 hn
  refine ⟨b, off, ha, Nat.lt_of_lt_of_le hb k.size, fun i x j v hx hv => ?_⟩
  rw [World.cell?_of_block (w := w) (k.block b hb (hS b hb))]
  exact hc i x j v hx hv

section
variable {H : Type} {enc : TypeId × Value → H} {P : Program} {w : World} {base : Nat} {spare : Nat → Bool} {held : Bool}

theorem add_plain (b off k : Nat) : (⟨b, off, none⟩ : Addr).add k = ⟨b, off + k, none⟩ := by
  unfold Addr.add
  split <;> simp_all

theorem list_pick {α : Type} (Q : Nat → α → Prop) : ∀ n : Nat, (∀ i, i < n → ∃ x, Q i x) → ∃ l : List α, l.length = n ∧ ∀ i x, l[i]? = some x → Q i x
  | 0, _ => ⟨[], rfl, fun i x h => by simp at h⟩
  | n + 1, h => by
    obtain ⟨l, hl, hq⟩ := list_pick Q n (fun i hi => h i (by omega))
    obtain ⟨x, hx⟩ := h n (by omega)
    refine ⟨l ++ [x], by simp [hl], fun i y hy => ?_⟩
    rcases Nat.lt_or_ge i n with hi | hi
    · rw [List.getElem?_append_left (by omega)] at hy
      exact hq i y hy
    · rw [List.getElem?_append_right (by omega)] at hy
      have h0 : i - l.length = 0 := by
        rcases Nat.eq_zero_or_pos (i - l.length) with h0 | h0
        · exact h0
        · rw [List.getElem?_eq_none (by simp; omega)] at hy; cases hy
      rw [h0] at hy
      simp at hy
      subst hy
      have : i = n := by omega
      subst this
      exact hx

theorem sl_of {α : Type} (R : α → List Value) (good : α → Prop) (size : Nat) {t e : TypeId} {a : Option Addr} {n c : Nat} {d : DataW H} {ps : List MemPlace} (ht : P.underlying t = some (.slice e)) (hsz : P.cellsOf e = size) (hpos : 0 < size)
    (hR : ∀ x, (R x).length = size) (hel : ∀ fuel cs y, DataW.trod enc P w base spare held fuel e cs = some y → ∃ x, cs = R x ∧ good x)
    (h : DataW.Trod enc P w base spare held t (.slice a n c) d ps) : ∃ l : List α, SlAt R size w a n l ∧ ∀ x ∈ l, good x := by
  obtain ⟨fuel, hf⟩ := h
  rcases open_slice ht hf with ⟨hcs, _⟩ | ⟨a', len, cap, m, k, D, Pl, hcs, hb, hl, hm, hmm, hx, hi⟩
  · simp [Value.cells] at hcs
    obtain ⟨rfl, rfl, rfl⟩ := hcs
    exact ⟨[], ⟨rfl, fun h => absurd h (by omega)⟩, by simp⟩
  · simp [Value.cells] at hcs
    obtain ⟨rfl, rfl, rfl⟩ := hcs
    have hnm : n ≤ m := by rw [hmm]; split <;> omega
    obtain ⟨l, hlen, hq⟩ := list_pick (fun i x => good x ∧ ∀ j v, (R x)[j]? = some v → w.cell? ((a'.add (i * size)).add j) = some v) n (fun i hin => by
      obtain ⟨cs', hc, hd⟩ := hi i (by omega)
      obtain ⟨x, rfl, hg⟩ := hel _ _ _ hd
      obtain ⟨_, _, hcell⟩ := World.cells?_some hc
      refine ⟨x, hg, fun j v hv => ?_⟩
      have hj : j < size := by rw [← hR x]; exact (List.getElem?_eq_some_iff.1 hv).1
      rw [hsz] at hcell
      rw [hcell j hj, hv])
    refine ⟨l, ⟨hlen, fun hn => ?_⟩, fun x hx => ?_⟩
    · have h0 : 0 < l.length := by omega
      have hx0 := hq 0 l[0] (List.getElem?_eq_getElem h0)
      have hv0 : 0 < (R l[0]).length := by rw [hR]; exact hpos
      have hc0 := hx0.2 0 _ (List.getElem?_eq_getElem hv0)
      obtain ⟨b, off, spot⟩ := a'
      have hspot : spot = none := by simpa [Addr.add] using World.cell?_spot hc0
      subst hspot
      refine ⟨b, off, rfl, by simpa [Addr.add] using block_lt_of_cell hc0, fun i x j v hx hv => ?_⟩
      have := (hq i x hx).2 j v hv
      rw [add_add, add_plain, ← Nat.add_assoc] at this
      exact this
    · obtain ⟨i, hi', he⟩ := List.getElem_of_mem hx
      exact (hq i x (by rw [List.getElem?_eq_getElem hi', he])).1

/-- a slice of strings -/
def strR (s : ByteArray) : List Value := [.string s]
theorem strs_of {t e : TypeId} {a : Option Addr} {n c : Nat} {d : DataW H} {ps : List MemPlace} (ht : P.underlying t = some (.slice e)) (he : P.underlying e = some .string) (hc : P.cellsOf e = 1)
    (h : DataW.Trod enc P w base spare held t (.slice a n c) d ps) : ∃ l : List ByteArray, SlAt strR 1 w a n l ∧ ∀ s ∈ l, s.size ≤ maxLen :=
  sl_of strR (fun s => s.size ≤ maxLen) 1 ht hc (by omega) (fun _ => rfl) (fun fuel cs y hd => by
    obtain ⟨s, hcs, _, hs⟩ := DataW.trod_string he hd
    exact ⟨s, hcs, hs⟩) h
end

theorem SlAt.str {w : World} {b off : Nat} {l : List ByteArray} (hc : ∀ (i : Nat) (x : ByteArray) (j : Nat) (v : Value), l[i]? = some x → (strR x)[j]? = some v → w.cell? ⟨b, off + i * 1 + j, none⟩ = some v) (i : Nat) (s : ByteArray) (hi : l[i]? = some s) : w.cell? ⟨b, off + i, none⟩ = some (.string s) := by
  have := hc i s 0 _ hi rfl
  simpa using this
end Go.Proofs.YtdbnalocmjkncaaGreatDoor

/-
  The document's files: rows of three cells; append of a part of another row.
-/
namespace Go.Proofs.YtdbnalocmjkncaaGreatDoor
open Go.RowKit Go.Maps

section
variable {α : Type} {R : α → List Value} {size : Nat}
/-- a slice value that reads as these elements -/
def SrcS (R : α → List Value) (_size : Nat) (w : World) (v : Value) (ys : List α) : Prop :=
  ∃ a c, v = .slice a ys.length c ∧ (ys = [] ∨ ∃ ad, a = some ad ∧ ∀ j u, (ys.map R).flatten[j]? = some u → w.cell? (ad.add j) = some u)
theorem SrcS.nil_ (w : World) (a : Option Addr) (c : Nat) : SrcS R size w (.slice a 0 c) [] := ⟨a, c, rfl, .inl rfl⟩
end
section
variable {P : Program} {α : Type}
theorem run_append_src (R : α → List Value) (size : Nat) (hR : ∀ x, (R x).length = size) (hsz : 0 < size) (w : World) (t ty : TypeId) (B : Nat) (e : TypeId) (z : Value) (bytes : Nat) (ht : P.underlying t = some (.slice e))
    (hi : (P.info? e).map (fun i => (i.zero, i.size, i.bytes)) = some (some z, size, bytes)) (hz : z.cells.size = size) (hb16 : bytes ≤ 4096)
    (v : Value) (xs : List α) (hown : OwnS R size w B e v xs) (s : Value) (ys : List α) (hsrc : SrcS R size w s ys) (h1 : ∀ y, ∀ u ∈ R y, u.oneCell' = true)
    (hlen : xs.length + ys.length ≤ 17179869184) (hbase : B ≤ w.heap.size) :
    ∃ v' w', (Builtin.append_ #[t, t] ty #[v, s]).run P w = .ok v' w' ∧ OwnS R size w' B e v' (xs ++ ys) ∧ Keeps (fun i => B ≤ i ∧ ∃ cs, Blk w i e cs) w w' := by
  obtain ⟨i, hi0, hzi, hsi, hbi⟩ := info_parts hi
  obtain ⟨a, c, rfl, hs⟩ := hsrc
  cases a with
  | none =>
    obtain rfl : ys = [] := by
      rcases hs with h | ⟨ad, h, _⟩
      · exact h
      · cases h
    obtain ⟨b, cap, rfl, hcap, -, hb, -⟩ := hown.shape hR
    refine ⟨.slice b xs.length cap, w, ?_, by rw [List.append_nil]; exact hown, Keeps.refl _ _⟩
    cases b with
    | none =>
      have hn : xs.length = 0 := by
        rcases Nat.eq_zero_or_pos xs.length with h | h
        · exact h
        · obtain ⟨g, hg, _⟩ := hb h; cases hg
      rw [hn]
      simp [Builtin.append_, run_underlying ht, sizeOf, typeInfo, hi0, Builtin.lenOf, Builtin.firstCells]
    | some b => simp [Builtin.append_, run_underlying ht, sizeOf, typeInfo, hi0, Builtin.lenOf, Builtin.firstCells, loadCells, storeCells, hcap]
  | some ad =>
    obtain ⟨v', w', hrun, h2, h3, -⟩ := run_append_own (P := P) w B t ty e i z size bytes ht hi0 hzi hsi hbi hz hsz v xs.length _ hown ad ys.length c (ys.map R).flatten (by rw [flat_len hR]) (by
      rcases hs with rfl | ⟨ad', ha, hc⟩
      · intro j u hj; simp at hj
      · injection ha with ha; subst ha; exact hc) (fun u hu => by
        obtain ⟨l, hl, hu⟩ := List.mem_flatten.1 hu
        obtain ⟨y, _, rfl⟩ := List.mem_map.1 hl
        exact h1 y u hu) (by unfold maxLen; omega) (by
      have := Nat.mul_le_mul hlen hb16
      omega) hbase
    exact ⟨v', w', hrun, by unfold OwnS; rw [List.map_append, List.flatten_append, List.length_append]; exact h2, (Keeps.refl _ _).grown h3 (fun k hk _ => ⟨(hown.lt k hk).1, hown.ownBlk k hk⟩)⟩

theorem wpList_append_src (R : α → List Value) (size : Nat) (hR : ∀ x, (R x).length = size) (hsz : 0 < size) {w : World} {ops : Array Oper} {rest : List Oper} {o : Oper} {a : Act} {Q : Exit → Act → World → Prop} (hgd : o.guard = none) (s x : Operand) (t : TypeId)
    (ho : o.op = .call { callee := .builtin .append, args := #[s, x], argTypes := #[t, t] }) (B : Nat) (e : TypeId) (z : Value) (bytes : Nat) (ht : P.underlying t = some (.slice e))
    (hi : (P.info? e).map (fun i => (i.zero, i.size, i.bytes)) = some (some z, size, bytes)) (hz : z.cells.size = size) (hb16 : bytes ≤ 4096)
    (v : Value) (xs : List α) (hs : a.eval s = v) (hown : OwnS R size w B e v xs) (sv : Value) (ys : List α) (hx : a.eval x = sv) (hsrc : SrcS R size w sv ys) (h1 : ∀ y, ∀ u ∈ R y, u.oneCell' = true)
    (hlen : xs.length + ys.length ≤ 17179869184) (hbase : B ≤ w.heap.size)
    (h : ∀ v' w', OwnS R size w' B e v' (xs ++ ys) → Keeps (fun i => B ≤ i ∧ ∃ cs, Blk w i e cs) w w' → wpList P ops Q rest (a.put o.dst v') w') : wpList P ops Q (o :: rest) a w := by
  refine wpList_plain hgd fun K hK => ?_
  obtain ⟨v', w', hrun, h2, h3⟩ := run_append_src R size hR hsz w t o.type B e z bytes ht hi hz hb16 v xs hown sv ys hsrc h1 hlen hbase
  unfold Oper.wp
  simp only [execOp, ho, resolve, invoke, builtin, Sem.run_bind, Sem.run_pure, Result.andThen_ok, List.map_toArray, List.map_cons, List.map_nil, hs, hx, hrun]
  exact hK _ _ (h v' w' h2 h3)

variable {R : α → List Value} {size : Nat} {w : World} {B : Nat} {e : TypeId} {xs : List α}
/-- a row's first k -/
theorem OwnS.srcTake {a : Option Addr} {n c : Nat} (h : OwnS R size w B e (.slice a n c) xs) (hR : ∀ x, (R x).length = size) {k : Nat} (hk : k ≤ xs.length) (c' : Nat) : SrcS R size w (.slice a k c') (xs.take k) := by
  refine ⟨a, c', by rw [List.length_take, Nat.min_eq_left hk], ?_⟩
  rcases Nat.eq_zero_or_pos k with rfl | hk0
  · exact .inl (by simp)
  · rcases h.2 with ⟨_, h2⟩ | ⟨g, cap, cur, h0, hg, hh, h1, h2, h3, h4⟩
    · omega
    · injection h0 with h0 _ _
      subst h0
      refine .inr ⟨_, rfl, fun j u hj => ?_⟩
      have hf : (xs.map R).flatten[j]? = some u := by
        rw [← List.take_append_drop k xs, List.map_append, List.flatten_append, List.getElem?_append_left (List.getElem?_eq_some_iff.1 hj).1]
        exact hj
      have hl : j < xs.length * size := by rw [← flat_len hR xs]; exact (List.getElem?_eq_some_iff.1 hf).1
      have e0 : (⟨g, 0, none⟩ : Addr).add j = ⟨g, j, none⟩ := by by_cases h0 : j = 0 <;> simp [Addr.add, h0]
      rw [e0, cell_of_row w g _ cur e (0, 0) hh, ← hf, ← h4, List.getElem?_take, if_pos hl]
      simp
/-- what is behind a row's first k -/
theorem OwnS.srcDrop {a : Option Addr} {n c : Nat} (h : OwnS R size w B e (.slice a n c) xs) (hR : ∀ x, (R x).length = size) {k : Nat} (hk : k < xs.length) (c' : Nat) : ∃ ad, a = some ad ∧ SrcS R size w (.slice (some (ad.add (k * size))) (xs.length - k) c') (xs.drop k) := by
  rcases h.2 with ⟨_, h2⟩ | ⟨g, cap, cur, h0, hg, hh, h1, h2, h3, h4⟩
  · omega
  · injection h0 with h0 _ _
    subst h0
    refine ⟨_, rfl, _, c', by rw [List.length_drop], .inr ⟨_, rfl, fun j u hj => ?_⟩⟩
    have hf : (xs.map R).flatten[k * size + j]? = some u := by
      rw [← List.take_append_drop k xs, List.map_append, List.flatten_append, List.getElem?_append_right (by rw [flat_len hR, List.length_take, Nat.min_eq_left (by omega)]; omega), flat_len hR, List.length_take, Nat.min_eq_left (by omega), Nat.add_sub_cancel_left]
      exact hj
    have hl : k * size + j < xs.length * size := by rw [← flat_len hR xs]; exact (List.getElem?_eq_some_iff.1 hf).1
    have e0 : ((⟨g, 0, none⟩ : Addr).add (k * size)).add j = ⟨g, k * size + j, none⟩ := by
      by_cases h0 : k * size = 0 <;> by_cases h1 : j = 0 <;> simp [Addr.add, h0, h1]
    rw [e0, cell_of_row w g _ cur e (0, 0) hh, ← hf, ← h4, List.getElem?_take, if_pos hl]
    simp
end
def docR (f : SFile) : List Value := [.string f.name, .string f.data, .int .i64 (f.sure : Nat)]
theorem docR_len (f : SFile) : (docR f).length = 3 := rfl
theorem docR_one (f : SFile) : ∀ u ∈ docR f, u.oneCell' = true := by intro u hu; simp [docR] at hu; rcases hu with rfl | rfl | rfl <;> rfl
end Go.Proofs.YtdbnalocmjkncaaGreatDoor

/-
  The document's store (wheelhouseref11): place, Total, without.
-/
namespace Go.Proofs.YtdbnalocmjkncaaGreatDoor
open Go.RowKit Go.Maps

/-- the document's store, as a value -/
def docS (v : Value) (most bad : Int) : Value := .agg #[v, .int .i64 most, .int .i64 bad]
def docO (v : Value) (most bad : Int) : Obj := .cells #[v, .int .i64 most, .int .i64 bad] 27
def docF (f : SFile) : Value := .agg #[.string f.name, .string f.data, .int .i64 (f.sure : Nat)]
/-- a row that reads as these files -/
def DocL (w : World) (v : Value) (l : List SFile) : Prop := OwnS docR 3 w 0 99 v l

theorem getG_at {nm : ByteArray} : ∀ {l : List SFile} {i : Nat} {f : SFile}, (∀ j, j < i → ∀ x, l[j]? = some x → x.name ≠ nm) → l[i]? = some f → f.name = nm → getG SFile.name nm l = some f
  | [], _, _, _, h, _ => by simp at h
  | x :: l, 0, f, _, h, hn => by
    simp at h
    subst h
    simp [getG, hn]
  | x :: l, i + 1, f, hj, h, hn => by
    have hx := hj 0 (by omega) x rfl
    have := getG_at (l := l) (i := i) (fun j h x hx => hj (j + 1) (by omega) x (by simpa using hx)) (by simpa using h) hn
    simpa [getG, List.find?_cons, hx] using this
theorem getG_no {nm : ByteArray} {l : List SFile} (h : ∀ j, j < l.length → ∀ x, l[j]? = some x → x.name ≠ nm) : getG SFile.name nm l = none := by
  unfold getG
  rw [List.find?_eq_none]
  intro x hx
  obtain ⟨j, hj, rfl⟩ := List.mem_iff_getElem.1 hx
  simpa using h j hj _ (List.getElem?_eq_getElem hj)
theorem nm_eq {a b : ByteArray} (h : a = b) : (a.toList == b.toList) = true := by subst h; exact beq_self_eq_true _
theorem nm_ne {a b : ByteArray} (h : a ≠ b) : (a.toList == b.toList) = false := by
  rw [beq_eq_false_iff_ne]
  intro e
  rw [ByteArray.toList_eq, ByteArray.toList_eq] at e
  exact h (ba_ext e)
theorem DocL.keeps {w w' : World} {v : Value} {l : List SFile} (h : DocL w v l) (k : Keeps (fun _ => False) w w') : DocL w' v l := OwnS.keeps h k (fun _ _ _ _ => id)
theorem DocL.cells {w : World} {v : Value} {l : List SFile} (h : DocL w v l) : ∃ a c, v = .slice a l.length c ∧ ∀ i f, l[i]? = some f → ∃ g, a = some ⟨g, 0, none⟩ ∧ g < w.heap.size ∧ ∀ w', Keeps (fun _ => False) w w' → w'.cell? ⟨g, i * 3, none⟩ = some (.string f.name) ∧ w'.cell? ⟨g, i * 3 + 1, none⟩ = some (.string f.data) ∧ w'.cell? ⟨g, i * 3 + 2, none⟩ = some (.int .i64 (f.sure : Nat)) := by
  obtain ⟨a, c, hv, -, -, hne, hc⟩ := OwnS.shape h docR_len
  refine ⟨a, c, hv, fun i f hf => ?_⟩
  obtain ⟨g, rfl, -, hlt, -⟩ := hne (by have := (List.getElem?_eq_some_iff.1 hf).1; omega)
  exact ⟨g, rfl, hlt, fun w' k => ⟨(World.cell?_of_block (w := w) (k.block g hlt id)).trans (hc g rfl i f 0 _ hf rfl).1, (World.cell?_of_block (w := w) (k.block g hlt id)).trans (hc g rfl i f 1 _ hf rfl).1, (World.cell?_of_block (w := w) (k.block g hlt id)).trans (hc g rfl i f 2 _ hf rfl).1⟩⟩

set_option maxRecDepth 100000 in
set_option maxHeartbeats 1000000 in
theorem rplace_any (w : World) (v : Value) (most bad : Int) (l : List SFile) (nm : ByteArray) (h : DocL w v l) (hl : l.length ≤ 4294967296) :
    Calls Tryz.prog 100 #[docS v most bad, .string nm] w fun e w' => (∃ p : Int, e = .returned (.int .i64 p) ∧ ((p = -1 ∧ getG SFile.name nm l = none) ∨ ∃ (i : Nat) (f : SFile), p = i ∧ i < l.length ∧ l[i]? = some f ∧ getG SFile.name nm l = some f)) ∧ w' = w.alloc (docO v most bad) := by
  obtain ⟨a, c, rfl, hc⟩ := h.cells
  have HC := Lib.hid hc
  clear hc h
  unfold docS docO
  go_enter Tryz.func100, Tryz.ntmps100
  go_wp2_with fail
  go_loopw [5] (fun u5 wr => wr = w.alloc (.cells #[.slice a l.length c, .int .i64 most, .int .i64 bad] 27) ∧ ∃ i : Nat, u5 = .int .i64 i ∧ i ≤ l.length ∧ Hid (∀ j, j < i → ∀ x, l[j]? = some x → x.name ≠ nm)) (fun u5 _ => l.length - (intOf u5).toNat)
  case atStart => exact ⟨rfl, 0, rfl, Nat.zero_le _, Lib.hid fun j h => by omega⟩
  case round =>
    obtain ⟨rfl, i, rfl, hi, HI⟩ := hrel
    by_cases hlt : i < l.length
    · obtain ⟨f, hf⟩ : ∃ f, l[i]? = some f := ⟨_, List.getElem?_eq_getElem hlt⟩
      obtain ⟨g, rfl, hg, hcc⟩ := HC.out i f hf
      obtain ⟨c0, c1, c2⟩ := hcc _ ((Keeps.refl _ _).alloc (.cells #[.slice (some ⟨g, 0, none⟩) l.length c, .int .i64 most, .int .i64 bad] 27))
      have HF := Lib.hid hf
      clear hf hcc
      by_cases hn : f.name = nm
      · have HN := Lib.hid hn
        have he := nm_eq hn
        clear hn
        go_wp2_with fail
        go_ret
        exact ⟨⟨_, rfl, .inr ⟨i, f, rfl, hlt, HF.out, getG_at HI.out HF.out HN.out⟩⟩, rfl⟩
      · have HN := Lib.hid hn
        have he := nm_ne hn
        clear hn
        go_wp2_with fail
        go_roundw
        case rel => exact ⟨trivial, i + 1, by go_num, by omega, Lib.hid fun j hj x hx => by
          by_cases e : j = i
          · subst e
            have : f = x := Option.some.inj (HF.out.symm.trans hx)
            exact this ▸ HN.out
          · exact HI.out j (by omega) x hx⟩
        case measure => simp [intOf]; omega
    · obtain rfl : i = l.length := by omega
      go_wp2_with fail
      go_ret
      exact ⟨⟨_, rfl, .inl ⟨rfl, getG_no HI.out⟩⟩, rfl⟩

theorem tot_step {l : List SFile} {i : Nat} {f : SFile} (h : l[i]? = some f) : totF (l.take (i + 1)) = totF (l.take i) + f.data.size := by
  rw [List.take_add_one, h]; simp [totF]
set_option maxRecDepth 100000 in
set_option maxHeartbeats 1000000 in
theorem rtotal_any (w : World) (v : Value) (most bad : Int) (l : List SFile) (h : DocL w v l) (hl : l.length ≤ 4294967296) (hd : ∀ f ∈ l, f.data.size ≤ 1073741824) :
    Calls Tryz.prog 80 #[docS v most bad] w fun e w' => e = .returned (.int .i64 (totF l : Nat)) ∧ w' = w.alloc (docO v most bad) := by
  obtain ⟨a, c, rfl, hc⟩ := h.cells
  have HC := Lib.hid hc
  have HD := Lib.hid hd
  clear hc h hd
  unfold docS docO
  go_enter Tryz.func80, Tryz.ntmps80
  go_wp2_with fail
  go_loopw [3, 4] (fun u3 u4 wr => wr = w.alloc (.cells #[.slice a l.length c, .int .i64 most, .int .i64 bad] 27) ∧ ∃ i t : Nat, u4 = .int .i64 i ∧ u3 = .int .i64 t ∧ i ≤ l.length ∧ t ≤ i * 1073741824 ∧ Hid (t = totF (l.take i))) (fun _ u4 _ => l.length - (intOf u4).toNat)
  case atStart => exact ⟨rfl, 0, 0, rfl, rfl, Nat.zero_le _, Nat.zero_le _, Lib.hid rfl⟩
  case round =>
    obtain ⟨rfl, i, t, rfl, rfl, hi, ht, HI⟩ := hrel
    by_cases hlt : i < l.length
    · obtain ⟨f, hf⟩ : ∃ f, l[i]? = some f := ⟨_, List.getElem?_eq_getElem hlt⟩
      obtain ⟨g, rfl, hg, hcc⟩ := HC.out i f hf
      obtain ⟨c0, c1, c2⟩ := hcc _ ((Keeps.refl _ _).alloc (.cells #[.slice (some ⟨g, 0, none⟩) l.length c, .int .i64 most, .int .i64 bad] 27))
      have hfd := HD.out f (List.mem_of_getElem? hf)
      have hts := tot_step hf
      rw [← HI.out] at hts
      have HT := Lib.hid hts
      clear hf hcc hts
      go_wp2_with fail
      go_roundw
      case rel => exact ⟨trivial, i + 1, t + f.data.size, by go_num, by go_num, by omega, by omega, Lib.hid HT.out.symm⟩
      case measure => simp [intOf]; omega
    · obtain rfl : i = l.length := by omega
      have he := HI.out
      rw [List.take_length] at he
      subst he
      go_wp2_with fail
      go_ret
      exact ⟨rfl, rfl⟩

theorem del_step {l : List SFile} {i : Nat} {f : SFile} {nm : ByteArray} (h : l[i]? = some f) : delG SFile.name nm (l.take (i + 1)) = delG SFile.name nm (l.take i) ++ (if f.name = nm then [] else [f]) := by
  rw [List.take_add_one, h]
  unfold delG
  rw [List.filter_append]
  by_cases hn : f.name = nm <;> simp [hn]
set_option maxRecDepth 100000 in
set_option maxHeartbeats 1000000 in
theorem rwithout_any (w : World) (v : Value) (l : List SFile) (nm : ByteArray) (h : DocL w v l) (hl : l.length ≤ 4294967296) :
    Calls Tryz.prog 101 #[v, .string nm] w fun e w' => ∃ v', e = .returned v' ∧ OwnS docR 3 w' w.heap.size 99 v' (delG SFile.name nm l) ∧ Keeps (fun _ => False) w w' := by
  obtain ⟨a, c, rfl, hc⟩ := h.cells
  have HC := Lib.hid hc
  clear hc h
  go_enter Tryz.func101, Tryz.ntmps101
  go_wp2_with fail
  go_loopw [5, 6] (fun u5 u6 wr => ∃ i : Nat, u6 = .int .i64 i ∧ i ≤ l.length ∧ Hid (OwnS docR 3 wr w.heap.size 99 u5 (delG SFile.name nm (l.take i)) ∧ Keeps (fun _ => False) w wr)) (fun _ u6 _ => l.length - (intOf u6).toNat)
  case atStart => exact ⟨0, rfl, Nat.zero_le _, Lib.hid ⟨OwnS.none_, Keeps.refl _ _⟩⟩
  case round =>
    obtain ⟨i, rfl, hi, HI⟩ := hrel
    by_cases hlt : i < l.length
    · obtain ⟨f, hf⟩ : ∃ f, l[i]? = some f := ⟨_, List.getElem?_eq_getElem hlt⟩
      obtain ⟨g, rfl, hg, hcc⟩ := HC.out i f hf
      obtain ⟨c0, c1, c2⟩ := hcc wr HI.out.2
      have hds := del_step (nm := nm) hf
      by_cases hn : f.name = nm
      · rw [if_pos hn, List.append_nil] at hds
        have he := nm_eq hn
        have HDS := Lib.hid hds
        clear hn hf hcc hds
        go_wp2_with fail
        go_roundw
        case rel => exact ⟨i + 1, by go_num, by omega, Lib.hid ⟨by rw [HDS.out]; exact HI.out.1, HI.out.2⟩⟩
        case measure => simp [intOf]; omega
      · rw [if_neg hn] at hds
        have he := nm_ne hn
        have hszr := HI.out.2.size
        have hgr : g < wr.heap.size := by omega
        have htl : (delG SFile.name nm (l.take i)).length ≤ 17179869184 := by
          have h1 : (delG SFile.name nm (l.take i)).length ≤ (l.take i).length := List.length_filter_le _ _
          rw [List.length_take] at h1
          omega
        obtain ⟨ys, hys⟩ : ∃ ys, ys = delG SFile.name nm (l.take i) := ⟨_, rfl⟩
        have hown := HI.out.1
        rw [← hys] at hds htl hown
        have HDS := Lib.hid hds
        have HOW := Lib.hid hown
        have HTL := Lib.hid htl
        have HK := Lib.hid HI.out.2
        clear hn hf hcc hds hown htl hys HI
        go_wp2_with (with_reducible show wpList _ _ _ (⟨some 26, _, _, _, _, _⟩ :: _) _ _; go_must (refine wpList_append_st docR 3 docR_len (by decide) rfl (.tmp 20) (.tmp 25) 25 rfl w.heap.size 99 (.agg #[.string ⟨#[]⟩, .string ⟨#[]⟩, .int .i64 0]) 40 Tryz.underlying25 (by kernel_rfl) rfl (by omega) u5 ys rfl (OwnS.keeps (S := fun _ => False) HOW.out ((Keeps.refl _ _).alloc _) (fun _ _ _ _ => id)) wr.heap.size 1 f rfl (Blk.new _ _ _) (docR_one _) HTL.out (by simp; omega) ?_; intro v7 w7 O7 k7; have HO7 := Lib.hid O7; have HK7 := Lib.hid k7; have hz7 := k7.size; simp at hz7; clear O7 k7))
        go_roundw
        case rel => exact ⟨i + 1, by go_num, by omega, Lib.hid ⟨by rw [HDS.out]; exact HO7.out, HK.out.and_ (((Keeps.refl (fun i => w.heap.size ≤ i) wr).alloc _).trans (HK7.out.mono fun i _ e => e.1)) (fun i hi e => by omega)⟩⟩
        case measure => simp [intOf]; omega
    · obtain rfl : i = l.length := by omega
      have hh := HI.out
      rw [List.take_length] at hh
      have HH := Lib.hid hh
      clear hh
      go_wp2_with fail
      go_ret
      exact ⟨u5, rfl, HH.out⟩
end Go.Proofs.YtdbnalocmjkncaaGreatDoor

/-
  The document's store (wheelhouseref11): with, Get, begin.
-/
namespace Go.Proofs.YtdbnalocmjkncaaGreatDoor
set_option linter.unusedSimpArgs false
open Go.RowKit Go.Maps

theorem ins_at {x : SFile} : ∀ {l : List SFile} {k : Nat}, (∀ j, j < k → ∀ y, l[j]? = some y → nmLt y.name x.name = true) → k ≤ l.length → (k = l.length ∨ ∃ y, l[k]? = some y ∧ nmLt y.name x.name = false) → (∀ y ∈ l, y.name ≠ x.name) → insG SFile.name x l = l.take k ++ [x] ++ l.drop k
  | [], k, _, hk, _, _ => by
    obtain rfl : k = 0 := by simpa using hk
    rfl
  | y :: l, 0, _, _, he, hne => by
    rcases he with he | ⟨z, hz, hl⟩
    · simp at he
    · simp at hz
      subst hz
      have : nmLt x.name y.name = true := by
        rcases nmLt_total (hne y (by simp)) with h | h
        · rw [hl] at h; cases h
        · exact h
      simp [insG, this]
  | y :: l, k + 1, h, hk, he, hne => by
    have h0 := nmLt_asymm (h 0 (by omega) y rfl)
    have ih := ins_at (x := x) (l := l) (k := k) (fun j hj z hz => h (j + 1) (by omega) z (by simpa using hz)) (by simpa using hk) (by simpa using he) (fun z hz => hne z (by simp [hz]))
    simp only [insG, h0, Bool.false_eq_true, if_false, ih]
    simp

theorem DocL.keeps2 {w w' : World} {v : Value} {l : List SFile} (h : DocL w v l) (k : Keeps (fun i => w.heap.size ≤ i) w w') : DocL w' v l := OwnS.keeps h k (fun _ _ hi _ hh => by omega)
theorem DocL.form {w : World} {v : Value} {D : List SFile} (h : DocL w v D) : (v = .slice none 0 0 ∧ D = []) ∨ ∃ g c, v = .slice (some ⟨g, 0, none⟩) D.length c ∧ D.length ≤ c ∧ c ≤ maxLen := by
  rcases h.2 with ⟨h1, h2⟩ | ⟨g, cap, cur, h0, hg, hh, h1, h2, h3, h4⟩
  · exact .inl ⟨h1, List.eq_nil_of_length_eq_zero h2⟩
  · exact .inr ⟨g, cap, h0, h1, h2⟩
theorem kept_cell {w2 w7 : World} (k : Keeps (fun i => w2.heap.size ≤ i) w2 w7) {b j : Nat} {u : Value} (h : w2.cell? ⟨b, j, none⟩ = some u) : w7.cell? ⟨b, j, none⟩ = some u :=
  (World.cell?_of_block (w := w2) (k.block b (block_lt_of_cell h) (Nat.not_le.2 (block_lt_of_cell h)))).trans h
theorem DocL.drop {w : World} {g n c : Nat} {D : List SFile} (h : DocL w (.slice (some ⟨g, 0, none⟩) n c) D) {k : Nat} (hk : k < D.length) (c' : Nat) : SrcS docR 3 w (.slice (some ⟨g, k * 3, none⟩) (D.length - k) c') (D.drop k) := by
  obtain ⟨ad, ha, hs⟩ := OwnS.srcDrop h docR_len hk c'
  injection ha with ha
  subst ha
  have e0 : (⟨g, 0, none⟩ : Addr).add (k * 3) = ⟨g, k * 3, none⟩ := by by_cases h0 : k * 3 = 0 <;> simp [Addr.add, h0]
  rwa [e0] at hs

set_option maxRecDepth 100000 in
set_option maxHeartbeats 1000000 in
theorem rwith_any (w : World) (v : Value) (l : List SFile) (f : SFile) (h : DocL w v l) (hl : l.length ≤ 4294967296) :
    Calls Tryz.prog 81 #[v, docF f] w fun e w' => ∃ v', e = .returned v' ∧ OwnS docR 3 w' w.heap.size 99 v' (putG SFile.name f l) ∧ Keeps (fun _ => False) w w' := by
  have kb : Keeps (fun _ => False) w (w.alloc (.cells #[.string f.name, .string f.data, .int .i64 (f.sure : Nat)] 99)) := (Keeps.refl _ _).alloc _
  have hwo := rwithout_any _ v l f.name (h.keeps kb) hl
  obtain ⟨D, hD⟩ : ∃ D, D = delG SFile.name f.name l := ⟨_, rfl⟩
  have hDn : ∀ y ∈ D, y.name ≠ f.name := by rw [hD]; exact delG_ne
  have hDl : D.length ≤ 4294967296 := by
    have h1 : (delG SFile.name f.name l).length ≤ l.length := List.length_filter_le _ _
    rw [hD]; omega
  rw [← hD] at hwo
  have hput : putG SFile.name f l = insG SFile.name f D := by rw [hD]; rfl
  have HPUT := Lib.hid hput
  have HWO := Lib.hid hwo
  have HDN := Lib.hid hDn
  have HKB := Lib.hid kb
  clear hwo hDn kb hD hput h
  unfold docF
  go_enter Tryz.func81, Tryz.ntmps81
  go_wp2_with fail
  refine HWO.out.mono ?_
  rintro e w2 ⟨v2, rfl, ho2, k2⟩
  have b2 := (Blk.new w 99 #[.string f.name, .string f.data, .int .i64 (f.sure : Nat)]).keeps k2 id
  obtain ⟨b0, b1, b3⟩ := b2.cells3
  have hd2 : DocL w2 v2 D := OwnS.moreS ho2 (Nat.zero_le _)
  have HDL := Lib.hid hd2
  have HK2 := Lib.hid (HKB.out.trans k2)
  obtain ⟨a, c, rfl, hc⟩ := hd2.cells
  obtain ⟨a', c', hv', hcap, hmax, -, -⟩ := OwnS.shape hd2 docR_len
  injection hv' with ea el ec
  subst ea ec
  unfold maxLen at hmax
  have HC := Lib.hid hc
  clear hc hd2 ho2 k2 b2 el
  go_wp2_with fail
  go_loopw [5] (fun u5 wr => ∃ k : Nat, u5 = .int .i64 k ∧ k ≤ D.length ∧ Hid ((∀ j, j < k → ∀ x, D[j]? = some x → nmLt x.name f.name = true) ∧ Keeps (fun _ => False) w2 wr)) (fun u5 _ => D.length - (intOf u5).toNat)
  case atStart => exact ⟨0, rfl, Nat.zero_le _, Lib.hid ⟨fun j h => by omega, Keeps.refl _ _⟩⟩
  case round =>
    obtain ⟨k, rfl, hk, HI⟩ := hrel
    have HKR := Lib.hid HI.out.2
    have e0 := (World.cell?_of_block (w := w2) (HKR.out.block _ (block_lt_of_cell b0) id)).trans b0
    have e1 := (World.cell?_of_block (w := w2) (HKR.out.block _ (block_lt_of_cell b1) id)).trans b1
    have e3 := (World.cell?_of_block (w := w2) (HKR.out.block _ (block_lt_of_cell b3) id)).trans b3
    by_cases hlt : k < D.length
    · obtain ⟨x, hx⟩ : ∃ x, D[k]? = some x := ⟨_, List.getElem?_eq_getElem hlt⟩
      obtain ⟨g, rfl, hg, hcc⟩ := HC.out k x hx
      obtain ⟨c0, c1, c2⟩ := hcc _ HKR.out
      have HX := Lib.hid hx
      clear hx hcc
      by_cases hn : nmLt x.name f.name = true
      · have HN := Lib.hid hn
        have hbl := (nmLt_less x.name f.name).trans hn
        clear hn
        go_wp2_with fail
        go_region
        go_wp2_with fail
        go_roundw
        case rel => exact ⟨k + 1, by go_num, by omega, Lib.hid ⟨fun j hj y hy => by
          by_cases e : j = k
          · subst e
            have : x = y := Option.some.inj (HX.out.symm.trans hy)
            exact this ▸ HN.out
          · exact HI.out.1 j (by omega) y hy, HKR.out.drew⟩⟩
        case measure => simp [intOf]; omega
      · have hn2 : nmLt x.name f.name = false := by simpa using hn
        have hbl := (nmLt_less x.name f.name).trans hn2
        have HINS := Lib.hid (ins_at HI.out.1 hk (.inr ⟨x, HX.out, hn2⟩) HDN.out)
        have hkc : k < c := by omega
        clear hn hn2
        go_wp2_with fail
        go_region
        go_wp2_with (first
          | ((with_reducible show wpList _ _ _ (⟨some 31, _, _, _, _, _⟩ :: _) _ _); go_must (refine wpList_append_src docR 3 docR_len (by decide) rfl (.tmp 27) (.tmp 30) 25 rfl w2.heap.size 99 (.agg #[.string ⟨#[]⟩, .string ⟨#[]⟩, .int .i64 0]) 40 Tryz.underlying25 (by kernel_rfl) rfl (by omega) (.slice none 0 0) [] rfl OwnS.none_ (.slice (some ⟨g, 0, none⟩) k c) (D.take k) rfl (OwnS.srcTake (HDL.out.keeps (HKR.out.trans (by (repeat (first | (with_reducible assumption) | (with_reducible exact Keeps.refl _ _) | refine Keeps.drew ?_ | refine Keeps.drewN ?_ _ | refine Keeps.setCell ?_ (by simp) _ | refine Keeps.setRow ?_ (by simp) _ | refine Keeps.alloc ?_ _))))) docR_len (by omega) c) docR_one (by simp only [List.length_append, List.length_cons, List.length_nil, List.length_take, List.length_drop]; omega) (HKR.out.trans (by (repeat (first | (with_reducible assumption) | (with_reducible exact Keeps.refl _ _) | refine Keeps.drew ?_ | refine Keeps.drewN ?_ _ | refine Keeps.setCell ?_ (by simp) _ | refine Keeps.setRow ?_ (by simp) _ | refine Keeps.alloc ?_ _)))).size ?_; intro v7 w7 O7 k7; have q7 : Keeps (fun i => w2.heap.size ≤ i) w2 w7 := Keeps.and_ (HKR.out.trans (by (repeat (first | (with_reducible assumption) | (with_reducible exact Keeps.refl _ _) | refine Keeps.drew ?_ | refine Keeps.drewN ?_ _ | refine Keeps.setCell ?_ (by simp) _ | refine Keeps.setRow ?_ (by simp) _ | refine Keeps.alloc ?_ _)))).none_ k7 (fun i _ h => h.1); have d0 := kept_cell q7 b0; have d1 := kept_cell q7 b1; have d3 := kept_cell q7 b3; have HO7 := Lib.hid O7; have HQ7 := Lib.hid q7; clear O7 k7 q7))
          | ((with_reducible show wpList _ _ _ (⟨some 35, _, _, _, _, _⟩ :: _) _ _); go_must (refine wpList_append_st docR 3 docR_len (by decide) rfl (.tmp 32) (.tmp 34) 25 rfl w2.heap.size 99 (.agg #[.string ⟨#[]⟩, .string ⟨#[]⟩, .int .i64 0]) 40 Tryz.underlying25 (by kernel_rfl) rfl (by omega) v7 ([] ++ D.take k) rfl (OwnS.keeps (S := fun _ => False) HO7.out ((Keeps.refl _ _).alloc _) (fun _ _ _ _ => id)) w7.heap.size 1 f rfl (Blk.new _ _ _) (docR_one _) (by simp only [List.length_append, List.length_cons, List.length_nil, List.length_take]; omega) (by have := HQ7.out.size; simp; omega) ?_; intro v8 w8 O8 k8; have q8 : Keeps (fun i => w2.heap.size ≤ i) w2 w8 := Keeps.and_ (HQ7.out.alloc _) k8 (fun i _ h => h.1); have HO8 := Lib.hid O8; have HQ8 := Lib.hid q8; clear O8 k8 q8))
          | ((with_reducible show wpList _ _ _ (⟨some 40, _, _, _, _, _⟩ :: _) _ _); go_must (refine wpList_append_src docR 3 docR_len (by decide) rfl (.tmp 36) (.tmp 39) 25 rfl w2.heap.size 99 (.agg #[.string ⟨#[]⟩, .string ⟨#[]⟩, .int .i64 0]) 40 Tryz.underlying25 (by kernel_rfl) rfl (by omega) v8 ([] ++ D.take k ++ [f]) rfl HO8.out (.slice (some ⟨g, k * 3, none⟩) (D.length - k) (c - k)) (D.drop k) rfl (DocL.drop (HDL.out.keeps2 HQ8.out) hlt _) docR_one (by simp only [List.length_append, List.length_cons, List.length_nil, List.length_take, List.length_drop]; omega) HQ8.out.size ?_; intro v9 w9 O9 k9; have q9 : Keeps (fun i => w2.heap.size ≤ i) w2 w9 := Keeps.and_ HQ8.out k9 (fun i _ h => h.1); have HO9 := Lib.hid O9; have HQ9 := Lib.hid q9; clear O9 k9 q9)))
        go_ret
        exact ⟨v9, rfl, by rw [HPUT.out, HINS.out]; exact OwnS.moreS (by simpa using HO9.out) HK2.out.size, HK2.out.and_ HQ9.out (fun i hi h => by have := HK2.out.size; omega)⟩
    · obtain rfl : k = D.length := by omega
      have HINS := Lib.hid (ins_at HI.out.1 hk (.inl rfl) HDN.out)
      rcases HDL.out.form with ⟨hv, rfl⟩ | ⟨g, c2, hv, hnc, hcm⟩
      · injection hv with ea el ec
        subst ea ec
        go_wp2_with fail
        go_region
        go_wp2_with (first
          | ((with_reducible show wpList _ _ _ (⟨some 31, _, _, _, _, _⟩ :: _) _ _); go_must (refine wpList_append_src docR 3 docR_len (by decide) rfl (.tmp 27) (.tmp 30) 25 rfl w2.heap.size 99 (.agg #[.string ⟨#[]⟩, .string ⟨#[]⟩, .int .i64 0]) 40 Tryz.underlying25 (by kernel_rfl) rfl (by omega) (.slice none 0 0) [] rfl OwnS.none_ (.slice none 0 0) ([]) rfl (SrcS.nil_ _ _ _) docR_one (by simp only [List.length_append, List.length_cons, List.length_nil, List.length_take, List.length_drop]; omega) (HKR.out.trans (by (repeat (first | (with_reducible assumption) | (with_reducible exact Keeps.refl _ _) | refine Keeps.drew ?_ | refine Keeps.drewN ?_ _ | refine Keeps.setCell ?_ (by simp) _ | refine Keeps.setRow ?_ (by simp) _ | refine Keeps.alloc ?_ _)))).size ?_; intro v7 w7 O7 k7; have q7 : Keeps (fun i => w2.heap.size ≤ i) w2 w7 := Keeps.and_ (HKR.out.trans (by (repeat (first | (with_reducible assumption) | (with_reducible exact Keeps.refl _ _) | refine Keeps.drew ?_ | refine Keeps.drewN ?_ _ | refine Keeps.setCell ?_ (by simp) _ | refine Keeps.setRow ?_ (by simp) _ | refine Keeps.alloc ?_ _)))).none_ k7 (fun i _ h => h.1); have d0 := kept_cell q7 b0; have d1 := kept_cell q7 b1; have d3 := kept_cell q7 b3; have HO7 := Lib.hid O7; have HQ7 := Lib.hid q7; clear O7 k7 q7))
          | ((with_reducible show wpList _ _ _ (⟨some 35, _, _, _, _, _⟩ :: _) _ _); go_must (refine wpList_append_st docR 3 docR_len (by decide) rfl (.tmp 32) (.tmp 34) 25 rfl w2.heap.size 99 (.agg #[.string ⟨#[]⟩, .string ⟨#[]⟩, .int .i64 0]) 40 Tryz.underlying25 (by kernel_rfl) rfl (by omega) v7 ([] ++ []) rfl (OwnS.keeps (S := fun _ => False) HO7.out ((Keeps.refl _ _).alloc _) (fun _ _ _ _ => id)) w7.heap.size 1 f rfl (Blk.new _ _ _) (docR_one _) (by simp only [List.length_append, List.length_cons, List.length_nil, List.length_take]; omega) (by have := HQ7.out.size; simp; omega) ?_; intro v8 w8 O8 k8; have q8 : Keeps (fun i => w2.heap.size ≤ i) w2 w8 := Keeps.and_ (HQ7.out.alloc _) k8 (fun i _ h => h.1); have HO8 := Lib.hid O8; have HQ8 := Lib.hid q8; clear O8 k8 q8))
          | ((with_reducible show wpList _ _ _ (⟨some 40, _, _, _, _, _⟩ :: _) _ _); go_must (refine wpList_append_src docR 3 docR_len (by decide) rfl (.tmp 36) (.tmp 39) 25 rfl w2.heap.size 99 (.agg #[.string ⟨#[]⟩, .string ⟨#[]⟩, .int .i64 0]) 40 Tryz.underlying25 (by kernel_rfl) rfl (by omega) v8 ([] ++ [] ++ [f]) rfl HO8.out (.slice none 0 0) ([]) rfl (SrcS.nil_ _ _ _) docR_one (by simp only [List.length_append, List.length_cons, List.length_nil, List.length_take, List.length_drop]; omega) HQ8.out.size ?_; intro v9 w9 O9 k9; have q9 : Keeps (fun i => w2.heap.size ≤ i) w2 w9 := Keeps.and_ HQ8.out k9 (fun i _ h => h.1); have HO9 := Lib.hid O9; have HQ9 := Lib.hid q9; clear O9 k9 q9)))
        go_ret
        exact ⟨v9, rfl, by rw [HPUT.out, HINS.out]; exact OwnS.moreS (by simpa using HO9.out) HK2.out.size, HK2.out.and_ HQ9.out (fun i hi h => by have := HK2.out.size; omega)⟩
      · injection hv with ea el ec
        subst ea ec
        rcases Nat.eq_or_lt_of_le hnc with he | hlt2
        · rw [← he] at HDL ⊢
          clear he
          go_wp2_with fail
          go_region
          go_wp2_with (first
          | ((with_reducible show wpList _ _ _ (⟨some 31, _, _, _, _, _⟩ :: _) _ _); go_must (refine wpList_append_src docR 3 docR_len (by decide) rfl (.tmp 27) (.tmp 30) 25 rfl w2.heap.size 99 (.agg #[.string ⟨#[]⟩, .string ⟨#[]⟩, .int .i64 0]) 40 Tryz.underlying25 (by kernel_rfl) rfl (by omega) (.slice none 0 0) [] rfl OwnS.none_ (.slice (some ⟨g, 0, none⟩) D.length D.length) (D.take D.length) rfl (OwnS.srcTake (HDL.out.keeps (HKR.out.trans (by (repeat (first | (with_reducible assumption) | (with_reducible exact Keeps.refl _ _) | refine Keeps.drew ?_ | refine Keeps.drewN ?_ _ | refine Keeps.setCell ?_ (by simp) _ | refine Keeps.setRow ?_ (by simp) _ | refine Keeps.alloc ?_ _))))) docR_len (Nat.le_refl _) D.length) docR_one (by simp only [List.length_append, List.length_cons, List.length_nil, List.length_take, List.length_drop]; omega) (HKR.out.trans (by (repeat (first | (with_reducible assumption) | (with_reducible exact Keeps.refl _ _) | refine Keeps.drew ?_ | refine Keeps.drewN ?_ _ | refine Keeps.setCell ?_ (by simp) _ | refine Keeps.setRow ?_ (by simp) _ | refine Keeps.alloc ?_ _)))).size ?_; intro v7 w7 O7 k7; have q7 : Keeps (fun i => w2.heap.size ≤ i) w2 w7 := Keeps.and_ (HKR.out.trans (by (repeat (first | (with_reducible assumption) | (with_reducible exact Keeps.refl _ _) | refine Keeps.drew ?_ | refine Keeps.drewN ?_ _ | refine Keeps.setCell ?_ (by simp) _ | refine Keeps.setRow ?_ (by simp) _ | refine Keeps.alloc ?_ _)))).none_ k7 (fun i _ h => h.1); have d0 := kept_cell q7 b0; have d1 := kept_cell q7 b1; have d3 := kept_cell q7 b3; have HO7 := Lib.hid O7; have HQ7 := Lib.hid q7; clear O7 k7 q7))
          | ((with_reducible show wpList _ _ _ (⟨some 35, _, _, _, _, _⟩ :: _) _ _); go_must (refine wpList_append_st docR 3 docR_len (by decide) rfl (.tmp 32) (.tmp 34) 25 rfl w2.heap.size 99 (.agg #[.string ⟨#[]⟩, .string ⟨#[]⟩, .int .i64 0]) 40 Tryz.underlying25 (by kernel_rfl) rfl (by omega) v7 ([] ++ D.take D.length) rfl (OwnS.keeps (S := fun _ => False) HO7.out ((Keeps.refl _ _).alloc _) (fun _ _ _ _ => id)) w7.heap.size 1 f rfl (Blk.new _ _ _) (docR_one _) (by simp only [List.length_append, List.length_cons, List.length_nil, List.length_take]; omega) (by have := HQ7.out.size; simp; omega) ?_; intro v8 w8 O8 k8; have q8 : Keeps (fun i => w2.heap.size ≤ i) w2 w8 := Keeps.and_ (HQ7.out.alloc _) k8 (fun i _ h => h.1); have HO8 := Lib.hid O8; have HQ8 := Lib.hid q8; clear O8 k8 q8))
          | ((with_reducible show wpList _ _ _ (⟨some 40, _, _, _, _, _⟩ :: _) _ _); go_must (refine wpList_append_src docR 3 docR_len (by decide) rfl (.tmp 36) (.tmp 39) 25 rfl w2.heap.size 99 (.agg #[.string ⟨#[]⟩, .string ⟨#[]⟩, .int .i64 0]) 40 Tryz.underlying25 (by kernel_rfl) rfl (by omega) v8 ([] ++ D.take D.length ++ [f]) rfl HO8.out (.slice (some ⟨g, 0, none⟩) 0 0) ([]) rfl (SrcS.nil_ _ _ _) docR_one (by simp only [List.length_append, List.length_cons, List.length_nil, List.length_take, List.length_drop]; omega) HQ8.out.size ?_; intro v9 w9 O9 k9; have q9 : Keeps (fun i => w2.heap.size ≤ i) w2 w9 := Keeps.and_ HQ8.out k9 (fun i _ h => h.1); have HO9 := Lib.hid O9; have HQ9 := Lib.hid q9; clear O9 k9 q9)))
          go_ret
          exact ⟨v9, rfl, by rw [HPUT.out, HINS.out]; exact OwnS.moreS (by simpa using HO9.out) HK2.out.size, HK2.out.and_ HQ9.out (fun i hi h => by have := HK2.out.size; omega)⟩
        · go_wp2_with fail
          go_region
          go_wp2_with (first
          | ((with_reducible show wpList _ _ _ (⟨some 31, _, _, _, _, _⟩ :: _) _ _); go_must (refine wpList_append_src docR 3 docR_len (by decide) rfl (.tmp 27) (.tmp 30) 25 rfl w2.heap.size 99 (.agg #[.string ⟨#[]⟩, .string ⟨#[]⟩, .int .i64 0]) 40 Tryz.underlying25 (by kernel_rfl) rfl (by omega) (.slice none 0 0) [] rfl OwnS.none_ (.slice (some ⟨g, 0, none⟩) D.length c) (D.take D.length) rfl (OwnS.srcTake (HDL.out.keeps (HKR.out.trans (by (repeat (first | (with_reducible assumption) | (with_reducible exact Keeps.refl _ _) | refine Keeps.drew ?_ | refine Keeps.drewN ?_ _ | refine Keeps.setCell ?_ (by simp) _ | refine Keeps.setRow ?_ (by simp) _ | refine Keeps.alloc ?_ _))))) docR_len (Nat.le_refl _) c) docR_one (by simp only [List.length_append, List.length_cons, List.length_nil, List.length_take, List.length_drop]; omega) (HKR.out.trans (by (repeat (first | (with_reducible assumption) | (with_reducible exact Keeps.refl _ _) | refine Keeps.drew ?_ | refine Keeps.drewN ?_ _ | refine Keeps.setCell ?_ (by simp) _ | refine Keeps.setRow ?_ (by simp) _ | refine Keeps.alloc ?_ _)))).size ?_; intro v7 w7 O7 k7; have q7 : Keeps (fun i => w2.heap.size ≤ i) w2 w7 := Keeps.and_ (HKR.out.trans (by (repeat (first | (with_reducible assumption) | (with_reducible exact Keeps.refl _ _) | refine Keeps.drew ?_ | refine Keeps.drewN ?_ _ | refine Keeps.setCell ?_ (by simp) _ | refine Keeps.setRow ?_ (by simp) _ | refine Keeps.alloc ?_ _)))).none_ k7 (fun i _ h => h.1); have d0 := kept_cell q7 b0; have d1 := kept_cell q7 b1; have d3 := kept_cell q7 b3; have HO7 := Lib.hid O7; have HQ7 := Lib.hid q7; clear O7 k7 q7))
          | ((with_reducible show wpList _ _ _ (⟨some 35, _, _, _, _, _⟩ :: _) _ _); go_must (refine wpList_append_st docR 3 docR_len (by decide) rfl (.tmp 32) (.tmp 34) 25 rfl w2.heap.size 99 (.agg #[.string ⟨#[]⟩, .string ⟨#[]⟩, .int .i64 0]) 40 Tryz.underlying25 (by kernel_rfl) rfl (by omega) v7 ([] ++ D.take D.length) rfl (OwnS.keeps (S := fun _ => False) HO7.out ((Keeps.refl _ _).alloc _) (fun _ _ _ _ => id)) w7.heap.size 1 f rfl (Blk.new _ _ _) (docR_one _) (by simp only [List.length_append, List.length_cons, List.length_nil, List.length_take]; omega) (by have := HQ7.out.size; simp; omega) ?_; intro v8 w8 O8 k8; have q8 : Keeps (fun i => w2.heap.size ≤ i) w2 w8 := Keeps.and_ (HQ7.out.alloc _) k8 (fun i _ h => h.1); have HO8 := Lib.hid O8; have HQ8 := Lib.hid q8; clear O8 k8 q8))
          | ((with_reducible show wpList _ _ _ (⟨some 40, _, _, _, _, _⟩ :: _) _ _); go_must (refine wpList_append_src docR 3 docR_len (by decide) rfl (.tmp 36) (.tmp 39) 25 rfl w2.heap.size 99 (.agg #[.string ⟨#[]⟩, .string ⟨#[]⟩, .int .i64 0]) 40 Tryz.underlying25 (by kernel_rfl) rfl (by omega) v8 ([] ++ D.take D.length ++ [f]) rfl HO8.out (.slice (some ⟨g, D.length * 3, none⟩) 0 (c - D.length)) ([]) rfl (SrcS.nil_ _ _ _) docR_one (by simp only [List.length_append, List.length_cons, List.length_nil, List.length_take, List.length_drop]; omega) HQ8.out.size ?_; intro v9 w9 O9 k9; have q9 : Keeps (fun i => w2.heap.size ≤ i) w2 w9 := Keeps.and_ HQ8.out k9 (fun i _ h => h.1); have HO9 := Lib.hid O9; have HQ9 := Lib.hid q9; clear O9 k9 q9)))
          go_ret
          exact ⟨v9, rfl, by rw [HPUT.out, HINS.out]; exact OwnS.moreS (by simpa using HO9.out) HK2.out.size, HK2.out.and_ HQ9.out (fun i hi h => by have := HK2.out.size; omega)⟩
end Go.Proofs.YtdbnalocmjkncaaGreatDoor

/-
  The document's store (wheelhouseref11): Get, begin, Sync, Append, Rename, Remove.
-/
namespace Go.Proofs.YtdbnalocmjkncaaGreatDoor
open Go.RowKit Go.Maps
set_option linter.unusedSimpArgs false

def zeroFile : SFile := ⟨⟨#[]⟩, ⟨#[]⟩, 0⟩
set_option maxRecDepth 100000 in
set_option maxHeartbeats 1000000 in
theorem rget_any (w : World) (v : Value) (most bad : Int) (l : List SFile) (nm : ByteArray) (h : DocL w v l) (hl : l.length ≤ 4294967296) :
    Calls Tryz.prog 44 #[docS v most bad, .string nm] w fun e w' => (∃ f ok, e = .returned (.tuple #[docF f, .bool ok]) ∧ ((ok = true ∧ getG SFile.name nm l = some f) ∨ (ok = false ∧ f = zeroFile ∧ getG SFile.name nm l = none))) ∧ Keeps (fun _ => False) w w' := by
  have hp : ∀ W, Keeps (fun _ => False) w W → _ := fun W kW => rplace_any W v most bad l nm (h.keeps kW) hl
  obtain ⟨a, c, rfl, hc⟩ := h.cells
  have HC := Lib.hid hc
  have HP := Lib.hid hp
  clear hc h hp
  unfold docS docF zeroFile at *
  go_enter Tryz.func44, Tryz.ntmps44
  go_wp2_with fail
  refine (HP.out _ (by (repeat (first | (with_reducible assumption) | (with_reducible exact Keeps.refl _ _) | refine Keeps.drew ?_ | refine Keeps.drewN ?_ _ | refine Keeps.setCell ?_ (by simp) _ | refine Keeps.setRow ?_ (by simp) _ | refine Keeps.alloc ?_ _)))).mono ?_
  rintro e w2 ⟨⟨p, rfl, hpp⟩, hw2⟩
  have k2 : Keeps (fun _ => False) w w2 := by rw [hw2]; (repeat (first | (with_reducible assumption) | (with_reducible exact Keeps.refl _ _) | refine Keeps.drew ?_ | refine Keeps.drewN ?_ _ | refine Keeps.setCell ?_ (by simp) _ | refine Keeps.setRow ?_ (by simp) _ | refine Keeps.alloc ?_ _))
  have bx : Blk w2 w.heap.size 27 #[.slice a l.length c, .int .i64 most, .int .i64 bad] := by rw [hw2]; exact ((Blk.new w _ _).alloc _).alloc _
  have bz : Blk w2 (w.heap.size + 1) 99 #[.string ⟨#[]⟩, .string ⟨#[]⟩, .int .i64 0] := by rw [hw2]; have := (Blk.new (w.alloc (.cells #[.slice a l.length c, .int .i64 most, .int .i64 bad] 27)) 99 #[.string ⟨#[]⟩, .string ⟨#[]⟩, .int .i64 0]).alloc (docO (.slice a l.length c) most bad); simpa using this
  have HK2 := Lib.hid k2
  have HBZ := Lib.hid bz
  obtain ⟨x0, x1, x2⟩ := bx.cells3
  obtain ⟨z0, z1, z2⟩ := bz.all3
  clear hw2 k2 bx bz
  rcases hpp with ⟨rfl, hg⟩ | ⟨i, f, rfl, hi, hf, hg⟩
  · have HG := Lib.hid hg
    clear hg
    go_wp2_with fail
    try simp only [Exit.inBlock, Exit.then]
    refine ret_cell_tmp rfl (w.heap.size + 1) 99 _ _ rfl (((HBZ.out.set_ 0 _).set_ 1 _).set_ 2 _) Tryz.underlying99 rfl (by kernel_rfl) rfl ?_
    exact ⟨⟨⟨⟨#[]⟩, ⟨#[]⟩, 0⟩, false, rfl, .inr ⟨rfl, rfl, HG.out⟩⟩, ((HK2.out.setNew (by omega) _).setNew (by omega) _).setNew (by omega) _⟩
  · obtain ⟨g, rfl, hgl, hcc⟩ := HC.out i f hf
    have HG := Lib.hid hg
    obtain ⟨c0, c1, c2⟩ := hcc _ HK2.out
    clear hg hcc hf
    go_wp2_with fail
    try simp only [Exit.inBlock, Exit.then]
    refine ret_cell_tmp rfl (w.heap.size + 1) 99 _ _ rfl (((HBZ.out.set_ 0 _).set_ 1 _).set_ 2 _) Tryz.underlying99 rfl (by kernel_rfl) rfl ?_
    exact ⟨⟨f, true, rfl, .inl ⟨rfl, HG.out⟩⟩, ((HK2.out.setNew (by omega) _).setNew (by omega) _).setNew (by omega) _⟩

set_option maxRecDepth 100000 in
set_option maxHeartbeats 1000000 in
theorem rbegin_any (w : World) (v : Value) (most : Int) (bad : Nat) (nm : ByteArray) (hv : ∃ a n c, v = .slice a n c) (hn : nm.size ≤ 4611686018427387904) (hb : bad ≤ 9223372036854775807) :
    Calls Tryz.prog 79 #[docS v most bad, .string nm] w fun e w' => e = .returned (.tuple #[docS v most (beginC bad nm).2, .int .i64 (beginC bad nm).1]) ∧ Keeps (fun _ => False) w w' := by
  obtain ⟨a, n, c, rfl⟩ := hv
  have HN := Lib.hid (fun W => rnamed_any W nm hn)
  unfold docS
  by_cases hnm : namedP nm = true
  · rw [hnm] at HN
    by_cases hb0 : 0 < bad
    · have hbc : beginC bad nm = (12, bad - 1) := by unfold beginC; rw [if_pos hnm, if_pos hb0]
      rw [hbc]
      clear hbc
      go_enter Tryz.func79, Tryz.ntmps79
      go_wp2_with (go_at_call 102; refine (HN.out _).mono ?_; rintro e w2 ⟨rfl, rfl⟩)
      try simp only [Exit.inBlock, Exit.then]
      refine ret_cell_tmp rfl (w.heap.size + 1) 27 _ _ rfl (Blk.new2 _ _ _ _) Tryz.underlying27 rfl (by kernel_rfl) rfl ?_
      have e : (bad : Int) - 1 = ((bad - 1 : Nat) : Int) := by omega
      rw [e]
      exact ⟨rfl, by (repeat (first | (with_reducible assumption) | (with_reducible exact Keeps.refl _ _) | refine Keeps.drew ?_ | refine Keeps.drewN ?_ _ | refine Keeps.setCell ?_ (by simp) _ | refine Keeps.setRow ?_ (by simp) _ | refine Keeps.alloc ?_ _))⟩
    · obtain rfl : bad = 0 := by omega
      have hbc : beginC 0 nm = (0, 0) := by unfold beginC; rw [if_pos hnm, if_neg (by omega)]
      rw [hbc]
      clear hbc
      go_enter Tryz.func79, Tryz.ntmps79
      go_wp2_with (go_at_call 102; refine (HN.out _).mono ?_; rintro e w2 ⟨rfl, rfl⟩)
      try simp only [Exit.inBlock, Exit.then]
      refine ret_cell_tmp rfl (w.heap.size + 1) 27 _ _ rfl (Blk.new2 _ _ _ _) Tryz.underlying27 rfl (by kernel_rfl) rfl ?_
      exact ⟨rfl, by (repeat (first | (with_reducible assumption) | (with_reducible exact Keeps.refl _ _) | refine Keeps.drew ?_ | refine Keeps.drewN ?_ _ | refine Keeps.setCell ?_ (by simp) _ | refine Keeps.setRow ?_ (by simp) _ | refine Keeps.alloc ?_ _))⟩
  · have hbc : beginC bad nm = (1, bad) := by unfold beginC; rw [if_neg hnm]
    rw [hbc]
    rw [show namedP nm = false by simpa using hnm] at HN
    clear hbc
    go_enter Tryz.func79, Tryz.ntmps79
    go_wp2_with (go_at_call 102; refine (HN.out _).mono ?_; rintro e w2 ⟨rfl, rfl⟩)
    try simp only [Exit.inBlock, Exit.then]
    refine ret_cell_tmp rfl (w.heap.size + 1) 27 _ _ rfl (Blk.new2 _ _ _ _) Tryz.underlying27 rfl (by kernel_rfl) rfl ?_
    exact ⟨rfl, by (repeat (first | (with_reducible assumption) | (with_reducible exact Keeps.refl _ _) | refine Keeps.drew ?_ | refine Keeps.drewN ?_ _ | refine Keeps.setCell ?_ (by simp) _ | refine Keeps.setRow ?_ (by simp) _ | refine Keeps.alloc ?_ _))⟩
end Go.Proofs.YtdbnalocmjkncaaGreatDoor

/-
  The document's store (wheelhouseref11): Sync, Remove, Append, Rename.
-/
namespace Go.Proofs.YtdbnalocmjkncaaGreatDoor
open Go.RowKit Go.Maps
set_option linter.unusedSimpArgs false

/-- what the document's act leaves: the code, the calls that will fail, the files -/
def DocAfter (w : World) (most : Int) (x : Int × Nat × List SFile) (e : Ending) (w' : World) : Prop :=
  ∃ v, e = .returned (.tuple #[docS v most x.2.1, .int .i64 x.1]) ∧ DocL w' v x.2.2 ∧ Keeps (fun _ => False) w w'
theorem DocL.slc {w : World} {v : Value} {l : List SFile} (h : DocL w v l) : ∃ a n c, v = .slice a n c := by
  obtain ⟨a, c, hv, _⟩ := h.cells
  exact ⟨a, _, c, hv⟩
theorem Keeps.set3 {S : Nat → Prop} {a b : World} (h : Keeps S a b) {g : Nat} (hg : a.heap.size ≤ g) (x y z : Value) : Keeps S a (((b.setCell ⟨g, 0, none⟩ x).setCell ⟨g, 1, none⟩ y).setCell ⟨g, 2, none⟩ z) := ((h.setNew hg _).setNew hg _).setNew hg _
theorem Blk.set3 {w : World} {g : Nat} {t : TypeId} {a b c : Value} (h : Blk w g t #[a, b, c]) (x y z : Value) : Blk (((w.setCell ⟨g, 0, none⟩ x).setCell ⟨g, 1, none⟩ y).setCell ⟨g, 2, none⟩ z) g t #[x, y, z] := ((h.set_ 0 x).set_ 1 y).set_ 2 z
theorem Blk.far3 {w : World} {g k : Nat} {t : TypeId} {cs : Array Value} (h : Blk w k t cs) (hk : k ≠ g) (x y z : Value) : Blk (((w.setCell ⟨g, 0, none⟩ x).setCell ⟨g, 1, none⟩ y).setCell ⟨g, 2, none⟩ z) k t cs := ((h.far hk x).far hk y).far hk z
theorem own_doc {w5 w6 : World} {B : Nat} {v : Value} {l : List SFile} (O : OwnS docR 3 w5 B 99 v l) (k : Keeps (fun i => i < B) w5 w6) : DocL w6 v l := OwnS.moreS (OwnS.keeps O k (fun _ hi _ _ h => by omega)) (Nat.zero_le _)
theorem Keeps.old3 {B : Nat} {a b : World} (h : Keeps (fun i => i < B) a b) {g : Nat} (hg : g < B) (x y z : Value) : Keeps (fun i => i < B) a (((b.setCell ⟨g, 0, none⟩ x).setCell ⟨g, 1, none⟩ y).setCell ⟨g, 2, none⟩ z) := ((h.setCell (fun _ => hg) _).setCell (fun _ => hg) _).setCell (fun _ => hg) _
theorem rplace_k (w : World) (v : Value) (most bad : Int) (l : List SFile) (nm : ByteArray) (h : DocL w v l) (hl : l.length ≤ 4294967296) :
    Calls Tryz.prog 100 #[docS v most bad, .string nm] w fun e w' => (∃ p : Int, e = .returned (.int .i64 p) ∧ ((p = -1 ∧ getG SFile.name nm l = none) ∨ ∃ (i : Nat) (f : SFile), p = i ∧ i < l.length ∧ l[i]? = some f ∧ getG SFile.name nm l = some f)) ∧ Keeps (fun _ => False) w w' :=
  (rplace_any w v most bad l nm h hl).mono fun _ _ ⟨h, hw⟩ => ⟨h, hw ▸ (Keeps.refl _ _).alloc _⟩
theorem OwnS.sl3 {α : Type} {R : α → List Value} {size : Nat} {w : World} {B : Nat} {e : TypeId} {v : Value} {xs : List α} (h : OwnS R size w B e v xs) : ∃ a n c, v = .slice a n c := by obtain ⟨a, c, hv⟩ := h.sl; exact ⟨a, _, c, hv⟩

set_option maxRecDepth 100000 in
set_option maxHeartbeats 1000000 in
theorem rsync_any (w : World) (v : Value) (most : Int) (bad : Nat) (l : List SFile) (nm : ByteArray) (h : DocL w v l) (hl : l.length ≤ 4294967296) (hn : nm.size ≤ 4611686018427387904) (hb : bad ≤ 9223372036854775807) :
    Calls Tryz.prog 33 #[docS v most bad, .string nm] w (DocAfter w most (syncP bad l nm)) := by
  have hB := fun W => rbegin_any W v most bad nm h.slc hn hb
  obtain ⟨c, hc⟩ : ∃ c, c = (beginC bad nm).1 := ⟨_, rfl⟩
  obtain ⟨b', hb'⟩ : ∃ b', b' = (beginC bad nm).2 := ⟨_, rfl⟩
  rw [← hc, ← hb'] at hB
  have HB := Lib.hid hB
  have H := Lib.hid h
  obtain ⟨a0, n0, c0, rfl⟩ := h.slc
  clear h hB
  by_cases h0 : c = 0
  · cases hg : getG SFile.name nm l with
    | some f =>
      have hsync : syncP bad l nm = (0, b', putG SFile.name ⟨nm, f.data, f.data.size⟩ l) := by
        unfold syncP
        rw [if_neg (by rw [← hc, h0]; simp), ← hb', hg]
      rw [hsync]
      subst h0
      clear hsync hc hb'
      unfold docS at *
      go_enter Tryz.func33, Tryz.ntmps33
      go_wp2_with fail
      refine (HB.out _).mono ?_
      rintro e w2 ⟨rfl, k1⟩
      have k2 : Keeps (fun _ => False) w w2 := Keeps.trans (by (repeat (first | (with_reducible assumption) | (with_reducible exact Keeps.refl _ _) | refine Keeps.drew ?_ | refine Keeps.drewN ?_ _ | refine Keeps.setCell ?_ (by simp) _ | refine Keeps.setRow ?_ (by simp) _ | refine Keeps.alloc ?_ _))) k1
      have bx := ((Blk.new w 27 #[.slice a0 n0 c0, .int .i64 most, .int .i64 bad]).alloc (.cells #[.slice none 0 0, .int .i64 0, .int .i64 0] 27)).keeps k1 id
      have bz := (Blk.new2 w (.cells #[.slice a0 n0 c0, .int .i64 most, .int .i64 bad] 27) 27 #[.slice none 0 0, .int .i64 0, .int .i64 0]).keeps k1 id
      have HK2 := Lib.hid k2
      have HBX := Lib.hid bx
      have HBZ := Lib.hid bz
      obtain ⟨x0, x1, x2⟩ := bx.all3
      obtain ⟨z0, z1, z2⟩ := bz.all3
      clear k1 k2 bx bz
      go_wp2_with fail
      refine (rget_any _ (.slice a0 n0 c0) most b' l nm (H.out.keeps (HK2.out.set3 (Nat.le_refl _) _ _ _)) hl).mono ?_
      rintro e w3 ⟨⟨f', ok, rfl, hf⟩, k3⟩
      have hk : Keeps (fun _ => False) w w3 := (HK2.out.set3 (Nat.le_refl _) _ _ _).trans k3
      have bx := (HBX.out.set3 _ _ _).keeps k3 id
      have bz := (HBZ.out.far3 (by omega) _ _ _).keeps k3 id
      have HK3 := Lib.hid hk
      have HBX3 := Lib.hid bx
      have HBZ3 := Lib.hid bz
      have hz3 := bz.lt
      clear x0 x1 x2 z0 z1 z2
      obtain ⟨x0, x1, x2⟩ := bx.all3
      obtain ⟨z0, z1, z2⟩ := bz.all3
      clear hk bx bz
      clear k3
      have hff : ok = true ∧ f' = f := by
        rcases hf with ⟨e1, e2⟩ | ⟨_, _, e2⟩
        · exact ⟨e1, Option.some.inj (e2.symm.trans hg)⟩
        · rw [hg] at e2; cases e2
      obtain ⟨rfl, rfl⟩ := hff
      clear hf hg
      unfold docF
      obtain ⟨y0, y1, y2⟩ := (HBX3.out.alloc (.cells #[.string f'.name, .string f'.data, .int .i64 (f'.sure : Nat)] 99)).all3
      obtain ⟨t0, t1, t2⟩ := (HBZ3.out.alloc (.cells #[.string f'.name, .string f'.data, .int .i64 (f'.sure : Nat)] 99)).all3
      go_wp2_with fail
      clear y0 y1 y2 t0 t1 t2
      refine (rwith_any _ (.slice a0 n0 c0) l ⟨nm, f'.data, f'.data.size⟩ (H.out.keeps (HK3.out.alloc _)) hl).mono ?_
      rintro e w5 ⟨v5, rfl, O5, k5⟩
      obtain ⟨a5, m5, c5, hv5⟩ := OwnS.sl3 O5
      subst hv5
      have HO5 := Lib.hid O5
      clear O5
      have hk : Keeps (fun _ => False) w w5 := (HK3.out.alloc _).trans k5
      have bx := (HBX3.out.alloc _).keeps k5 id
      have bz := (HBZ3.out.alloc _).keeps k5 id
      have HK5 := Lib.hid hk
      have HBX5 := Lib.hid bx
      have HBZ5 := Lib.hid bz
      have hz5 := bz.lt
      clear x0 x1 x2 z0 z1 z2
      obtain ⟨x0, x1, x2⟩ := bx.all3
      obtain ⟨z0, z1, z2⟩ := bz.all3
      clear hk bx bz
      clear k5
      go_wp2_with fail
      try simp only [Exit.inBlock, Exit.then]
      refine ret_cell_tmp rfl (w.heap.size + 1) 27 _ _ rfl ((HBZ5.out.far (by simp) _).set3 _ _ _) Tryz.underlying27 rfl (by kernel_rfl) rfl ?_
      exact ⟨_, rfl, own_doc HO5.out (((Keeps.refl _ _).setCell (fun _ => by simp; omega) _).old3 (by first | omega | (simp; omega)) _ _ _), (HK5.out.setNew (Nat.le_refl _) _).set3 (by omega) _ _ _⟩
    | none =>
      have hsync : syncP bad l nm = (7, b', l) := by
        unfold syncP
        rw [if_neg (by rw [← hc, h0]; simp), ← hb', hg]
      rw [hsync]
      subst h0
      clear hsync hc hb'
      unfold docS at *
      go_enter Tryz.func33, Tryz.ntmps33
      go_wp2_with fail
      refine (HB.out _).mono ?_
      rintro e w2 ⟨rfl, k1⟩
      have k2 : Keeps (fun _ => False) w w2 := Keeps.trans (by (repeat (first | (with_reducible assumption) | (with_reducible exact Keeps.refl _ _) | refine Keeps.drew ?_ | refine Keeps.drewN ?_ _ | refine Keeps.setCell ?_ (by simp) _ | refine Keeps.setRow ?_ (by simp) _ | refine Keeps.alloc ?_ _))) k1
      have bx := ((Blk.new w 27 #[.slice a0 n0 c0, .int .i64 most, .int .i64 bad]).alloc (.cells #[.slice none 0 0, .int .i64 0, .int .i64 0] 27)).keeps k1 id
      have bz := (Blk.new2 w (.cells #[.slice a0 n0 c0, .int .i64 most, .int .i64 bad] 27) 27 #[.slice none 0 0, .int .i64 0, .int .i64 0]).keeps k1 id
      have HK2 := Lib.hid k2
      have HBX := Lib.hid bx
      have HBZ := Lib.hid bz
      obtain ⟨x0, x1, x2⟩ := bx.all3
      obtain ⟨z0, z1, z2⟩ := bz.all3
      clear k1 k2 bx bz
      go_wp2_with fail
      refine (rget_any _ (.slice a0 n0 c0) most b' l nm (H.out.keeps (HK2.out.set3 (Nat.le_refl _) _ _ _)) hl).mono ?_
      rintro e w3 ⟨⟨f', ok, rfl, hf⟩, k3⟩
      have hk : Keeps (fun _ => False) w w3 := (HK2.out.set3 (Nat.le_refl _) _ _ _).trans k3
      have bx := (HBX.out.set3 _ _ _).keeps k3 id
      have bz := (HBZ.out.far3 (by omega) _ _ _).keeps k3 id
      have HK3 := Lib.hid hk
      have HBX3 := Lib.hid bx
      have HBZ3 := Lib.hid bz
      have hz3 := bz.lt
      clear x0 x1 x2 z0 z1 z2
      obtain ⟨x0, x1, x2⟩ := bx.all3
      obtain ⟨z0, z1, z2⟩ := bz.all3
      clear hk bx bz
      clear k3
      have hff : ok = false ∧ f' = zeroFile := by
        rcases hf with ⟨e1, e2⟩ | ⟨e1, e3, e2⟩
        · rw [hg] at e2; cases e2
        · exact ⟨e1, e3⟩
      obtain ⟨rfl, rfl⟩ := hff
      clear hf hg
      simp only [docF, zeroFile, Int.cast_ofNat_Int]
      obtain ⟨y0, y1, y2⟩ := (HBX3.out.alloc (.cells #[.string ⟨#[]⟩, .string ⟨#[]⟩, .int .i64 0] 99)).all3
      obtain ⟨t0, t1, t2⟩ := (HBZ3.out.alloc (.cells #[.string ⟨#[]⟩, .string ⟨#[]⟩, .int .i64 0] 99)).all3
      go_wp2_with fail
      try simp only [Exit.inBlock, Exit.then]
      refine ret_cell_tmp rfl (w.heap.size + 1) 27 _ _ rfl ((HBZ3.out.set3 _ _ _).alloc _) Tryz.underlying27 rfl (by kernel_rfl) rfl ?_
      exact ⟨_, rfl, H.out.keeps ((HK3.out.set3 (by omega) _ _ _).alloc _), (HK3.out.set3 (by omega) _ _ _).alloc _⟩
  · have hsync : syncP bad l nm = (c, b', l) := by
      unfold syncP
      rw [if_pos (by rw [← hc]; exact h0), ← hc, ← hb']
    rw [hsync]
    clear hsync hc hb'
    unfold docS at *
    go_enter Tryz.func33, Tryz.ntmps33
    go_wp2_with fail
    refine (HB.out _).mono ?_
    rintro e w2 ⟨rfl, k1⟩
    have k2 : Keeps (fun _ => False) w w2 := Keeps.trans (by (repeat (first | (with_reducible assumption) | (with_reducible exact Keeps.refl _ _) | refine Keeps.drew ?_ | refine Keeps.drewN ?_ _ | refine Keeps.setCell ?_ (by simp) _ | refine Keeps.setRow ?_ (by simp) _ | refine Keeps.alloc ?_ _))) k1
    have bx := ((Blk.new w 27 #[.slice a0 n0 c0, .int .i64 most, .int .i64 bad]).alloc (.cells #[.slice none 0 0, .int .i64 0, .int .i64 0] 27)).keeps k1 id
    have bz := (Blk.new2 w (.cells #[.slice a0 n0 c0, .int .i64 most, .int .i64 bad] 27) 27 #[.slice none 0 0, .int .i64 0, .int .i64 0]).keeps k1 id
    have HK2 := Lib.hid k2
    have HBX := Lib.hid bx
    have HBZ := Lib.hid bz
    obtain ⟨x0, x1, x2⟩ := bx.all3
    obtain ⟨z0, z1, z2⟩ := bz.all3
    clear k1 k2 bx bz
    go_wp2_with fail
    try simp only [Exit.inBlock, Exit.then]
    refine ret_cell_tmp rfl (w.heap.size + 1) 27 _ _ rfl ((HBZ.out.far3 (by omega) _ _ _).set3 _ _ _) Tryz.underlying27 rfl (by kernel_rfl) rfl ?_
    exact ⟨_, rfl, H.out.keeps ((HK2.out.set3 (Nat.le_refl _) _ _ _).set3 (by omega) _ _ _), (HK2.out.set3 (Nat.le_refl _) _ _ _).set3 (by omega) _ _ _⟩

set_option maxRecDepth 100000 in
set_option maxHeartbeats 1000000 in
theorem rremove_any (w : World) (v : Value) (most : Int) (bad : Nat) (l : List SFile) (nm : ByteArray) (h : DocL w v l) (hl : l.length ≤ 4294967296) (hn : nm.size ≤ 4611686018427387904) (hb : bad ≤ 9223372036854775807) :
    Calls Tryz.prog 45 #[docS v most bad, .string nm] w (DocAfter w most (removeP bad l nm)) := by
  have hB := fun W => rbegin_any W v most bad nm h.slc hn hb
  obtain ⟨c, hc⟩ : ∃ c, c = (beginC bad nm).1 := ⟨_, rfl⟩
  obtain ⟨b', hb'⟩ : ∃ b', b' = (beginC bad nm).2 := ⟨_, rfl⟩
  rw [← hc, ← hb'] at hB
  have HB := Lib.hid hB
  have H := Lib.hid h
  obtain ⟨a0, n0, c0, rfl⟩ := h.slc
  clear h hB
  by_cases h0 : c = 0
  · cases hg : getG SFile.name nm l with
    | some f =>
      have hsync : removeP bad l nm = (0, b', delG SFile.name nm l) := by
        unfold removeP
        rw [if_neg (by rw [← hc, h0]; simp), ← hb', hg]
      rw [hsync]
      subst h0
      clear hsync hc hb'
      unfold docS at *
      go_enter Tryz.func45, Tryz.ntmps45
      go_wp2_with fail
      refine (HB.out _).mono ?_
      rintro e w2 ⟨rfl, k1⟩
      have k2 : Keeps (fun _ => False) w w2 := Keeps.trans (by (repeat (first | (with_reducible assumption) | (with_reducible exact Keeps.refl _ _) | refine Keeps.drew ?_ | refine Keeps.drewN ?_ _ | refine Keeps.setCell ?_ (by simp) _ | refine Keeps.setRow ?_ (by simp) _ | refine Keeps.alloc ?_ _))) k1
      have bx := ((Blk.new w 27 #[.slice a0 n0 c0, .int .i64 most, .int .i64 bad]).alloc (.cells #[.slice none 0 0, .int .i64 0, .int .i64 0] 27)).keeps k1 id
      have bz := (Blk.new2 w (.cells #[.slice a0 n0 c0, .int .i64 most, .int .i64 bad] 27) 27 #[.slice none 0 0, .int .i64 0, .int .i64 0]).keeps k1 id
      have HK2 := Lib.hid k2
      have HBX := Lib.hid bx
      have HBZ := Lib.hid bz
      obtain ⟨x0, x1, x2⟩ := bx.all3
      obtain ⟨z0, z1, z2⟩ := bz.all3
      clear k1 k2 bx bz
      go_wp2_with fail
      refine (rplace_k _ (.slice a0 n0 c0) most b' l nm (H.out.keeps (HK2.out.set3 (Nat.le_refl _) _ _ _)) hl).mono ?_
      rintro e w3 ⟨⟨p, rfl, hp⟩, k3⟩
      have hk : Keeps (fun _ => False) w w3 := (HK2.out.set3 (Nat.le_refl _) _ _ _).trans k3
      have bx := (HBX.out.set3 _ _ _).keeps k3 id
      have bz := (HBZ.out.far3 (by omega) _ _ _).keeps k3 id
      have HK3 := Lib.hid hk
      have HBX3 := Lib.hid bx
      have HBZ3 := Lib.hid bz
      have hz3 := bz.lt
      clear x0 x1 x2 z0 z1 z2
      obtain ⟨x0, x1, x2⟩ := bx.all3
      obtain ⟨z0, z1, z2⟩ := bz.all3
      clear hk bx bz
      clear k3
      have hff : ∃ j : Nat, p = j := by
        rcases hp with ⟨_, e2⟩ | ⟨j, f', e1, _⟩
        · rw [hg] at e2; cases e2
        · exact ⟨j, e1⟩
      obtain ⟨j, rfl⟩ := hff
      clear hp hg
      go_wp2_with fail
      refine (rwithout_any _ (.slice a0 n0 c0) l nm (H.out.keeps HK3.out) hl).mono ?_
      rintro e w5 ⟨v5, rfl, O5, k5⟩
      obtain ⟨a5, m5, c5, hv5⟩ := OwnS.sl3 O5
      subst hv5
      have HO5 := Lib.hid O5
      clear O5
      have hk : Keeps (fun _ => False) w w5 := HK3.out.trans k5
      have bx := HBX3.out.keeps k5 id
      have bz := HBZ3.out.keeps k5 id
      have HK5 := Lib.hid hk
      have HBX5 := Lib.hid bx
      have HBZ5 := Lib.hid bz
      have hz5 := bz.lt
      clear x0 x1 x2 z0 z1 z2
      obtain ⟨x0, x1, x2⟩ := bx.all3
      obtain ⟨z0, z1, z2⟩ := bz.all3
      clear hk bx bz
      clear k5
      go_wp2_with fail
      try simp only [Exit.inBlock, Exit.then]
      refine ret_cell_tmp rfl (w.heap.size + 1) 27 _ _ rfl ((HBZ5.out.far (by simp) _).set3 _ _ _) Tryz.underlying27 rfl (by kernel_rfl) rfl ?_
      exact ⟨_, rfl, own_doc HO5.out (((Keeps.refl _ _).setCell (fun _ => by simp; omega) _).old3 (by first | omega | (simp; omega)) _ _ _), (HK5.out.setNew (Nat.le_refl _) _).set3 (by omega) _ _ _⟩
    | none =>
      have hsync : removeP bad l nm = (7, b', l) := by
        unfold removeP
        rw [if_neg (by rw [← hc, h0]; simp), ← hb', hg]
      rw [hsync]
      subst h0
      clear hsync hc hb'
      unfold docS at *
      go_enter Tryz.func45, Tryz.ntmps45
      go_wp2_with fail
      refine (HB.out _).mono ?_
      rintro e w2 ⟨rfl, k1⟩
      have k2 : Keeps (fun _ => False) w w2 := Keeps.trans (by (repeat (first | (with_reducible assumption) | (with_reducible exact Keeps.refl _ _) | refine Keeps.drew ?_ | refine Keeps.drewN ?_ _ | refine Keeps.setCell ?_ (by simp) _ | refine Keeps.setRow ?_ (by simp) _ | refine Keeps.alloc ?_ _))) k1
      have bx := ((Blk.new w 27 #[.slice a0 n0 c0, .int .i64 most, .int .i64 bad]).alloc (.cells #[.slice none 0 0, .int .i64 0, .int .i64 0] 27)).keeps k1 id
      have bz := (Blk.new2 w (.cells #[.slice a0 n0 c0, .int .i64 most, .int .i64 bad] 27) 27 #[.slice none 0 0, .int .i64 0, .int .i64 0]).keeps k1 id
      have HK2 := Lib.hid k2
      have HBX := Lib.hid bx
      have HBZ := Lib.hid bz
      obtain ⟨x0, x1, x2⟩ := bx.all3
      obtain ⟨z0, z1, z2⟩ := bz.all3
      clear k1 k2 bx bz
      go_wp2_with fail
      refine (rplace_k _ (.slice a0 n0 c0) most b' l nm (H.out.keeps (HK2.out.set3 (Nat.le_refl _) _ _ _)) hl).mono ?_
      rintro e w3 ⟨⟨p, rfl, hp⟩, k3⟩
      have hk : Keeps (fun _ => False) w w3 := (HK2.out.set3 (Nat.le_refl _) _ _ _).trans k3
      have bx := (HBX.out.set3 _ _ _).keeps k3 id
      have bz := (HBZ.out.far3 (by omega) _ _ _).keeps k3 id
      have HK3 := Lib.hid hk
      have HBX3 := Lib.hid bx
      have HBZ3 := Lib.hid bz
      have hz3 := bz.lt
      clear x0 x1 x2 z0 z1 z2
      obtain ⟨x0, x1, x2⟩ := bx.all3
      obtain ⟨z0, z1, z2⟩ := bz.all3
      clear hk bx bz
      clear k3
      have hff : p = -1 := by
        rcases hp with ⟨e1, _⟩ | ⟨j, f', _, _, _, e2⟩
        · exact e1
        · rw [hg] at e2; cases e2
      obtain rfl := hff
      clear hp hg
      go_wp2_with fail
      try simp only [Exit.inBlock, Exit.then]
      refine ret_cell_tmp rfl (w.heap.size + 1) 27 _ _ rfl (HBZ3.out.set3 _ _ _) Tryz.underlying27 rfl (by kernel_rfl) rfl ?_
      exact ⟨_, rfl, H.out.keeps (HK3.out.set3 (by omega) _ _ _), HK3.out.set3 (by omega) _ _ _⟩
  · have hsync : removeP bad l nm = (c, b', l) := by
      unfold removeP
      rw [if_pos (by rw [← hc]; exact h0), ← hc, ← hb']
    rw [hsync]
    clear hsync hc hb'
    unfold docS at *
    go_enter Tryz.func45, Tryz.ntmps45
    go_wp2_with fail
    refine (HB.out _).mono ?_
    rintro e w2 ⟨rfl, k1⟩
    have k2 : Keeps (fun _ => False) w w2 := Keeps.trans (by (repeat (first | (with_reducible assumption) | (with_reducible exact Keeps.refl _ _) | refine Keeps.drew ?_ | refine Keeps.drewN ?_ _ | refine Keeps.setCell ?_ (by simp) _ | refine Keeps.setRow ?_ (by simp) _ | refine Keeps.alloc ?_ _))) k1
    have bx := ((Blk.new w 27 #[.slice a0 n0 c0, .int .i64 most, .int .i64 bad]).alloc (.cells #[.slice none 0 0, .int .i64 0, .int .i64 0] 27)).keeps k1 id
    have bz := (Blk.new2 w (.cells #[.slice a0 n0 c0, .int .i64 most, .int .i64 bad] 27) 27 #[.slice none 0 0, .int .i64 0, .int .i64 0]).keeps k1 id
    have HK2 := Lib.hid k2
    have HBX := Lib.hid bx
    have HBZ := Lib.hid bz
    obtain ⟨x0, x1, x2⟩ := bx.all3
    obtain ⟨z0, z1, z2⟩ := bz.all3
    clear k1 k2 bx bz
    go_wp2_with fail
    try simp only [Exit.inBlock, Exit.then]
    refine ret_cell_tmp rfl (w.heap.size + 1) 27 _ _ rfl ((HBZ.out.far3 (by omega) _ _ _).set3 _ _ _) Tryz.underlying27 rfl (by kernel_rfl) rfl ?_
    exact ⟨_, rfl, H.out.keeps ((HK2.out.set3 (Nat.le_refl _) _ _ _).set3 (by omega) _ _ _), (HK2.out.set3 (Nat.le_refl _) _ _ _).set3 (by omega) _ _ _⟩
end Go.Proofs.YtdbnalocmjkncaaGreatDoor

/-
  Numbers in decimal, as lists of bytes. No program in sight.
-/
namespace Go.Proofs.YtdbnalocmjkncaaGreatDoor
open Go.RowKit

/-- a digit's sign -/
def digc (n : Nat) : UInt8 := UInt8.ofNat (48 + n)
theorem digc_nat {n : Nat} (h : n < 10) : (digc n).toNat = 48 + n := by unfold digc; rw [UInt8.toNat_ofNat_of_lt' (by show 48 + n < 256; omega)]
/-- a number's digits -/
def decN (n : Nat) : List UInt8 := if n < 10 then [digc n] else decN (n / 10) ++ [digc (n % 10)]
theorem decN_small {n : Nat} (h : n < 10) : decN n = [digc n] := by rw [decN, if_pos h]
theorem decN_big {n : Nat} (h : 10 ≤ n) : decN n = decN (n / 10) ++ [digc (n % 10)] := by rw [decN, if_neg (by omega)]
/-- a number with its sign -/
def dec (n : Int) : List UInt8 := if n < 0 then 45 :: decN (-n).toNat else decN n.toNat
theorem dec_neg {n : Int} (h : n < 0) : dec n = 45 :: decN (-n).toNat := by rw [dec, if_pos h]
theorem dec_pos {n : Int} (h : 0 ≤ n) : dec n = decN n.toNat := by rw [dec, if_neg (by omega)]
theorem decN_pos (n : Nat) : 0 < (decN n).length := by rw [decN]; split <;> simp
theorem decN_len (n k : Nat) : n < 10 ^ (k + 1) → (decN n).length ≤ k + 1 := by
  induction k generalizing n with
  | zero => intro h; rw [decN_small (by simpa using h)]; simp
  | succ k ih =>
    intro h
    by_cases h1 : n < 10
    · rw [decN_small h1]; simp
    · rw [decN_big (by omega), List.length_append]
      have := ih (n / 10) (by rw [Nat.pow_succ] at h; omega)
      simp; omega
theorem decN_le {n : Nat} (h : n ≤ 9223372036854775808) : (decN n).length ≤ 19 := decN_len n 18 (by omega)
theorem dec_le {n : Int} (h1 : -9223372036854775808 ≤ n) (h2 : n ≤ 9223372036854775807) : (dec n).length ≤ 20 := by
  unfold dec; split
  · have := decN_le (n := (-n).toNat) (by omega); simp; omega
  · have := decN_le (n := n.toNat) (by omega); omega
theorem dec_ne (n : Int) : dec n ≠ [] := by
  unfold dec; split
  · simp
  · intro h; have := decN_pos n.toNat; rw [h] at this; simp at this
/-- digits are digits -/
theorem decN_dig (n : Nat) : ∀ c ∈ decN n, 48 ≤ c.toNat ∧ c.toNat ≤ 57 := by
  induction n using Nat.strongRecOn with
  | _ n ih =>
    intro c hc
    by_cases h : n < 10
    · rw [decN_small h] at hc
      rw [List.mem_singleton] at hc; subst hc
      rw [digc_nat h]; omega
    · rw [decN_big (by omega)] at hc
      rcases List.mem_append.1 hc with hc | hc
      · exact ih (n / 10) (by omega) c hc
      · rw [List.mem_singleton] at hc; subst hc
        rw [digc_nat (by omega)]; omega
theorem dec_sign (n : Int) : ∀ c ∈ dec n, 45 ≤ c.toNat ∧ c.toNat ≤ 57 := by
  intro c hc
  unfold dec at hc
  split at hc
  · rcases List.mem_cons.1 hc with rfl | hc
    · decide
    · have := decN_dig _ c hc; omega
  · have := decN_dig _ c hc; omega

/-- the last digit put ahead of what was put: a round of the loop that fills a row from its end -/
theorem dec_round (N at_ : Nat) (L : List UInt8) (h1 : at_ ≤ L.length) (h0 : 0 < at_) :
    (L.set (at_ - 1) (digc (N % 10))).drop (at_ - 1) = digc (N % 10) :: L.drop at_ := by
  obtain ⟨k, rfl⟩ : ∃ k, at_ = k + 1 := ⟨at_ - 1, by omega⟩
  simp only [Nat.add_sub_cancel]
  rw [List.drop_eq_getElem_cons (by simp; omega)]
  simp [List.drop_set_of_lt]
theorem tmod_neg (N : Nat) : (-(N : Int)).tmod 10 = -((N % 10 : Nat) : Int) := by
  rw [Int.neg_tmod, Int.tmod_eq_emod_of_nonneg (by omega)]; simp
theorem tdiv_neg (N : Nat) : (-(N : Int)).tdiv 10 = -((N / 10 : Nat) : Int) := by
  rw [Int.neg_tdiv, Int.tdiv_eq_ediv_of_nonneg (by omega)]; simp
theorem bv_set (L : List UInt8) (i : Nat) (c : UInt8) : (bv L).setIfInBounds i (.int .u8 c.toNat) = bv (L.set i c) := by
  unfold bv
  apply Array.ext'
  simp [List.map_set]
end Go.Proofs.YtdbnalocmjkncaaGreatDoor

/-
  digit.small and digit.Put, and the document's Put: a number in decimal.
-/
namespace Go.Proofs.YtdbnalocmjkncaaGreatDoor
open Go.RowKit

/-- a scope with one label to which the run jumps back: what follows the label is walked once -/
theorem wp_scope_both {P : Program} {a : Act} {w : World} {Q : Exit → Act → World → Prop} {c rest : Code} (l : Nat) (J : Act → World → Prop) (μ : Act → World → Nat) (hf : findLabel c l = some (.seq .skip rest))
    (pass : ∀ a w, J a w → rest.wp P (Exit.jump l (fun a' w' => J a' w' ∧ μ a' w' < μ a w) Q) a w)
    (first : Hid (∀ a w, J a w → rest.wp P (Exit.jump l J Q) a w) → c.wp P (Exit.jump l J Q) a w) : (Code.scope c).wp P Q a w :=
  wp_scope_jumps l J μ hf (first fun a w h => wp_mono (pass a w h) fun e a' w' hq => by
    cases e <;> first | exact hq | exact ⟨hq.1, hq.2.1⟩) fun a w h => wp_seq (wp_skip (pass a w h))

theorem add_plain' (b off k : Nat) : (⟨b, off, none⟩ : Addr).add k = ⟨b, off + k, none⟩ := by
  unfold Addr.add
  split <;> simp_all
/-- a slice of an array of one-cell values, from l on -/
theorem arr_from (P : Program) (w : World) (t : TypeId) (g n : Nat) (l : Int) {e : TypeId} (hu : P.underlying t = some (.array n e)) (hs : (P.info? e).map (·.size) = some 1) (h0 : 0 ≤ l) (h1 : l < n) :
    (Instr.sliceAt t (.pointer (some ⟨g, 0, none⟩)) (some (.int .i64 l)) none none).run P w = .ok (.slice (some ⟨g, l.toNat, none⟩) (n - l.toNat) (n - l.toNat)) w := by
  have hl : P.arrayLen t = n := by simp [Program.arrayLen, hu]
  have he : P.elem t = e := by simp [Program.elem, hu]
  cases hq : P.info? e with
  | none => simp [hq] at hs
  | some i =>
    have hi : i.size = 1 := by simpa [hq] using hs
    rw [run_sliceAt_array_l w t ⟨g, 0, none⟩ (by rw [hl, he]; exact hu) .i64 l h0 (by rw [hl]; omega), he, hl]
    simp [sizeOf, typeInfo, hq, hi, slicedAt, add_plain']
    omega

theorem append_str' (a b : ByteArray) : (a ++ b).data.toList = a.data.toList ++ b.data.toList := by simp

def SmallJ (w : World) (g : Nat) (R : List UInt8) (a : Act) (w' : World) : Prop :=
  ∃ (N k : Nat) (L : List UInt8) (u0 u4 u1 u2 u5 u6 u7 u8 u9 u10 u11 u12 u13 u14 u15 u16 u17 u18 u19 : Value),
    a = ⟨#[u0, u1, u2, .pointer (some ⟨g, 0, none⟩), u4, u5, u6, u7, u8, u9, u10, u11, u12, u13, u14, u15, u16, u17, u18, u19], []⟩ ∧ u0 = .int .i64 (-(N : Int)) ∧ u4 = .int .i64 k ∧
    N ≤ 9223372036854775808 ∧ 1 ≤ k ∧ k ≤ 20 ∧ L.length = 20 ∧ N < 10 ^ k ∧ decN N ++ L.drop k = R ∧ Blk w' g 266 (bv L) ∧ Keeps (fun _ => False) w w' ∧ w.heap.size ≤ g
def SmallM (a : Act) (_w : World) : Nat := (intOf (a.tmps.getD 4 undef)).toNat

set_option maxRecDepth 100000 in
set_option maxHeartbeats 1000000 in
theorem small_any (w : World) (N : Nat) (hN : N ≤ 9223372036854775808) :
    Calls Tryz.prog 120 #[.int .i64 (-(N : Int))] w fun e w' => e = .returned (.string (str (decN N))) ∧ Keeps (fun _ => False) w w' := by
  go_enter Tryz.func120, Tryz.ntmps120
  go_wp2_with fail
  obtain ⟨g0, hg0⟩ : ∃ g0, g0 = w.heap.size := ⟨_, rfl⟩
  have HG := Lib.hid hg0
  clear hg0
  refine wp_scope_both 0 (SmallJ w g0 (decN N)) SmallM rfl ?pass ?first
  case pass =>
    rintro a w1 ⟨M, k, L, u0, u4, u1, u2, u5, u6, u7, u8, u9, u10, u11, u12, u13, u14, u15, u16, u17, u18, u19, rfl, rfl, rfl, hM, hk1, hk2, hL, hp, hR, hB, hK, hg⟩
    have hr := dec_round M k L (by omega) (by omega)
    have h1 := tmod_neg M
    have h2 := tdiv_neg M
    obtain ⟨c0, hc⟩ : ∃ c0, w1.cell? ⟨g0, k - 1, none⟩ = some c0 := ⟨_, bv_cell hB (k - 1) L[k - 1] (List.getElem?_eq_getElem (by omega))⟩
    have hf := hB.frozen (k - 1)
    have hp1 : 10 ^ k = 10 ^ (k - 1) * 10 := by rw [← Nat.pow_succ]; congr 1; omega
    have hB2 := hB.set_ (k - 1) (.int .u8 ((digc (M % 10)).toNat : Nat))
    rw [bv_set] at hB2
    have he : (((digc (M % 10)).toNat : Nat) : Int) = 48 + (M : Int) % 10 := by
      rw [digc_nat (by omega)]; omega
    rw [he] at hB2
    have hK2 := hK.setCell (p := ⟨g0, k - 1, none⟩) (fun h => absurd h (by show ¬ g0 < w.heap.size; omega)) (.int .u8 (48 + (M : Int) % 10))
    have hrest : (M / 10 ≠ 0) → 1 ≤ k - 1 ∧ M / 10 < 10 ^ (k - 1) ∧ decN (M / 10) ++ (L.set (k - 1) (digc (M % 10))).drop (k - 1) = decN N := fun h => by
      have h4 : M / 10 < 10 ^ (k - 1) := by omega
      refine ⟨?_, h4, ?_⟩
      · rcases Nat.eq_zero_or_pos (k - 1) with h5 | h5
        · rw [h5] at h4; simp at h4; omega
        · exact h5
      · rw [hr, ← hR, decN_big (n := M) (by omega)]; simp
    have hlast : M / 10 = 0 → (L.set (k - 1) (digc (M % 10))).drop (k - 1) = decN N := fun h => by
      rw [hr, ← hR, decN_small (n := M) (by omega)]; simp [Nat.mod_eq_of_lt (show M < 10 by omega)]
    have HR := Lib.hid hrest
    have HL := Lib.hid hlast
    have H20 : Hid ((L.set (k - 1) (digc (M % 10))).length = 20) := Lib.hid (by simp [hL])
    have HB := Lib.hid hB2
    clear hr hp1 hB2 he hrest hlast hp hR hL hB
    by_cases hz : M / 10 = 0
    · have ht : (-((M : Int) / 10) != 0) = false := by simp; omega
      have hs := fun W => arr_from Tryz.prog W 266 g0 20 (k - 1 : Int) Tryz.underlying266 (by kernel_rfl) (by omega) (by omega)
      rw [show ((k : Int) - 1).toNat = k - 1 by omega] at hs
      have hcs : ((L.set (k - 1) (digc (M % 10))).drop (k - 1)).length = 20 - (k - 1) := by rw [List.length_drop, H20.out]
      have hcs2 := bv_at HB.out (k - 1) ((L.set (k - 1) (digc (M % 10))).drop (k - 1)) (fun j c hj => by rw [List.getElem?_drop] at hj; exact hj)
      rw [HL.out hz] at hcs hcs2
      have HC := Lib.hid hcs
      have HC2 := Lib.hid hcs2
      clear hcs hcs2
      go_wp2_with (with_reducible show wpList _ _ _ (⟨some 19, _, _, _, _, _⟩ :: _) _ _; go_must (refine wpList_string_bytes _ rfl (.tmp 18) _ _ rfl 5 Tryz.underlying82 Tryz.underlying5 Tryz.underlying9 g0 (k - 1) (20 - (k - 1)) (20 - (k - 1)) rfl (decN N) HC.out (fun j v hj => by have := HC2.out j v hj; rw [add_plain'] at this; exact this) ?_))
      simp only [Exit.jump]
      go_ret
      exact ⟨rfl, hK2⟩
    · have ht : (-((M : Int) / 10) != 0) = true := by simp; omega
      go_wp2_with fail
      go_step3
      have hq := HR.out hz
      refine And.intro rfl (And.intro ⟨M / 10, k - 1, _, _, _, _, _, _, _, _, _, _, _, _, _, _, _, _, _, _, _, _, rfl, int_eq (by omega), int_eq (by omega), by omega, hq.1, by omega, H20.out, hq.2.1, hq.2.2, HB.out, hK2, hg⟩ ?_)
      simp [SmallM, intOf]
      omega
  case first =>
    intro hpass
    go_wp2_with fail
    obtain rfl := HG.out
    refine wp_label ?_
    rename_i hk
    refine hk _ _ (hpass.out _ _ ⟨N, 20, List.replicate 20 0, _, _, _, _, _, _, _, _, _, _, _, _, _, _, _, _, _, _, _, rfl, rfl, rfl, hN, by omega, by omega, by simp, by omega, by simp, ?_, (Keeps.refl _ _).alloc _, by omega⟩)
    exact Blk.new _ _ _

set_option maxRecDepth 100000 in
theorem put_any (w : World) (n : Int) (h1 : -9223372036854775808 ≤ n) (h2 : n ≤ 9223372036854775807) :
    Calls Tryz.prog 57 #[.int .i64 n] w fun e w' => e = .returned (.string (str (dec n))) ∧ Keeps (fun _ => False) w w' := by
  by_cases h : n < 0
  · obtain ⟨N, rfl⟩ : ∃ N : Nat, n = -(N : Int) := ⟨(-n).toNat, by omega⟩
    have hd := dec_neg h
    rw [show (- -(N : Int)).toNat = N by omega] at hd
    have HD := Lib.hid hd
    clear hd
    have hsz : ((str (decN N)).size : Int) ≤ 19 := by rw [str_size]; have := decN_le (n := N) (by omega); omega
    go_enter Tryz.func57, Tryz.ntmps57
    go_wp2_with (go_at_call 120; refine (small_any _ N (by omega)).mono ?_; rintro e w2 ⟨rfl, k2⟩)
    go_ret
    exact ⟨by rw [HD.out]; exact congrArg (fun s => Ending.returned (Value.string s)) (ba_ext (by rw [append_str', str_list, str_list]; rfl)), k2⟩
  · obtain ⟨N, rfl⟩ : ∃ N : Nat, n = (N : Int) := ⟨n.toNat, by omega⟩
    have hd := dec_pos (n := (N : Int)) (by omega)
    rw [Int.toNat_natCast] at hd
    have HD := Lib.hid hd
    clear hd
    go_enter Tryz.func57, Tryz.ntmps57
    go_wp2_with (go_at_call 120; refine (small_any _ N (by omega)).mono ?_; rintro e w2 ⟨rfl, k2⟩)
    go_ret
    exact ⟨by rw [HD.out]; rfl, k2⟩

theorem hex_at : ∀ n : Nat, n < 10 → ({ data := #[48, 49, 50, 51, 52, 53, 54, 55, 56, 57, 97, 98, 99, 100, 101, 102] } : ByteArray).extract n (n + 1) = str [digc n]
  | 0, _ => rfl | 1, _ => rfl | 2, _ => rfl | 3, _ => rfl | 4, _ => rfl | 5, _ => rfl | 6, _ => rfl | 7, _ => rfl | 8, _ => rfl | 9, _ => rfl
  | n + 10, h => by omega
/-- the document's digit -/
theorem rdigit_any (w : World) (n : Int) (h0 : 0 ≤ n) (h1 : n < 10) :
    Calls Tryz.prog 125 #[.int .i64 n] w fun e w' => e = .returned (.string (str [digc n.toNat])) ∧ Keeps (fun _ => False) w w' := by
  have hh := hex_at n.toNat (by omega)
  rw [show n.toNat + 1 = (n + 1).toNat by omega] at hh
  have HH := Lib.hid hh
  clear hh
  go_enter Tryz.func125, Tryz.ntmps125
  go_wp2
  go_ret
  exact ⟨congrArg (fun s => Ending.returned (Value.string s)) HH.out, Keeps.refl _ _⟩

theorem dec_last (n : Int) (h : n < -9 ∨ 9 < n) (r : Int) (hr : r = (n.tmod 10).natAbs) : dec n = dec (n.tdiv 10) ++ [digc r.toNat] := by
  rcases h with h | h
  · obtain ⟨N, rfl⟩ : ∃ N : Nat, n = -(N : Int) := ⟨(-n).toNat, by omega⟩
    rw [tmod_neg] at hr
    rw [tdiv_neg, dec_neg (by omega), dec_neg (by omega), show (-(-(N : Int))).toNat = N by omega, show (-(-((N / 10 : Nat) : Int))).toNat = N / 10 by omega, decN_big (by omega)]
    rw [show r.toNat = N % 10 by omega]; simp
  · obtain ⟨N, rfl⟩ : ∃ N : Nat, n = (N : Int) := ⟨n.toNat, by omega⟩
    rw [show ((10 : Int)) = ((10 : Nat) : Int) from rfl, tmod_nat] at hr
    rw [Int.tdiv_eq_ediv_of_nonneg (by omega), dec_pos (by omega), dec_pos (by omega), show ((N : Int)).toNat = N by omega, show ((N : Int) / 10).toNat = N / 10 by omega, decN_big (by omega)]
    rw [show r.toNat = N % 10 by omega]

set_option maxRecDepth 100000 in
/-- the document's Put -/
theorem rput_any : ∀ (k : Nat) (w : World) (n : Int), n.natAbs ≤ k → -9223372036854775808 ≤ n → n ≤ 9223372036854775807 →
    Calls Tryz.prog 69 #[.int .i64 n] w fun e w' => e = .returned (.string (str (dec n))) ∧ Keeps (fun _ => False) w w' := by
  intro k
  induction k with
  | zero =>
    intro w n hk h1 h2
    obtain rfl : n = 0 := by omega
    go_enter Tryz.func69, Tryz.ntmps69
    go_wp2_with (go_at_call 125; refine (rdigit_any _ _ (by omega) (by omega)).mono ?_; rintro e w2 ⟨rfl, k2⟩)
    go_ret
    exact ⟨congrArg (fun s => Ending.returned (Value.string s)) (ba_ext (by rw [dec_pos (by omega), decN_small (by omega)]; rfl)), k2⟩
  | succ k ih =>
    intro w n hk h1 h2
    by_cases ha : 0 ≤ n ∧ n < 10
    · obtain ⟨ha1, ha2⟩ := ha
      have hd := dec_pos ha1
      rw [decN_small (by omega)] at hd
      have HD := Lib.hid hd
      clear hd ih
      go_enter Tryz.func69, Tryz.ntmps69
      go_wp2_with (go_at_call 125; refine (rdigit_any _ _ (by omega) (by omega)).mono ?_; rintro e w2 ⟨rfl, k2⟩)
      go_ret
      exact ⟨by rw [HD.out]; rfl, k2⟩
    · by_cases hb : n < 0 ∧ -10 < n
      · obtain ⟨hb1, hb2⟩ := hb
        have hd := dec_neg hb1
        rw [decN_small (by omega)] at hd
        have HD := Lib.hid hd
        have hn0 : decide (0 ≤ n) = false := by simp; omega
        clear hd ih ha
        go_enter Tryz.func69, Tryz.ntmps69
        go_wp2_with (go_at_call 125; refine (rdigit_any _ _ (by omega) (by omega)).mono ?_; rintro e w2 ⟨rfl, k2⟩)
        go_ret
        exact ⟨by rw [HD.out]; exact congrArg (fun s => Ending.returned (Value.string s)) (ba_ext (by rw [append_str', str_list, str_list]; rfl)), k2⟩
      · have hc : n < -9 ∨ 9 < n := by omega
        have hd : ∀ r, r = ((n.tmod 10).natAbs : Int) → dec n = dec (n.tdiv 10) ++ [digc r.toNat] := fun r => dec_last n hc r
        have hq : (n.tdiv 10).natAbs ≤ k := by rw [Int.natAbs_tdiv]; show n.natAbs / 10 ≤ k; omega
        have hq1 : -9223372036854775808 ≤ n.tdiv 10 ∧ n.tdiv 10 ≤ 9223372036854775807 := by
          rcases hc with hc | hc
          · obtain ⟨N, rfl⟩ : ∃ N : Nat, n = -(N : Int) := ⟨(-n).toNat, by omega⟩
            rw [tdiv_neg]; omega
          · rw [Int.tdiv_eq_ediv_of_nonneg (by omega)]; omega
        have hm : -10 < n.tmod 10 ∧ n.tmod 10 < 10 := by
          rcases hc with hc | hc
          · obtain ⟨N, rfl⟩ : ∃ N : Nat, n = -(N : Int) := ⟨(-n).toNat, by omega⟩
            rw [tmod_neg]; omega
          · rw [Int.tmod_eq_emod_of_nonneg (by omega)]; omega
        obtain ⟨q, hqq⟩ : ∃ q, n.tdiv 10 = q := ⟨_, rfl⟩
        obtain ⟨m, hmm⟩ : ∃ m, n.tmod 10 = m := ⟨_, rfl⟩
        rw [hqq] at hd hq hq1
        rw [hmm] at hd hm
        obtain ⟨hq1, hq2⟩ := hq1
        obtain ⟨hm1, hm2⟩ := hm
        have HD := Lib.hid hd
        have HI := Lib.hid (ih · q hq hq1 hq2)
        have hsz : ((str (dec q)).size : Int) ≤ 20 := by rw [str_size]; have := dec_le hq1 hq2; omega
        have hX : (0 ≤ n ∧ n < 10) = False := eq_false ha
        have hY : (n < 0 ∧ -10 < n) = False := eq_false hb
        have g1 : (decide (0 ≤ n) && decide (n < 10)) = false := by simp; omega
        have g2 : (decide (n < 0) && decide (-10 < n)) = false := by simp; omega
        have e1 : n.tmod 10 = m := hmm
        have e2 : n.tdiv 10 = q := hqq
        clear hd ih hX hY hk hq
        have hone : ∀ x : Nat, (str [digc x]).size = 1 := fun _ => rfl
        go_enter Tryz.func69, Tryz.ntmps69
        go_wp2_with (first
          | (go_at_call 125; go_must (refine (rdigit_any _ _ (by omega) (by omega)).mono ?_; rintro e w3 ⟨rfl, k3⟩))
          | (go_at_call 69; go_must (refine (HI.out _).mono ?_; rintro e w2 ⟨rfl, k2⟩)))
        all_goals go_ret
        all_goals exact ⟨congrArg (fun s => Ending.returned (Value.string s)) (ba_ext (by rw [append_str', str_list, str_list, str_list]; exact (HD.out _ (by omega)).symm)), k2.trans k3⟩
end Go.Proofs.YtdbnalocmjkncaaGreatDoor

/-
  wheelhouseref10.Same: whether two lists of texts are one; lists of texts that lie in a new block, or in a slice of the own.
-/
namespace Go.Proofs.YtdbnalocmjkncaaGreatDoor
open Go.RowKit

theorem take_snoc10 {l : List ByteArray} {i : Nat} {s : ByteArray} (h : l[i]? = some s) : l.take (i + 1) = l.take i ++ [s] := by rw [List.take_add_one, h]; rfl
theorem slat_at {w : World} {a : Option Addr} {n : Nat} {l : List ByteArray} (h : SlAt strR 1 w a n l) {i : Nat} {s : ByteArray} (hs : l[i]? = some s) : ∃ b off, a = some ⟨b, off, none⟩ ∧ w.cell? ⟨b, off + i, none⟩ = some (.string s) := by
  have hi : i < l.length := (List.getElem?_eq_some_iff.1 hs).1
  obtain ⟨b, off, ha, _, hc⟩ := h.2 (by rw [← h.1]; omega)
  exact ⟨b, off, ha, SlAt.str hc i s hs⟩
theorem slat_mk (w : World) (t : TypeId) (l : List ByteArray) : SlAt strR 1 (w.alloc (.cells (l.map Value.string).toArray t)) (some ⟨w.heap.size, 0, none⟩) l.length l := by
  refine ⟨rfl, fun _ => ⟨w.heap.size, 0, rfl, by simp, fun i x j v hx hv => ?_⟩⟩
  rw [(Blk.new w t (l.map Value.string).toArray).cell]
  match j, hv with
  | 0, hv =>
    simp [strR] at hv
    subst hv
    simp [hx]
  | j + 1, hv => simp [strR] at hv
theorem slat_own {w : World} {B : Nat} {e : TypeId} {a : Option Addr} {n c : Nat} {l : List ByteArray} (h : OwnL w B e (.slice a n c) (l.map Value.string)) : n = l.length ∧ SlAt strR 1 w a l.length l := by
  obtain ⟨a1, c1, hv, _, _, h1, h2⟩ := h.shape
  injection hv with e1 e2 e3
  subst e1
  rw [List.length_map] at e2 h1
  refine ⟨e2, rfl, fun hn => ?_⟩
  obtain ⟨g, ha, _, hlt⟩ := h1 hn
  refine ⟨g, 0, ha, hlt, fun i x j v hx hv => ?_⟩
  match j, hv with
  | 0, hv =>
    simp [strR] at hv
    subst hv
    have := (h2 g ha i (.string x) (by rw [List.getElem?_map, hx]; rfl)).1
    simpa using this
  | j + 1, hv => simp [strR] at hv
theorem toList_ne10 {s t : ByteArray} (h : ¬ s = t) : (s.toList == t.toList) = false := by
  rw [beq_eq_false_iff_ne]
  intro e
  rw [ByteArray.toList_eq, ByteArray.toList_eq] at e
  exact h (ba_ext e)
set_option maxRecDepth 100000 in
set_option maxHeartbeats 1000000 in
theorem same10_all (w : World) (a b : Option Addr) (n m c d : Nat) (l k : List ByteArray) (h : SlAt strR 1 w a n l) (h2 : SlAt strR 1 w b m k) (hn : n ≤ 4611686018427387904) (hm : m ≤ 4611686018427387904) :
    Calls Tryz.prog 61 #[.slice a n c, .slice b m d] w fun e w' => e = .returned (.bool (decide (l = k))) ∧ Keeps (fun _ => False) w w' := by
  have HLN := Lib.hid h.1
  have HKN := Lib.hid h2.1
  have HL := Lib.hid h
  have HK := Lib.hid h2
  clear h h2
  by_cases hnm : n = m
  · subst hnm
    go_enter Tryz.func61, Tryz.ntmps61
    go_wp2_with fail
    go_loopw [5] (fun u5 wr => ∃ i : Nat, u5 = .int .i64 i ∧ Hid (i ≤ n ∧ l.take i = k.take i ∧ Keeps (fun _ => False) w wr)) (fun u5 _ => n - (intOf u5).toNat)
    case atStart => exact ⟨0, rfl, Lib.hid ⟨Nat.zero_le _, by simp, Keeps.refl _ _⟩⟩
    case round =>
      obtain ⟨i, rfl, HI⟩ := hrel
      by_cases hi : i < n
      · obtain ⟨s, hs⟩ : ∃ s, l[i]? = some s := ⟨_, List.getElem?_eq_getElem (by rw [HLN.out]; exact hi)⟩
        obtain ⟨t, ht⟩ : ∃ t, k[i]? = some t := ⟨_, List.getElem?_eq_getElem (by rw [HKN.out]; exact hi)⟩
        obtain ⟨b1, off1, rfl, hc1⟩ := slat_at (HL.out.keeps HI.out.2.2 (fun _ _ => id)) hs
        obtain ⟨b2, off2, rfl, hc2⟩ := slat_at (HK.out.keeps HI.out.2.2 (fun _ _ => id)) ht
        by_cases hst : s = t
        · have hb : (s.toList == t.toList) = true := by rw [hst]; exact beq_self_eq_true _
          have htk : l.take (i + 1) = k.take (i + 1) := by rw [take_snoc10 hs, take_snoc10 ht, HI.out.2.1, hst]
          have HTK := Lib.hid htk
          clear htk hst hs ht
          go_wp2_with fail
          go_region
          all_goals (go_wp2_with fail)
          go_roundw
          case rel => exact ⟨i + 1, by go_num, Lib.hid ⟨by omega, HTK.out, by have := HI.out.2.2; (repeat (first | (with_reducible assumption) | (with_reducible exact Keeps.refl _ _) | refine Keeps.drew ?_ | refine Keeps.drewN ?_ _ | refine Keeps.setCell ?_ (by simp) _ | refine Keeps.setRow ?_ (by simp) _ | refine Keeps.alloc ?_ _))⟩⟩
          case measure => simp [intOf]; omega
        · have hb : (s.toList == t.toList) = false := toList_ne10 hst
          have hlk : l ≠ k := by
            rintro rfl
            rw [hs] at ht
            exact hst (Option.some.inj ht)
          have HLK := Lib.hid hlk
          clear hlk hst hs ht
          go_wp2_with fail
          go_region
          all_goals (go_wp2_with fail)
          go_ret
          exact ⟨by rw [decide_eq_false HLK.out]; rfl, by have := HI.out.2.2; (repeat (first | (with_reducible assumption) | (with_reducible exact Keeps.refl _ _) | refine Keeps.drew ?_ | refine Keeps.drewN ?_ _ | refine Keeps.setCell ?_ (by simp) _ | refine Keeps.setRow ?_ (by simp) _ | refine Keeps.alloc ?_ _))⟩
      · have hlk : l = k := by
          have := HI.out.2.1
          rwa [List.take_of_length_le (by rw [HLN.out]; omega), List.take_of_length_le (by rw [HKN.out]; omega)] at this
        have HLK := Lib.hid hlk
        clear hlk
        go_wp2_with fail
        go_ret
        exact ⟨by rw [decide_eq_true HLK.out]; rfl, HI.out.2.2⟩
  · have hlk : l ≠ k := by rintro rfl; exact hnm (HLN.out.symm.trans HKN.out)
    have HLK := Lib.hid hlk
    have hb : ((n : Int) != (m : Int)) = true := by rw [bne_iff_ne]; omega
    clear hlk
    go_enter Tryz.func61, Tryz.ntmps61
    go_wp2_with fail
    go_ret
    exact ⟨by rw [decide_eq_false HLK.out]; rfl, Keeps.refl _ _⟩
end Go.Proofs.YtdbnalocmjkncaaGreatDoor

/-
  An append of many elements out of another own slice. No program in sight.
-/
namespace Go.Proofs.YtdbnalocmjkncaaGreatDoor
open Go.RowKit

section
variable {P : Program} {α : Type}
/-- append of many elements, which lie in a slice of their own -/
theorem wpList_append_many (R : α → List Value) (size : Nat) (hR : ∀ x, (R x).length = size) (hsz : 0 < size) (h1 : ∀ x, ∀ u ∈ R x, u.oneCell' = true) {w : World} {ops : Array Oper} {rest : List Oper} {o : Oper} {a : Act} {Q : Exit → Act → World → Prop} (hgd : o.guard = none) (s x : Operand) (t : TypeId)
    (ho : o.op = .call { callee := .builtin .append, args := #[s, x], argTypes := #[t, t] }) (B B2 : Nat) (e : TypeId) (z : Value) (bytes : Nat) (ht : P.underlying t = some (.slice e))
    (hi : (P.info? e).map (fun i => (i.zero, i.size, i.bytes)) = some (some z, size, bytes)) (hz : z.cells.size = size) (hb16 : bytes ≤ 4096)
    (v v2 : Value) (xs ys : List α) (hs : a.eval s = v) (hown : OwnS R size w B e v xs) (hx : a.eval x = v2) (hown2 : OwnS R size w B2 e v2 ys)
    (hlen : xs.length + ys.length ≤ 17179869184) (hbase : B ≤ w.heap.size)
    (h : ∀ v' w', OwnS R size w' B e v' (xs ++ ys) → Keeps (fun i => B ≤ i ∧ ∃ cs, Blk w i e cs) w w' → wpList P ops Q rest (a.put o.dst v') w') : wpList P ops Q (o :: rest) a w := by
  refine wpList_plain hgd fun K hK => ?_
  obtain ⟨i, hi0, hzi, hsi, hbi⟩ := info_parts hi
  obtain ⟨a2, c2, hv2, hle2, -, hne2, hcl2⟩ := hown2.shape hR
  subst hv2
  have hrun : ∃ v' w', (Builtin.append_ #[t, t] o.type #[v, .slice a2 ys.length c2]).run P w = .ok v' w' ∧ OwnS R size w' B e v' (xs ++ ys) ∧ Keeps (fun i => B ≤ i ∧ ∃ cs, Blk w i e cs) w w' := by
    cases ys with
    | nil =>
      obtain ⟨a1, c1, rfl, hle1, -, -, -⟩ := hown.shape hR
      refine ⟨.slice a1 xs.length c1, w, ?_, by simpa using hown, Keeps.refl _ _⟩
      cases a2 with
      | none => exact run_append_nothing w t t o.type e i ht hi0 a1 xs.length c1 hle1 _ (Src.ofNil w ht c2)
      | some ad => exact run_append_nothing w t t o.type e i ht hi0 a1 xs.length c1 hle1 _ (Src.ofSlice w ht ad 0 c2 [] (by simp) (fun j u hj => by simp at hj) (fun u hu => by cases hu))
    | cons y r =>
      obtain ⟨g, rfl, -, -, -⟩ := hne2 (by simp)
      obtain ⟨v', w', hrun, h2, h3, -⟩ := run_append_own (P := P) w B t o.type e i z size bytes ht hi0 hzi hsi hbi hz hsz v xs.length _ hown ⟨g, 0, none⟩ (y :: r).length c2 ((y :: r).map R).flatten (by rw [flat_len hR]) (by
        intro j u hj
        have hjl : j < (y :: r).length * size := by rw [← flat_len hR]; exact (List.getElem?_eq_some_iff.1 hj).1
        obtain ⟨q, hq⟩ : ∃ q, q = j / size := ⟨_, rfl⟩
        have hjq : j = q * size + j % size := by rw [hq, Nat.mul_comm]; exact (Nat.div_add_mod j size).symm
        have hql : q < (y :: r).length := by rw [hq]; exact Nat.div_lt_of_lt_mul (by rw [Nat.mul_comm]; exact hjl)
        obtain ⟨x0, hx0⟩ : ∃ x0, (y :: r)[q]? = some x0 := ⟨_, List.getElem?_eq_getElem hql⟩
        have hml : j % size < (R x0).length := by rw [hR]; exact Nat.mod_lt _ hsz
        obtain ⟨u0, hu0⟩ : ∃ u0, (R x0)[j % size]? = some u0 := ⟨_, List.getElem?_eq_getElem hml⟩
        have h5 := flat_get hR (y :: r) q x0 (j % size) u0 hx0 hu0
        rw [← hjq] at h5
        rw [h5] at hj
        injection hj with hj
        subst hj
        have h6 := (hcl2 g rfl q x0 (j % size) u0 hx0 hu0).1
        rw [← hjq] at h6
        rw [Addr.add_lit, Nat.zero_add]
        exact h6) (by
        intro u hu
        obtain ⟨l, hl, hul⟩ := List.mem_flatten.1 hu
        obtain ⟨x0, _, rfl⟩ := List.mem_map.1 hl
        exact h1 x0 u hul) (by unfold maxLen; omega) (by
        have := Nat.mul_le_mul (show xs.length + (y :: r).length ≤ 17179869184 by omega) hb16
        omega) hbase
      refine ⟨v', w', hrun, ?_, (Keeps.refl _ _).grown h3 (fun k hk _ => ⟨(hown.lt k hk).1, hown.ownBlk k hk⟩)⟩
      unfold OwnS
      rw [List.map_append, List.flatten_append, List.length_append]
      exact h2
  obtain ⟨v', w', hr, h2, h3⟩ := hrun
  unfold Oper.wp
  simp only [execOp, ho, resolve, invoke, builtin, Sem.run_bind, Sem.run_pure, Result.andThen_ok, List.map_toArray, List.map_cons, List.map_nil, hs, hx, hr]
  exact hK _ _ (h v' w' h2 h3)
end
end Go.Proofs.YtdbnalocmjkncaaGreatDoor
