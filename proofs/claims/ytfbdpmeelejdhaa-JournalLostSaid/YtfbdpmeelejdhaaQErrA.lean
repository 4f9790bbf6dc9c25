/-
  Closed facts on the model's entries for internal/reflectlite and on method sets, at this program's two error types; no walk.
-/
import Derived.Test.YtfbdpmeelejdhaaChecked
import Derived.Test.YtfbdpmeelejdhaaQGround
import Derived.LaidEql
import Derived.Stop.Asserts
import Derived.RowKitTokens
namespace Go.Proofs.Ytfbdpmeelejdhaa
open Go.RowKit Go.Extern.Stop Go.Stop Go.Extern

abbrev tKind : TypeId := 78
abbrev tFault : TypeId := 80
abbrev tPFault : TypeId := 77
abbrev tRt : TypeId := 103
abbrev hd (t : TypeId) : Value := .agg #[.pointer (some ⟨0, t, none⟩)]
abbrev rt_ (t : TypeId) : Value := .iface tRt (hd t)
/-- a Value of reflectlite -/
abbrev vOf (t : TypeId) (a : Addr) (f : Int) : Value := .agg #[.pointer (some ⟨0, t, none⟩), .pointer (some a), .int .u64 f]

namespace Try
theorem vPF (t : Addr) (w : World) : (ReflectliteValue.unpack (.iface 77 (.pointer (some t)))).run Try.prog w = .ok (vOf 77 ⟨w.heap.size, 0, none⟩ 150) (w.alloc (.cells #[.pointer (some t)] 77)) := by kernel_rfl
theorem vK (c : Int) (w : World) : (ReflectliteValue.unpack (.iface 78 (.int .i64 c))).run Try.prog w = .ok (vOf 78 ⟨w.heap.size, 0, none⟩ 130) (w.alloc (.cells #[.int .i64 c] 78)) := by kernel_rfl
theorem mKind (h : Value) (w : World) : (Go.method 246 103 (.agg #[h]) "Kind").run Try.prog w = .ok (89, h) w := by kernel_rfl
theorem mElem (h : Value) (w : World) : (Go.method 246 103 (.agg #[h]) "Elem").run Try.prog w = .ok (93, .agg #[h]) w := by kernel_rfl
theorem mImpl (h : Value) (w : World) : (Go.method 246 103 (.agg #[h]) "Implements").run Try.prog w = .ok (94, .agg #[h]) w := by kernel_rfl
theorem mAssign (h : Value) (w : World) : (Go.method 246 103 (.agg #[h]) "AssignableTo").run Try.prog w = .ok (91, .agg #[h]) w := by kernel_rfl
theorem mComp (h : Value) (w : World) : (Go.method 246 103 (.agg #[h]) "Comparable").run Try.prog w = .ok (92, .agg #[h]) w := by kernel_rfl
theorem mUnwrap (v : Value) (w : World) : (Go.method 246 77 v "Unwrap").run Try.prog w = .ok (87, v) w := by kernel_rfl
theorem kPF (w : World) : ((ReflectliteType.abiMethod fun t => (fun a : Nat => Value.int IntKind.u8 (a : Int)) <$> Rtype.kind t) #[.pointer (some ⟨0, 77, none⟩)]).run Try.prog w = .ok (.int .u8 22) w := by kernel_rfl
theorem kK (w : World) : ((ReflectliteType.abiMethod fun t => (fun a : Nat => Value.int IntKind.u8 (a : Int)) <$> Rtype.kind t) #[.pointer (some ⟨0, 78, none⟩)]).run Try.prog w = .ok (.int .u8 2) w := by kernel_rfl
theorem iPF (w : World) : (ReflectliteType.relation "Implements" ReflectliteType.implements_ #[hd 77, rt_ 26]).run Try.prog w = .ok (.bool true) w := by kernel_rfl
theorem iK (w : World) : (ReflectliteType.relation "Implements" ReflectliteType.implements_ #[hd 78, rt_ 26]).run Try.prog w = .ok (.bool true) w := by kernel_rfl
theorem tPF (v : Value) (w : World) : (ReflectliteType.typeOf #[.iface 77 v]).run Try.prog w = .ok (rt_ 77) w := by kernel_rfl
theorem tK (v : Value) (w : World) : (ReflectliteType.typeOf #[.iface 78 v]).run Try.prog w = .ok (rt_ 78) w := by kernel_rfl
theorem aFF (w : World) : (ReflectliteType.relation "AssignableTo" ReflectliteType.assignableTo #[hd 77, rt_ 77]).run Try.prog w = .ok (.bool true) w := by kernel_rfl
theorem aKK (w : World) : (ReflectliteType.relation "AssignableTo" ReflectliteType.assignableTo #[hd 78, rt_ 78]).run Try.prog w = .ok (.bool true) w := by kernel_rfl
theorem aKF (w : World) : (ReflectliteType.relation "AssignableTo" ReflectliteType.assignableTo #[hd 78, rt_ 77]).run Try.prog w = .ok (.bool false) w := by kernel_rfl
theorem aFK (w : World) : (ReflectliteType.relation "AssignableTo" ReflectliteType.assignableTo #[hd 77, rt_ 78]).run Try.prog w = .ok (.bool false) w := by kernel_rfl
theorem cK (w : World) : ((ReflectliteType.method fun t => do Extern.Rtype.noPackHeld "Comparable" t; pure (.bool (← typeInfo t).comparable)) #[hd 78]).run Try.prog w = .ok (.bool true) w := by kernel_rfl

/-! method sets -/
theorem noIsF (v : Value) (xT : TypeId) (w : World) : (Instr.typeAssert (.iface 77 v) xT 105 true).run Try.prog w = .ok (.tuple #[.nilIface, .bool false]) w := run_typeAssert_lacksB Try.underlying105 (by kernel_rfl) (by kernel_rfl) v xT w
theorem noIsK (v : Value) (xT : TypeId) (w : World) : (Instr.typeAssert (.iface 78 v) xT 105 true).run Try.prog w = .ok (.tuple #[.nilIface, .bool false]) w := run_typeAssert_lacksB Try.underlying105 (by kernel_rfl) (by kernel_rfl) v xT w
theorem unF (v : Value) (xT : TypeId) (w : World) : (Instr.typeAssert (.iface 77 v) xT 107 true).run Try.prog w = .ok (.tuple #[.iface 77 v, .bool true]) w := run_typeAssert_hasB Try.underlying107 (by kernel_rfl) v xT w
theorem noUnK (v : Value) (xT : TypeId) (w : World) : (Instr.typeAssert (.iface 78 v) xT 107 true).run Try.prog w = .ok (.tuple #[.nilIface, .bool false]) w := run_typeAssert_lacksB Try.underlying107 (by kernel_rfl) (by kernel_rfl) v xT w
theorem noUnsK (v : Value) (xT : TypeId) (w : World) : (Instr.typeAssert (.iface 78 v) xT 108 true).run Try.prog w = .ok (.tuple #[.nilIface, .bool false]) w := run_typeAssert_lacksB Try.underlying108 (by kernel_rfl) (by kernel_rfl) v xT w

/-! the entries that read or write memory -/
theorem rlm (z : Sem Value) (f : TypeId → Addr → Nat → Nat → Sem Value) (v : Value) :
    ReflectliteValue.method z f #[v] = (do match ← ReflectliteValue.parts v with | none => z | some (t, a, fl) => f t a fl (fl % 32)) := rfl
theorem mkPF (p : Addr) (w : World) : (ReflectliteValue.mk 77 p ReflectliteValue.flagAddr).run Try.prog w = .ok (vOf 77 p 406) w := by kernel_rfl
theorem mkK (p : Addr) (w : World) : (ReflectliteValue.mk 78 p ReflectliteValue.flagAddr).run Try.prog w = .ok (vOf 78 p 386) w := by kernel_rfl
theorem rls (v x : Value) : ReflectliteValue.set #[v, x] = (do
    let (some (dst, a, fl), some (src, b, _)) := (← ReflectliteValue.parts v, ← ReflectliteValue.parts x)
      | unsupported (.noEntry "extern/(internal/reflectlite.Value).Set.zeroValue")
    if fl / ReflectliteValue.flagAddr % 2 == 0 then unsupported (.noEntry "extern/(internal/reflectlite.Value).Set.unaddressable")
    let val ← loadVar src b
    if ← Rtype.directlyAssignable dst src then storeVar dst a val
    else if ← Rtype.implements dst src then
      if (← Rtype.kind src) == 20 then
        match val with
        | .nilIface => unsupported (.noEntry "extern/reflectlite: a nil value of one interface type handed on as a value of another")
        | _ => storeVar dst a val
      else storeVar dst a (.iface src val)
    else panicString ("reflectlite.Set: value of type " ++ (← Rtype.spelt src) ++ " is not assignable to type " ++ (← Rtype.spelt dst))
    pure (.tuple #[])) := rfl
theorem pPFa (a : Addr) (w : World) : (ReflectliteValue.parts (vOf 77 a 406)).run Try.prog w = .ok (some (77, a, 406)) w := by kernel_rfl
theorem pPF (a : Addr) (w : World) : (ReflectliteValue.parts (vOf 77 a 150)).run Try.prog w = .ok (some (77, a, 150)) w := by kernel_rfl
theorem pKa (a : Addr) (w : World) : (ReflectliteValue.parts (vOf 78 a 386)).run Try.prog w = .ok (some (78, a, 386)) w := by kernel_rfl
theorem pK (a : Addr) (w : World) : (ReflectliteValue.parts (vOf 78 a 130)).run Try.prog w = .ok (some (78, a, 130)) w := by kernel_rfl
theorem diF (w : World) : (Rtype.directlyAssignable 77 77).run Try.prog w = .ok true w := by kernel_rfl
theorem diK (w : World) : (Rtype.directlyAssignable 78 78).run Try.prog w = .ok true w := by kernel_rfl
theorem setF (ta b e : Addr) (old : Value) (W : World) (hb : W.cell? b = some (.pointer (some e))) (ht : W.cell? ta = some old) (hf : W.frozen? ta = false) :
    (ReflectliteValue.set #[vOf 77 ta 406, vOf 77 b 150]).run Try.prog W = .ok (.tuple #[]) (W.setCell ta (.pointer (some e))) := by
  rw [rls]
  simp only [Sem.run_bind, pPFa, pPF, Result.andThen]
  simp [ReflectliteValue.flagAddr, loadVar, isAgg, underlying, Try.underlying77, hb, Result.andThen, diF, storeVar, Value.cells, storeCells, Addr.add]
  rw [run_store Try.prog W ta _ _ (by rfl)]
  simp [ht, hf]
theorem setK (ta b : Addr) (c : Int) (old : Value) (W : World) (hb : W.cell? b = some (.int .i64 c)) (ht : W.cell? ta = some old) (hf : W.frozen? ta = false) :
    (ReflectliteValue.set #[vOf 78 ta 386, vOf 78 b 130]).run Try.prog W = .ok (.tuple #[]) (W.setCell ta (.int .i64 c)) := by
  rw [rls]
  simp only [Sem.run_bind, pKa, pK, Result.andThen]
  simp [ReflectliteValue.flagAddr, loadVar, isAgg, underlying, Try.underlying78, hb, Result.andThen, diK, storeVar, Value.cells, storeCells, Addr.add]
  rw [run_store Try.prog W ta _ _ (by rfl)]
  simp [ht, hf]

/-- two Kinds held against one another -/
theorem eqKK (c d : Int) (w : World) : (binOp .eql 26 (.iface 78 (.int .i64 c)) (.iface 78 (.int .i64 d))).run Try.prog w = .ok (.bool (decide (c = d))) w := by
  obtain ⟨i, hi, hcmp⟩ := Option.map_eq_some_iff.1 (show (Try.prog.info? 78).map (·.comparable) = some true by kernel_rfl)
  have h : ∀ n : Nat, (Op.equalIn (n + 2) 26 (.iface 78 (.int .i64 c)) (.iface 78 (.int .i64 d))).run Try.prog w = .ok (decide (c = d)) w := by
    intro n
    simp [Op.equalIn, run_underlying Try.underlying26, run_underlying Try.underlying78, typeInfo, hi, hcmp]
    rw [Bool.eq_iff_iff]; simp
  simp only [binOp]
  simp [Op.equal, Op.maxDepth, h 9998]
end Try
end Go.Proofs.Ytfbdpmeelejdhaa
