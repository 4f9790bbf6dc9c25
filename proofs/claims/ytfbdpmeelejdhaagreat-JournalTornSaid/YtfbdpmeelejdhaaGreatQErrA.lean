/-
  Closed facts on the model's entries for internal/reflectlite and on method sets, at this program's two error types; no walk.
-/
import Derived.Test.YtfbdpmeelejdhaaGreatChecked
import Derived.Test.YtfbdpmeelejdhaaGreatQGround
import Derived.LaidEql
import Derived.Stop.Asserts
import Derived.RowKitTokens
namespace Go.Proofs.YtfbdpmeelejdhaaGreat
open Go.RowKit Go.Extern.Stop Go.Stop Go.Extern

abbrev tKind : TypeId := 130
abbrev tFault : TypeId := 132
abbrev tPFault : TypeId := 129
abbrev tRt : TypeId := 170
abbrev hd (t : TypeId) : Value := .agg #[.pointer (some ⟨0, t, none⟩)]
abbrev rt_ (t : TypeId) : Value := .iface tRt (hd t)
/-- a Value of reflectlite -/
abbrev vOf (t : TypeId) (a : Addr) (f : Int) : Value := .agg #[.pointer (some ⟨0, t, none⟩), .pointer (some a), .int .u64 f]

namespace Tryz
theorem vPF (t : Addr) (w : World) : (ReflectliteValue.unpack (.iface 129 (.pointer (some t)))).run Tryz.prog w = .ok (vOf 129 ⟨w.heap.size, 0, none⟩ 150) (w.alloc (.cells #[.pointer (some t)] 129)) := by kernel_rfl
theorem vK (c : Int) (w : World) : (ReflectliteValue.unpack (.iface 130 (.int .i64 c))).run Tryz.prog w = .ok (vOf 130 ⟨w.heap.size, 0, none⟩ 130) (w.alloc (.cells #[.int .i64 c] 130)) := by kernel_rfl
theorem mKind (h : Value) (w : World) : (Go.method 335 170 (.agg #[h]) "Kind").run Tryz.prog w = .ok (172, h) w := by kernel_rfl
theorem mElem (h : Value) (w : World) : (Go.method 335 170 (.agg #[h]) "Elem").run Tryz.prog w = .ok (176, .agg #[h]) w := by kernel_rfl
theorem mImpl (h : Value) (w : World) : (Go.method 335 170 (.agg #[h]) "Implements").run Tryz.prog w = .ok (177, .agg #[h]) w := by kernel_rfl
theorem mAssign (h : Value) (w : World) : (Go.method 335 170 (.agg #[h]) "AssignableTo").run Tryz.prog w = .ok (174, .agg #[h]) w := by kernel_rfl
theorem mComp (h : Value) (w : World) : (Go.method 335 170 (.agg #[h]) "Comparable").run Tryz.prog w = .ok (175, .agg #[h]) w := by kernel_rfl
theorem mUnwrap (v : Value) (w : World) : (Go.method 335 129 v "Unwrap").run Tryz.prog w = .ok (170, v) w := by kernel_rfl
theorem kPF (w : World) : ((ReflectliteType.abiMethod fun t => (fun a : Nat => Value.int IntKind.u8 (a : Int)) <$> Rtype.kind t) #[.pointer (some ⟨0, 129, none⟩)]).run Tryz.prog w = .ok (.int .u8 22) w := by kernel_rfl
theorem kK (w : World) : ((ReflectliteType.abiMethod fun t => (fun a : Nat => Value.int IntKind.u8 (a : Int)) <$> Rtype.kind t) #[.pointer (some ⟨0, 130, none⟩)]).run Tryz.prog w = .ok (.int .u8 2) w := by kernel_rfl
theorem iPF (w : World) : (ReflectliteType.relation "Implements" ReflectliteType.implements_ #[hd 129, rt_ 27]).run Tryz.prog w = .ok (.bool true) w := by kernel_rfl
theorem iK (w : World) : (ReflectliteType.relation "Implements" ReflectliteType.implements_ #[hd 130, rt_ 27]).run Tryz.prog w = .ok (.bool true) w := by kernel_rfl
theorem tPF (v : Value) (w : World) : (ReflectliteType.typeOf #[.iface 129 v]).run Tryz.prog w = .ok (rt_ 129) w := by kernel_rfl
theorem tK (v : Value) (w : World) : (ReflectliteType.typeOf #[.iface 130 v]).run Tryz.prog w = .ok (rt_ 130) w := by kernel_rfl
theorem aFF (w : World) : (ReflectliteType.relation "AssignableTo" ReflectliteType.assignableTo #[hd 129, rt_ 129]).run Tryz.prog w = .ok (.bool true) w := by kernel_rfl
theorem aKK (w : World) : (ReflectliteType.relation "AssignableTo" ReflectliteType.assignableTo #[hd 130, rt_ 130]).run Tryz.prog w = .ok (.bool true) w := by kernel_rfl
theorem aKF (w : World) : (ReflectliteType.relation "AssignableTo" ReflectliteType.assignableTo #[hd 130, rt_ 129]).run Tryz.prog w = .ok (.bool false) w := by kernel_rfl
theorem aFK (w : World) : (ReflectliteType.relation "AssignableTo" ReflectliteType.assignableTo #[hd 129, rt_ 130]).run Tryz.prog w = .ok (.bool false) w := by kernel_rfl
theorem cK (w : World) : ((ReflectliteType.method fun t => do Extern.Rtype.noPackHeld "Comparable" t; pure (.bool (← typeInfo t).comparable)) #[hd 130]).run Tryz.prog w = .ok (.bool true) w := by kernel_rfl

/-! method sets -/
theorem noIsF (v : Value) (xT : TypeId) (w : World) : (Instr.typeAssert (.iface 129 v) xT 172 true).run Tryz.prog w = .ok (.tuple #[.nilIface, .bool false]) w := run_typeAssert_lacksB Tryz.underlying172 (by kernel_rfl) (by kernel_rfl) v xT w
theorem noIsK (v : Value) (xT : TypeId) (w : World) : (Instr.typeAssert (.iface 130 v) xT 172 true).run Tryz.prog w = .ok (.tuple #[.nilIface, .bool false]) w := run_typeAssert_lacksB Tryz.underlying172 (by kernel_rfl) (by kernel_rfl) v xT w
theorem unF (v : Value) (xT : TypeId) (w : World) : (Instr.typeAssert (.iface 129 v) xT 174 true).run Tryz.prog w = .ok (.tuple #[.iface 129 v, .bool true]) w := run_typeAssert_hasB Tryz.underlying174 (by kernel_rfl) v xT w
theorem noUnK (v : Value) (xT : TypeId) (w : World) : (Instr.typeAssert (.iface 130 v) xT 174 true).run Tryz.prog w = .ok (.tuple #[.nilIface, .bool false]) w := run_typeAssert_lacksB Tryz.underlying174 (by kernel_rfl) (by kernel_rfl) v xT w
theorem noUnsK (v : Value) (xT : TypeId) (w : World) : (Instr.typeAssert (.iface 130 v) xT 175 true).run Tryz.prog w = .ok (.tuple #[.nilIface, .bool false]) w := run_typeAssert_lacksB Tryz.underlying175 (by kernel_rfl) (by kernel_rfl) v xT w

/-! the entries that read or write memory -/
theorem rlm (z : Sem Value) (f : TypeId → Addr → Nat → Nat → Sem Value) (v : Value) :
    ReflectliteValue.method z f #[v] = (do match ← ReflectliteValue.parts v with | none => z | some (t, a, fl) => f t a fl (fl % 32)) := rfl
theorem mkPF (p : Addr) (w : World) : (ReflectliteValue.mk 129 p ReflectliteValue.flagAddr).run Tryz.prog w = .ok (vOf 129 p 406) w := by kernel_rfl
theorem mkK (p : Addr) (w : World) : (ReflectliteValue.mk 130 p ReflectliteValue.flagAddr).run Tryz.prog w = .ok (vOf 130 p 386) w := by kernel_rfl
theorem rls (v x : Value) : ReflectliteValue.set #[v, x] = (do
    let (some (dst, a, fl), some (src, b, _)) := (← ReflectliteValue.parts v, ← ReflectliteValue.parts x)
      | unsupported (.noEntry "extern/(internal/reflectlite.Value).Set.zeroValue")
    if fl / ReflectliteValue.flagAddr % 2 == 0 then unsupported (.noEntry "extern/(internal/reflectlite.Value).Set.unaddressable")
    let val ← loadVar src b
    if ← Rtype.directlyAssignable dst src then storeVar dst a val
    else if ← Rtype.implements dst src then
      if (← Rtype.kind src) == 20 then
        match val with
        | .nilIface => unsupported (.noEntry "extern/reflectlite: a nil value of one interface type handed on as a value of another")
        | _ => storeVar dst a val
      else storeVar dst a (.iface src val)
    else panicString ("reflectlite.Set: value of type " ++ (← Rtype.spelt src) ++ " is not assignable to type " ++ (← Rtype.spelt dst))
    pure (.tuple #[])) := rfl
theorem pPFa (a : Addr) (w : World) : (ReflectliteValue.parts (vOf 129 a 406)).run Tryz.prog w = .ok (some (129, a, 406)) w := by kernel_rfl
theorem pPF (a : Addr) (w : World) : (ReflectliteValue.parts (vOf 129 a 150)).run Tryz.prog w = .ok (some (129, a, 150)) w := by kernel_rfl
theorem pKa (a : Addr) (w : World) : (ReflectliteValue.parts (vOf 130 a 386)).run Tryz.prog w = .ok (some (130, a, 386)) w := by kernel_rfl
theorem pK (a : Addr) (w : World) : (ReflectliteValue.parts (vOf 130 a 130)).run Tryz.prog w = .ok (some (130, a, 130)) w := by kernel_rfl
theorem diF (w : World) : (Rtype.directlyAssignable 129 129).run Tryz.prog w = .ok true w := by kernel_rfl
theorem diK (w : World) : (Rtype.directlyAssignable 130 130).run Tryz.prog w = .ok true w := by kernel_rfl
theorem setF (ta b e : Addr) (old : Value) (W : World) (hb : W.cell? b = some (.pointer (some e))) (ht : W.cell? ta = some old) (hf : W.frozen? ta = false) :
    (ReflectliteValue.set #[vOf 129 ta 406, vOf 129 b 150]).run Tryz.prog W = .ok (.tuple #[]) (W.setCell ta (.pointer (some e))) := by
  rw [rls]
  simp only [Sem.run_bind, pPFa, pPF, Result.andThen]
  simp [ReflectliteValue.flagAddr, loadVar, isAgg, underlying, Tryz.underlying129, hb, Result.andThen, diF, storeVar, Value.cells, storeCells, Addr.add]
  rw [run_store Tryz.prog W ta _ _ (by rfl)]
  simp [ht, hf]
theorem setK (ta b : Addr) (c : Int) (old : Value) (W : World) (hb : W.cell? b = some (.int .i64 c)) (ht : W.cell? ta = some old) (hf : W.frozen? ta = false) :
    (ReflectliteValue.set #[vOf 130 ta 386, vOf 130 b 130]).run Tryz.prog W = .ok (.tuple #[]) (W.setCell ta (.int .i64 c)) := by
  rw [rls]
  simp only [Sem.run_bind, pKa, pK, Result.andThen]
  simp [ReflectliteValue.flagAddr, loadVar, isAgg, underlying, Tryz.underlying130, hb, Result.andThen, diK, storeVar, Value.cells, storeCells, Addr.add]
  rw [run_store Tryz.prog W ta _ _ (by rfl)]
  simp [ht, hf]

/-- two Kinds held against one another -/
theorem eqKK (c d : Int) (w : World) : (binOp .eql 27 (.iface 130 (.int .i64 c)) (.iface 130 (.int .i64 d))).run Tryz.prog w = .ok (.bool (decide (c = d))) w := by
  obtain ⟨i, hi, hcmp⟩ := Option.map_eq_some_iff.1 (show (Tryz.prog.info? 130).map (·.comparable) = some true by kernel_rfl)
  have h : ∀ n : Nat, (Op.equalIn (n + 2) 27 (.iface 130 (.int .i64 c)) (.iface 130 (.int .i64 d))).run Tryz.prog w = .ok (decide (c = d)) w := by
    intro n
    simp [Op.equalIn, run_underlying Tryz.underlying27, run_underlying Tryz.underlying130, typeInfo, hi, hcmp]
    rw [Bool.eq_iff_iff]; simp
  simp only [binOp]
  simp [Op.equal, Op.maxDepth, h 9998]
end Tryz
end Go.Proofs.YtfbdpmeelejdhaaGreat
