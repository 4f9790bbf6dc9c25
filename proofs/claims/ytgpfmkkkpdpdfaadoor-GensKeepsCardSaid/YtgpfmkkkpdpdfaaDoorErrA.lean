/-
  Closed facts on the model's entries for internal/reflectlite and on method sets, at this program's two error types; no walk.
-/
import Derived.Test.YtgpfmkkkpdpdfaaDoorChecked
import Derived.Test.YtgpfmkkkpdpdfaaDoorBase
import Derived.LaidEql
import Derived.Stop.Asserts
import Derived.RowKitTokens
namespace Go.Proofs.YtgpfmkkkpdpdfaaDoor
open Go.RowKit Go.Extern.Stop Go.Stop Go.Extern

abbrev tKind : TypeId := 118
abbrev tPKind : TypeId := 120
abbrev tFault : TypeId := 133
abbrev tPFault : TypeId := 131
abbrev tRt : TypeId := 178
abbrev hd (t : TypeId) : Value := .agg #[.pointer (some ⟨4, t, none⟩)]
abbrev rt_ (t : TypeId) : Value := .iface tRt (hd t)
/-- a Value of reflectlite -/
abbrev vOf (t : TypeId) (a : Addr) (f : Int) : Value := .agg #[.pointer (some ⟨4, t, none⟩), .pointer (some a), .int .u64 f]

namespace Tryd
theorem vPK (t : Addr) (w : World) : (ReflectliteValue.unpack (.iface 120 (.pointer (some t)))).run Tryd.prog w = .ok (vOf 120 ⟨w.heap.size, 0, none⟩ 150) (w.alloc (.cells #[.pointer (some t)] 120)) := by kernel_rfl
theorem vPF (t : Addr) (w : World) : (ReflectliteValue.unpack (.iface 131 (.pointer (some t)))).run Tryd.prog w = .ok (vOf 131 ⟨w.heap.size, 0, none⟩ 150) (w.alloc (.cells #[.pointer (some t)] 131)) := by kernel_rfl
theorem vK (c : Int) (w : World) : (ReflectliteValue.unpack (.iface 118 (.int .i64 c))).run Tryd.prog w = .ok (vOf 118 ⟨w.heap.size, 0, none⟩ 130) (w.alloc (.cells #[.int .i64 c] 118)) := by kernel_rfl
theorem tyPK (a : Addr) (w : World) : (ReflectliteValue.methodAny (ReflectliteValue.valueError "reflectlite.Value.Type" 0) (fun t _ _ _ => ReflectliteType.toType t) #[vOf 120 a 150]).run Tryd.prog w = .ok (rt_ 120) w := by kernel_rfl
theorem mKind (h : Value) (w : World) : (Go.method 348 178 (.agg #[h]) "Kind").run Tryd.prog w = .ok (172, h) w := by kernel_rfl
theorem mElem (h : Value) (w : World) : (Go.method 348 178 (.agg #[h]) "Elem").run Tryd.prog w = .ok (185, .agg #[h]) w := by kernel_rfl
theorem mImpl (h : Value) (w : World) : (Go.method 348 178 (.agg #[h]) "Implements").run Tryd.prog w = .ok (186, .agg #[h]) w := by kernel_rfl
theorem mAssign (h : Value) (w : World) : (Go.method 348 178 (.agg #[h]) "AssignableTo").run Tryd.prog w = .ok (183, .agg #[h]) w := by kernel_rfl
theorem mComp (h : Value) (w : World) : (Go.method 348 178 (.agg #[h]) "Comparable").run Tryd.prog w = .ok (184, .agg #[h]) w := by kernel_rfl
theorem mUnwrap (v : Value) (w : World) : (Go.method 348 131 v "Unwrap").run Tryd.prog w = .ok (178, v) w := by kernel_rfl
theorem kPK (w : World) : ((ReflectliteType.abiMethod fun t => (fun a : Nat => Value.int IntKind.u8 (a : Int)) <$> Rtype.kind t) #[.pointer (some ⟨4, 120, none⟩)]).run Tryd.prog w = .ok (.int .u8 22) w := by kernel_rfl
theorem kPF (w : World) : ((ReflectliteType.abiMethod fun t => (fun a : Nat => Value.int IntKind.u8 (a : Int)) <$> Rtype.kind t) #[.pointer (some ⟨4, 131, none⟩)]).run Tryd.prog w = .ok (.int .u8 22) w := by kernel_rfl
theorem kK (w : World) : ((ReflectliteType.abiMethod fun t => (fun a : Nat => Value.int IntKind.u8 (a : Int)) <$> Rtype.kind t) #[.pointer (some ⟨4, 118, none⟩)]).run Tryd.prog w = .ok (.int .u8 2) w := by kernel_rfl
theorem ePK (w : World) : (ReflectliteType.method ReflectliteType.elem #[hd 120]).run Tryd.prog w = .ok (rt_ 118) w := by kernel_rfl
theorem iPF (w : World) : (ReflectliteType.relation "Implements" ReflectliteType.implements_ #[hd 131, rt_ 38]).run Tryd.prog w = .ok (.bool true) w := by kernel_rfl
theorem iK (w : World) : (ReflectliteType.relation "Implements" ReflectliteType.implements_ #[hd 118, rt_ 38]).run Tryd.prog w = .ok (.bool true) w := by kernel_rfl
theorem tPF (v : Value) (w : World) : (ReflectliteType.typeOf #[.iface 131 v]).run Tryd.prog w = .ok (rt_ 131) w := by kernel_rfl
theorem tK (v : Value) (w : World) : (ReflectliteType.typeOf #[.iface 118 v]).run Tryd.prog w = .ok (rt_ 118) w := by kernel_rfl
theorem aFF (w : World) : (ReflectliteType.relation "AssignableTo" ReflectliteType.assignableTo #[hd 131, rt_ 131]).run Tryd.prog w = .ok (.bool true) w := by kernel_rfl
theorem aKK (w : World) : (ReflectliteType.relation "AssignableTo" ReflectliteType.assignableTo #[hd 118, rt_ 118]).run Tryd.prog w = .ok (.bool true) w := by kernel_rfl
theorem aKF (w : World) : (ReflectliteType.relation "AssignableTo" ReflectliteType.assignableTo #[hd 118, rt_ 131]).run Tryd.prog w = .ok (.bool false) w := by kernel_rfl
theorem aFK (w : World) : (ReflectliteType.relation "AssignableTo" ReflectliteType.assignableTo #[hd 131, rt_ 118]).run Tryd.prog w = .ok (.bool false) w := by kernel_rfl
theorem cK (w : World) : ((ReflectliteType.method fun t => do Extern.Rtype.noPackHeld "Comparable" t; pure (.bool (← typeInfo t).comparable)) #[hd 118]).run Tryd.prog w = .ok (.bool true) w := by kernel_rfl

/-! method sets -/
theorem noAsF (v : Value) (xT : TypeId) (w : World) : (Instr.typeAssert (.iface 131 v) xT 182 true).run Tryd.prog w = .ok (.tuple #[.nilIface, .bool false]) w := run_typeAssert_lacksB Tryd.underlying182 (by kernel_rfl) (by kernel_rfl) v xT w
theorem noAsK (v : Value) (xT : TypeId) (w : World) : (Instr.typeAssert (.iface 118 v) xT 182 true).run Tryd.prog w = .ok (.tuple #[.nilIface, .bool false]) w := run_typeAssert_lacksB Tryd.underlying182 (by kernel_rfl) (by kernel_rfl) v xT w
theorem noIsF (v : Value) (xT : TypeId) (w : World) : (Instr.typeAssert (.iface 131 v) xT 196 true).run Tryd.prog w = .ok (.tuple #[.nilIface, .bool false]) w := run_typeAssert_lacksB Tryd.underlying196 (by kernel_rfl) (by kernel_rfl) v xT w
theorem noIsK (v : Value) (xT : TypeId) (w : World) : (Instr.typeAssert (.iface 118 v) xT 196 true).run Tryd.prog w = .ok (.tuple #[.nilIface, .bool false]) w := run_typeAssert_lacksB Tryd.underlying196 (by kernel_rfl) (by kernel_rfl) v xT w
theorem unF (v : Value) (xT : TypeId) (w : World) : (Instr.typeAssert (.iface 131 v) xT 185 true).run Tryd.prog w = .ok (.tuple #[.iface 131 v, .bool true]) w := run_typeAssert_hasB Tryd.underlying185 (by kernel_rfl) v xT w
theorem noUnK (v : Value) (xT : TypeId) (w : World) : (Instr.typeAssert (.iface 118 v) xT 185 true).run Tryd.prog w = .ok (.tuple #[.nilIface, .bool false]) w := run_typeAssert_lacksB Tryd.underlying185 (by kernel_rfl) (by kernel_rfl) v xT w
theorem noUnsK (v : Value) (xT : TypeId) (w : World) : (Instr.typeAssert (.iface 118 v) xT 187 true).run Tryd.prog w = .ok (.tuple #[.nilIface, .bool false]) w := run_typeAssert_lacksB Tryd.underlying187 (by kernel_rfl) (by kernel_rfl) v xT w

/-! the entries that read or write memory -/
theorem rlm (z : Sem Value) (f : TypeId → Addr → Nat → Nat → Sem Value) (v : Value) :
    ReflectliteValue.method z f #[v] = (do match ← ReflectliteValue.parts v with | none => z | some (t, a, fl) => f t a fl (fl % 32)) := rfl
theorem pPK (a : Addr) (w : World) : (ReflectliteValue.parts (vOf 120 a 150)).run Tryd.prog w = .ok (some (120, a, 150)) w := by kernel_rfl
theorem isNilPK (a p : Addr) (W : World) (ha : W.cell? a = some (.pointer (some p))) :
    (ReflectliteValue.method (ReflectliteValue.valueError "reflectlite.Value.IsNil" 0) ReflectliteValue.isNil #[vOf 120 a 150]).run Tryd.prog W = .ok (.bool false) W := by
  rw [rlm]
  simp only [Sem.run_bind, pPK, Result.andThen]
  simp [ReflectliteValue.isNil, loadVar, isAgg, underlying, Tryd.underlying120, ha, Result.andThen]
theorem eoPK (w : World) : (Rtype.elem? 120).run Tryd.prog w = .ok (some 118) w := by kernel_rfl
theorem mkPF (p : Addr) (w : World) : (ReflectliteValue.mk 131 p ReflectliteValue.flagAddr).run Tryd.prog w = .ok (vOf 131 p 406) w := by kernel_rfl
theorem mkK (p : Addr) (w : World) : (ReflectliteValue.mk 118 p ReflectliteValue.flagAddr).run Tryd.prog w = .ok (vOf 118 p 386) w := by kernel_rfl
theorem elPK (a p : Addr) (W : World) (ha : W.cell? a = some (.pointer (some p))) :
    (ReflectliteValue.method (ReflectliteValue.valueError "reflectlite.Value.Elem" 0) ReflectliteValue.elem #[vOf 120 a 150]).run Tryd.prog W = .ok (vOf 118 p 386) W := by
  rw [rlm]
  simp only [Sem.run_bind, pPK, Result.andThen]
  simp [ReflectliteValue.elem, loadVar, isAgg, underlying, Tryd.underlying120, ha, Result.andThen, eoPK, mkK]
theorem rls (v x : Value) : ReflectliteValue.set #[v, x] = (do
    let (some (dst, a, fl), some (src, b, _)) := (← ReflectliteValue.parts v, ← ReflectliteValue.parts x)
      | unsupported (.noEntry "extern/(internal/reflectlite.Value).Set.zeroValue")
    if fl / ReflectliteValue.flagAddr % 2 == 0 then unsupported (.noEntry "extern/(internal/reflectlite.Value).Set.unaddressable")
    let val ← loadVar src b
    if ← Rtype.directlyAssignable dst src then storeVar dst a val
    else if ← Rtype.implements dst src then
      if (← Rtype.kind src) == 20 then
        match val with
        | .nilIface => unsupported (.noEntry "extern/reflectlite: a nil value of one interface type handed on as a value of another")
        | _ => storeVar dst a val
      else storeVar dst a (.iface src val)
    else panicString ("reflectlite.Set: value of type " ++ (← Rtype.spelt src) ++ " is not assignable to type " ++ (← Rtype.spelt dst))
    pure (.tuple #[])) := rfl
theorem pPFa (a : Addr) (w : World) : (ReflectliteValue.parts (vOf 131 a 406)).run Tryd.prog w = .ok (some (131, a, 406)) w := by kernel_rfl
theorem pPF (a : Addr) (w : World) : (ReflectliteValue.parts (vOf 131 a 150)).run Tryd.prog w = .ok (some (131, a, 150)) w := by kernel_rfl
theorem pKa (a : Addr) (w : World) : (ReflectliteValue.parts (vOf 118 a 386)).run Tryd.prog w = .ok (some (118, a, 386)) w := by kernel_rfl
theorem pK (a : Addr) (w : World) : (ReflectliteValue.parts (vOf 118 a 130)).run Tryd.prog w = .ok (some (118, a, 130)) w := by kernel_rfl
theorem diF (w : World) : (Rtype.directlyAssignable 131 131).run Tryd.prog w = .ok true w := by kernel_rfl
theorem diK (w : World) : (Rtype.directlyAssignable 118 118).run Tryd.prog w = .ok true w := by kernel_rfl
theorem setF (ta b e : Addr) (old : Value) (W : World) (hb : W.cell? b = some (.pointer (some e))) (ht : W.cell? ta = some old) (hf : W.frozen? ta = false) :
    (ReflectliteValue.set #[vOf 131 ta 406, vOf 131 b 150]).run Tryd.prog W = .ok (.tuple #[]) (W.setCell ta (.pointer (some e))) := by
  rw [rls]
  simp only [Sem.run_bind, pPFa, pPF, Result.andThen]
  simp [ReflectliteValue.flagAddr, loadVar, isAgg, underlying, Tryd.underlying131, hb, Result.andThen, diF, storeVar, Value.cells, storeCells, Addr.add]
  rw [run_store Tryd.prog W ta _ _ (by rfl)]
  simp [ht, hf]
theorem setK (ta b : Addr) (c : Int) (old : Value) (W : World) (hb : W.cell? b = some (.int .i64 c)) (ht : W.cell? ta = some old) (hf : W.frozen? ta = false) :
    (ReflectliteValue.set #[vOf 118 ta 386, vOf 118 b 130]).run Tryd.prog W = .ok (.tuple #[]) (W.setCell ta (.int .i64 c)) := by
  rw [rls]
  simp only [Sem.run_bind, pKa, pK, Result.andThen]
  simp [ReflectliteValue.flagAddr, loadVar, isAgg, underlying, Tryd.underlying118, hb, Result.andThen, diK, storeVar, Value.cells, storeCells, Addr.add]
  rw [run_store Tryd.prog W ta _ _ (by rfl)]
  simp [ht, hf]

/-- two Kinds held against one another -/
theorem eqKK (c d : Int) (w : World) : (binOp .eql 38 (.iface 118 (.int .i64 c)) (.iface 118 (.int .i64 d))).run Tryd.prog w = .ok (.bool (decide (c = d))) w := by
  obtain ⟨i, hi, hcmp⟩ := Option.map_eq_some_iff.1 (show (Tryd.prog.info? 118).map (·.comparable) = some true by kernel_rfl)
  have h : ∀ n : Nat, (Op.equalIn (n + 2) 38 (.iface 118 (.int .i64 c)) (.iface 118 (.int .i64 d))).run Tryd.prog w = .ok (decide (c = d)) w := by
    intro n
    simp [Op.equalIn, run_underlying Tryd.underlying38, run_underlying Tryd.underlying118, typeInfo, hi, hcmp]
    rw [Bool.eq_iff_iff]; simp
  simp only [binOp]
  simp [Op.equal, Op.maxDepth, h 9998]
end Tryd
end Go.Proofs.YtgpfmkkkpdpdfaaDoor
