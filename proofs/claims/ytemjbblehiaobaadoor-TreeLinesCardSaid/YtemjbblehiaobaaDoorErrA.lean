/-
  Closed facts on the model's entries for internal/reflectlite and on method sets, at this program's two error types; no walk.
-/
import Derived.Test.YtemjbblehiaobaaDoorChecked
import Derived.Test.YtemjbblehiaobaaDoorBase
import Derived.LaidEql
import Derived.Stop.Asserts
import Derived.RowKitTokens
namespace Go.Proofs.YtemjbblehiaobaaDoor
open Go.RowKit Go.Extern.Stop Go.Stop Go.Extern

abbrev tKind : TypeId := 51
abbrev tPKind : TypeId := 53
abbrev tFault : TypeId := 50
abbrev tPFault : TypeId := 46
abbrev tPPFault : TypeId := 69
abbrev tRt : TypeId := 96
abbrev hd (t : TypeId) : Value := .agg #[.pointer (some ⟨2, t, none⟩)]
abbrev rt_ (t : TypeId) : Value := .iface tRt (hd t)
/-- a Value of reflectlite -/
abbrev vOf (t : TypeId) (a : Addr) (f : Int) : Value := .agg #[.pointer (some ⟨2, t, none⟩), .pointer (some a), .int .u64 f]

namespace Tryd
theorem vPPF (t : Addr) (w : World) : (ReflectliteValue.unpack (.iface 69 (.pointer (some t)))).run Tryd.prog w = .ok (vOf 69 ⟨w.heap.size, 0, none⟩ 150) (w.alloc (.cells #[.pointer (some t)] 69)) := by kernel_rfl
theorem vPK (t : Addr) (w : World) : (ReflectliteValue.unpack (.iface 53 (.pointer (some t)))).run Tryd.prog w = .ok (vOf 53 ⟨w.heap.size, 0, none⟩ 150) (w.alloc (.cells #[.pointer (some t)] 53)) := by kernel_rfl
theorem vPF (t : Addr) (w : World) : (ReflectliteValue.unpack (.iface 46 (.pointer (some t)))).run Tryd.prog w = .ok (vOf 46 ⟨w.heap.size, 0, none⟩ 150) (w.alloc (.cells #[.pointer (some t)] 46)) := by kernel_rfl
theorem vK (c : Int) (w : World) : (ReflectliteValue.unpack (.iface 51 (.int .i64 c))).run Tryd.prog w = .ok (vOf 51 ⟨w.heap.size, 0, none⟩ 130) (w.alloc (.cells #[.int .i64 c] 51)) := by kernel_rfl
theorem tyPPF (a : Addr) (w : World) : (ReflectliteValue.methodAny (ReflectliteValue.valueError "reflectlite.Value.Type" 0) (fun t _ _ _ => ReflectliteType.toType t) #[vOf 69 a 150]).run Tryd.prog w = .ok (rt_ 69) w := by kernel_rfl
theorem tyPK (a : Addr) (w : World) : (ReflectliteValue.methodAny (ReflectliteValue.valueError "reflectlite.Value.Type" 0) (fun t _ _ _ => ReflectliteType.toType t) #[vOf 53 a 150]).run Tryd.prog w = .ok (rt_ 53) w := by kernel_rfl
theorem mKind (h : Value) (w : World) : (Go.method 251 96 (.agg #[h]) "Kind").run Tryd.prog w = .ok (76, h) w := by kernel_rfl
theorem mElem (h : Value) (w : World) : (Go.method 251 96 (.agg #[h]) "Elem").run Tryd.prog w = .ok (89, .agg #[h]) w := by kernel_rfl
theorem mImpl (h : Value) (w : World) : (Go.method 251 96 (.agg #[h]) "Implements").run Tryd.prog w = .ok (90, .agg #[h]) w := by kernel_rfl
theorem mAssign (h : Value) (w : World) : (Go.method 251 96 (.agg #[h]) "AssignableTo").run Tryd.prog w = .ok (87, .agg #[h]) w := by kernel_rfl
theorem mComp (h : Value) (w : World) : (Go.method 251 96 (.agg #[h]) "Comparable").run Tryd.prog w = .ok (88, .agg #[h]) w := by kernel_rfl
theorem mUnwrap (v : Value) (w : World) : (Go.method 251 46 v "Unwrap").run Tryd.prog w = .ok (80, v) w := by kernel_rfl
theorem kPPF (w : World) : ((ReflectliteType.abiMethod fun t => (fun a : Nat => Value.int IntKind.u8 (a : Int)) <$> Rtype.kind t) #[.pointer (some ⟨2, 69, none⟩)]).run Tryd.prog w = .ok (.int .u8 22) w := by kernel_rfl
theorem kPK (w : World) : ((ReflectliteType.abiMethod fun t => (fun a : Nat => Value.int IntKind.u8 (a : Int)) <$> Rtype.kind t) #[.pointer (some ⟨2, 53, none⟩)]).run Tryd.prog w = .ok (.int .u8 22) w := by kernel_rfl
theorem kPF (w : World) : ((ReflectliteType.abiMethod fun t => (fun a : Nat => Value.int IntKind.u8 (a : Int)) <$> Rtype.kind t) #[.pointer (some ⟨2, 46, none⟩)]).run Tryd.prog w = .ok (.int .u8 22) w := by kernel_rfl
theorem kK (w : World) : ((ReflectliteType.abiMethod fun t => (fun a : Nat => Value.int IntKind.u8 (a : Int)) <$> Rtype.kind t) #[.pointer (some ⟨2, 51, none⟩)]).run Tryd.prog w = .ok (.int .u8 2) w := by kernel_rfl
theorem ePPF (w : World) : (ReflectliteType.method ReflectliteType.elem #[hd 69]).run Tryd.prog w = .ok (rt_ 46) w := by kernel_rfl
theorem ePK (w : World) : (ReflectliteType.method ReflectliteType.elem #[hd 53]).run Tryd.prog w = .ok (rt_ 51) w := by kernel_rfl
theorem iPF (w : World) : (ReflectliteType.relation "Implements" ReflectliteType.implements_ #[hd 46, rt_ 25]).run Tryd.prog w = .ok (.bool true) w := by kernel_rfl
theorem iK (w : World) : (ReflectliteType.relation "Implements" ReflectliteType.implements_ #[hd 51, rt_ 25]).run Tryd.prog w = .ok (.bool true) w := by kernel_rfl
theorem tPF (v : Value) (w : World) : (ReflectliteType.typeOf #[.iface 46 v]).run Tryd.prog w = .ok (rt_ 46) w := by kernel_rfl
theorem tK (v : Value) (w : World) : (ReflectliteType.typeOf #[.iface 51 v]).run Tryd.prog w = .ok (rt_ 51) w := by kernel_rfl
theorem aFF (w : World) : (ReflectliteType.relation "AssignableTo" ReflectliteType.assignableTo #[hd 46, rt_ 46]).run Tryd.prog w = .ok (.bool true) w := by kernel_rfl
theorem aKK (w : World) : (ReflectliteType.relation "AssignableTo" ReflectliteType.assignableTo #[hd 51, rt_ 51]).run Tryd.prog w = .ok (.bool true) w := by kernel_rfl
theorem aKF (w : World) : (ReflectliteType.relation "AssignableTo" ReflectliteType.assignableTo #[hd 51, rt_ 46]).run Tryd.prog w = .ok (.bool false) w := by kernel_rfl
theorem aFK (w : World) : (ReflectliteType.relation "AssignableTo" ReflectliteType.assignableTo #[hd 46, rt_ 51]).run Tryd.prog w = .ok (.bool false) w := by kernel_rfl
theorem cK (w : World) : ((ReflectliteType.method fun t => do Extern.Rtype.noPackHeld "Comparable" t; pure (.bool (← typeInfo t).comparable)) #[hd 51]).run Tryd.prog w = .ok (.bool true) w := by kernel_rfl

/-! method sets -/
theorem noAsF (v : Value) (xT : TypeId) (w : World) : (Instr.typeAssert (.iface 46 v) xT 101 true).run Tryd.prog w = .ok (.tuple #[.nilIface, .bool false]) w := run_typeAssert_lacksB Tryd.underlying101 (by kernel_rfl) (by kernel_rfl) v xT w
theorem noAsK (v : Value) (xT : TypeId) (w : World) : (Instr.typeAssert (.iface 51 v) xT 101 true).run Tryd.prog w = .ok (.tuple #[.nilIface, .bool false]) w := run_typeAssert_lacksB Tryd.underlying101 (by kernel_rfl) (by kernel_rfl) v xT w
theorem unF (v : Value) (xT : TypeId) (w : World) : (Instr.typeAssert (.iface 46 v) xT 104 true).run Tryd.prog w = .ok (.tuple #[.iface 46 v, .bool true]) w := run_typeAssert_hasB Tryd.underlying104 (by kernel_rfl) v xT w
theorem noUnK (v : Value) (xT : TypeId) (w : World) : (Instr.typeAssert (.iface 51 v) xT 104 true).run Tryd.prog w = .ok (.tuple #[.nilIface, .bool false]) w := run_typeAssert_lacksB Tryd.underlying104 (by kernel_rfl) (by kernel_rfl) v xT w
theorem noUnsK (v : Value) (xT : TypeId) (w : World) : (Instr.typeAssert (.iface 51 v) xT 106 true).run Tryd.prog w = .ok (.tuple #[.nilIface, .bool false]) w := run_typeAssert_lacksB Tryd.underlying106 (by kernel_rfl) (by kernel_rfl) v xT w

/-! the entries that read or write memory -/
theorem rlm (z : Sem Value) (f : TypeId → Addr → Nat → Nat → Sem Value) (v : Value) :
    ReflectliteValue.method z f #[v] = (do match ← ReflectliteValue.parts v with | none => z | some (t, a, fl) => f t a fl (fl % 32)) := rfl
theorem pPPF (a : Addr) (w : World) : (ReflectliteValue.parts (vOf 69 a 150)).run Tryd.prog w = .ok (some (69, a, 150)) w := by kernel_rfl
theorem pPK (a : Addr) (w : World) : (ReflectliteValue.parts (vOf 53 a 150)).run Tryd.prog w = .ok (some (53, a, 150)) w := by kernel_rfl
theorem isNilPPF (a p : Addr) (W : World) (ha : W.cell? a = some (.pointer (some p))) :
    (ReflectliteValue.method (ReflectliteValue.valueError "reflectlite.Value.IsNil" 0) ReflectliteValue.isNil #[vOf 69 a 150]).run Tryd.prog W = .ok (.bool false) W := by
  rw [rlm]
  simp only [Sem.run_bind, pPPF, Result.andThen]
  simp [ReflectliteValue.isNil, loadVar, isAgg, underlying, Tryd.underlying69, ha, Result.andThen]
theorem isNilPK (a p : Addr) (W : World) (ha : W.cell? a = some (.pointer (some p))) :
    (ReflectliteValue.method (ReflectliteValue.valueError "reflectlite.Value.IsNil" 0) ReflectliteValue.isNil #[vOf 53 a 150]).run Tryd.prog W = .ok (.bool false) W := by
  rw [rlm]
  simp only [Sem.run_bind, pPK, Result.andThen]
  simp [ReflectliteValue.isNil, loadVar, isAgg, underlying, Tryd.underlying53, ha, Result.andThen]
theorem eoPPF (w : World) : (Rtype.elem? 69).run Tryd.prog w = .ok (some 46) w := by kernel_rfl
theorem eoPK (w : World) : (Rtype.elem? 53).run Tryd.prog w = .ok (some 51) w := by kernel_rfl
theorem mkPF (p : Addr) (w : World) : (ReflectliteValue.mk 46 p ReflectliteValue.flagAddr).run Tryd.prog w = .ok (vOf 46 p 406) w := by kernel_rfl
theorem mkK (p : Addr) (w : World) : (ReflectliteValue.mk 51 p ReflectliteValue.flagAddr).run Tryd.prog w = .ok (vOf 51 p 386) w := by kernel_rfl
theorem elPPF (a p : Addr) (W : World) (ha : W.cell? a = some (.pointer (some p))) :
    (ReflectliteValue.method (ReflectliteValue.valueError "reflectlite.Value.Elem" 0) ReflectliteValue.elem #[vOf 69 a 150]).run Tryd.prog W = .ok (vOf 46 p 406) W := by
  rw [rlm]
  simp only [Sem.run_bind, pPPF, Result.andThen]
  simp [ReflectliteValue.elem, loadVar, isAgg, underlying, Tryd.underlying69, ha, Result.andThen, eoPPF, mkPF]
theorem elPK (a p : Addr) (W : World) (ha : W.cell? a = some (.pointer (some p))) :
    (ReflectliteValue.method (ReflectliteValue.valueError "reflectlite.Value.Elem" 0) ReflectliteValue.elem #[vOf 53 a 150]).run Tryd.prog W = .ok (vOf 51 p 386) W := by
  rw [rlm]
  simp only [Sem.run_bind, pPK, Result.andThen]
  simp [ReflectliteValue.elem, loadVar, isAgg, underlying, Tryd.underlying53, ha, Result.andThen, eoPK, mkK]
theorem rls (v x : Value) : ReflectliteValue.set #[v, x] = (do
    let (some (dst, a, fl), some (src, b, _)) := (← ReflectliteValue.parts v, ← ReflectliteValue.parts x)
      | unsupported (.noEntry "extern/(internal/reflectlite.Value).Set.zeroValue")
    if fl / ReflectliteValue.flagAddr % 2 == 0 then unsupported (.noEntry "extern/(internal/reflectlite.Value).Set.unaddressable")
    let val ← loadVar src b
    if ← Rtype.directlyAssignable dst src then storeVar dst a val
    else if ← Rtype.implements dst src then
      if (← Rtype.kind src) == 20 then
        match val with
        | .nilIface => unsupported (.noEntry "extern/reflectlite: a nil value of one interface type handed on as a value of another")
        | _ => storeVar dst a val
      else storeVar dst a (.iface src val)
    else panicString ("reflectlite.Set: value of type " ++ (← Rtype.spelt src) ++ " is not assignable to type " ++ (← Rtype.spelt dst))
    pure (.tuple #[])) := rfl
theorem pPFa (a : Addr) (w : World) : (ReflectliteValue.parts (vOf 46 a 406)).run Tryd.prog w = .ok (some (46, a, 406)) w := by kernel_rfl
theorem pPF (a : Addr) (w : World) : (ReflectliteValue.parts (vOf 46 a 150)).run Tryd.prog w = .ok (some (46, a, 150)) w := by kernel_rfl
theorem pKa (a : Addr) (w : World) : (ReflectliteValue.parts (vOf 51 a 386)).run Tryd.prog w = .ok (some (51, a, 386)) w := by kernel_rfl
theorem pK (a : Addr) (w : World) : (ReflectliteValue.parts (vOf 51 a 130)).run Tryd.prog w = .ok (some (51, a, 130)) w := by kernel_rfl
theorem diF (w : World) : (Rtype.directlyAssignable 46 46).run Tryd.prog w = .ok true w := by kernel_rfl
theorem diK (w : World) : (Rtype.directlyAssignable 51 51).run Tryd.prog w = .ok true w := by kernel_rfl
theorem setF (ta b e : Addr) (old : Value) (W : World) (hb : W.cell? b = some (.pointer (some e))) (ht : W.cell? ta = some old) (hf : W.frozen? ta = false) :
    (ReflectliteValue.set #[vOf 46 ta 406, vOf 46 b 150]).run Tryd.prog W = .ok (.tuple #[]) (W.setCell ta (.pointer (some e))) := by
  rw [rls]
  simp only [Sem.run_bind, pPFa, pPF, Result.andThen]
  simp [ReflectliteValue.flagAddr, loadVar, isAgg, underlying, Tryd.underlying46, hb, Result.andThen, diF, storeVar, Value.cells, storeCells, Addr.add]
  rw [run_store Tryd.prog W ta _ _ (by rfl)]
  simp [ht, hf]
theorem setK (ta b : Addr) (c : Int) (old : Value) (W : World) (hb : W.cell? b = some (.int .i64 c)) (ht : W.cell? ta = some old) (hf : W.frozen? ta = false) :
    (ReflectliteValue.set #[vOf 51 ta 386, vOf 51 b 130]).run Tryd.prog W = .ok (.tuple #[]) (W.setCell ta (.int .i64 c)) := by
  rw [rls]
  simp only [Sem.run_bind, pKa, pK, Result.andThen]
  simp [ReflectliteValue.flagAddr, loadVar, isAgg, underlying, Tryd.underlying51, hb, Result.andThen, diK, storeVar, Value.cells, storeCells, Addr.add]
  rw [run_store Tryd.prog W ta _ _ (by rfl)]
  simp [ht, hf]

/-- two Kinds held against one another -/
theorem eqKK (c d : Int) (w : World) : (binOp .eql 25 (.iface 51 (.int .i64 c)) (.iface 51 (.int .i64 d))).run Tryd.prog w = .ok (.bool (decide (c = d))) w := by
  obtain ⟨i, hi, hcmp⟩ := Option.map_eq_some_iff.1 (show (Tryd.prog.info? 51).map (·.comparable) = some true by kernel_rfl)
  have h : ∀ n : Nat, (Op.equalIn (n + 2) 25 (.iface 51 (.int .i64 c)) (.iface 51 (.int .i64 d))).run Tryd.prog w = .ok (decide (c = d)) w := by
    intro n
    simp [Op.equalIn, run_underlying Tryd.underlying25, run_underlying Tryd.underlying51, typeInfo, hi, hcmp]
    rw [Bool.eq_iff_iff]; simp
  simp only [binOp]
  simp [Op.equal, Op.maxDepth, h 9998]
end Tryd
end Go.Proofs.YtemjbblehiaobaaDoor
