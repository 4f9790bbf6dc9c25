/-
  Lower texts of this claim, joined.
-/
import Derived.Test.YtfpajgmdejlaeaaGreatDoorChecked
import Derived.Test.YtfpajgmdejlaeaaGreatDoorQGround1
import Derived.LaidEql
import Derived.Stop.Asserts
import Derived.RowKitTokens
import Derived.Test.YtfpajgmdejlaeaaGreatDoorTie
import Derived.Test.YtfpajgmdejlaeaaGreatDoorCards
import Derived.ChangeSame
import Derived.ChangeVars
import Derived.JoinedOf
import Derived.LaidLaws
import Derived.LaidHandle
import Derived.Stop.Joined
import Derived.SevenTiedAt
import Derived.Lib.OthersKept
import Derived.Deep.AppendLies
import Derived.Deep.RegionLaw
import Derived.ProofKit
import Derived.Deep.Slices
import Derived.Deep.Fields
import Derived.Deep.DeepCutAuto
import Derived.Deep.CutBlock
/-
  Closed facts on the model's entries for internal/reflectlite and on method sets, at this program's two error types; no walk.
-/
namespace Go.Proofs.YtfpajgmdejlaeaaGreatDoor
open Go.RowKit Go.Extern.Stop Go.Stop Go.Extern

abbrev tKind : TypeId := 91
abbrev tPKind : TypeId := 93
abbrev tFault : TypeId := 98
abbrev tPFault : TypeId := 94
abbrev tPPFault : TypeId := 146
abbrev tRt : TypeId := 178
abbrev hd (t : TypeId) : Value := .agg #[.pointer (some ⟨2, t, none⟩)]
abbrev rt_ (t : TypeId) : Value := .iface tRt (hd t)
/-- a Value of reflectlite -/
abbrev vOf (t : TypeId) (a : Addr) (f : Int) : Value := .agg #[.pointer (some ⟨2, t, none⟩), .pointer (some a), .int .u64 f]

namespace Tryz
theorem vPPF (t : Addr) (w : World) : (ReflectliteValue.unpack (.iface 146 (.pointer (some t)))).run Tryz.prog w = .ok (vOf 146 ⟨w.heap.size, 0, none⟩ 150) (w.alloc (.cells #[.pointer (some t)] 146)) := by kernel_rfl
theorem vPK (t : Addr) (w : World) : (ReflectliteValue.unpack (.iface 93 (.pointer (some t)))).run Tryz.prog w = .ok (vOf 93 ⟨w.heap.size, 0, none⟩ 150) (w.alloc (.cells #[.pointer (some t)] 93)) := by kernel_rfl
theorem vPF (t : Addr) (w : World) : (ReflectliteValue.unpack (.iface 94 (.pointer (some t)))).run Tryz.prog w = .ok (vOf 94 ⟨w.heap.size, 0, none⟩ 150) (w.alloc (.cells #[.pointer (some t)] 94)) := by kernel_rfl
theorem vK (c : Int) (w : World) : (ReflectliteValue.unpack (.iface 91 (.int .i64 c))).run Tryz.prog w = .ok (vOf 91 ⟨w.heap.size, 0, none⟩ 130) (w.alloc (.cells #[.int .i64 c] 91)) := by kernel_rfl
theorem tyPPF (a : Addr) (w : World) : (ReflectliteValue.methodAny (ReflectliteValue.valueError "reflectlite.Value.Type" 0) (fun t _ _ _ => ReflectliteType.toType t) #[vOf 146 a 150]).run Tryz.prog w = .ok (rt_ 146) w := by kernel_rfl
theorem tyPK (a : Addr) (w : World) : (ReflectliteValue.methodAny (ReflectliteValue.valueError "reflectlite.Value.Type" 0) (fun t _ _ _ => ReflectliteType.toType t) #[vOf 93 a 150]).run Tryz.prog w = .ok (rt_ 93) w := by kernel_rfl
theorem mKind (h : Value) (w : World) : (Go.method 370 178 (.agg #[h]) "Kind").run Tryz.prog w = .ok (177, h) w := by kernel_rfl
theorem mElem (h : Value) (w : World) : (Go.method 370 178 (.agg #[h]) "Elem").run Tryz.prog w = .ok (190, .agg #[h]) w := by kernel_rfl
theorem mImpl (h : Value) (w : World) : (Go.method 370 178 (.agg #[h]) "Implements").run Tryz.prog w = .ok (191, .agg #[h]) w := by kernel_rfl
theorem mAssign (h : Value) (w : World) : (Go.method 370 178 (.agg #[h]) "AssignableTo").run Tryz.prog w = .ok (188, .agg #[h]) w := by kernel_rfl
theorem mComp (h : Value) (w : World) : (Go.method 370 178 (.agg #[h]) "Comparable").run Tryz.prog w = .ok (189, .agg #[h]) w := by kernel_rfl
theorem mUnwrap (v : Value) (w : World) : (Go.method 370 94 v "Unwrap").run Tryz.prog w = .ok (182, v) w := by kernel_rfl
theorem kPPF (w : World) : ((ReflectliteType.abiMethod fun t => (fun a : Nat => Value.int IntKind.u8 (a : Int)) <$> Rtype.kind t) #[.pointer (some ⟨2, 146, none⟩)]).run Tryz.prog w = .ok (.int .u8 22) w := by kernel_rfl
theorem kPK (w : World) : ((ReflectliteType.abiMethod fun t => (fun a : Nat => Value.int IntKind.u8 (a : Int)) <$> Rtype.kind t) #[.pointer (some ⟨2, 93, none⟩)]).run Tryz.prog w = .ok (.int .u8 22) w := by kernel_rfl
theorem kPF (w : World) : ((ReflectliteType.abiMethod fun t => (fun a : Nat => Value.int IntKind.u8 (a : Int)) <$> Rtype.kind t) #[.pointer (some ⟨2, 94, none⟩)]).run Tryz.prog w = .ok (.int .u8 22) w := by kernel_rfl
theorem kK (w : World) : ((ReflectliteType.abiMethod fun t => (fun a : Nat => Value.int IntKind.u8 (a : Int)) <$> Rtype.kind t) #[.pointer (some ⟨2, 91, none⟩)]).run Tryz.prog w = .ok (.int .u8 2) w := by kernel_rfl
theorem ePPF (w : World) : (ReflectliteType.method ReflectliteType.elem #[hd 146]).run Tryz.prog w = .ok (rt_ 94) w := by kernel_rfl
theorem ePK (w : World) : (ReflectliteType.method ReflectliteType.elem #[hd 93]).run Tryz.prog w = .ok (rt_ 91) w := by kernel_rfl
theorem iPF (w : World) : (ReflectliteType.relation "Implements" ReflectliteType.implements_ #[hd 94, rt_ 31]).run Tryz.prog w = .ok (.bool true) w := by kernel_rfl
theorem iK (w : World) : (ReflectliteType.relation "Implements" ReflectliteType.implements_ #[hd 91, rt_ 31]).run Tryz.prog w = .ok (.bool true) w := by kernel_rfl
theorem tPF (v : Value) (w : World) : (ReflectliteType.typeOf #[.iface 94 v]).run Tryz.prog w = .ok (rt_ 94) w := by kernel_rfl
theorem tK (v : Value) (w : World) : (ReflectliteType.typeOf #[.iface 91 v]).run Tryz.prog w = .ok (rt_ 91) w := by kernel_rfl
theorem aFF (w : World) : (ReflectliteType.relation "AssignableTo" ReflectliteType.assignableTo #[hd 94, rt_ 94]).run Tryz.prog w = .ok (.bool true) w := by kernel_rfl
theorem aKK (w : World) : (ReflectliteType.relation "AssignableTo" ReflectliteType.assignableTo #[hd 91, rt_ 91]).run Tryz.prog w = .ok (.bool true) w := by kernel_rfl
theorem aKF (w : World) : (ReflectliteType.relation "AssignableTo" ReflectliteType.assignableTo #[hd 91, rt_ 94]).run Tryz.prog w = .ok (.bool false) w := by kernel_rfl
theorem aFK (w : World) : (ReflectliteType.relation "AssignableTo" ReflectliteType.assignableTo #[hd 94, rt_ 91]).run Tryz.prog w = .ok (.bool false) w := by kernel_rfl
theorem cK (w : World) : ((ReflectliteType.method fun t => do Extern.Rtype.noPackHeld "Comparable" t; pure (.bool (← typeInfo t).comparable)) #[hd 91]).run Tryz.prog w = .ok (.bool true) w := by kernel_rfl

/-! method sets -/
theorem noAsF (v : Value) (xT : TypeId) (w : World) : (Instr.typeAssert (.iface 94 v) xT 183 true).run Tryz.prog w = .ok (.tuple #[.nilIface, .bool false]) w := run_typeAssert_lacksB Tryz.underlying183 (by kernel_rfl) (by kernel_rfl) v xT w
theorem noAsK (v : Value) (xT : TypeId) (w : World) : (Instr.typeAssert (.iface 91 v) xT 183 true).run Tryz.prog w = .ok (.tuple #[.nilIface, .bool false]) w := run_typeAssert_lacksB Tryz.underlying183 (by kernel_rfl) (by kernel_rfl) v xT w
theorem unF (v : Value) (xT : TypeId) (w : World) : (Instr.typeAssert (.iface 94 v) xT 186 true).run Tryz.prog w = .ok (.tuple #[.iface 94 v, .bool true]) w := run_typeAssert_hasB Tryz.underlying186 (by kernel_rfl) v xT w
theorem noUnK (v : Value) (xT : TypeId) (w : World) : (Instr.typeAssert (.iface 91 v) xT 186 true).run Tryz.prog w = .ok (.tuple #[.nilIface, .bool false]) w := run_typeAssert_lacksB Tryz.underlying186 (by kernel_rfl) (by kernel_rfl) v xT w
theorem noUnsK (v : Value) (xT : TypeId) (w : World) : (Instr.typeAssert (.iface 91 v) xT 188 true).run Tryz.prog w = .ok (.tuple #[.nilIface, .bool false]) w := run_typeAssert_lacksB Tryz.underlying188 (by kernel_rfl) (by kernel_rfl) v xT w

/-! the entries that read or write memory -/
theorem rlm (z : Sem Value) (f : TypeId → Addr → Nat → Nat → Sem Value) (v : Value) :
    ReflectliteValue.method z f #[v] = (do match ← ReflectliteValue.parts v with | none => z | some (t, a, fl) => f t a fl (fl % 32)) := rfl
theorem pPPF (a : Addr) (w : World) : (ReflectliteValue.parts (vOf 146 a 150)).run Tryz.prog w = .ok (some (146, a, 150)) w := by kernel_rfl
theorem pPK (a : Addr) (w : World) : (ReflectliteValue.parts (vOf 93 a 150)).run Tryz.prog w = .ok (some (93, a, 150)) w := by kernel_rfl
theorem isNilPPF (a p : Addr) (W : World) (ha : W.cell? a = some (.pointer (some p))) :
    (ReflectliteValue.method (ReflectliteValue.valueError "reflectlite.Value.IsNil" 0) ReflectliteValue.isNil #[vOf 146 a 150]).run Tryz.prog W = .ok (.bool false) W := by
  rw [rlm]
  simp only [Sem.run_bind, pPPF, Result.andThen]
  simp [ReflectliteValue.isNil, loadVar, isAgg, underlying, Tryz.underlying146, ha, Result.andThen]
theorem isNilPK (a p : Addr) (W : World) (ha : W.cell? a = some (.pointer (some p))) :
    (ReflectliteValue.method (ReflectliteValue.valueError "reflectlite.Value.IsNil" 0) ReflectliteValue.isNil #[vOf 93 a 150]).run Tryz.prog W = .ok (.bool false) W := by
  rw [rlm]
  simp only [Sem.run_bind, pPK, Result.andThen]
  simp [ReflectliteValue.isNil, loadVar, isAgg, underlying, Tryz.underlying93, ha, Result.andThen]
theorem eoPPF (w : World) : (Rtype.elem? 146).run Tryz.prog w = .ok (some 94) w := by kernel_rfl
theorem eoPK (w : World) : (Rtype.elem? 93).run Tryz.prog w = .ok (some 91) w := by kernel_rfl
theorem mkPF (p : Addr) (w : World) : (ReflectliteValue.mk 94 p ReflectliteValue.flagAddr).run Tryz.prog w = .ok (vOf 94 p 406) w := by kernel_rfl
theorem mkK (p : Addr) (w : World) : (ReflectliteValue.mk 91 p ReflectliteValue.flagAddr).run Tryz.prog w = .ok (vOf 91 p 386) w := by kernel_rfl
theorem elPPF (a p : Addr) (W : World) (ha : W.cell? a = some (.pointer (some p))) :
    (ReflectliteValue.method (ReflectliteValue.valueError "reflectlite.Value.Elem" 0) ReflectliteValue.elem #[vOf 146 a 150]).run Tryz.prog W = .ok (vOf 94 p 406) W := by
  rw [rlm]
  simp only [Sem.run_bind, pPPF, Result.andThen]
  simp [ReflectliteValue.elem, loadVar, isAgg, underlying, Tryz.underlying146, ha, Result.andThen, eoPPF, mkPF]
theorem elPK (a p : Addr) (W : World) (ha : W.cell? a = some (.pointer (some p))) :
    (ReflectliteValue.method (ReflectliteValue.valueError "reflectlite.Value.Elem" 0) ReflectliteValue.elem #[vOf 93 a 150]).run Tryz.prog W = .ok (vOf 91 p 386) W := by
  rw [rlm]
  simp only [Sem.run_bind, pPK, Result.andThen]
  simp [ReflectliteValue.elem, loadVar, isAgg, underlying, Tryz.underlying93, ha, Result.andThen, eoPK, mkK]
theorem rls (v x : Value) : ReflectliteValue.set #[v, x] = (do
    let (some (dst, a, fl), some (src, b, _)) := (← ReflectliteValue.parts v, ← ReflectliteValue.parts x)
      | unsupported (.noEntry "extern/(internal/reflectlite.Value).Set.zeroValue")
    if fl / ReflectliteValue.flagAddr % 2 == 0 then unsupported (.noEntry "extern/(internal/reflectlite.Value).Set.unaddressable")
    let val ← loadVar src b
    if ← Rtype.directlyAssignable dst src then storeVar dst a val
    else if ← Rtype.implements dst src then
      if (← Rtype.kind src) == 20 then
        match val with
        | .nilIface => unsupported (.noEntry "extern/reflectlite: a nil value of one interface type handed on as a value of another")
        | _ => storeVar dst a val
      else storeVar dst a (.iface src val)
    else panicString ("reflectlite.Set: value of type " ++ (← Rtype.spelt src) ++ " is not assignable to type " ++ (← Rtype.spelt dst))
    pure (.tuple #[])) := rfl
theorem pPFa (a : Addr) (w : World) : (ReflectliteValue.parts (vOf 94 a 406)).run Tryz.prog w = .ok (some (94, a, 406)) w := by kernel_rfl
theorem pPF (a : Addr) (w : World) : (ReflectliteValue.parts (vOf 94 a 150)).run Tryz.prog w = .ok (some (94, a, 150)) w := by kernel_rfl
theorem pKa (a : Addr) (w : World) : (ReflectliteValue.parts (vOf 91 a 386)).run Tryz.prog w = .ok (some (91, a, 386)) w := by kernel_rfl
theorem pK (a : Addr) (w : World) : (ReflectliteValue.parts (vOf 91 a 130)).run Tryz.prog w = .ok (some (91, a, 130)) w := by kernel_rfl
theorem diF (w : World) : (Rtype.directlyAssignable 94 94).run Tryz.prog w = .ok true w := by kernel_rfl
theorem diK (w : World) : (Rtype.directlyAssignable 91 91).run Tryz.prog w = .ok true w := by kernel_rfl
theorem setF (ta b e : Addr) (old : Value) (W : World) (hb : W.cell? b = some (.pointer (some e))) (ht : W.cell? ta = some old) (hf : W.frozen? ta = false) :
    (ReflectliteValue.set #[vOf 94 ta 406, vOf 94 b 150]).run Tryz.prog W = .ok (.tuple #[]) (W.setCell ta (.pointer (some e))) := by
  rw [rls]
  simp only [Sem.run_bind, pPFa, pPF, Result.andThen]
  simp [ReflectliteValue.flagAddr, loadVar, isAgg, underlying, Tryz.underlying94, hb, Result.andThen, diF, storeVar, Value.cells, storeCells, Addr.add]
  rw [run_store Tryz.prog W ta _ _ (by rfl)]
  simp [ht, hf]
theorem setK (ta b : Addr) (c : Int) (old : Value) (W : World) (hb : W.cell? b = some (.int .i64 c)) (ht : W.cell? ta = some old) (hf : W.frozen? ta = false) :
    (ReflectliteValue.set #[vOf 91 ta 386, vOf 91 b 130]).run Tryz.prog W = .ok (.tuple #[]) (W.setCell ta (.int .i64 c)) := by
  rw [rls]
  simp only [Sem.run_bind, pKa, pK, Result.andThen]
  simp [ReflectliteValue.flagAddr, loadVar, isAgg, underlying, Tryz.underlying91, hb, Result.andThen, diK, storeVar, Value.cells, storeCells, Addr.add]
  rw [run_store Tryz.prog W ta _ _ (by rfl)]
  simp [ht, hf]

/-- two Kinds held against one another -/
theorem eqKK (c d : Int) (w : World) : (binOp .eql 31 (.iface 91 (.int .i64 c)) (.iface 91 (.int .i64 d))).run Tryz.prog w = .ok (.bool (decide (c = d))) w := by
  obtain ⟨i, hi, hcmp⟩ := Option.map_eq_some_iff.1 (show (Tryz.prog.info? 91).map (·.comparable) = some true by kernel_rfl)
  have h : ∀ n : Nat, (Op.equalIn (n + 2) 31 (.iface 91 (.int .i64 c)) (.iface 91 (.int .i64 d))).run Tryz.prog w = .ok (decide (c = d)) w := by
    intro n
    simp [Op.equalIn, run_underlying Tryz.underlying31, run_underlying Tryz.underlying91, typeInfo, hi, hcmp]
    rw [Bool.eq_iff_iff]; simp
  simp only [binOp]
  simp [Op.equal, Op.maxDepth, h 9998]
end Tryz
end Go.Proofs.YtfpajgmdejlaeaaGreatDoor

/-
  errors.As and errors.Is over a chain of Faults that ends in a Kind: what they answer and what they set.
-/
namespace Go.Proofs.YtfpajgmdejlaeaaGreatDoor
open Go.RowKit Go.Extern.Stop Go.Stop Go.Extern

/-- an error as a value in memory: Faults around one another, and a Kind within -/
inductive Chain (w : World) : List (Int × ByteArray) → Int → Value → Prop
  | kind (c : Int) : Chain w [] c (.iface tKind (.int .i64 c))
  | layer (a : Nat) (n : Int) (s : ByteArray) (v : Value) (l : List (Int × ByteArray)) (c : Int) :
      Blk w a tFault #[.int .i64 n, .string s, v] → Chain w l c v → Chain w ((n, s) :: l) c (.iface tPFault (.pointer (some ⟨a, 0, none⟩)))

/-- the blocks of a chain are none of S -/
theorem Chain.keeps {S : Nat → Prop} {w w' : World} {l : List (Int × ByteArray)} {c : Int} {v : Value} (h : Chain w l c v) (k : Keeps S w w')
    (hS : ∀ a cs, Blk w a tFault cs → ¬ S a) : Chain w' l c v := by
  induction h with
  | kind c => exact .kind c
  | layer a n s v l c hb _ ih => exact .layer a n s v l c (hb.keeps k (hS a _ hb)) ih

theorem Chain.form {w : World} {l : List (Int × ByteArray)} {c : Int} {v : Value} (h : Chain w l c v) : ∃ ty x, v = .iface ty x := by
  cases h with
  | kind => exact ⟨_, _, rfl⟩
  | layer => exact ⟨_, _, rfl⟩

/-- a Fault tells what it wraps -/
theorem unwrap_ok (a : Nat) (n : Int) (s : ByteArray) (v : Value) (w : World) (hb : Blk w a tFault #[.int .i64 n, .string s, v]) :
    Calls Tryz.prog 182 #[.pointer (some ⟨a, 0, none⟩)] w fun e w' => e = .returned v ∧ w' = w := by
  obtain ⟨h0, h1, h2⟩ := hb.cells3
  go_enter Tryz.func182, Tryz.ntmps182
  go_wp2
  go_ret
  exact ⟨rfl, rfl⟩

/-- the variable errors.errorType holds the handle of the type 'error' -/
def Ety (w : World) : Prop := w.cell? ⟨0, 0, none⟩ = some (rt_ 31)

end Go.Proofs.YtfpajgmdejlaeaaGreatDoor

/-
  errors.As over a chain of Faults that ends in a Kind, at the two targets: what it answers and what it sets.
-/
namespace Go.Proofs.YtfpajgmdejlaeaaGreatDoor
open Go.RowKit Go.Extern.Stop Go.Stop Go.Extern

/-- the target's own variable: at its block, the first cell -/
theorem ety_lt {w : World} (h : Ety w) : 0 < w.heap.size := by
  rcases Nat.lt_or_ge 0 w.heap.size with h1 | h1
  · exact h1
  · unfold Ety at h; simp [World.cell?, Array.getElem?_eq_none h1] at h
theorem Ety.keeps {S : Nat → Prop} {w w' : World} (h : Ety w) (k : Keeps S w w') (hS : ¬ S 0) : Ety w' := by
  have hb := k.block _ (ety_lt h) hS
  unfold Ety at h ⊢
  rw [← h]
  simp [World.cell?, hb]

/-- errors.as at the Kind within -/
theorem as_k_in (c old : Int) (t b0 : Nat) (l : List (Int × ByteArray)) (v : Value) (w : World) (h : Chain w l c v)
    (hb0 : Blk w b0 tPKind #[.pointer (some ⟨t, 0, none⟩)]) (ht : Blk w t tKind #[.int .i64 old]) :
    Calls Tryz.prog 80 #[v, .iface tPKind (.pointer (some ⟨t, 0, none⟩)), vOf tPKind ⟨b0, 0, none⟩ 150, rt_ tKind] w fun e w' =>
      e = .returned (.bool true) ∧ Keeps (fun i => i = t) w w' ∧ Blk w' t tKind #[.int .i64 c] := by
  have h65 := @run_callFunc_extern Tryz.prog 108 _ ReflectliteType.typeOf Tryz.func108 (by kernel_rfl) (by kernel_rfl) (by kernel_rfl) (by kernel_rfl)
  have h97 := @run_callFunc_extern Tryz.prog 188 _ (ReflectliteType.relation "AssignableTo" ReflectliteType.assignableTo) Tryz.func188 (by kernel_rfl) (by kernel_rfl) (by kernel_rfl) (by kernel_rfl)
  have h69 := @run_callFunc_extern Tryz.prog 109 _ (ReflectliteValue.method (ReflectliteValue.valueError "reflectlite.Value.Elem" 0) ReflectliteValue.elem) Tryz.func109 (by kernel_rfl) (by kernel_rfl) (by kernel_rfl) (by kernel_rfl)
  have h58 := @run_callFunc_extern Tryz.prog 77 _ (fun args => ReflectliteValue.unpack (args.getD 0 (.tuple #[]))) Tryz.func77 (by kernel_rfl) (by kernel_rfl) (by kernel_rfl) (by kernel_rfl)
  have h70 := @run_callFunc_extern Tryz.prog 110 _ ReflectliteValue.set Tryz.func110 (by kernel_rfl) (by kernel_rfl) (by kernel_rfl) (by kernel_rfl)
  have a1 := Tryz.tK
  have a2 := Tryz.tPF
  have a3 := Tryz.aKK
  have a4 := Tryz.aFK
  have a5 := Tryz.mAssign
  have a6 := Tryz.vK
  have b1 := Tryz.noAsF
  have b3 := Tryz.unF
  have b6 := Tryz.mUnwrap
  go_enter Tryz.func80, Tryz.ntmps80
  go_wp2
  go_loopg [0] l.length (fun k u wx => w.alloc (.cells #[.pointer (some ⟨2, 93, none⟩), .pointer (some ⟨b0, 0, none⟩), .int .u64 150] 137) = wx ∧ ∃ l, k = l.length ∧ Chain w l c u)
  case atStart => exact ⟨rfl, l, rfl, h⟩
  case round =>
    obtain ⟨rfl, l, rfl, hc⟩ := hrel
    cases hc with
    | kind =>
      have el := Tryz.elPK ⟨b0, 0, none⟩ ⟨t, 0, none⟩ (w.alloc (.cells #[.pointer (some ⟨2, 93, none⟩), .pointer (some ⟨b0, 0, none⟩), .int .u64 150] 137)) ((hb0.alloc _).cell 0)
      have st := Tryz.setK ⟨t, 0, none⟩ ⟨w.heap.size + 1, 0, none⟩ c (.int .i64 old) ((w.alloc (.cells #[.pointer (some ⟨2, 93, none⟩), .pointer (some ⟨b0, 0, none⟩), .int .u64 150] 137)).alloc (.cells #[.int .i64 c] 91))
        (by simp)
        (((ht.alloc _).alloc _).cell 0) (((ht.alloc _).alloc _).frozen 0)
      go_wp2
      go_ret
      refine ⟨rfl, ?_, ?_⟩
      · exact (((Keeps.refl (fun i => i = t) w).alloc _).alloc _).setCell (fun _ => rfl) _
      · simpa using ((ht.alloc _).alloc _).set_ 0 (.int .i64 c)
    | layer a n s v l _ hb hc =>
      have hu := unwrap_ok a n s v _ (hb.alloc (.cells #[.pointer (some ⟨2, 93, none⟩), .pointer (some ⟨b0, 0, none⟩), .int .u64 150] 137))
      have hv := Lib.hid (⟨l, rfl, hc⟩ : ∃ l', l.length = l'.length ∧ Chain _ l' c v)
      cases hc with
      | kind =>
        go_wp2_with (go_at_call 182; refine hu.mono ?_; rintro _ _ ⟨rfl, rfl⟩)
        go_roundg 0
        case measure => simp
        case rel => exact ⟨rfl, hv⟩
      | layer b m q u l' =>
        go_wp2_with (go_at_call 182; refine hu.mono ?_; rintro _ _ ⟨rfl, rfl⟩)
        go_roundg (l'.length + 1)
        case measure => simp
        case rel => exact ⟨rfl, hv⟩

set_option maxHeartbeats 1000000 in
/-- errors.As at a target of the Kinds: it is found, whatever is around it -/
theorem as_kind (c old : Int) (t : Nat) (l : List (Int × ByteArray)) (v : Value) (w : World) (h : Chain w l c v) (hg : Ety w)
    (ht : Blk w t tKind #[.int .i64 old]) :
    Calls Tryz.prog 42 #[v, .iface tPKind (.pointer (some ⟨t, 0, none⟩))] w fun e w' =>
      e = .returned (.bool true) ∧ Keeps (fun i => i = t) w w' ∧ Blk w' t tKind #[.int .i64 c] := by
  have h58 := @run_callFunc_extern Tryz.prog 77 _ (fun args => ReflectliteValue.unpack (args.getD 0 (.tuple #[]))) Tryz.func77 (by kernel_rfl) (by kernel_rfl) (by kernel_rfl) (by kernel_rfl)
  have h59 := @run_callFunc_extern Tryz.prog 78 _ (ReflectliteValue.methodAny (ReflectliteValue.valueError "reflectlite.Value.Type" 0) (fun t _ _ _ => ReflectliteType.toType t)) Tryz.func78 (by kernel_rfl) (by kernel_rfl) (by kernel_rfl) (by kernel_rfl)
  have h60 := @run_callFunc_extern Tryz.prog 79 _ (ReflectliteValue.method (ReflectliteValue.valueError "reflectlite.Value.IsNil" 0) ReflectliteValue.isNil) Tryz.func79 (by kernel_rfl) (by kernel_rfl) (by kernel_rfl) (by kernel_rfl)
  have h89 := @run_callFunc_extern Tryz.prog 177 _ (ReflectliteType.abiMethod fun t => do pure (.int .u8 (← Rtype.kind t))) Tryz.func177 (by kernel_rfl) (by kernel_rfl) (by kernel_rfl) (by kernel_rfl)
  have h99 := @run_callFunc_extern Tryz.prog 190 _ (ReflectliteType.method ReflectliteType.elem) Tryz.func190 (by kernel_rfl) (by kernel_rfl) (by kernel_rfl) (by kernel_rfl)
  have h100 := @run_callFunc_extern Tryz.prog 191 _ (ReflectliteType.relation "Implements" ReflectliteType.implements_) Tryz.func191 (by kernel_rfl) (by kernel_rfl) (by kernel_rfl) (by kernel_rfl)
  have a1 := Tryz.vPK
  have a2 := Tryz.tyPK
  have a3 := Tryz.mKind
  have a4 := Tryz.kPK
  have a5 := Tryz.mElem
  have a6 := Tryz.ePK
  have a7 := Tryz.kK
  have a8 := Tryz.mImpl
  have a9 := Tryz.iK
  have n60 := Tryz.isNilPK ⟨w.heap.size, 0, none⟩ ⟨t, 0, none⟩ ((w.alloc (.cells #[.pointer (some ⟨t, 0, none⟩)] 93)).alloc (.cells #[.pointer (some ⟨2, 93, none⟩), .pointer (some ⟨w.heap.size, 0, none⟩), .int .u64 150] 137))
    (((Blk.new w 93 #[.pointer (some ⟨t, 0, none⟩)]).alloc _).cell 0)
  have hg2 : ((w.alloc (.cells #[.pointer (some ⟨t, 0, none⟩)] 93)).alloc (.cells #[.pointer (some ⟨2, 93, none⟩), .pointer (some ⟨w.heap.size, 0, none⟩), .int .u64 150] 137)).cell? ⟨0, 0, none⟩ = some (rt_ 31) :=
    hg.keeps (((Keeps.refl (fun _ => False) w).alloc _).alloc _) id
  have hin := as_k_in c old t w.heap.size l v _ (h.keeps (((Keeps.refl (fun _ => False) w).alloc (.cells #[.pointer (some ⟨t, 0, none⟩)] 93)).alloc (.cells #[.pointer (some ⟨2, 93, none⟩), .pointer (some ⟨w.heap.size, 0, none⟩), .int .u64 150] 137)) (fun _ _ _ => id))
    ((Blk.new w 93 #[.pointer (some ⟨t, 0, none⟩)]).alloc _) ((ht.alloc _).alloc _)
  have hin := Lib.hid hin
  obtain ⟨ty, x, rfl⟩ := h.form
  clear hg h ht
  go_enter Tryz.func42, Tryz.ntmps42
  go_wp2_with (go_at_call 80; refine hin.mono ?_; rintro _ w2 ⟨rfl, hk, hb⟩)
  go_ret
  exact ⟨rfl, (((Keeps.refl _ w).alloc _).alloc _).trans hk, hb⟩
end Go.Proofs.YtfpajgmdejlaeaaGreatDoor

/-
  What the rows' condition on the listed variable gives a walk; a world that meets it.
-/
namespace Go.Proofs.YtfpajgmdejlaeaaGreatDoor
open Go.ChangeShapes Go.WideShapes Go.RowKit

theorem cardOwn : ownKnob Tryz.prog.godebug = none := by kernel_rfl
theorem cardEt : Tryz.prog.globalNamed "errors.errorType" = some 0 := by kernel_rfl
theorem cardRt : (Tryz.prog.cutTypes.find? (·.1 == "internal/reflectlite.rtype")).map (·.2) = some tRt := by kernel_rfl
theorem cardOne : ((List.range 270).filter fun t => Tryz.prog.rowNamed t [101, 114, 114, 111, 114]) = [31] := by kernel_rfl
theorem cardSize : Tryz.prog.types.size = 270 := by kernel_rfl

/-- what the condition gives a walk: the variable's one cell -/
theorem ety_of_laid {W : World} (h : laidMetH Tryz.prog [("errors.errorType", Rows.laid_errors_errorType)] W) : Ety W := by
  have h' : laidMet Tryz.prog [] W ∧ handlesMet Tryz.prog [("errors.errorType", Rows.laid_errors_errorType)] W := h
  obtain ⟨name, u, ty, e1, e2, e3, e4, e5⟩ := h'.2 _ (List.mem_singleton.2 rfl)
  have en : name = [101, 114, 114, 111, 114] := (Option.some.inj e1).symm
  subst en
  obtain rfl := Option.some.inj (cardRt.symm.trans e2)
  have hm : ty ∈ (List.range 270).filter fun t => Tryz.prog.rowNamed t [101, 114, 114, 111, 114] := List.mem_filter.2 ⟨List.mem_range.2 (by rw [← cardSize]; exact e3), e4⟩
  rw [cardOne] at hm
  obtain rfl := List.mem_singleton.1 hm
  have hh : typeHandle Tryz.prog 31 = .pointer (some ⟨2, 31, none⟩) := by kernel_rfl
  rw [hh] at e5
  unfold Ety
  simpa using World.var?_cell cardEt e5 0

/-- a world that meets the condition: the settled one, the variable's cell laid -/
noncomputable def laidWorld (os : Os) : World :=
  let w0 := World.holding Tryz.prog os ⟨#[], #[], []⟩
  { w0 with heap := w0.heap.modify 0 fun
      | .cells _ t frozen => .cells #[rt_ 31] t frozen
      | o => o }
theorem laidWorld_met (os : Os) (args : Array Value) : laidMetH Tryz.prog [("errors.errorType", Rows.laid_errors_errorType)] ((laidWorld os).forCall (fun _ _ => 0) ⟨#[], args, []⟩).memory :=
  laidMetH_of_parts (laidMet_nil _ _) (by kernel_rfl)
end Go.Proofs.YtfpajgmdejlaeaaGreatDoor

/-
  lex: which bytes and texts may be words; a piece as text; the program's and the document's.
-/
namespace Go.Proofs.YtfpajgmdejlaeaaGreatDoor
open Go.RowKit

theorem append_str (a b : ByteArray) : (a ++ b).data.toList = a.data.toList ++ b.data.toList := by simp
theorem ne_nil {s : ByteArray} (h : s.data.toList ≠ []) : s.toList.isEmpty = false := by
  rw [ByteArray.toList_eq]
  cases hh : s.data.toList with
  | nil => exact absurd hh h
  | cons x y => rfl

set_option maxRecDepth 100000 in
theorem plain_any (w : World) (n : Nat) (hn : n < 256) : Calls Tryz.prog 114 #[.int .u8 n] w fun e w' => e = .returned (.bool (plainN n)) ∧ w' = w := by
  by_cases h : n = 123 ∨ n = 125 ∨ n = 59 ∨ n = 34 ∨ n = 35 ∨ n = 92
  · have hp : plainN n = false := by unfold plainN; simp [h]
    rcases h with rfl | rfl | rfl | rfl | rfl | rfl
    all_goals
      go_enter Tryz.func114, Tryz.ntmps114
      go_wp2
      go_ret
      exact ⟨by rw [hp]; rfl, rfl⟩
  · have h1 : ((n : Int) == 123) = false := by rw [beq_eq_false_iff_ne]; omega
    have h2 : ((n : Int) == 125) = false := by rw [beq_eq_false_iff_ne]; omega
    have h3 : ((n : Int) == 59) = false := by rw [beq_eq_false_iff_ne]; omega
    have h4 : ((n : Int) == 34) = false := by rw [beq_eq_false_iff_ne]; omega
    have h5 : ((n : Int) == 35) = false := by rw [beq_eq_false_iff_ne]; omega
    have h6 : ((n : Int) == 92) = false := by rw [beq_eq_false_iff_ne]; omega
    have hp : plainN n = (decide (32 < n) && decide (n ≤ 126)) := by unfold plainN; simp [h]
    by_cases a : 32 < n
    · by_cases b : n ≤ 126
      · have HP : Hid (plainN n = true) := Lib.hid (by rw [hp]; simp [a, b])
        clear hp h
        go_enter Tryz.func114, Tryz.ntmps114
        go_wp2
        go_ret
        exact ⟨by rw [HP.out]; simp <;> omega, rfl⟩
      · have HP : Hid (plainN n = false) := Lib.hid (by rw [hp]; simp [b])
        clear hp h
        go_enter Tryz.func114, Tryz.ntmps114
        go_wp2
        go_ret
        exact ⟨by rw [HP.out]; simp <;> omega, rfl⟩
    · have HP : Hid (plainN n = false) := Lib.hid (by rw [hp]; simp [a])
      clear hp h
      go_enter Tryz.func114, Tryz.ntmps114
      go_wp2
      go_ret
      exact ⟨by rw [HP.out]; simp <;> omega, rfl⟩

theorem blank_any (w : World) (c : UInt8) : Calls Tryz.prog 111 #[.int .u8 c.toNat] w fun e w' => e = .returned (.bool (blankB c)) ∧ w' = w := by
  have HB : Hid (blankB c = (((c.toNat : Int) == 32) || ((c.toNat : Int) == 9) || ((c.toNat : Int) == 13) || ((c.toNat : Int) == 10))) := Lib.hid (by
    unfold blankB; rw [Bool.eq_iff_iff]; simp; omega)
  go_enter Tryz.func111, Tryz.ntmps111
  go_wp2
  all_goals go_ret
  all_goals exact ⟨by rw [HB.out]; simp_all, rfl⟩

set_option maxRecDepth 100000 in
theorem wordy_any (w : World) (s : ByteArray) (hs : s.size ≤ 17179869184) : Calls Tryz.prog 124 #[.string s] w fun e w' => e = .returned (.bool (wordyP s.data.toList)) ∧ Keeps (fun _ => False) w w' := by
  have hl : s.data.toList.length = s.size := by simp
  go_enter Tryz.func124, Tryz.ntmps124
  go_wp2_with fail
  go_loopw [4] (fun _ wr => ∃ pos, pos ≤ s.size ∧ wr = w.iter s pos ∧ ∀ c ∈ s.data.toList.take pos, plainB c = true) (fun _ wr => s.size - wr.iterPos w.heap.size)
  case atStart => exact ⟨0, Nat.zero_le _, rfl, by simp⟩
  case round =>
    obtain ⟨pos, hpos, rfl, hall⟩ := hrel
    have HA := Lib.hid hall
    clear hall
    by_cases hp : pos < s.size
    · obtain ⟨c, hc⟩ : ∃ c, s.data.toList[pos]? = some c := ⟨_, List.getElem?_eq_getElem (by omega)⟩
      have hsc : s[pos] = c := by
        have := (List.getElem?_eq_some_iff.1 hc).2
        rw [← this]; rfl
      have HC := Lib.hid hc
      clear hc
      by_cases ha : c.toNat < 128
      · have hnx : ∀ ty, (Instr.next (.pointer (some ⟨w.heap.size, 0, none⟩)) true ty).run Tryz.prog (w.iter s pos) = _ := fun ty => run_next_ascii w s pos ty hp (by rw [hsc]; exact ha)
        rw [hsc] at hnx
        have hcl := UInt8.toNat_lt c
        by_cases hpl : plainB c = true
        · have h126 : c.toNat ≤ 126 := by unfold plainB plainN at hpl; simp at hpl; omega
          have hq := fun w => plain_any w c.toNat (by omega)
          rw [show plainN c.toNat = true from hpl] at hq
          have HQ := Lib.hid hq
          have HPL := Lib.hid hpl
          clear hq hpl hsc
          go_wp2_with (go_at_call 114; go_must (refine (HQ.out _).mono ?_; rintro e w2 ⟨rfl, rfl⟩))
          go_roundw
          case rel =>
            refine ⟨pos + 1, by omega, rfl, ?_⟩
            intro d hd
            rw [List.take_add_one, HC.out] at hd
            rcases List.mem_append.1 hd with hd | hd
            · exact HA.out d hd
            · rw [Option.toList_some, List.mem_singleton] at hd; subst hd; exact HPL.out
          case measure => simp <;> omega
        · have hpf : plainB c = false := by simpa using hpl
          have hend : Hid (wordyP s.data.toList = false) := Lib.hid (by
            unfold wordyP; rw [Bool.and_eq_false_iff]; right
            rw [List.all_eq_false]; exact ⟨c, List.mem_of_getElem? HC.out, by simp [hpf]⟩)
          by_cases h126 : 126 < c.toNat
          · clear hpl hpf hsc
            go_wp2_with fail
            go_ret
            exact ⟨by rw [hend.out]; rfl, (Keeps.refl _ _).alloc _⟩
          · have hq := fun w => plain_any w c.toNat (by omega)
            rw [show plainN c.toNat = false from hpf] at hq
            have HQ := Lib.hid hq
            have h126' : c.toNat ≤ 126 := by omega
            clear hq hpl hpf hsc
            go_wp2_with (go_at_call 114; go_must (refine (HQ.out _).mono ?_; rintro e w2 ⟨rfl, rfl⟩))
            go_ret
            exact ⟨by rw [hend.out]; rfl, (Keeps.refl _ _).alloc _⟩
      · have hnx : ∀ ty, (Instr.next (.pointer (some ⟨w.heap.size, 0, none⟩)) true ty).run Tryz.prog (w.iter s pos) = _ := fun ty => run_next_any w s pos ty hp
        have hhi := (decode_high s pos hp (by rw [hsc]; omega)).1
        have hpf : plainB c = false := by unfold plainB plainN; simp; omega
        have hend : Hid (wordyP s.data.toList = false) := Lib.hid (by
          unfold wordyP; rw [Bool.and_eq_false_iff]; right
          rw [List.all_eq_false]; exact ⟨c, List.mem_of_getElem? HC.out, by simp [hpf]⟩)
        obtain ⟨r, hr⟩ : ∃ r, (Utf8.decode s pos).1 = r := ⟨_, rfl⟩
        rw [hr] at hhi
        simp only [hr] at hnx
        clear hr hpf hsc
        go_wp2_with fail
        go_ret
        exact ⟨by rw [hend.out]; rfl, (Keeps.refl _ _).alloc _⟩
    · have hnx : ∀ ty, (Instr.next (.pointer (some ⟨w.heap.size, 0, none⟩)) true ty).run Tryz.prog (w.iter s pos) = _ := fun ty => run_next_end w s pos ty hp
      have hall : s.data.toList.all plainB = true := by
        rw [List.all_eq_true]; intro d hd
        have := HA.out d
        rw [List.take_of_length_le (by omega)] at this
        exact this hd
      have HW : Hid (wordyP s.data.toList = decide (s.data.toList ≠ [])) := Lib.hid (by unfold wordyP; rw [hall, Bool.and_true])
      clear hall
      by_cases h0 : s.data.toList = []
      · obtain rfl : s = ⟨#[]⟩ := ba_ext h0
        go_wp2_with fail
        go_ret
        exact ⟨by rw [HW.out]; rfl, (Keeps.refl _ _).alloc _⟩
      · have h1 := ne_nil h0
        have HD : Hid (decide (s.data.toList ≠ []) = true) := Lib.hid (by simp only [decide_eq_true_eq]; exact h0)
        clear h0
        go_wp2_with fail
        go_ret
        exact ⟨by rw [HW.out, HD.out]; rfl, (Keeps.refl _ _).alloc _⟩
end Go.Proofs.YtfpajgmdejlaeaaGreatDoor

/-
  Names and patterns: word.Is, word.Fits.
-/
namespace Go.Proofs.YtfpajgmdejlaeaaGreatDoor
open Go.RowKit

theorem letter_any (w : World) (c : UInt8) : Calls Tryz.prog 143 #[.int .u8 c.toNat] w fun e w' => e = .returned (.bool (letterB c)) ∧ w' = w := by
  have HB : Hid (letterB c = ((decide ((97 : Int) ≤ c.toNat) && decide ((c.toNat : Int) ≤ 122)) || (decide ((65 : Int) ≤ c.toNat) && decide ((c.toNat : Int) ≤ 90)))) := Lib.hid (by
    unfold letterB; rw [Bool.eq_iff_iff]; simp; omega)
  go_enter Tryz.func143, Tryz.ntmps143
  go_wp2
  all_goals go_ret
  all_goals exact ⟨by rw [HB.out]; simp_all <;> omega, rfl⟩
set_option maxRecDepth 100000 in
theorem inner_any (w : World) (c : UInt8) : Calls Tryz.prog 144 #[.int .u8 c.toNat] w fun e w' => e = .returned (.bool (innerB c)) ∧ w' = w := by
  have HB : Hid (innerB c = (letterB c || (decide ((48 : Int) ≤ c.toNat) && decide ((c.toNat : Int) ≤ 57)) || ((c.toNat : Int) == 45) || ((c.toNat : Int) == 95) || ((c.toNat : Int) == 46))) := Lib.hid (by
    have e1 : decide (48 ≤ c.toNat) = decide ((48 : Int) ≤ c.toNat) := by rw [Bool.eq_iff_iff]; simp; omega
    have e2 : decide (c.toNat ≤ 57) = decide ((c.toNat : Int) ≤ 57) := by rw [Bool.eq_iff_iff]; simp; omega
    have e3 : ∀ n : Nat, decide (c.toNat = n) = ((c.toNat : Int) == (n : Int)) := fun n => by rw [Bool.eq_iff_iff]; simp; omega
    unfold innerB; rw [e1, e2, e3, e3, e3]; rfl)
  have HL := Lib.hid (letter_any w c)
  go_enter Tryz.func144, Tryz.ntmps144
  go_wp2_with fail
  refine HL.out.mono ?_
  rintro e w2 ⟨rfl, rfl⟩
  obtain ⟨b, hb⟩ : ∃ b, b = letterB c := ⟨_, rfl⟩
  rw [← hb] at HB ⊢
  clear hb HL
  cases b
  all_goals
    go_wp2
    all_goals go_ret
    all_goals exact ⟨by rw [HB.out]; simp_all <;> (rw [Bool.eq_iff_iff]; simp; omega), rfl⟩
theorem ba_get {s : ByteArray} {l : List UInt8} (h : l = s.data.toList) {k : Nat} {c : UInt8} (hc : l[k]? = some c) : ∀ hh, s[k]'hh = c := by
  intro hh
  subst h
  rw [← (List.getElem?_eq_some_iff.1 hc).2]; rfl
set_option maxRecDepth 100000 in
theorem is_any (w : World) (s : ByteArray) (hs : s.size ≤ 4611686018427387904) : Calls Tryz.prog 120 #[.string s] w fun e w' => e = .returned (.bool (isB s)) ∧ w' = w := by
  obtain ⟨l, hl⟩ : ∃ l, l = s.data.toList := ⟨_, rfl⟩
  have hlen : l.length = s.size := by rw [hl]; simp
  have HG := Lib.hid (fun (k : Nat) c (hc : l[k]? = some c) => ba_get hl hc)
  obtain ⟨V, hV⟩ : ∃ V, V = isB s := ⟨_, rfl⟩
  rw [← hV]
  have HV := Lib.hid hV
  have HL := Lib.hid hl
  clear hV
  cases hlc : l with
  | nil =>
    obtain rfl : s = ⟨#[]⟩ := by apply ba_ext; rw [← hl, hlc]
    have HE : Hid (V = false) := Lib.hid (by rw [HV.out]; rfl)
    clear hl hlen hlc
    go_enter Tryz.func120, Tryz.ntmps120
    go_wp2
    go_ret
    exact ⟨by rw [HE.out]; rfl, rfl⟩
  | cons c t =>
    have hsne : s.toList.isEmpty = false := by rw [ByteArray.toList_eq, ← hl, hlc]; rfl
    have h1 : 1 ≤ s.size := by rw [← hlen, hlc, List.length_cons]; omega
    have HV2 : Hid (V = (decide (s.size ≤ 32) && letterB c && l.all innerB)) := Lib.hid (by rw [HV.out]; unfold isB; rw [← hl, hlc])
    have hc0 : l[0]? = some c := by rw [hlc]; rfl
    have hsc := HG.out 0 c hc0
    have HLT := Lib.hid (letter_any w c)
    have HLN := Lib.hid hlen
    clear hl hlen hlc hc0
    by_cases hbig : 32 < s.size
    · have HE : Hid (V = false) := Lib.hid (by rw [HV2.out, decide_eq_false (by omega)]; rfl)
      go_enter Tryz.func120, Tryz.ntmps120
      go_wp2
      go_ret
      exact ⟨by rw [HE.out]; rfl, rfl⟩
    · have hsm : s.size ≤ 32 := by omega
      cases hlt : letterB c with
      | false =>
        have HE : Hid (V = false) := Lib.hid (by rw [HV2.out, hlt]; simp)
        rw [hlt] at HLT
        clear hlt
        go_enter Tryz.func120, Tryz.ntmps120
        go_wp2_with fail
        refine HLT.out.mono ?_
        rintro e w2 ⟨rfl, rfl⟩
        go_wp2
        go_ret
        exact ⟨by rw [HE.out]; rfl, rfl⟩
      | true =>
        have HV3 : Hid (V = l.all innerB) := Lib.hid (by rw [HV2.out, hlt, decide_eq_true hsm]; simp)
        rw [hlt] at HLT
        clear hlt hbig
        go_enter Tryz.func120, Tryz.ntmps120
        go_wp2_with fail
        refine HLT.out.mono ?_
        rintro e w2 ⟨rfl, rfl⟩
        go_wp2_with fail
        go_loopw [19] (fun u wr => ∃ i : Nat, i ≤ s.size ∧ u = .int .i64 i ∧ wr = w2 ∧ ∀ x ∈ l.take i, innerB x = true) (fun u _ => s.size - (intOf u).toNat)
        case atStart => exact ⟨0, Nat.zero_le _, rfl, rfl, by simp⟩
        case round =>
          obtain ⟨i, hi, rfl, rfl, hall⟩ := hrel
          have HA := Lib.hid hall
          clear hall
          by_cases hilt : i < s.size
          · obtain ⟨d, hd⟩ : ∃ d, l[i]? = some d := ⟨_, List.getElem?_eq_getElem (by rw [HLN.out]; exact hilt)⟩
            have hsd := HG.out i d hd
            have HI := Lib.hid (inner_any wr d)
            have HD := Lib.hid hd
            clear hd
            cases hin : innerB d with
            | false =>
              have HE : Hid (V = false) := Lib.hid (by rw [HV3.out, List.all_eq_false]; exact ⟨d, List.mem_of_getElem? HD.out, by rw [hin]; simp⟩)
              rw [hin] at HI
              clear hin
              go_wp2_with fail
              refine HI.out.mono ?_
              rintro e w3 ⟨rfl, rfl⟩
              go_wp2_with fail
              go_ret
              exact ⟨by rw [HE.out]; rfl, rfl⟩
            | true =>
              have HA2 : Hid (∀ x ∈ l.take (i + 1), innerB x = true) := Lib.hid (by
                intro x hx
                rw [List.take_add_one, HD.out] at hx
                rcases List.mem_append.1 hx with hx | hx
                · exact HA.out x hx
                · rw [Option.toList_some, List.mem_singleton] at hx; subst hx; exact hin)
              rw [hin] at HI
              clear hin
              go_wp2_with fail
              refine HI.out.mono ?_
              rintro e w3 ⟨rfl, rfl⟩
              go_wp2_with fail
              go_roundw
              case rel => exact ⟨i + 1, by omega, by go_num, trivial, HA2.out⟩
              case measure => simp [intOf] <;> omega
          · have hie : i = s.size := by omega
            subst hie
            have HE : Hid (V = true) := Lib.hid (by
              have := HA.out
              rw [List.take_of_length_le (by rw [HLN.out]; exact Nat.le_refl _)] at this
              rw [HV3.out]; exact List.all_eq_true.2 this)
            go_wp2_with fail
            go_ret
            exact ⟨by rw [HE.out]; rfl, rfl⟩
set_option maxRecDepth 100000 in
theorem fits_any (w : World) (s : ByteArray) (hs : s.size ≤ 4611686018427387904) : Calls Tryz.prog 123 #[.string s] w fun e w' => e = .returned (.bool (fitsB s)) ∧ w' = w := by
  obtain ⟨l, hl⟩ : ∃ l, l = s.data.toList := ⟨_, rfl⟩
  have hlen : l.length = s.size := by rw [hl]; simp
  have HG := Lib.hid (fun (k : Nat) c (hc : l[k]? = some c) => ba_get hl hc)
  obtain ⟨V, hV⟩ : ∃ V, V = fitsB s := ⟨_, rfl⟩
  rw [← hV]
  have HV : Hid (V = (decide (s.size ≠ 0) && decide (s.size ≤ 32) && l.all patB)) := Lib.hid (by rw [hV, hl]; rfl)
  have HLN := Lib.hid hlen
  by_cases h0 : s.size = 0
  · obtain rfl : s = ⟨#[]⟩ := by apply ba_ext; rw [← hl]; exact List.eq_nil_of_length_eq_zero (by rw [hlen]; exact h0)
    have HE : Hid (V = false) := Lib.hid (by rw [hV]; rfl)
    clear hl hlen h0 hV HV
    go_enter Tryz.func123, Tryz.ntmps123
    go_wp2
    go_ret
    exact ⟨by rw [HE.out]; rfl, rfl⟩
  · have hsne : s.toList.isEmpty = false := ne_nil (by rw [← hl]; intro e; rw [e] at hlen; exact h0 hlen.symm)
    clear hl hlen hV
    by_cases hbig : 32 < s.size
    · have HE : Hid (V = false) := Lib.hid (by rw [HV.out, decide_eq_false (p := s.size ≤ 32) (by omega)]; simp)
      clear h0
      go_enter Tryz.func123, Tryz.ntmps123
      go_wp2
      go_ret
      exact ⟨by rw [HE.out]; rfl, rfl⟩
    · have hsm : s.size ≤ 32 := by omega
      have HV3 : Hid (V = l.all patB) := Lib.hid (by rw [HV.out, decide_eq_true hsm, decide_eq_true h0]; simp)
      clear hbig h0
      go_enter Tryz.func123, Tryz.ntmps123
      go_wp2_with fail
      go_loopw [13] (fun u wr => ∃ i : Nat, i ≤ s.size ∧ u = .int .i64 i ∧ wr = w ∧ ∀ x ∈ l.take i, patB x = true) (fun u _ => s.size - (intOf u).toNat)
      case atStart => exact ⟨0, Nat.zero_le _, rfl, rfl, by simp⟩
      case round =>
        obtain ⟨i, hi, rfl, rfl, hall⟩ := hrel
        have HA := Lib.hid hall
        clear hall
        by_cases hilt : i < s.size
        · obtain ⟨d, hd⟩ : ∃ d, l[i]? = some d := ⟨_, List.getElem?_eq_getElem (by rw [HLN.out]; exact hilt)⟩
          have hsd := HG.out i d hd
          have HI := Lib.hid (inner_any wr d)
          have HD := Lib.hid hd
          clear hd
          have HA2 : Hid (patB d = true → ∀ x ∈ l.take (i + 1), patB x = true) := Lib.hid (by
            intro hin x hx
            rw [List.take_add_one, HD.out] at hx
            rcases List.mem_append.1 hx with hx | hx
            · exact HA.out x hx
            · rw [Option.toList_some, List.mem_singleton] at hx; subst hx; exact hin)
          have HE2 : Hid (patB d = false → V = false) := Lib.hid (fun hin => by rw [HV3.out, List.all_eq_false]; exact ⟨d, List.mem_of_getElem? HD.out, by rw [hin]; simp⟩)
          have HPB : Hid (patB d = (innerB d || ((d.toNat : Int) == 42) || ((d.toNat : Int) == 63))) := Lib.hid (by
            have e3 : ∀ n : Nat, decide (d.toNat = n) = ((d.toNat : Int) == (n : Int)) := fun n => by rw [Bool.eq_iff_iff]; simp; omega
            unfold patB; rw [e3, e3]; rfl)
          obtain ⟨b, hb⟩ : ∃ b, b = innerB d := ⟨_, rfl⟩
          rw [← hb] at HI HPB
          have hdl : (d.toNat : Int) ≤ 255 := by have := d.toNat_lt; omega
          clear hb
          go_wp2_with fail
          refine HI.out.mono ?_
          rintro e w3 ⟨rfl, rfl⟩
          cases b with
          | true =>
            have HT := Lib.hid (HA2.out (by rw [HPB.out]; rfl))
            go_wp2_with fail
            go_roundw
            case rel => exact ⟨i + 1, by omega, by go_num, trivial, HT.out⟩
            case measure => simp [intOf] <;> omega
          | false =>
            by_cases h42 : (d.toNat : Int) = 42
            · have HT := Lib.hid (HA2.out (by rw [HPB.out, h42]; rfl))
              have n42 : ((d.toNat : Int) != 42) = false := by rw [h42]; rfl
              clear h42
              go_wp2_with fail
              go_roundw
              case rel => exact ⟨i + 1, by omega, by go_num, trivial, HT.out⟩
              case measure => simp [intOf] <;> omega
            · by_cases h63 : (d.toNat : Int) = 63
              · have HT := Lib.hid (HA2.out (by rw [HPB.out, h63]; simp))
                have n42 : ((d.toNat : Int) != 42) = true := by rw [h63]; rfl
                have n63 : ((d.toNat : Int) != 63) = false := by rw [h63]; rfl
                clear h42 h63
                go_wp2_with fail
                go_roundw
                case rel => exact ⟨i + 1, by omega, by go_num, trivial, HT.out⟩
                case measure => simp [intOf] <;> omega
              · have HF := Lib.hid (HE2.out (by rw [HPB.out, beq_eq_false_iff_ne.2 h42, beq_eq_false_iff_ne.2 h63]; rfl))
                have b42 : ((d.toNat : Int) != 42) = true := bne_iff_ne.2 h42
                have b63 : ((d.toNat : Int) != 63) = true := bne_iff_ne.2 h63
                clear h42 h63
                go_wp2_with fail
                go_ret
                exact ⟨by rw [HF.out]; rfl, rfl⟩
        · have hie : i = s.size := by omega
          subst hie
          have HE : Hid (V = true) := Lib.hid (by
            have := HA.out
            rw [List.take_of_length_le (by rw [HLN.out]; exact Nat.le_refl _)] at this
            rw [HV3.out]; exact List.all_eq_true.2 this)
          go_wp2_with fail
          go_ret
          exact ⟨by rw [HE.out]; rfl, rfl⟩
end Go.Proofs.YtfpajgmdejlaeaaGreatDoor

/-
  Break sequences: digits, two digits' number, the step that a backslash begins.
-/
namespace Go.Proofs.YtfpajgmdejlaeaaGreatDoor
open Go.RowKit

def hexV (c : UInt8) : Value := match hexN c with | some a => .tuple #[.int .u8 a, .bool true] | none => .tuple #[.int .u8 0, .bool false]
set_option maxRecDepth 100000 in
theorem worth_any (w : World) (c : UInt8) : Calls Tryz.prog 162 #[.int .u8 c.toNat] w fun e w' => e = .returned (hexV c) ∧ w' = w := by
  have hc := c.toNat_lt
  by_cases h1 : 48 ≤ c.toNat ∧ c.toNat ≤ 57
  · have HV : Hid (hexV c = .tuple #[.int .u8 ((c.toNat : Int) - 48), .bool true]) := Lib.hid (by unfold hexV hexN; rw [if_pos h1]; simp only; rw [Int.ofNat_sub h1.1]; rfl)
    have a1 : (48 : Int) ≤ c.toNat := by omega
    have a2 : (c.toNat : Int) ≤ 57 := by omega
    have hw : IntKind.u8.wrap ((c.toNat : Int) - 48) = (c.toNat : Int) - 48 := IntWalk.u8_in _ (by omega)
    clear h1
    go_enter Tryz.func162, Tryz.ntmps162
    go_wp2
    go_ret2
    exact ⟨by rw [HV.out]; rfl, rfl⟩
  · by_cases h2 : 97 ≤ c.toNat ∧ c.toNat ≤ 102
    · have HV : Hid (hexV c = .tuple #[.int .u8 ((c.toNat : Int) - 97 + 10), .bool true]) := Lib.hid (by
        unfold hexV hexN; rw [if_neg h1, if_pos h2]; simp only
        rw [show ((c.toNat - 87 : Nat) : Int) = (c.toNat : Int) - 97 + 10 by omega])
      have a1 : (97 : Int) ≤ c.toNat := by omega
      have a2 : (c.toNat : Int) ≤ 102 := by omega
      have a3 : (48 : Int) ≤ c.toNat := by omega
      have a4 : ¬ (c.toNat : Int) ≤ 57 := by omega
      have hw : IntKind.u8.wrap ((c.toNat : Int) - 97) = (c.toNat : Int) - 97 := IntWalk.u8_in _ (by omega)
      have hw2 : IntKind.u8.wrap ((c.toNat : Int) - 97 + 10) = (c.toNat : Int) - 97 + 10 := IntWalk.u8_in _ (by omega)
      clear h1 h2
      go_enter Tryz.func162, Tryz.ntmps162
      go_wp2
      go_ret2
      exact ⟨by rw [HV.out]; rfl, rfl⟩
    · have HV : Hid (hexV c = .tuple #[.int .u8 0, .bool false]) := Lib.hid (by unfold hexV hexN; rw [if_neg h1, if_neg h2])
      have e1 : (decide ((48 : Int) ≤ c.toNat) && decide ((c.toNat : Int) ≤ 57)) = false := by rw [Bool.and_eq_false_iff]; simp; omega
      have e2 : (decide ((97 : Int) ≤ c.toNat) && decide ((c.toNat : Int) ≤ 102)) = false := by rw [Bool.and_eq_false_iff]; simp; omega
      have HQ := Lib.hid (And.intro h1 h2)
      clear h1 h2
      go_enter Tryz.func162, Tryz.ntmps162
      go_wp2
      all_goals first | (go_ret2; exact ⟨by rw [HV.out]; rfl, rfl⟩) | (exfalso; have := HQ.out; omega)
def numV (l : List UInt8) : Value := match two 10 digN l with | some (n, _) => .tuple #[.int .i64 n, .bool (decide (0 < n))] | none => .tuple #[.int .i64 0, .bool false]
theorem digN_bad {c : UInt8} (h : digN c = none) : (c.toNat : Int) < 48 ∨ 57 < (c.toNat : Int) := by
  unfold digN at h
  split at h
  · cases h
  · omega
theorem digN_good {c : UInt8} {a : Nat} (h : digN c = some a) : 48 ≤ (c.toNat : Int) ∧ (c.toNat : Int) ≤ 57 ∧ (a : Int) = (c.toNat : Int) - 48 := by
  unfold digN at h
  split at h
  · injection h with h; omega
  · cases h
set_option maxRecDepth 100000 in
theorem bnum_any (w : World) (s : ByteArray) (hs : s.size ≤ 1073741824) : Calls Tryz.prog 157 #[.string s] w fun e w' => e = .returned (numV s.data.toList) ∧ Keeps (fun _ => False) w w' := by
  obtain ⟨l, hl⟩ : ∃ l, l = s.data.toList := ⟨_, rfl⟩
  have hlen : l.length = s.size := by rw [hl]; simp
  have HG := Lib.hid (fun (k : Nat) c (hc : l[k]? = some c) => ba_get hl hc)
  rw [← hl]
  clear hl
  by_cases hsm : s.size < 2
  · have HV : Hid (numV l = .tuple #[.int .i64 0, .bool false]) := Lib.hid (by
      unfold numV
      match l, hlen with
      | [], _ => rfl
      | [x], _ => rfl
      | x :: y :: r, h => simp only [List.length_cons] at h; omega)
    have h2 : (s.size : Int) < 2 := by omega
    clear hlen
    go_enter Tryz.func157, Tryz.ntmps157
    go_wp2
    go_ret2
    exact ⟨by rw [HV.out]; rfl, Keeps.refl _ _⟩
  · match l, hlen, HG with
    | [], h, _ => simp only [List.length_nil] at h; omega
    | [x], h, _ => simp only [List.length_cons, List.length_nil] at h; omega
    | x :: y :: r, h, HG =>
      have s0 := HG.out 0 x rfl
      have s1 := HG.out 1 y rfl
      have h2 : ¬ (s.size : Int) < 2 := by omega
      clear h HG
      cases hx : digN x with
      | none =>
        have HV : Hid (numV (x :: y :: r) = .tuple #[.int .i64 0, .bool false]) := Lib.hid (by unfold numV two; simp only [hx])
        have hb := digN_bad hx
        clear hx
        rcases hb with hb | hb
        · go_enter Tryz.func157, Tryz.ntmps157
          go_wp2
          go_ret2
          exact ⟨by rw [HV.out]; rfl, Keeps.refl _ _⟩
        · have hb2 : ¬ (x.toNat : Int) < 48 := by omega
          go_enter Tryz.func157, Tryz.ntmps157
          go_wp2
          go_ret2
          exact ⟨by rw [HV.out]; rfl, Keeps.refl _ _⟩
      | some a =>
        obtain ⟨a1, a2, a3⟩ := digN_good hx
        have b1 : ¬ (x.toNat : Int) < 48 := by omega
        have b2 : ¬ 57 < (x.toNat : Int) := by omega
        cases hy : digN y with
        | none =>
          have HV : Hid (numV (x :: y :: r) = .tuple #[.int .i64 0, .bool false]) := Lib.hid (by unfold numV two; simp only [hx, hy])
          have hb := digN_bad hy
          clear hx hy a3
          rcases hb with hb | hb
          · go_enter Tryz.func157, Tryz.ntmps157
            go_wp2
            go_ret2
            exact ⟨by rw [HV.out]; rfl, Keeps.refl _ _⟩
          · have hb2 : ¬ (y.toNat : Int) < 48 := by omega
            go_enter Tryz.func157, Tryz.ntmps157
            go_wp2
            go_ret2
            exact ⟨by rw [HV.out]; rfl, Keeps.refl _ _⟩
        | some d =>
          obtain ⟨c1, c2, c3⟩ := digN_good hy
          have d1 : ¬ (y.toNat : Int) < 48 := by omega
          have d2 : ¬ 57 < (y.toNat : Int) := by omega
          have w1 : IntKind.u8.wrap ((x.toNat : Int) - 48) = (x.toNat : Int) - 48 := IntWalk.u8_in _ (by omega)
          have w2 : IntKind.u8.wrap ((y.toNat : Int) - 48) = (y.toNat : Int) - 48 := IntWalk.u8_in _ (by omega)
          have w3 : IntKind.i64.wrap ((x.toNat : Int) - 48) = (x.toNat : Int) - 48 := IntWalk.i64_in _ (by omega)
          have w4 : IntKind.i64.wrap ((y.toNat : Int) - 48) = (y.toNat : Int) - 48 := IntWalk.i64_in _ (by omega)
          have w5 : IntKind.i64.wrap (10 * ((x.toNat : Int) - 48)) = 10 * ((x.toNat : Int) - 48) := IntWalk.i64_in _ (by omega)
          have w6 : IntKind.i64.wrap (10 * ((x.toNat : Int) - 48) + ((y.toNat : Int) - 48)) = 10 * ((x.toNat : Int) - 48) + ((y.toNat : Int) - 48) := IntWalk.i64_in _ (by omega)
          have HV : Hid (numV (x :: y :: r) = .tuple #[.int .i64 (10 * ((x.toNat : Int) - 48) + ((y.toNat : Int) - 48)), .bool (decide (0 < 10 * ((x.toNat : Int) - 48) + ((y.toNat : Int) - 48)))]) := Lib.hid (by
            unfold numV two; simp only [hx, hy]
            have e : ((10 * a + d : Nat) : Int) = 10 * ((x.toNat : Int) - 48) + ((y.toNat : Int) - 48) := by omega
            have e2 : decide (0 < 10 * a + d) = decide (0 < 10 * ((x.toNat : Int) - 48) + ((y.toNat : Int) - 48)) := by rw [Bool.eq_iff_iff]; simp only [decide_eq_true_eq]; omega
            rw [e, e2])
          clear hx hy a3 c3
          go_enter Tryz.func157, Tryz.ntmps157
          go_wp2
          go_region
          all_goals
            go_wp2
            go_ret2
            exact ⟨by rw [HV.out]; rfl, (Keeps.refl _ _).drew⟩
def rhexV (l : List UInt8) : Value := match l with
  | [x, y] => (match hexN x, hexN y with | some a, some d => .tuple #[.int .u8 (16 * a + d : Nat), .int .i64 0] | _, _ => .tuple #[.int .u8 0, .int .i64 3])
  | _ => .tuple #[.int .u8 0, .int .i64 3]
theorem hexN_lt {c : UInt8} {a : Nat} (h : hexN c = some a) : a < 16 := by
  unfold hexN at h
  split at h
  · injection h with h; omega
  · split at h
    · injection h with h; omega
    · cases h
theorem hex_or_fin : ∀ a d : Fin 16, bits .or .u8 ((a.val : Int) * 16) (d.val : Int) = ((16 * a.val + d.val : Nat) : Int) := by decide
theorem hex_or (a d : Nat) (ha : a < 16) (hd : d < 16) : bits .or .u8 ((a : Int) * 16) (d : Int) = ((16 * a + d : Nat) : Int) := hex_or_fin ⟨a, ha⟩ ⟨d, hd⟩
set_option maxRecDepth 100000 in
theorem rhex_any (w : World) (s : ByteArray) (_hs : s.size ≤ 1073741824) : Calls Tryz.prog 158 #[.string s] w fun e w' => e = .returned (rhexV s.data.toList) ∧ w' = w := by
  obtain ⟨l, hl⟩ : ∃ l, l = s.data.toList := ⟨_, rfl⟩
  have hlen : l.length = s.size := by rw [hl]; simp
  have HG := Lib.hid (fun (k : Nat) c (hc : l[k]? = some c) => ba_get hl hc)
  rw [← hl]
  clear hl
  by_cases hsm : s.size = 2
  · match l, hlen, HG with
    | [x, y], _, HG =>
      have s0 := HG.out 0 x rfl
      have s1 := HG.out 1 y rfl
      have W1 := Lib.hid (fun W => worth_any W x)
      have W2 := Lib.hid (fun W => worth_any W y)
      have h2 : ((s.size : Int) != 2) = false := by rw [bne_eq_false_iff_eq]; omega
      unfold hexV at W1 W2
      clear HG hlen
      cases hx : hexN x with
      | none =>
        have HV2 : Hid (rhexV [x, y] = .tuple #[.int .u8 0, .int .i64 3]) := Lib.hid (by unfold rhexV; simp only [hx])
        rw [hx] at W1
        cases hy : hexN y
        all_goals
          rw [hy] at W2
          clear hx hy
          go_enter Tryz.func158, Tryz.ntmps158
          go_wp2_with fail
          refine (W1.out _).mono ?_
          rintro e w2 ⟨rfl, rfl⟩
          go_wp2_with fail
          refine (W2.out _).mono ?_
          rintro e w3 ⟨rfl, rfl⟩
          go_wp2_with fail
          go_ret2
          exact ⟨by rw [HV2.out]; rfl, rfl⟩
      | some a =>
        rw [hx] at W1
        cases hy : hexN y with
        | none =>
          have HV2 : Hid (rhexV [x, y] = .tuple #[.int .u8 0, .int .i64 3]) := Lib.hid (by unfold rhexV; simp only [hx, hy])
          rw [hy] at W2
          clear hx hy
          go_enter Tryz.func158, Tryz.ntmps158
          go_wp2_with fail
          refine (W1.out _).mono ?_
          rintro e w2 ⟨rfl, rfl⟩
          go_wp2_with fail
          refine (W2.out _).mono ?_
          rintro e w3 ⟨rfl, rfl⟩
          go_wp2_with fail
          go_ret2
          exact ⟨by rw [HV2.out]; rfl, rfl⟩
        | some d =>
          have ha := hexN_lt hx
          have hd := hexN_lt hy
          have HV2 : Hid (rhexV [x, y] = .tuple #[.int .u8 (16 * a + d : Nat), .int .i64 0]) := Lib.hid (by unfold rhexV; simp only [hx, hy])
          rw [hy] at W2
          clear hx hy
          go_enter Tryz.func158, Tryz.ntmps158
          go_wp2_with fail
          refine (W1.out _).mono ?_
          rintro e w2 ⟨rfl, rfl⟩
          go_wp2_with fail
          refine (W2.out _).mono ?_
          rintro e w3 ⟨rfl, rfl⟩
          go_wp2_with fail
          go_ret2
          refine ⟨?_, rfl⟩
          rw [HV2.out, ← hex_or a d ha hd]
          rfl
    | [], h, _ => simp only [List.length_nil] at h; omega
    | [x], h, _ => simp only [List.length_cons, List.length_nil] at h; omega
    | x :: y :: z :: r, h, _ => simp only [List.length_cons] at h; omega
  · have HV : Hid (rhexV l = .tuple #[.int .u8 0, .int .i64 3]) := Lib.hid (by
      match l, hlen with
      | [], _ => rfl
      | [x], _ => rfl
      | [x, y], h => simp only [List.length_cons, List.length_nil] at h; omega
      | x :: y :: z :: r, _ => rfl)
    have h2 : ((s.size : Int) != 2) = true := by rw [bne_iff_ne]; omega
    clear hlen
    go_enter Tryz.func158, Tryz.ntmps158
    go_wp2
    go_ret2
    exact ⟨by rw [HV.out]; rfl, rfl⟩
end Go.Proofs.YtfpajgmdejlaeaaGreatDoor

/-
  Break sequences: the step that a backslash begins; the step with which a text begins.
-/
namespace Go.Proofs.YtfpajgmdejlaeaaGreatDoor
open Go.RowKit

def stpV (x : Stp) : Value := if x.kind = 1 then .iface 219 (.string (str x.s)) else if x.kind = 2 then .iface 221 (.int .i64 x.n) else .iface 236 (.agg #[])
def stepV (o : Option (Stp × Nat)) : Value := match o with | some (x, n) => .tuple #[stpV x, .int .i64 n] | none => .tuple #[.nilIface, .int .i64 0]
theorem ba_len {s : ByteArray} {u : List UInt8} (h : s.data.toList = u) : s.size = u.length := by rw [← h]; simp
theorem rhex_ext (W : World) (s : ByteArray) (u : List UInt8) (hu : s.data.toList = u) (n : Nat) (hs : s.size ≤ 1073741824) : Calls Tryz.prog 158 #[.string (s.extract 0 n)] W fun e w' => e = .returned (rhexV (u.take n)) ∧ w' = W := by
  have h := rhex_any W (s.extract 0 n) (by rw [ByteArray.size_extract]; omega)
  rw [ByteArray.data_extract, Array.toList_extract, List.extract_eq_take_drop, hu] at h
  simpa using h
def xP (u : List UInt8) : Option (Stp × Nat) := match two 16 hexN u with
  | some (n, _) => some (⟨1, [UInt8.ofNat n], 0⟩, 4)
  | none => none
theorem rhexV_short : ∀ u : List UInt8, u.length < 2 → rhexV u = .tuple #[.int .u8 0, .int .i64 3]
  | [], _ => rfl
  | [_], _ => rfl
  | x :: y :: r, h => by simp only [List.length_cons] at h; omega
theorem xP_short : ∀ u : List UInt8, u.length < 2 → xP u = none
  | [], _ => rfl
  | [_], _ => rfl
  | x :: y :: r, h => by simp only [List.length_cons] at h; omega
theorem two_cons : ∀ u : List UInt8, ¬ u.length < 2 → ∃ a b r, u = a :: b :: r
  | [], h => by simp at h
  | [_], h => by simp at h
  | a :: b :: r, _ => ⟨a, b, r, rfl⟩
set_option maxRecDepth 100000 in
set_option maxHeartbeats 1000000 in
theorem escaped_x (w : World) (s : ByteArray) (c : UInt8) (u : List UInt8) (hst : s.data.toList = c :: 120 :: u) (hs : s.size ≤ 1073741824) : Calls Tryz.prog 146 #[.string s] w fun e w' => e = .returned (stepV (xP u)) ∧ Keeps (fun _ => False) w w' := by
  obtain ⟨l, hl⟩ : ∃ l, l = s.data.toList := ⟨_, rfl⟩
  have hlen : l.length = s.size := by rw [hl]; simp
  have HG := Lib.hid (fun (k : Nat) c (hc : l[k]? = some c) => ba_get hl hc)
  have hlc : l = c :: 120 :: u := by rw [hl, hst]
  have hsz : s.size = u.length + 2 := by rw [← hlen, hlc]; rfl
  have h2 : ¬ (s.size : Int) < 2 := by omega
  have s1 := HG.out 1 120 (by rw [hlc]; rfl)
  have hrl : (s.extract 2 s.size).data.toList = u := by rw [ByteArray.data_extract, Array.toList_extract, List.extract_eq_take_drop, hst]; simp [hsz]
  have hes := ba_len hrl
  have hex : ∀ W n, Calls Tryz.prog 158 #[.string ((s.extract 2 s.size).extract 0 n)] W fun e w' => e = .returned (rhexV (u.take n)) ∧ w' = W := fun W n => rhex_ext W _ u hrl n (by omega)
  clear hl hlen hlc hst HG hrl
  by_cases hul : u.length < 2
  · have HX : Hid (∀ W, Calls Tryz.prog 158 #[.string ((s.extract 2 s.size).extract 0 u.length)] W fun e w' => e = .returned (.tuple #[.int .u8 0, .int .i64 3]) ∧ w' = W) := Lib.hid (fun W => by
      have h := hex W u.length
      have e := rhexV_short u hul
      rw [List.take_length, e] at h
      exact h)
    have HV : Hid (stepV (xP u) = .tuple #[.nilIface, .int .i64 0]) := Lib.hid (by rw [xP_short u hul]; rfl)
    have hmin : (u.length : Int) < 2 := by omega
    clear hex hul hsz
    go_enter Tryz.func146, Tryz.ntmps146
    go_wp2_with fail
    refine (HX.out _).mono ?_
    rintro e w2 ⟨rfl, rfl⟩
    go_wp2
    go_ret2
    exact ⟨by rw [HV.out]; rfl, Keeps.refl _ _⟩
  · obtain ⟨a, b, r, hu⟩ := two_cons u hul
    have HX := Lib.hid (fun W => hex W 2)
    have hmin : ¬ (u.length : Int) < 2 := by omega
    have hmin2 : (2 : Int) ≤ u.length := by omega
    obtain ⟨V, hV⟩ : ∃ V, V = stepV (xP u) := ⟨_, rfl⟩
    rw [← hV]
    obtain ⟨Q, hQ⟩ : ∃ Q, Q = rhexV (u.take 2) := ⟨_, rfl⟩
    rw [← hQ] at HX
    rw [hu] at hV hQ
    simp only [List.take_succ_cons, List.take_zero] at hQ
    have HV := Lib.hid hV
    have HQ := Lib.hid hQ
    clear hsz hex hV hQ hu hul
    cases ha : hexN a with
    | none =>
      have hv : V = .tuple #[.nilIface, .int .i64 0] := by rw [HV.out]; unfold xP two; simp only [ha]; rfl
      have hq : Q = .tuple #[.int .u8 0, .int .i64 3] := by rw [HQ.out]; unfold rhexV; simp only [ha]
      rw [hq] at HX
      have HV2 := Lib.hid hv
      clear ha hv hq HQ HV
      go_enter Tryz.func146, Tryz.ntmps146
      go_wp2_with fail
      refine (HX.out _).mono ?_
      rintro e w2 ⟨rfl, rfl⟩
      go_wp2
      go_ret2
      exact ⟨by rw [HV2.out]; rfl, Keeps.refl _ _⟩
    | some x =>
      cases hb : hexN b with
      | none =>
        have hv : V = .tuple #[.nilIface, .int .i64 0] := by rw [HV.out]; unfold xP two; simp only [ha, hb]; rfl
        have hq : Q = .tuple #[.int .u8 0, .int .i64 3] := by rw [HQ.out]; unfold rhexV; simp only [ha, hb]
        rw [hq] at HX
        have HV2 := Lib.hid hv
        clear ha hb hv hq HQ HV
        go_enter Tryz.func146, Tryz.ntmps146
        go_wp2_with fail
        refine (HX.out _).mono ?_
        rintro e w2 ⟨rfl, rfl⟩
        go_wp2
        go_ret2
        exact ⟨by rw [HV2.out]; rfl, Keeps.refl _ _⟩
      | some y =>
        have h16 := hexN_lt ha
        have h16b := hexN_lt hb
        have hv : V = .tuple #[.iface 219 (.string (str [UInt8.ofNat (16 * x + y)])), .int .i64 4] := by rw [HV.out]; unfold xP two; simp only [ha, hb]; rfl
        have hq : Q = .tuple #[.int .u8 (16 * x + y : Nat), .int .i64 0] := by rw [HQ.out]; unfold rhexV; simp only [ha, hb]
        rw [hq] at HX
        have HV2 := Lib.hid hv
        obtain ⟨m, hm⟩ : ∃ m, m = 16 * x + y := ⟨_, rfl⟩
        rw [← hm] at HX HV2
        have hmn : m < 256 := by omega
        have htn : (UInt8.ofNat m).toNat = m := by simp; omega
        have HTN := Lib.hid htn
        clear ha hb hv hq HQ HV hm h16 h16b htn
        go_enter Tryz.func146, Tryz.ntmps146
        go_wp2_with fail
        refine (HX.out _).mono ?_
        rintro e w2 ⟨rfl, rfl⟩
        go_wp2_with (with_reducible show wpList _ _ _ (⟨some 60, _, _, _, _, _⟩ :: _) _ _; go_must (refine wpList_string_bytes _ rfl (.tmp 59) 90 219 rfl 5 Tryz.underlying90 (by kernel_rfl) (by kernel_rfl) w2.heap.size 0 1 1 rfl [UInt8.ofNat m] rfl ?_ ?_))
        · intro j v hv
          have hj : j < 1 := (List.getElem?_eq_some_iff.1 hv).1
          obtain rfl : j = 0 := by omega
          have hv2 : UInt8.ofNat m = v := by simpa using hv
          rw [← hv2, HTN.out]
          exact (Blk.new w2 5 #[.int .u8 (m : Int)]).cell 0
        · go_wp2_with fail
          go_ret2
          exact ⟨by rw [HV2.out]; rfl, (Keeps.refl _ _).alloc _⟩
set_option maxRecDepth 100000 in
set_option maxHeartbeats 1000000 in
theorem escaped_any (w : World) (s : ByteArray) (c : UInt8) (t : List UInt8) (hst : s.data.toList = c :: t) (hs : s.size ≤ 1073741824) : Calls Tryz.prog 146 #[.string s] w fun e w' => e = .returned (stepV (escP t)) ∧ Keeps (fun _ => False) w w' := by
  obtain ⟨l, hl⟩ : ∃ l, l = s.data.toList := ⟨_, rfl⟩
  have hlen : l.length = s.size := by rw [hl]; simp
  have HG := Lib.hid (fun (k : Nat) c (hc : l[k]? = some c) => ba_get hl hc)
  have hlc : l = c :: t := by rw [hl, hst]
  cases t with
  | nil =>
    have h2 : (s.size : Int) < 2 := Int.ofNat_lt.2 (by rw [← hlen, hlc]; exact Nat.lt_succ_self 1)
    have HV : Hid (stepV (escP []) = .tuple #[.nilIface, .int .i64 0]) := Lib.hid rfl
    clear hl hlen hlc hst
    go_enter Tryz.func146, Tryz.ntmps146
    go_wp2
    go_ret2
    exact ⟨by rw [HV.out]; rfl, Keeps.refl _ _⟩
  | cons d u =>
    have hsz : s.size = u.length + 2 := by rw [← hlen, hlc]; rfl
    have h2 : ¬ (s.size : Int) < 2 := by omega
    have s1 := HG.out 1 d (by rw [hlc]; rfl)
    have HRL : Hid ((s.extract 2 s.size).data.toList = u) := Lib.hid (by rw [ByteArray.data_extract, Array.toList_extract, List.extract_eq_take_drop, hst]; simp [hsz])
    have HSZ := Lib.hid hsz
    have HST := Lib.hid hst
    have HES := Lib.hid (ba_len HRL.out)
    have hdl : (d.toNat : Int) ≤ 255 := by have := d.toNat_lt; omega
    obtain ⟨O, hO⟩ : ∃ O, O = escP (d :: u) := ⟨_, rfl⟩
    rw [← hO]
    rw [escP] at hO
    clear hl hlen hlc hst HG hsz
    by_cases h92 : d.toNat = 92
    · rw [if_pos h92] at hO
      have HV : Hid (stepV O = .tuple #[.iface 219 (.string ⟨#[92]⟩), .int .i64 2]) := Lib.hid (by rw [hO]; rfl)
      obtain rfl : d = 92 := UInt8.toNat_inj.1 (by simpa using h92)
      clear hO h92
      go_enter Tryz.func146, Tryz.ntmps146
      go_wp2
      go_ret2
      exact ⟨by rw [HV.out]; rfl, Keeps.refl _ _⟩
    · rw [if_neg h92] at hO
      by_cases h114 : d.toNat = 114
      · rw [if_pos h114] at hO
        have HV : Hid (stepV O = .tuple #[.iface 219 (.string ⟨#[13]⟩), .int .i64 2]) := Lib.hid (by rw [hO]; rfl)
        obtain rfl : d = 114 := UInt8.toNat_inj.1 (by simpa using h114)
        clear hO h114
        go_enter Tryz.func146, Tryz.ntmps146
        go_wp2
        go_ret2
        exact ⟨by rw [HV.out]; rfl, Keeps.refl _ _⟩
      · rw [if_neg h114] at hO
        by_cases h110 : d.toNat = 110
        · rw [if_pos h110] at hO
          have HV : Hid (stepV O = .tuple #[.iface 219 (.string ⟨#[10]⟩), .int .i64 2]) := Lib.hid (by rw [hO]; rfl)
          obtain rfl : d = 110 := UInt8.toNat_inj.1 (by simpa using h110)
          clear hO h110
          go_enter Tryz.func146, Tryz.ntmps146
          go_wp2
          go_ret2
          exact ⟨by rw [HV.out]; rfl, Keeps.refl _ _⟩
        · rw [if_neg h110] at hO
          by_cases h116 : d.toNat = 116
          · rw [if_pos h116] at hO
            have HV : Hid (stepV O = .tuple #[.iface 219 (.string ⟨#[9]⟩), .int .i64 2]) := Lib.hid (by rw [hO]; rfl)
            obtain rfl : d = 116 := UInt8.toNat_inj.1 (by simpa using h116)
            clear hO h116
            go_enter Tryz.func146, Tryz.ntmps146
            go_wp2
            go_ret2
            exact ⟨by rw [HV.out]; rfl, Keeps.refl _ _⟩
          · rw [if_neg h116] at hO
            by_cases h100 : d.toNat = 100
            · rw [if_pos h100] at hO
              have HV : Hid (stepV O = .tuple #[.iface 221 (.int .i64 1), .int .i64 2]) := Lib.hid (by rw [hO]; rfl)
              obtain rfl : d = 100 := UInt8.toNat_inj.1 (by simpa using h100)
              clear hO h100
              go_enter Tryz.func146, Tryz.ntmps146
              go_wp2
              go_ret2
              exact ⟨by rw [HV.out]; rfl, Keeps.refl _ _⟩
            · rw [if_neg h100] at hO
              by_cases h122 : d.toNat = 122
              · rw [if_pos h122] at hO
                have HV : Hid (stepV O = .tuple #[.iface 236 (.agg #[]), .int .i64 2]) := Lib.hid (by rw [hO]; rfl)
                obtain rfl : d = 122 := UInt8.toNat_inj.1 (by simpa using h122)
                clear hO h122
                go_enter Tryz.func146, Tryz.ntmps146
                go_wp2
                go_ret2
                exact ⟨by rw [HV.out]; rfl, Keeps.refl _ _⟩
              · rw [if_neg h122] at hO
                by_cases h119 : d.toNat = 119
                · rw [if_pos h119] at hO
                  have hB := fun W => bnum_any W (s.extract 2 s.size) (by have := HSZ.out; have := HES.out; omega)
                  rw [HRL.out] at hB
                  unfold numV at hB
                  have HB := Lib.hid hB
                  obtain rfl : d = 119 := UInt8.toNat_inj.1 (by simpa using h119)
                  clear h119 hB
                  cases hq : two 10 digN u with
                  | none =>
                    rw [hq] at hO HB
                    have HV : Hid (stepV O = .tuple #[.nilIface, .int .i64 0]) := Lib.hid (by rw [hO]; rfl)
                    clear hO hq
                    go_enter Tryz.func146, Tryz.ntmps146
                    go_wp2_with fail
                    refine (HB.out _).mono ?_
                    rintro e w2 ⟨rfl, k2⟩
                    go_wp2
                    go_ret2
                    exact ⟨by rw [HV.out]; rfl, k2⟩
                  | some p =>
                    obtain ⟨n, r⟩ := p
                    rw [hq] at hO HB
                    simp only at hO HB
                    clear hq
                    by_cases h0 : 0 < n
                    · rw [if_pos h0] at hO
                      have HV : Hid (stepV O = .tuple #[.iface 221 (.int .i64 n), .int .i64 4]) := Lib.hid (by rw [hO]; rfl)
                      rw [decide_eq_true h0] at HB
                      clear hO h0
                      go_enter Tryz.func146, Tryz.ntmps146
                      go_wp2_with fail
                      refine (HB.out _).mono ?_
                      rintro e w2 ⟨rfl, k2⟩
                      go_wp2
                      go_ret2
                      exact ⟨by rw [HV.out]; rfl, k2⟩
                    · rw [if_neg h0] at hO
                      have HV : Hid (stepV O = .tuple #[.nilIface, .int .i64 0]) := Lib.hid (by rw [hO]; rfl)
                      rw [decide_eq_false h0] at HB
                      clear hO h0
                      go_enter Tryz.func146, Tryz.ntmps146
                      go_wp2_with fail
                      refine (HB.out _).mono ?_
                      rintro e w2 ⟨rfl, k2⟩
                      go_wp2
                      go_ret2
                      exact ⟨by rw [HV.out]; rfl, k2⟩
                · rw [if_neg h119] at hO
                  by_cases h120 : d.toNat = 120
                  · rw [if_pos h120] at hO
                    obtain rfl : d = 120 := UInt8.toNat_inj.1 (by simpa using h120)
                    clear h120
                    rw [hO]
                    exact escaped_x w s c u HST.out hs
                  · rw [if_neg h120] at hO
                    have HV : Hid (stepV O = .tuple #[.nilIface, .int .i64 0]) := Lib.hid (by rw [hO]; rfl)
                    have b92 : ((d.toNat : Int) == 92) = false := by rw [beq_eq_false_iff_ne]; omega
                    have b114 : ((d.toNat : Int) == 114) = false := by rw [beq_eq_false_iff_ne]; omega
                    have b110 : ((d.toNat : Int) == 110) = false := by rw [beq_eq_false_iff_ne]; omega
                    have b116 : ((d.toNat : Int) == 116) = false := by rw [beq_eq_false_iff_ne]; omega
                    have b100 : ((d.toNat : Int) == 100) = false := by rw [beq_eq_false_iff_ne]; omega
                    have b122 : ((d.toNat : Int) == 122) = false := by rw [beq_eq_false_iff_ne]; omega
                    have b119 : ((d.toNat : Int) == 119) = false := by rw [beq_eq_false_iff_ne]; omega
                    have b120 : ((d.toNat : Int) == 120) = false := by rw [beq_eq_false_iff_ne]; omega
                    clear hO h92 h114 h110 h116 h100 h122 h119 h120
                    go_enter Tryz.func146, Tryz.ntmps146
                    go_wp2
                    go_ret2
                    exact ⟨by rw [HV.out]; rfl, Keeps.refl _ _⟩
set_option maxRecDepth 100000 in
theorem bone_any (w : World) (s : ByteArray) (c : UInt8) (t : List UInt8) (hst : s.data.toList = c :: t) (hs : s.size ≤ 1073741824) : Calls Tryz.prog 126 #[.string s] w fun e w' => e = .returned (stepV (stepP (c :: t))) ∧ Keeps (fun _ => False) w w' := by
  obtain ⟨l, hl⟩ : ∃ l, l = s.data.toList := ⟨_, rfl⟩
  have HG := Lib.hid (fun (k : Nat) c (hc : l[k]? = some c) => ba_get hl hc)
  have hlc : l = c :: t := by rw [hl, hst]
  have hln := ba_len hst
  rw [List.length_cons] at hln
  have h1 : 1 ≤ s.size := by omega
  have s0 := HG.out 0 c (by rw [hlc]; rfl)
  have HX : Hid ((s.extract 0 1) = str [c]) := Lib.hid (ba_ext (by rw [ByteArray.data_extract, Array.toList_extract, List.extract_eq_take_drop, hst]; rfl))
  have HES := Lib.hid (escaped_any w s c t hst hs)
  have hcl : (c.toNat : Int) ≤ 255 := by have := c.toNat_lt; omega
  obtain ⟨O, hO⟩ : ∃ O, O = stepP (c :: t) := ⟨_, rfl⟩
  rw [← hO]
  rw [stepP] at hO
  clear hl hlc HG hst hln
  by_cases h92 : c.toNat = 92
  · rw [if_pos h92] at hO
    have HO := Lib.hid hO
    obtain rfl : c = 92 := UInt8.toNat_inj.1 (by simpa using h92)
    obtain ⟨v0, v1, hv⟩ : ∃ v0 v1, stepV (escP t) = .tuple #[v0, v1] := by
      unfold stepV
      cases escP t with
      | none => exact ⟨_, _, rfl⟩
      | some p => exact ⟨_, _, rfl⟩
    rw [hv] at HES
    have HV := Lib.hid hv
    clear h92 hO hv
    go_enter Tryz.func126, Tryz.ntmps126
    go_wp2_with fail
    refine HES.out.mono ?_
    rintro e w2 ⟨rfl, k2⟩
    go_wp2
    go_ret2
    exact ⟨by rw [HO.out, HV.out]; rfl, k2⟩
  · rw [if_neg h92] at hO
    have b92 : ((c.toNat : Int) == 92) = false := by rw [beq_eq_false_iff_ne]; omega
    by_cases hlo : c.toNat < 32
    · rw [if_pos (.inl hlo)] at hO
      have HO := Lib.hid hO
      have hl2 : (c.toNat : Int) < 32 := by omega
      clear hO hlo h92 HES
      go_enter Tryz.func126, Tryz.ntmps126
      go_wp2
      go_ret2
      exact ⟨by rw [HO.out]; rfl, Keeps.refl _ _⟩
    · by_cases hhi : 126 < c.toNat
      · rw [if_pos (.inr hhi)] at hO
        have HO := Lib.hid hO
        have hl2 : ¬ (c.toNat : Int) < 32 := by omega
        have hl3 : 126 < (c.toNat : Int) := by omega
        clear hO hlo h92 HES
        go_enter Tryz.func126, Tryz.ntmps126
        go_wp2
        go_ret2
        exact ⟨by rw [HO.out]; rfl, Keeps.refl _ _⟩
      · rw [if_neg (by omega)] at hO
        have HO := Lib.hid hO
        have hl2 : ¬ (c.toNat : Int) < 32 := by omega
        have hl3 : ¬ 126 < (c.toNat : Int) := by omega
        clear hO hlo h92 hhi HES
        go_enter Tryz.func126, Tryz.ntmps126
        go_wp2
        go_ret2
        exact ⟨by rw [HO.out]; show _ = Ending.returned (.tuple #[.iface 219 (.string (str [c])), .int .i64 1]); rw [← HX.out]; rfl, Keeps.refl _ _⟩
/-- a step behind another one, if they are joined -/
def joinV (a b : Stp) : Value := if a.kind = b.kind ∧ b.kind < 3 then .tuple #[stpV ⟨a.kind, a.s ++ b.s, a.n + b.n⟩, .bool true] else .tuple #[.nilIface, .bool false]
/-- a step as it is read -/
def StpOk (x : Stp) : Prop := (x.kind = 1 ∧ x.n = 0) ∨ (x.kind = 2 ∧ x.s = []) ∨ (x.kind = 3 ∧ x.s = [] ∧ x.n = 0)
end Go.Proofs.YtfpajgmdejlaeaaGreatDoor

/-
  A slice that the call itself makes and appends to, whose elements have several cells each. No program in sight.
-/
namespace Go.Proofs.YtfpajgmdejlaeaaGreatDoor
open Go.RowKit

/-- the slice value v, of element type e (size cells each), owns the elements xs, in blocks from B on -/
def OwnS {α : Type} (R : α → List Value) (size : Nat) (w : World) (B : Nat) (e : TypeId) (v : Value) (xs : List α) : Prop := w.ownsRow B e size v xs.length (xs.map R).flatten

section
variable {α : Type} {R : α → List Value} {size : Nat} {w w' : World} {B : Nat} {e : TypeId} {v : Value} {xs : List α}
theorem OwnS.none_ : OwnS R size w B e (.slice none 0 0) [] := World.ownsRow_nil w B e size

theorem OwnS.ownBlk (h : OwnS R size w B e v xs) : ∀ k, v.ownBlock = some k → ∃ cs, Blk w k e cs := by
  intro k hk
  rcases h.2 with ⟨rfl, h2⟩ | ⟨g, cap, cur, rfl, hg, hh, _⟩
  · simp [Value.ownBlock] at hk
  · simp [Value.ownBlock] at hk
    subst hk
    exact ⟨_, hh⟩

theorem OwnS.moreS {B' : Nat} (h : OwnS R size w B e v xs) (hB : B' ≤ B) : OwnS R size w B' e v xs := by
  refine ⟨h.1, ?_⟩
  rcases h.2 with h2 | ⟨g, cap, cur, hv, hg, r⟩
  · exact .inl h2
  · exact .inr ⟨g, cap, cur, hv, by omega, r⟩
theorem OwnS.keeps {S : Nat → Prop} (h : OwnS R size w B e v xs) (k : Keeps S w w') (hS : ∀ i, B ≤ i → i < w.heap.size → (∃ cs, Blk w i e cs) → ¬ S i) : OwnS R size w' B e v xs := by
  refine ⟨h.1, ?_⟩
  rcases h.2 with h2 | ⟨g, cap, cur, hv, hg, hh, r⟩
  · exact .inl h2
  · have hlt : g < w.heap.size := by
      rcases Nat.lt_or_ge g w.heap.size with hlt | hge
      · exact hlt
      · rw [Array.getElem?_eq_none hge] at hh; cases hh
    exact .inr ⟨g, cap, cur, hv, hg, (k.block g hlt (hS g hg hlt ⟨_, hh⟩)).trans hh, r⟩

theorem flat_get (hR : ∀ x, (R x).length = size) (xs : List α) : ∀ (i : Nat) (x : α) (j : Nat) (u : Value), xs[i]? = some x → (R x)[j]? = some u → (xs.map R).flatten[i * size + j]? = some u := by
  induction xs with
  | nil => intro i x j u h; simp at h
  | cons y ys ih =>
    intro i x j u hx hu
    rw [List.map_cons, List.flatten_cons]
    cases i with
    | zero =>
      simp at hx; subst hx
      rw [Nat.zero_mul, Nat.zero_add, List.getElem?_append_left (List.getElem?_eq_some_iff.1 hu).1]; exact hu
    | succ i =>
      simp at hx
      have hj : j < size := by rw [← hR x]; exact (List.getElem?_eq_some_iff.1 hu).1
      rw [List.getElem?_append_right (by rw [hR, Nat.succ_mul]; omega), hR, show (i + 1) * size + j - size = i * size + j by rw [Nat.succ_mul]; omega]
      exact ih i x j u hx hu
theorem flat_len (hR : ∀ x, (R x).length = size) (xs : List α) : (xs.map R).flatten.length = xs.length * size := by
  induction xs with
  | nil => simp
  | cons y ys ih => rw [List.map_cons, List.flatten_cons, List.length_append, ih, hR, List.length_cons, Nat.succ_mul]; omega

/-- its shape, and its cells -/
theorem OwnS.shape (h : OwnS R size w B e v xs) (hR : ∀ x, (R x).length = size) :
    ∃ a cap, v = .slice a xs.length cap ∧ xs.length ≤ cap ∧ cap ≤ maxLen ∧ (0 < xs.length → ∃ g, a = some ⟨g, 0, none⟩ ∧ B ≤ g ∧ g < w.heap.size ∧ ∃ cs, Blk w g e cs) ∧
      ∀ g, a = some ⟨g, 0, none⟩ → ∀ (i : Nat) (x : α) (j : Nat) (u : Value), xs[i]? = some x → (R x)[j]? = some u → w.cell? ⟨g, i * size + j, none⟩ = some u ∧ w.frozen? ⟨g, i * size + j, none⟩ = false := by
  rcases h.2 with ⟨rfl, h2⟩ | ⟨g, cap, cur, rfl, hg, hh, h1, h2, h3, h4⟩
  · refine ⟨none, 0, by rw [h2], by omega, by unfold maxLen; omega, fun h => by omega, fun g hg => by cases hg⟩
  · have hlt : g < w.heap.size := by
      rcases Nat.lt_or_ge g w.heap.size with hlt | hge
      · exact hlt
      · rw [Array.getElem?_eq_none hge] at hh; cases hh
    refine ⟨some ⟨g, 0, none⟩, cap, rfl, h1, h2, fun _ => ⟨g, rfl, hg, hlt, _, hh⟩, fun g' hg' i x j u hx hu => ?_⟩
    injection hg' with hg'
    injection hg' with hg'
    subst hg'
    refine ⟨?_, frozen_of_row w g _ cur e hh⟩
    have hf := flat_get hR xs i x j u hx hu
    have hl : i * size + j < xs.length * size := by rw [← flat_len hR xs]; exact (List.getElem?_eq_some_iff.1 hf).1
    rw [cell_of_row w g _ cur e (0, 0) hh, ← hf, ← h4, List.getElem?_take, if_pos hl]
    simp
theorem OwnS.sl (h : OwnS R size w B e v xs) : ∃ a cap, v = .slice a xs.length cap := by
  rcases h.2 with ⟨rfl, h2⟩ | ⟨g, cap, cur, rfl, _⟩
  · exact ⟨none, 0, by rw [h2]⟩
  · exact ⟨_, _, rfl⟩
end

section
variable {P : Program} {α : Type}
/-- append of one element, which lies in a block of its own; the frame by types -/
theorem wpList_append_st (R : α → List Value) (size : Nat) (hR : ∀ x, (R x).length = size) (hsz : 0 < size) {w : World} {ops : Array Oper} {rest : List Oper} {o : Oper} {a : Act} {Q : Exit → Act → World → Prop} (hgd : o.guard = none) (s x : Operand) (t : TypeId)
    (ho : o.op = .call { callee := .builtin .append, args := #[s, x], argTypes := #[t, t] }) (B : Nat) (e : TypeId) (z : Value) (bytes : Nat) (ht : P.underlying t = some (.slice e))
    (hi : (P.info? e).map (fun i => (i.zero, i.size, i.bytes)) = some (some z, size, bytes)) (hz : z.cells.size = size) (hb16 : bytes ≤ 4096)
    (v : Value) (xs : List α) (hs : a.eval s = v) (hown : OwnS R size w B e v xs) (g c : Nat) (y : α) (hx : a.eval x = .slice (some ⟨g, 0, none⟩) 1 c) (hu : Blk w g e (R y).toArray) (h1 : ∀ u ∈ R y, u.oneCell' = true)
    (hlen : xs.length ≤ 17179869184) (hbase : B ≤ w.heap.size)
    (h : ∀ v' w', OwnS R size w' B e v' (xs ++ [y]) → Keeps (fun i => B ≤ i ∧ ∃ cs, Blk w i e cs) w w' → wpList P ops Q rest (a.put o.dst v') w') : wpList P ops Q (o :: rest) a w := by
  refine wpList_plain hgd fun K hK => ?_
  obtain ⟨i, hi0, hzi, hsi, hbi⟩ := info_parts hi
  obtain ⟨v', w', hrun, h2, h3, -⟩ := run_append_own (P := P) w B t o.type e i z size bytes ht hi0 hzi hsi hbi hz hsz v xs.length _ hown ⟨g, 0, none⟩ 1 c (R y) (by rw [hR]; simp) (by
    intro j u hj
    have := hu.cell j
    rw [List.getElem?_toArray, hj] at this
    by_cases h0 : j = 0
    · subst h0; simpa [Addr.add] using this
    · simpa [Addr.add, h0] using this) h1 (by unfold maxLen; omega) (by
      have := Nat.mul_le_mul (show xs.length + 1 ≤ 17179869185 by omega) hb16
      omega) hbase
  unfold Oper.wp
  simp only [execOp, ho, resolve, invoke, builtin, Sem.run_bind, Sem.run_pure, Result.andThen_ok, List.map_toArray, List.map_cons, List.map_nil, hs, hx, hrun]
  refine hK _ _ (h v' w' (by unfold OwnS; simpa using h2) ((Keeps.refl _ _).grown h3 (fun k hk _ => ⟨(hown.lt k hk).1, hown.ownBlk k hk⟩)))
end

section
variable {P : Program} {α : Type}
/-- append of one element, at the operation: the new value written out -/
theorem wp_append_st (R : α → List Value) (size : Nat) (hR : ∀ x, (R x).length = size) (hsz : 0 < size) {w : World} {o : Oper} {a : Act} {K : Act → World → Prop} {Q : Exit → Act → World → Prop} (s x : Operand) (t : TypeId)
    (ho : o.op = .call { callee := .builtin .append, args := #[s, x], argTypes := #[t, t] }) (B : Nat) (e : TypeId) (z : Value) (bytes : Nat) (ht : P.underlying t = some (.slice e))
    (hi : (P.info? e).map (fun i => (i.zero, i.size, i.bytes)) = some (some z, size, bytes)) (hz : z.cells.size = size) (hb16 : bytes ≤ 4096)
    (v : Value) (xs : List α) (hs : a.eval s = v) (hown : OwnS R size w B e v xs) (g c : Nat) (y : α) (hx : a.eval x = .slice (some ⟨g, 0, none⟩) 1 c) (hu : Blk w g e (R y).toArray) (h1 : ∀ u ∈ R y, u.oneCell' = true)
    (hlen : xs.length ≤ 17179869184) (hbase : B ≤ w.heap.size)
    (h : ∀ g' cap' w', OwnS R size w' B e (.slice (some ⟨g', 0, none⟩) (xs.length + 1) cap') (xs ++ [y]) → Keeps (fun i => v.ownBlock = some i) w w' → (v.ownBlock = some g' ∨ g' = w.heap.size) → K (a.put o.dst (.slice (some ⟨g', 0, none⟩) (xs.length + 1) cap')) w') : o.wp P a w K Q := by
  obtain ⟨i, hi0, hzi, hsi, hbi⟩ := info_parts hi
  refine wp_append_lies (P := P) w s x t ho B e i z size bytes ht hi0 hzi hsi hbi hz hsz v xs.length _ hs hown ⟨g, 0, none⟩ 1 c (R y) hx (by rw [hR]; simp) (by
    intro j u hj
    have := hu.cell j
    rw [List.getElem?_toArray, hj] at this
    by_cases h0 : j = 0
    · subst h0; simpa [Addr.add] using this
    · simpa [Addr.add, h0] using this) h1 (by omega) (by unfold maxLen; omega) (by
      have := Nat.mul_le_mul (show xs.length + 1 ≤ 17179869185 by omega) hb16
      omega) hbase _ rfl ?_
  intro g' cap' w' h2 h3 h4 _
  exact h g' cap' w' (by unfold OwnS; simpa using h2) ((Keeps.refl _ _).grown h3 (fun k hk _ => hk)) h4

/-- .. at a step of a region that draws its order -/
theorem step_append_st (R : α → List Value) (size : Nat) (hR : ∀ x, (R x).length = size) (hsz : 0 < size) {w : World} {ops : Array Oper} {o : Oper} {a : Act} {K : Act → World → Prop} {Q : Exit → Act → World → Prop} {E : Prop} (hgd : o.guard = none) (s x : Operand) (t : TypeId)
    (ho : o.op = .call { callee := .builtin .append, args := #[s, x], argTypes := #[t, t] }) (B : Nat) (e : TypeId) (z : Value) (bytes : Nat) (ht : P.underlying t = some (.slice e))
    (hi : (P.info? e).map (fun i => (i.zero, i.size, i.bytes)) = some (some z, size, bytes)) (hz : z.cells.size = size) (hb16 : bytes ≤ 4096)
    (v : Value) (xs : List α) (hs : a.eval s = v) (hown : OwnS R size w B e v xs) (g c : Nat) (y : α) (hx : a.eval x = .slice (some ⟨g, 0, none⟩) 1 c) (hu : Blk w g e (R y).toArray) (h1 : ∀ u ∈ R y, u.oneCell' = true)
    (hlen : xs.length ≤ 17179869184) (hbase : B ≤ w.heap.size)
    (h : ∀ g' cap' w', OwnS R size w' B e (.slice (some ⟨g', 0, none⟩) (xs.length + 1) cap') (xs ++ [y]) → Keeps (fun i => v.ownBlock = some i) w w' → (v.ownBlock = some g' ∨ g' = w.heap.size) → K (a.put o.dst (.slice (some ⟨g', 0, none⟩) (xs.length + 1) cap')) w') :
    if Region.wanted o (yielded ops a.tmps) = true then Oper.wp P o a w K Q else E := by
  have hw : Region.wanted o (yielded ops a.tmps) = true := by simp [Region.wanted, hgd]
  rw [if_pos hw]
  exact wp_append_st R size hR hsz s x t ho B e z bytes ht hi hz hb16 v xs hs hown g c y hx hu h1 hlen hbase h
end
end Go.Proofs.YtfpajgmdejlaeaaGreatDoor

/-
  Own slices, the frame by types: bytes as values, an iterator's block, growth seen through a new block.
-/
namespace Go.Proofs.YtfpajgmdejlaeaaGreatDoor
open Go.RowKit

/-- bytes as values -/
def u8Vs (l : List UInt8) : List Value := l.map fun c => Value.int .u8 c.toNat
theorem u8Vs_len (l : List UInt8) : (u8Vs l).length = l.length := by simp [u8Vs]
theorem OwnL.of1 (w : World) (e : TypeId) (u : Value) : OwnL (w.alloc (.cells #[u] e)) w.heap.size e (.slice (some ⟨w.heap.size, 0, none⟩) 1 1) [u] :=
  ⟨rfl, .inr ⟨w.heap.size, 1, #[u], rfl, Nat.le_refl _, heap_alloc_new w _, Nat.le_refl _, by decide, rfl, rfl⟩⟩
theorem OwnL.keepsT {w w' : World} {B : Nat} {e : TypeId} {v : Value} {vs : List Value} {S : Nat → Prop} (h : OwnL w B e v vs) (k : Keeps S w w') (hS : ∀ i, B ≤ i → (∃ cs, Blk w i e cs) → ¬ S i) : OwnL w' B e v vs := by
  refine ⟨h.1, ?_⟩
  rcases h.2 with h2 | ⟨g, cap, cur, hv, hg, hh, r⟩
  · exact .inl h2
  · have hlt : g < w.heap.size := by
      rcases Nat.lt_or_ge g w.heap.size with hlt | hge
      · exact hlt
      · rw [Array.getElem?_eq_none hge] at hh; cases hh
    exact .inr ⟨g, cap, cur, hv, hg, (k.block g hlt (hS g hg ⟨_, hh⟩)).trans hh, r⟩
theorem iter_noBlk {w : World} {k : Nat} {s : ByteArray} {p : Nat} (h : w.heap[k]? = some (.stringIter s p)) {e : TypeId} : ¬ ∃ cs, Blk w k e cs := by
  rintro ⟨cs, hb⟩; unfold Blk at hb; rw [h] at hb; cases hb
theorem iterPos_of {w : World} {k : Nat} {s : ByteArray} {p : Nat} (h : w.heap[k]? = some (.stringIter s p)) : w.iterPos k = p := by simp [World.iterPos, h]
/-- moving an iterator on changes its block alone -/
theorem Keeps.iterAt {w : World} (k : Nat) (s : ByteArray) (p : Nat) : Keeps (fun i => i = k) w (w.iterAt k s p) :=
  ⟨rfl, rfl, rfl, by rw [Lib.iterAt_size]; exact Nat.le_refl _, fun i _ hn => Lib.iterAt_other w k i s p hn⟩

/-- a new block, and then a change of rows of a type that lie above B: seen from ahead of the block -/
theorem grow_alloc {B : Nat} {e : TypeId} {w w' : World} (o : Obj) (k : Keeps (fun i => B ≤ i ∧ ∃ cs, Blk (w.alloc o) i e cs) (w.alloc o) w') : Keeps (fun i => B ≤ i ∧ ∃ cs, Blk w i e cs) w w' :=
  Keeps.and_ ((Keeps.refl _ w).alloc o) k fun i hi ⟨h1, cs, h2⟩ => ⟨h1, cs, (Below.heap_alloc w o i hi).symm.trans h2⟩
theorem grow_trans {B : Nat} {e : TypeId} {a b c : World} (h : Keeps (fun i => B ≤ i ∧ ∃ cs, Blk a i e cs) a b) (k : Keeps (fun i => B ≤ i ∧ ∃ cs, Blk b i e cs) b c) : Keeps (fun i => B ≤ i ∧ ∃ cs, Blk a i e cs) a c :=
  ⟨k.os.trans h.os, k.tape.trans h.tape, k.output.trans h.output, Nat.le_trans h.size k.size, fun i hi hn => by
    have hb := h.block i hi hn
    exact (k.block i (Nat.lt_of_lt_of_le hi h.size) (fun ⟨h1, cs, h2⟩ => hn ⟨h1, cs, hb.symm.trans h2⟩)).trans hb⟩
theorem OwnL.sl' {w : World} {B : Nat} {e : TypeId} {v : Value} {vs : List Value} (h : OwnL w B e v vs) : ∃ a cap, v = .slice a vs.length cap := by
  obtain ⟨a, cap, hv, -⟩ := h.shape; exact ⟨a, cap, hv⟩
end Go.Proofs.YtfpajgmdejlaeaaGreatDoor

/-
  brk.Read.
-/
namespace Go.Proofs.YtfpajgmdejlaeaaGreatDoor
open Go.RowKit

theorem ta_send_yes (v : Value) (xT : TypeId) (w : World) : (Instr.typeAssert (.iface 219 v) xT 219 true).run Tryz.prog w = .ok (.tuple #[v, .bool true]) w := by
  simp [Instr.typeAssert, run_underlying Tryz.underlying219]
theorem ta_wait_yes (v : Value) (xT : TypeId) (w : World) : (Instr.typeAssert (.iface 221 v) xT 221 true).run Tryz.prog w = .ok (.tuple #[v, .bool true]) w := by
  simp [Instr.typeAssert, run_underlying Tryz.underlying221]
theorem ta_send_no {t : TypeId} (ht : t ≠ 219) (v : Value) (xT : TypeId) (w : World) : (Instr.typeAssert (.iface t v) xT 219 true).run Tryz.prog w = .ok (.tuple #[.string ⟨#[]⟩, .bool false]) w := by
  obtain ⟨i, hi, hz, -, -⟩ := info_parts (show (Tryz.prog.info? 219).map (fun i => (i.zero, i.size, i.bytes)) = some (some (.string ⟨#[]⟩), 1, 16) by kernel_rfl)
  simp [Instr.typeAssert, run_underlying Tryz.underlying219, zeroValue, typeInfo, hi, hz, ht]
theorem ta_wait_no {t : TypeId} (ht : t ≠ 221) (v : Value) (xT : TypeId) (w : World) : (Instr.typeAssert (.iface t v) xT 221 true).run Tryz.prog w = .ok (.tuple #[.int .i64 0, .bool false]) w := by
  obtain ⟨i, hi, hz, -, -⟩ := info_parts (show (Tryz.prog.info? 221).map (fun i => (i.zero, i.size, i.bytes)) = some (some (.int .i64 0), 1, 8) by kernel_rfl)
  simp [Instr.typeAssert, run_underlying Tryz.underlying221, zeroValue, typeInfo, hi, hz, ht]
theorem mOpS (v : Value) (w : World) : (Go.method 370 219 v "wheelhouse/brk.op").run Tryz.prog w = .ok (198, v) w := by kernel_rfl
theorem mOpW (v : Value) (w : World) : (Go.method 370 221 v "wheelhouse/brk.op").run Tryz.prog w = .ok (199, v) w := by kernel_rfl
theorem mOpB (v : Value) (w : World) : (Go.method 370 236 v "wheelhouse/brk.op").run Tryz.prog w = .ok (200, v) w := by kernel_rfl
/-- a step's kind, bytes, ticks in memory -/
def stpR (x : Stp) : List Value := [.int .i64 x.kind, .string (str x.s), .int .i64 x.n]
theorem stpR_len (x : Stp) : (stpR x).length = 3 := rfl
theorem stpR_one (x : Stp) : ∀ u ∈ stpR x, u.oneCell' = true := by
  intro u hu; simp [stpR] at hu; rcases hu with rfl | rfl | rfl <;> rfl
theorem ops_any (w : World) (s : List UInt8) : Calls Tryz.prog 198 #[.string (str s)] w fun e w' => e = .returned (.agg #[.int .i64 1, .string (str s), .int .i64 0]) ∧ Keeps (fun _ => False) w w' := by
  go_enter Tryz.func198, Tryz.ntmps198
  go_wp2_with fail
  refine ret_cell rfl w.heap.size 204 _ _ rfl (Blk.new _ _ _) Tryz.underlying204 rfl (by kernel_rfl) rfl ?_
  exact ⟨rfl, (Keeps.refl _ _).alloc _⟩
theorem opw_any (w : World) (n : Int) : Calls Tryz.prog 199 #[.int .i64 n] w fun e w' => e = .returned (.agg #[.int .i64 2, .string ⟨#[]⟩, .int .i64 n]) ∧ Keeps (fun _ => False) w w' := by
  go_enter Tryz.func199, Tryz.ntmps199
  go_wp2_with fail
  refine ret_cell rfl w.heap.size 204 _ _ rfl (Blk.new _ _ _) Tryz.underlying204 rfl (by kernel_rfl) rfl ?_
  exact ⟨rfl, (Keeps.refl _ _).alloc _⟩
theorem opb_any (w : World) : Calls Tryz.prog 200 #[.agg #[]] w fun e w' => e = .returned (.agg #[.int .i64 3, .string ⟨#[]⟩, .int .i64 0]) ∧ Keeps (fun _ => False) w w' := by
  go_enter Tryz.func200, Tryz.ntmps200
  go_wp2_with fail
  refine ret_cell rfl (w.heap.size + 1) 204 _ _ rfl (Blk.new2 _ _ _ _) Tryz.underlying204 rfl (by kernel_rfl) rfl ?_
  exact ⟨rfl, ((Keeps.refl _ _).alloc _).alloc _⟩
theorem str_cat (a b : List UInt8) : str a ++ str b = str (a ++ b) := ba_ext (by rw [append_str, str_list, str_list, str_list])
set_option maxRecDepth 100000 in
theorem join_any (w : World) (a b : Stp) (ha : StpOk a) (hb : StpOk b) (hs : a.s.length + b.s.length ≤ 1000000) (hn : 0 ≤ a.n ∧ a.n ≤ 1000000 ∧ 0 ≤ b.n ∧ b.n ≤ 1000000) : Calls Tryz.prog 127 #[stpV a, stpV b] w fun e w' => e = .returned (joinV a b) ∧ Keeps (fun _ => False) w w' := by
  obtain ⟨ak, as_, an⟩ := a
  obtain ⟨bk, bs, bn⟩ := b
  simp only at hs hn
  obtain ⟨h1, h2, h3, h4⟩ := hn
  have t1 := ta_send_yes
  have t2 := ta_wait_yes
  have t3 := fun (v : Value) (xT : TypeId) (w : World) => ta_send_no (t := 221) (by decide) v xT w
  have t4 := fun (v : Value) (xT : TypeId) (w : World) => ta_send_no (t := 236) (by decide) v xT w
  have t5 := fun (v : Value) (xT : TypeId) (w : World) => ta_wait_no (t := 219) (by decide) v xT w
  have t6 := fun (v : Value) (xT : TypeId) (w : World) => ta_wait_no (t := 236) (by decide) v xT w
  have hz1 : (str as_).size ≤ 1000000 := by rw [str_size]; omega
  have hz2 : (str bs).size ≤ 1000000 := by rw [str_size]; omega
  have hw : IntKind.i64.wrap (an + bn) = an + bn := IntWalk.i64_in _ (by omega)
  have ka : ak = 1 ∨ ak = 2 ∨ ak = 3 := by rcases ha with h | h | h <;> simp only at h <;> omega
  have kb : bk = 1 ∨ bk = 2 ∨ bk = 3 := by rcases hb with h | h | h <;> simp only at h <;> omega
  have HA := Lib.hid ha
  have HB := Lib.hid hb
  clear ha hb hs h1 h2 h3 h4
  rcases ka with rfl | rfl | rfl <;> rcases kb with rfl | rfl | rfl
  all_goals
    simp only [stpV, if_pos, show ((2 : Int) = 1) = False by simp, show ((3 : Int) = 1) = False by simp, show ((3 : Int) = 2) = False by simp, if_false]
    go_enter Tryz.func127, Tryz.ntmps127
    go_wp2
    go_ret2
  all_goals refine ⟨?_, Keeps.refl _ _⟩
  all_goals first
    | rfl
    | (show Ending.returned (.tuple #[.iface 219 (.string (str as_ ++ str bs)), .bool true]) = Ending.returned (.tuple #[.iface 219 (.string (str (as_ ++ bs))), .bool true]); rw [str_cat])
theorem OwnL.setC {w : World} {B : Nat} {e : TypeId} {g n c : Nat} {vs : List Value} (h : OwnL w B e (.slice (some ⟨g, 0, none⟩) n c) vs) (j : Nat) (u : Value) : OwnL (w.setCell ⟨g, j, none⟩ u) B e (.slice (some ⟨g, 0, none⟩) n c) (vs.set j u) := by
  rcases h.2 with ⟨h2, _⟩ | ⟨g', cap, cur, hv, hg, hh, r1, r2, r3, r4⟩
  · cases h2
  · injection hv with e1 e2 e3
    injection e1 with e1
    injection e1 with e1
    subst e1 e2 e3
    refine ⟨by simp, .inr ⟨g, c, cur.setIfInBounds j u, by simp, hg, ?_, by simpa using r1, r2, by simpa using r3, ?_⟩⟩
    · have := (show Blk w g e cur from hh).set_ j u
      exact this
    · rw [List.length_set, Array.toList_setIfInBounds, List.take_set, r4]
theorem two_fine {b : Nat} {f : UInt8 → Option Nat} {M : Nat} (hf : ∀ c a, f c = some a → a ≤ M) : ∀ {u : List UInt8} {n : Nat} {r : List UInt8}, two b f u = some (n, r) → 2 ≤ u.length ∧ n ≤ b * M + M
  | [], n, r, h => by cases h
  | [_], n, r, h => by cases h
  | x :: y :: t, n, r, h => by
    unfold two at h
    simp only at h
    cases hx : f x with
    | none => simp only [hx] at h; cases h
    | some a =>
      cases hy : f y with
      | none => simp only [hx, hy] at h; cases h
      | some d =>
        simp only [hx, hy] at h
        injection h with h
        injection h with h1 h2
        have := hf x a hx
        have := hf y d hy
        have := Nat.mul_le_mul_left b (hf x a hx)
        rw [List.length_cons, List.length_cons]
        omega
theorem digN_le (c : UInt8) (a : Nat) (h : digN c = some a) : a ≤ 9 := by have := digN_good h; omega
theorem hexN_le (c : UInt8) (a : Nat) (h : hexN c = some a) : a ≤ 15 := by have := hexN_lt h; omega
/-- what a step takes -/
theorem escP_fine {t : List UInt8} {x : Stp} {n : Nat} (h : escP t = some (x, n)) : 1 ≤ n ∧ n ≤ t.length + 1 ∧ x.s.length ≤ 1 ∧ 0 ≤ x.n ∧ x.n ≤ 99 ∧ StpOk x := by
  cases t with
  | nil => cases h
  | cons d u =>
    rw [escP] at h
    rw [List.length_cons]
    repeat' (split at h)
    all_goals first
      | (injection h with h; injection h with h1 h2; subst h1 h2; simp [StpOk]; done)
      | (injection h with h; injection h with h1 h2; subst h1 h2; simp [StpOk]; omega)
      | (cases h; done)
      | skip
    · rename_i hq _
      have := two_fine digN_le hq
      injection h with h; injection h with h1 h2; subst h1 h2
      simp [StpOk]; omega
    · rename_i hq
      have := two_fine hexN_le hq
      injection h with h; injection h with h1 h2; subst h1 h2
      simp [StpOk]; omega
theorem stepP_fine {l : List UInt8} {x : Stp} {n : Nat} (h : stepP l = some (x, n)) : 1 ≤ n ∧ n ≤ l.length ∧ x.s.length ≤ 1 ∧ 0 ≤ x.n ∧ x.n ≤ 99 ∧ StpOk x := by
  cases l with
  | nil => cases h
  | cons c t =>
    rw [stepP] at h
    rw [List.length_cons]
    split at h
    · exact escP_fine h
    · split at h
      · cases h
      · injection h with h; injection h with h1 h2; subst h1 h2
        simp [StpOk]
/-- steps so far, of a text of which so much is left -/
def OutOk (out : List Stp) (left : Nat) : Prop := out.length + left ≤ 255 ∧ ∀ x ∈ out, x.s.length + left ≤ 255 ∧ 0 ≤ x.n ∧ x.n + 99 * left ≤ 25245 ∧ StpOk x
theorem pushP_join {out : List Stp} {y x : Stp} (h : y.kind = x.kind ∧ x.kind < 3) : pushP (out ++ [y]) x = out ++ [⟨y.kind, y.s ++ x.s, y.n + x.n⟩] := by
  unfold pushP
  rw [show (out ++ [y]).getLast? = some y by simp]
  simp only
  rw [if_pos h, List.dropLast_concat]
theorem pushP_new {out : List Stp} {y x : Stp} (h : ¬ (y.kind = x.kind ∧ x.kind < 3)) : pushP (out ++ [y]) x = out ++ [y] ++ [x] := by
  unfold pushP
  rw [show (out ++ [y]).getLast? = some y by simp]
  simp only
  rw [if_neg h]
theorem OutOk.push {out : List Stp} {x : Stp} {left n : Nat} (h : OutOk out left) (h1 : 1 ≤ n ∧ n ≤ left ∧ x.s.length ≤ 1 ∧ 0 ≤ x.n ∧ x.n ≤ 99 ∧ StpOk x) : OutOk (pushP out x) (left - n) := by
  obtain ⟨hl, ha⟩ := h
  obtain ⟨g1, g2, g3, g4, g5, g6⟩ := h1
  have old : ∀ z ∈ out, z.s.length + (left - n) ≤ 255 ∧ 0 ≤ z.n ∧ z.n + 99 * (left - n : Nat) ≤ 25245 ∧ StpOk z := fun z hz => by
    obtain ⟨a1, a2, a3, a4⟩ := ha z hz
    exact ⟨by omega, a2, by omega, a4⟩
  have new_ : x.s.length + (left - n) ≤ 255 ∧ 0 ≤ x.n ∧ x.n + 99 * (left - n : Nat) ≤ 25245 ∧ StpOk x := ⟨by omega, g4, by omega, g6⟩
  rcases List.eq_nil_or_concat out with rfl | ⟨o, y, rfl⟩
  · refine ⟨by simp [pushP]; omega, fun z hz => ?_⟩
    simp [pushP] at hz
    subst hz
    exact new_
  · rw [List.concat_eq_append] at *
    rw [List.length_append] at hl
    simp only [List.length_cons, List.length_nil] at hl
    by_cases hj : y.kind = x.kind ∧ x.kind < 3
    · rw [pushP_join hj]
      refine ⟨by rw [List.length_append]; simp only [List.length_cons, List.length_nil]; omega, fun z hz => ?_⟩
      rcases List.mem_append.1 hz with hz | hz
      · exact old z (List.mem_append.2 (.inl hz))
      · rw [List.mem_singleton] at hz
        subst hz
        obtain ⟨a1, a2, a3, a4⟩ := ha y (List.mem_append.2 (.inr (List.mem_singleton.2 rfl)))
        refine ⟨by simp only [List.length_append]; omega, by simp only; omega, by simp only; omega, ?_⟩
        unfold StpOk at a4 g6 ⊢
        simp only
        rcases a4 with ⟨p1, p2⟩ | ⟨p1, p2⟩ | ⟨p1, p2, p3⟩
        · left; rcases g6 with ⟨q1, q2⟩ | ⟨q1, q2⟩ | ⟨q1, q2, q3⟩ <;> omega
        · right; left
          rcases g6 with ⟨q1, q2⟩ | ⟨q1, q2⟩ | ⟨q1, q2, q3⟩
          · omega
          · exact ⟨p1, by rw [p2, q2]; rfl⟩
          · omega
        · omega
    · rw [pushP_new hj]
      refine ⟨by simp only [List.length_append, List.length_cons, List.length_nil]; omega, fun z hz => ?_⟩
      rcases List.mem_append.1 hz with hz | hz
      · exact old z hz
      · rw [List.mem_singleton] at hz
        subst hz
        exact new_
end Go.Proofs.YtfpajgmdejlaeaaGreatDoor

/-
  brk.Read.
-/
namespace Go.Proofs.YtfpajgmdejlaeaaGreatDoor
open Go.RowKit

/-- what Read hands back: the steps, or the code -/
def BrkPost (O : Int × List Stp) (w : World) (e : Ending) (w' : World) : Prop :=
  (∃ v, e = .returned (.tuple #[v, .int .i64 O.1]) ∧ OwnS stpR 3 w' w.heap.size 204 v O.2) ∧ Keeps (fun _ => False) w w'
theorem sp_cell {out : List Stp} {j : Nat} {x : Stp} (h : out[j]? = some x) : (out.map stpV)[j]? = some (stpV x) := by rw [List.getElem?_map, h]; rfl
theorem stpV_one (x : Stp) : (stpV x).oneCell' = true := by unfold stpV; split; rfl; split <;> rfl
theorem set_last (l : List Value) (a b : Value) (n : Nat) (h : n = l.length) : (l ++ [a]).set n b = l ++ [b] := by subst h; simp
theorem stpV_form (x : Stp) : ∃ ty v, stpV x = .iface ty v := by unfold stpV; split; exact ⟨_, _, rfl⟩; split <;> exact ⟨_, _, rfl⟩
theorem dropx (s : ByteArray) (l : List UInt8) (h : s.data.toList = l) (n : Nat) : s.extract n s.size = str (l.drop n) := ba_ext (by
  rw [ByteArray.data_extract, Array.toList_extract, List.extract_eq_take_drop, h, str_list]
  rw [List.take_of_length_le (by rw [List.length_drop, ba_len h]; exact Nat.le_refl _)])
theorem stepsP_cons (f : Nat) (out : List Stp) (c : UInt8) (t : List UInt8) : stepsP (f + 1) out (c :: t) = match stepP (c :: t) with | none => none | some (x, n) => stepsP f (pushP out x) ((c :: t).drop n) := by
  rw [stepsP, if_neg (by simp)]
  cases stepP (c :: t) <;> rfl
def brkOut (R : Option (List Stp)) : Int × List Stp := match R with | none => (3, []) | some out => (0, out)
theorem stepsP_nil (f : Nat) (out : List Stp) : stepsP f out [] = some out := by
  cases f with
  | zero => rfl
  | succ f => rw [stepsP, if_pos rfl]
set_option maxRecDepth 100000 in
set_option maxHeartbeats 1000000 in
theorem bread_any (w : World) (s : ByteArray) (hs : s.size ≤ 1073741824) : Calls Tryz.prog 92 #[.string s] w fun e w' => BrkPost (brkP s.data.toList) w e w' := by
  obtain ⟨l, hl⟩ : ∃ l, l = s.data.toList := ⟨_, rfl⟩
  have hln : s.size = l.length := ba_len hl.symm
  rw [← hl]
  obtain rfl : s = str l := ba_ext (by rw [str_list, hl])
  obtain ⟨O, hO⟩ : ∃ O, O = brkP l := ⟨_, rfl⟩
  rw [← hO]
  clear hl hln
  rw [str_size] at hs
  by_cases hbig : 255 < l.length
  · have HO : Hid (O = (5, [])) := Lib.hid (by rw [hO]; unfold brkP; rw [if_pos hbig])
    have hb2 : 255 < ((str l).size : Int) := by rw [str_size]; omega
    clear hO hbig
    go_enter Tryz.func92, Tryz.ntmps92
    go_wp2
    go_ret2
    exact ⟨⟨_, by rw [HO.out]; rfl, by rw [HO.out]; exact OwnS.none_⟩, Keeps.refl _ _⟩
  · have hb2 : ¬ 255 < ((str l).size : Int) := by rw [str_size]; omega
    obtain ⟨R, hR⟩ : ∃ R, R = stepsP l.length [] l := ⟨_, rfl⟩
    have HO : Hid (O = brkOut R) := Lib.hid (by rw [hO, hR]; unfold brkP; rw [if_neg hbig]; cases stepsP l.length [] l <;> rfl)
    have HR := Lib.hid hR
    have hll : l.length ≤ 255 := by omega
    clear hO hR hbig
    go_enter Tryz.func92, Tryz.ntmps92
    go_wp2_with fail
    go_loopg [0, 4] l.length (fun k u0 u4 wr => ∃ (rs : List UInt8) (out : List Stp) (f : Nat), k = rs.length ∧ u0 = .string (str rs) ∧ rs.length ≤ f ∧ Hid (OwnL wr w.heap.size 198 u4 (out.map stpV) ∧ OutOk out rs.length ∧ stepsP f out rs = R ∧ Keeps (fun _ => False) w wr))
    case atStart => exact ⟨l, [], l.length, rfl, rfl, Nat.le_refl _, Lib.hid ⟨OwnL.none_ _ _ _, ⟨by simp; omega, by simp⟩, HR.out.symm, Keeps.refl _ _⟩⟩
    case round =>
      obtain ⟨rs, out, f, rfl, rfl, hf, HI⟩ := hrel
      obtain ⟨hOw, hok, hst, hK⟩ := HI.out
      obtain ⟨av, cv, rfl⟩ := hOw.sl'
      rw [List.length_map] at hOw
      have hol : out.length ≤ 255 := by have := hok.1; omega
      have HOW := Lib.hid hOw
      have HOK := Lib.hid hok
      have HST := Lib.hid hst
      have HK := Lib.hid hK
      have hszr := hK.size
      simp only [List.length_map]
      clear HI hOw hok hst hK
      cases rs with
      | nil =>
        have hnil : (str ([] : List UInt8)) = ⟨#[]⟩ := rfl
        have HRE : Hid (R = some out) := Lib.hid (by rw [← HST.out, stepsP_nil])
        have HO2 : Hid (O = (0, out)) := Lib.hid (by rw [HO.out, HRE.out]; rfl)
        rw [hnil]
        clear hnil
        go_wp2_with fail
        go_loopw [10, 54] (fun u10 u54 wq => ∃ i : Nat, i ≤ out.length ∧ u54 = .int .i64 i ∧ Hid (OwnS stpR 3 wq w.heap.size 204 u10 (out.take i) ∧ OwnL wq w.heap.size 198 (.slice av out.length cv) (out.map stpV) ∧ Keeps (fun _ => False) w wq)) (fun _ u54 _ => out.length - (intOf u54).toNat)
        case atStart => exact ⟨0, Nat.zero_le _, rfl, Lib.hid ⟨by rw [List.take_zero]; exact OwnS.none_, HOW.out, HK.out⟩⟩
        case round =>
          obtain ⟨i, hi, rfl, HI⟩ := hrel
          obtain ⟨h1, h2, h3⟩ := HI.out
          have htl : (out.take i).length = i := by rw [List.length_take]; omega
          have hsl := h1.sl
          rw [htl] at hsl
          obtain ⟨av2, cv2, rfl⟩ := hsl
          have HT := Lib.hid htl
          have H1 := Lib.hid h1
          have H2 := Lib.hid h2
          have H3 := Lib.hid h3
          have hszq := h3.size
          clear HI h1 htl
          by_cases hlt : i < out.length
          · obtain ⟨x, hx⟩ : ∃ x, out[i]? = some x := ⟨_, List.getElem?_eq_getElem hlt⟩
            obtain ⟨a2, c2, hv2, -, -, hg, hcell⟩ := h2.shape
            rw [List.length_map] at hv2 hg
            injection hv2 with e1 _ e3
            subst e1 e3
            obtain ⟨g, rfl, hg1, hg2⟩ := hg (by omega)
            obtain ⟨y0, -⟩ := hcell g rfl i _ (sp_cell hx)
            have hxo := (HOK.out.2 x (List.mem_of_getElem? hx)).2.2.2
            have HTN : Hid (out.take (i + 1) = out.take i ++ [x]) := Lib.hid (by rw [List.take_add_one, hx]; rfl)
            have m1 := mOpS
            have m2 := mOpW
            have m3 := mOpB
            obtain ⟨xk, xs, xn⟩ := x
            clear hx hcell h2 h3
            unfold StpOk at hxo
            simp only at hxo
            rcases hxo with ⟨rfl, rfl⟩ | ⟨rfl, rfl⟩ | ⟨rfl, rfl, rfl⟩
            · simp only [stpV, if_true] at y0
              go_wp2_with fail
              refine (ops_any wr xs).mono ?_
              rintro e w3 ⟨rfl, k3⟩
              have HO1 := Lib.hid (OwnS.keeps H1.out k3 (fun _ _ _ _ => id))
              have HO2L := Lib.hid (H2.out.keeps k3 (fun _ _ _ => id))
              have HK3 := Lib.hid (H3.out.trans k3)
              have hs3 := k3.size
              clear k3
              go_wp2_with (with_reducible show wpList _ _ _ (⟨some 62, _, _, _, _, _⟩ :: _) _ _; go_must (refine wpList_append_st stpR 3 stpR_len (by decide) rfl (.tmp 58) (.tmp 61) 159 rfl w.heap.size 204 (.agg #[.int .i64 0, .string ⟨#[]⟩, .int .i64 0]) 32 Tryz.underlying159 (by kernel_rfl) rfl (by omega) (.slice av2 i cv2) (out.take i) rfl (OwnS.keeps (S := fun _ => False) HO1.out ((Keeps.refl _ _).alloc _) (fun _ _ _ _ => id)) w3.heap.size 1 ⟨1, xs, 0⟩ rfl (Blk.new _ _ _) (stpR_one _) (by rw [HT.out]; omega) (by simp; omega) ?_; intro v7 w7 O7 k7; have HO7 := Lib.hid O7; have HK7 := Lib.hid k7; clear O7 k7))
              go_roundw
              case rel => exact ⟨i + 1, by omega, by go_num, Lib.hid ⟨by rw [HTN.out]; exact HO7.out, OwnL.keepsT (HO2L.out.keeps ((Keeps.refl _ _).alloc (.cells #[.int .i64 1, .string (str xs), .int .i64 0] 204)) (fun _ _ _ => id)) HK7.out (fun j _ ⟨_, hb⟩ e => by obtain ⟨_, _, hb2⟩ := e; exact Blk.ne_ hb hb2 (by decide) rfl), (HK3.out.alloc (.cells #[.int .i64 1, .string (str xs), .int .i64 0] 204)).and_ HK7.out (fun j hj e => by have := e.1; omega)⟩⟩
              case measure => simp [intOf] <;> omega
            · simp only [stpV, show ((2 : Int) = 1) = False by simp, if_false, if_true] at y0
              go_wp2_with fail
              refine (opw_any wr xn).mono ?_
              rintro e w3 ⟨rfl, k3⟩
              have HO1 := Lib.hid (OwnS.keeps H1.out k3 (fun _ _ _ _ => id))
              have HO2L := Lib.hid (H2.out.keeps k3 (fun _ _ _ => id))
              have HK3 := Lib.hid (H3.out.trans k3)
              have hs3 := k3.size
              clear k3
              go_wp2_with (with_reducible show wpList _ _ _ (⟨some 62, _, _, _, _, _⟩ :: _) _ _; go_must (refine wpList_append_st stpR 3 stpR_len (by decide) rfl (.tmp 58) (.tmp 61) 159 rfl w.heap.size 204 (.agg #[.int .i64 0, .string ⟨#[]⟩, .int .i64 0]) 32 Tryz.underlying159 (by kernel_rfl) rfl (by omega) (.slice av2 i cv2) (out.take i) rfl (OwnS.keeps (S := fun _ => False) HO1.out ((Keeps.refl _ _).alloc _) (fun _ _ _ _ => id)) w3.heap.size 1 ⟨2, [], xn⟩ rfl (Blk.new _ _ _) (stpR_one _) (by rw [HT.out]; omega) (by simp; omega) ?_; intro v7 w7 O7 k7; have HO7 := Lib.hid O7; have HK7 := Lib.hid k7; clear O7 k7))
              go_roundw
              case rel => exact ⟨i + 1, by omega, by go_num, Lib.hid ⟨by rw [HTN.out]; exact HO7.out, OwnL.keepsT (HO2L.out.keeps ((Keeps.refl _ _).alloc (.cells #[.int .i64 2, .string ⟨#[]⟩, .int .i64 xn] 204)) (fun _ _ _ => id)) HK7.out (fun j _ ⟨_, hb⟩ e => by obtain ⟨_, _, hb2⟩ := e; exact Blk.ne_ hb hb2 (by decide) rfl), (HK3.out.alloc (.cells #[.int .i64 2, .string ⟨#[]⟩, .int .i64 xn] 204)).and_ HK7.out (fun j hj e => by have := e.1; omega)⟩⟩
              case measure => simp [intOf] <;> omega
            · simp only [stpV, show ((3 : Int) = 1) = False by simp, show ((3 : Int) = 2) = False by simp, if_false] at y0
              go_wp2_with fail
              refine (opb_any wr).mono ?_
              rintro e w3 ⟨rfl, k3⟩
              have HO1 := Lib.hid (OwnS.keeps H1.out k3 (fun _ _ _ _ => id))
              have HO2L := Lib.hid (H2.out.keeps k3 (fun _ _ _ => id))
              have HK3 := Lib.hid (H3.out.trans k3)
              have hs3 := k3.size
              clear k3
              go_wp2_with (with_reducible show wpList _ _ _ (⟨some 62, _, _, _, _, _⟩ :: _) _ _; go_must (refine wpList_append_st stpR 3 stpR_len (by decide) rfl (.tmp 58) (.tmp 61) 159 rfl w.heap.size 204 (.agg #[.int .i64 0, .string ⟨#[]⟩, .int .i64 0]) 32 Tryz.underlying159 (by kernel_rfl) rfl (by omega) (.slice av2 i cv2) (out.take i) rfl (OwnS.keeps (S := fun _ => False) HO1.out ((Keeps.refl _ _).alloc _) (fun _ _ _ _ => id)) w3.heap.size 1 ⟨3, [], 0⟩ rfl (Blk.new _ _ _) (stpR_one _) (by rw [HT.out]; omega) (by simp; omega) ?_; intro v7 w7 O7 k7; have HO7 := Lib.hid O7; have HK7 := Lib.hid k7; clear O7 k7))
              go_roundw
              case rel => exact ⟨i + 1, by omega, by go_num, Lib.hid ⟨by rw [HTN.out]; exact HO7.out, OwnL.keepsT (HO2L.out.keeps ((Keeps.refl _ _).alloc (.cells #[.int .i64 3, .string ⟨#[]⟩, .int .i64 0] 204)) (fun _ _ _ => id)) HK7.out (fun j _ ⟨_, hb⟩ e => by obtain ⟨_, _, hb2⟩ := e; exact Blk.ne_ hb hb2 (by decide) rfl), (HK3.out.alloc (.cells #[.int .i64 3, .string ⟨#[]⟩, .int .i64 0] 204)).and_ HK7.out (fun j hj e => by have := e.1; omega)⟩⟩
              case measure => simp [intOf] <;> omega
          · have hie : i = out.length := by omega
            subst hie
            have h1 := H1.out
            rw [List.take_of_length_le (Nat.le_refl _)] at h1
            have H1e := Lib.hid h1
            clear h1 h2 h3
            go_wp2_with fail
            go_ret2
            exact ⟨⟨_, by rw [HO2.out]; rfl, by rw [HO2.out]; exact H1e.out⟩, H3.out⟩
      | cons c t =>
        have hne : (str (c :: t)).toList.isEmpty = false := ne_nil (by rw [str_list]; simp)
        have hon := fun W => bone_any W (str (c :: t)) c t (str_list _) (by have := HOK.out.1; rw [str_size]; omega)
        have HON := Lib.hid hon
        clear hon
        go_wp2_with fail
        refine (HON.out _).mono ?_
        rintro e w2 ⟨rfl, k2⟩
        have HK2 := Lib.hid (HK.out.trans k2)
        have HOW2 := Lib.hid (HOW.out.keeps k2 (fun _ _ _ => id))
        have hs2 := k2.size
        clear k2
        cases hq : stepP (c :: t) with
        | none =>
          have HO2 : Hid (O = (3, [])) := Lib.hid (by
            have := HST.out
            obtain ⟨f', rfl⟩ : ∃ f', f = f' + 1 := ⟨f - 1, by rw [List.length_cons] at hf; omega⟩
            rw [stepsP_cons, hq] at this
            rw [HO.out, ← this]; rfl)
          clear hq
          unfold stepV
          simp only
          go_wp2_with fail
          go_ret2
          exact ⟨⟨_, by rw [HO2.out]; rfl, by rw [HO2.out]; exact OwnS.none_⟩, HK2.out⟩
        | some p =>
          obtain ⟨x, n⟩ := p
          have hfx := stepP_fine hq
          have hsz := HOK.out.1
          simp only [List.length_cons] at hfx hsz hf
          have HST2 : Hid (∃ f', (t.length + 1 - n) ≤ f' ∧ stepsP f' (pushP out x) ((c :: t).drop n) = R) := Lib.hid (by
            have := HST.out
            obtain ⟨f', rfl⟩ : ∃ f', f = f' + 1 := ⟨f - 1, by omega⟩
            rw [stepsP_cons, hq] at this
            exact ⟨f', by omega, this⟩)
          have HOKN := Lib.hid (HOK.out.push (x := x) (n := n) (by rw [List.length_cons]; exact hfx))
          have HDX : Hid ((str (c :: t)).extract n (str (c :: t)).size = str ((c :: t).drop n)) := Lib.hid (dropx _ _ (str_list _) n)
          have hn1 := hfx.1
          have hn2 : (n : Int) ≤ ((str (c :: t)).size : Int) := by rw [str_size, List.length_cons]; omega
          have hn0 : ((n : Int) == 0) = false := by rw [beq_eq_false_iff_ne]; omega
          have HFX := Lib.hid hfx.2.2
          have hnl := hfx.2.1
          clear hq hfx
          rw [show stepV (some (x, n)) = .tuple #[stpV x, .int .i64 n] from rfl]
          obtain ⟨ty, vx, hvx⟩ := stpV_form x
          have HVX := Lib.hid hvx
          rw [hvx]
          clear hvx
          rcases List.eq_nil_or_concat out with hout | ⟨o, y, hout⟩
          · have HPN : Hid (pushP out x = out ++ [x]) := Lib.hid (by rw [hout]; rfl)
            have hz : out.length = 0 := by rw [hout]; rfl
            have hzb : ¬ (0 : Int) < out.length := by omega
            obtain ⟨wZ, hwZ⟩ : ∃ wZ, wZ = w2 := ⟨_, rfl⟩
            have KZ := Lib.hid HK2.out
            rw [← hwZ] at KZ HOW2 ⊢
            have hszZ : w2.heap.size ≤ wZ.heap.size := by rw [hwZ]; exact Nat.le_refl _
            clear hout hz hwZ
            go_wp2_with (with_reducible show wpList _ _ _ (⟨some 51, _, _, _, _, _⟩ :: _) _ _; go_must (refine wpList_append_onet rfl (.tmp 48) (.tmp 50) 196 rfl w.heap.size 198 .nilIface 16 Tryz.underlying196 (by kernel_rfl) rfl (by omega) (.slice av out.length cv) (out.map stpV) rfl (OwnL.keeps (S := fun _ => False) HOW2.out ((Keeps.refl _ _).alloc _) (fun _ _ _ => id)) ⟨wZ.heap.size, 0, none⟩ 1 (.iface ty vx) rfl (by go_simp) rfl (by rw [List.length_map]; omega) (by simp; omega) ?_; intro v7 w7 O7 k7; have HO7 := Lib.hid O7; have HK7 := Lib.hid k7; clear O7 k7))
            go_roundg (t.length + 1 - n)
            case rel =>
              obtain ⟨f', hf', hst'⟩ := HST2.out
              have hlen : ((c :: t).drop n).length = t.length + 1 - n := by rw [List.length_drop, List.length_cons]
              exact ⟨(c :: t).drop n, out ++ [x], f', hlen.symm, by rw [HDX.out], by rw [hlen]; exact hf', Lib.hid ⟨by rw [List.map_append, List.map_cons, List.map_nil, HVX.out]; exact HO7.out, by have := HOKN.out; rw [HPN.out] at this; rw [hlen]; exact this, by rw [← HPN.out]; exact hst', (KZ.out.alloc (.cells #[.iface ty vx] 198)).and_ HK7.out (fun i hi e => by have := e.1; omega)⟩⟩
            all_goals first | omega | (simp only [List.length_cons]; omega)
          · rw [List.concat_eq_append] at hout
            have hlo : out.length = o.length + 1 := by rw [hout]; simp
            obtain ⟨a2, c2, hv2, -, -, hg, hcell⟩ := HOW2.out.shape
            rw [List.length_map] at hv2 hg
            injection hv2 with e1 _ e3
            subst e1 e3
            obtain ⟨g, rfl, hg1, hg2⟩ := hg (by omega)
            have hy : out[o.length]? = some y := by rw [hout]; simp
            obtain ⟨ty2, vy, hvy⟩ := stpV_form y
            have hcy := hcell g rfl o.length _ (sp_cell hy)
            rw [hvy] at hcy
            obtain ⟨y0, yf⟩ := hcy
            have hym := HOK.out.2 y (List.mem_of_getElem? hy)
            have HJ : Hid (Calls Tryz.prog 127 #[.iface ty2 vy, .iface ty vx] w2 fun e w' => e = .returned (joinV y x) ∧ Keeps (fun _ => False) w2 w') := Lib.hid (by
              have := join_any w2 y x hym.2.2.2 HFX.out.2.2.2 (by have := HFX.out.1; have := hym.1; omega) (by have := HFX.out; have := hym; omega)
              rw [hvy, HVX.out] at this
              exact this)
            have HVY := Lib.hid hvy
            have hpos : (0 : Int) < out.length := by omega
            have hwr : IntKind.i64.wrap ((out.length : Int) - 1) = (o.length : Int) := by rw [hlo]; rw [show ((o.length + 1 : Nat) : Int) - 1 = o.length by omega]; exact IntWalk.i64_in _ (by omega)
            have HLO := Lib.hid hlo
            have HOUT := Lib.hid hout
            have hob : (o.length : Int) < out.length := by omega
            have hon : o.length < out.length := by omega
            clear hcell hy hvy hym hlo hout
            go_wp2_with fail
            refine HJ.out.mono ?_
            rintro e w3 ⟨rfl, k3⟩
            have y0 := (World.cell?_of_block (w := w2) (k3.block g hg2 id)).trans y0
            have yf3 := (HOW2.out.keeps k3 (fun _ _ _ => id))
            have HK3 := Lib.hid (HK2.out.trans k3)
            have HOW3 := Lib.hid yf3
            obtain ⟨a3, c3, hv3, -, -, -, hcell3⟩ := yf3.shape
            have e1 : (some ⟨g, 0, none⟩ : Option Addr) = a3 := by injection hv3
            clear hv3
            have hyy : out[o.length]? = some y := by rw [HOUT.out]; simp
            obtain ⟨-, yf3⟩ := hcell3 g e1.symm o.length _ (sp_cell hyy)
            have hs3 := k3.size
            clear k3 e1 hcell3 hyy yf
            by_cases hj : y.kind = x.kind ∧ x.kind < 3
            · have HJV : Hid (joinV y x = .tuple #[stpV ⟨y.kind, y.s ++ x.s, y.n + x.n⟩, .bool true]) := Lib.hid (by unfold joinV; rw [if_pos hj])
              have HPJ : Hid (pushP out x = o ++ [⟨y.kind, y.s ++ x.s, y.n + x.n⟩]) := Lib.hid (by rw [HOUT.out]; exact pushP_join hj)
              rw [HJV.out]
              obtain ⟨ty4, vz, hvz⟩ := stpV_form ⟨y.kind, y.s ++ x.s, y.n + x.n⟩
              rw [hvz]
              have HVZ := Lib.hid hvz
              clear hj hvz
              go_wp2_with fail
              go_roundg (t.length + 1 - n)
              case rel =>
                obtain ⟨f', hf', hst'⟩ := HST2.out
                have hlen : ((c :: t).drop n).length = t.length + 1 - n := by rw [List.length_drop, List.length_cons]
                have hset := OwnL.setC HOW3.out o.length (.iface ty4 vz)
                have hse : (out.map stpV).set o.length (.iface ty4 vz) = (o ++ [(⟨y.kind, y.s ++ x.s, y.n + x.n⟩ : Stp)]).map stpV := by rw [HOUT.out, List.map_append, List.map_append, List.map_cons, List.map_nil, List.map_cons, List.map_nil, set_last _ _ _ _ (by rw [List.length_map]), HVZ.out]
                rw [hse] at hset
                exact ⟨(c :: t).drop n, o ++ [⟨y.kind, y.s ++ x.s, y.n + x.n⟩], f', hlen.symm, by rw [HDX.out], by rw [hlen]; exact hf', Lib.hid ⟨hset, by have := HOKN.out; rw [HPJ.out] at this; rw [hlen]; exact this, by rw [← HPJ.out]; exact hst', HK3.out.setCell (p := ⟨g, o.length, none⟩) (fun h => absurd (show g < w.heap.size from h) (by omega)) _⟩⟩
              all_goals first | omega | (simp only [List.length_cons]; omega)
            · have HJV : Hid (joinV y x = .tuple #[.nilIface, .bool false]) := Lib.hid (by unfold joinV; rw [if_neg hj])
              have HPN : Hid (pushP out x = out ++ [x]) := Lib.hid (by rw [HOUT.out]; exact pushP_new hj)
              rw [HJV.out]
              obtain ⟨wZ, hwZ⟩ : ∃ wZ, wZ = w3 := ⟨_, rfl⟩
              have KZ := Lib.hid HK3.out
              rw [← hwZ] at KZ HOW3 ⊢
              have hszZ : w2.heap.size ≤ wZ.heap.size := by rw [hwZ]; exact hs3
              clear hj hwZ hs3 y0 yf3
              go_wp2_with (with_reducible show wpList _ _ _ (⟨some 51, _, _, _, _, _⟩ :: _) _ _; go_must (refine wpList_append_onet rfl (.tmp 48) (.tmp 50) 196 rfl w.heap.size 198 .nilIface 16 Tryz.underlying196 (by kernel_rfl) rfl (by omega) (.slice (some ⟨g, 0, none⟩) out.length cv) (out.map stpV) rfl (OwnL.keeps (S := fun _ => False) HOW3.out ((Keeps.refl _ _).alloc _) (fun _ _ _ => id)) ⟨wZ.heap.size, 0, none⟩ 1 (.iface ty vx) rfl (by go_simp) rfl (by rw [List.length_map]; omega) (by simp; omega) ?_; intro v7 w7 O7 k7; have HO7 := Lib.hid O7; have HK7 := Lib.hid k7; clear O7 k7))
              go_roundg (t.length + 1 - n)
              case rel =>
                obtain ⟨f', hf', hst'⟩ := HST2.out
                have hlen : ((c :: t).drop n).length = t.length + 1 - n := by rw [List.length_drop, List.length_cons]
                exact ⟨(c :: t).drop n, out ++ [x], f', hlen.symm, by rw [HDX.out], by rw [hlen]; exact hf', Lib.hid ⟨by rw [List.map_append, List.map_cons, List.map_nil, HVX.out]; exact HO7.out, by have := HOKN.out; rw [HPN.out] at this; rw [hlen]; exact this, by rw [← HPN.out]; exact hst', (KZ.out.alloc (.cells #[.iface ty vx] 198)).and_ HK7.out (fun i hi e => by have := e.1; omega)⟩⟩
              all_goals first | omega | (simp only [List.length_cons]; omega)
end Go.Proofs.YtfpajgmdejlaeaaGreatDoor

/-
  lex.quoted and lex.Put: a piece as text.
-/
namespace Go.Proofs.YtfpajgmdejlaeaaGreatDoor
open Go.RowKit

theorem quotedP_len (l : List UInt8) : (quotedP l).length ≤ 2 * l.length := by
  unfold quotedP
  induction l with
  | nil => simp
  | cons c t ih => rw [List.flatMap_cons, List.length_append]; split <;> simp only [List.length_cons, List.length_nil] <;> omega
theorem quotedP_snoc (l : List UInt8) (c : UInt8) : quotedP (l ++ [c]) = quotedP l ++ (if c.toNat = 34 ∨ c.toNat = 92 then [92, c] else [c]) := by
  unfold quotedP; rw [List.flatMap_append]; simp

set_option maxRecDepth 100000 in
set_option maxHeartbeats 2000000 in
theorem quoted_any (w : World) (s : ByteArray) (hs : s.size ≤ 1073741824) : Calls Tryz.prog 160 #[.string s] w fun e w' =>
    e = .returned (.tuple #[.string (str (if s.data.toList.all seenB then 34 :: (quotedP s.data.toList ++ [34]) else [])), .bool (s.data.toList.all seenB)]) ∧ Keeps (fun _ => False) w w' := by
  have hl : s.data.toList.length = s.size := by simp
  obtain ⟨tx, htx⟩ : ∃ tx, tx = str (if s.data.toList.all seenB then 34 :: (quotedP s.data.toList ++ [34]) else []) := ⟨_, rfl⟩
  obtain ⟨bx, hbx⟩ : ∃ bx, bx = s.data.toList.all seenB := ⟨_, rfl⟩
  rw [← htx, ← hbx]
  have HTX := Lib.hid htx
  have HBX := Lib.hid hbx
  clear htx hbx
  have hO := OwnL.of1 w 5 (.int .u8 34)
  have hO2 : OwnL ((w.alloc (.cells #[.int .u8 34] 5)).iter s 0) w.heap.size 5 (.slice (some ⟨w.heap.size, 0, none⟩) 1 1) (u8Vs (34 :: quotedP [])) :=
    hO.keepsT ((Keeps.refl (fun _ => False) _).alloc _) (fun _ _ _ => id)
  have hit0 : ((w.alloc (.cells #[.int .u8 34] 5)).iter s 0).heap[w.heap.size + 1]? = some (.stringIter s 0) := by
    have := World.iter_heap (w.alloc (.cells #[.int .u8 34] 5)) s 0
    simpa using this
  have HO := Lib.hid hO2
  have HIT := Lib.hid hit0
  clear hO hO2 hit0
  go_enter Tryz.func160, Tryz.ntmps160
  go_wp2_with fail
  go_loopw [4, 6] (fun u4 _ wr => ∃ pos, pos ≤ s.size ∧ (∀ c ∈ s.data.toList.take pos, seenB c = true) ∧ OwnL wr w.heap.size 5 u4 (u8Vs (34 :: quotedP (s.data.toList.take pos))) ∧ wr.heap[w.heap.size + 1]? = some (.stringIter s pos) ∧ Keeps (fun _ => False) w wr) (fun _ _ wr => s.size - wr.iterPos (w.heap.size + 1))
  case atStart => exact ⟨0, Nat.zero_le _, by simp, by simpa using HO.out, by simpa using HIT.out, ((Keeps.refl _ _).alloc _).alloc _⟩
  case round =>
    obtain ⟨pos, hpos, hall, hOw, hit, hK⟩ := hrel
    have HA := Lib.hid hall
    have HOW := Lib.hid hOw
    have HI := Lib.hid hit
    have hip : wr.iterPos (w.heap.size + 1) = pos := by simp [World.iterPos, hit]
    have HIP := Lib.hid hip
    have hlenq : (u8Vs (34 :: quotedP (s.data.toList.take pos))).length ≤ 2 * pos + 1 := by
      rw [u8Vs_len]; have := quotedP_len (s.data.toList.take pos); simp only [List.length_cons]; rw [List.length_take] at this; omega
    have HLQ := Lib.hid hlenq
    obtain ⟨av, cv, rfl⟩ : ∃ a c, u4 = .slice a (u8Vs (34 :: quotedP (s.data.toList.take pos))).length c := by
      obtain ⟨a, c, hv, -⟩ := hOw.shape; exact ⟨a, c, hv⟩
    obtain ⟨xs, hxs⟩ : ∃ xs, xs = u8Vs (34 :: quotedP (s.data.toList.take pos)) := ⟨_, rfl⟩
    have HOX : Hid (OwnL wr w.heap.size 5 (.slice av xs.length cv) xs) := by rw [hxs]; exact hOw
    have hxl : xs.length ≤ 2 * pos + 1 := by rw [hxs]; exact hlenq
    rw [← hxs]
    have HXS := Lib.hid hxs
    clear hall hOw hit hip hlenq hxs HOW
    by_cases hp : pos < s.size
    · obtain ⟨c, hc⟩ : ∃ c, s.data.toList[pos]? = some c := ⟨_, List.getElem?_eq_getElem (by omega)⟩
      have hsc : s[pos] = c := by
        have := (List.getElem?_eq_some_iff.1 hc).2
        rw [← this]; rfl
      have HC := Lib.hid hc
      clear hc
      by_cases hsn : 32 ≤ c.toNat ∧ c.toNat ≤ 126
      · obtain ⟨hs1, hs2⟩ := hsn
        have hnx : ∀ ty, (Instr.next (.pointer (some ⟨w.heap.size + 1, 0, none⟩)) true ty).run Tryz.prog wr = _ := fun ty => Lib.run_next_ascii_at wr (w.heap.size + 1) s pos ty HI hp (by rw [hsc]; omega)
        rw [hsc] at hnx
        obtain ⟨wi, hwi⟩ : ∃ wi, wi = wr.iterAt (w.heap.size + 1) s (pos + 1) := ⟨_, rfl⟩
        rw [← hwi] at hnx
        have ki : Keeps (fun i => i = w.heap.size + 1) wr wi := by rw [hwi]; exact Keeps.iterAt _ _ _
        have hiti : wi.heap[w.heap.size + 1]? = some (.stringIter s (pos + 1)) := by rw [hwi]; exact Lib.iterAt_heap wr _ s pos _ HI
        have hOi : OwnL wi w.heap.size 5 (.slice av xs.length cv) xs := OwnL.keepsT HOX ki (fun i _ hb e => by subst e; exact iter_noBlk HI hb)
        have hKi : Keeps (fun _ => False) w wi := hK.and_ ki (fun i hi e => by omega)
        have HOI := Lib.hid hOi
        have HITI := Lib.hid hiti
        have hsz : w.heap.size + 1 < wi.heap.size := (Array.getElem?_eq_some_iff.1 hiti).1
        have hseen : seenB c = true := by unfold seenB; simp; omega
        have hq := quotedP_snoc (s.data.toList.take pos) c
        have htk : s.data.toList.take (pos + 1) = s.data.toList.take pos ++ [c] := by rw [List.take_add_one, HC.out]; rfl
        rw [← htk] at hq
        have HQ := Lib.hid hq
        have HTK := Lib.hid htk
        have HSEEN := Lib.hid hseen
        clear hwi hsc hOi hiti hseen hq htk
        by_cases he : c.toNat = 34 ∨ c.toNat = 92
        · have HE := Lib.hid he
          rcases he with he | he
          · obtain rfl : c = 34 := UInt8.toNat_inj.1 (by simpa using he)
            clear he
            go_wp2_with (first
              | (with_reducible show wpList _ _ _ (⟨some 27, _, _, _, _, _⟩ :: _) _ _; go_must (refine wpList_append_onet rfl (.tmp 25) (.tmp 26) 90 rfl w.heap.size 5 (.int .u8 0) 1 Tryz.underlying90 (by kernel_rfl) rfl (by omega) _ xs rfl (OwnL.keepsT (S := fun _ => False) HOI.out ((Keeps.refl _ _).alloc _) (fun _ _ _ => id)) ⟨wi.heap.size, 0, none⟩ 1 (.int .u8 92) rfl ((Blk.new _ _ _).cell 0) rfl (by omega) (by simp; omega) ?_; intro v7 w7 O7 k7); obtain ⟨a7, c7, rfl⟩ := OwnL.sl' O7; have hsz7 := k7.size; simp only [World.size_alloc] at hsz7; simp only [List.length_append, List.length_cons, List.length_nil, Nat.zero_add] at O7)
              | (with_reducible show wpList _ _ _ (⟨some 32, _, _, _, _, _⟩ :: _) _ _; go_must (refine wpList_append_onet rfl (.tmp 28) (.tmp 31) 90 rfl w.heap.size 5 (.int .u8 0) 1 Tryz.underlying90 (by kernel_rfl) rfl (by omega) _ (xs ++ [.int .u8 92]) rfl (OwnL.keepsT (S := fun _ => False) O7 ((Keeps.refl _ _).alloc _) (fun _ _ _ => id)) ⟨w7.heap.size, 0, none⟩ 1 (.int .u8 34) rfl ((Blk.new _ _ _).cell 0) rfl (by simp; omega) (by simp; omega) ?_; intro v8 w8 O8 k8)))
            go_roundw
            case rel =>
              have kk7 : Keeps (fun i => w.heap.size ≤ i ∧ ∃ cs, Blk wi i 5 cs) wi w8 := grow_trans (grow_alloc _ k7) (grow_alloc _ k8)
              refine ⟨pos + 1, by omega, ?_, ?_, (kk7.block _ (by omega) (fun h => iter_noBlk HITI h.2)).trans HITI, hKi.and_ kk7 (fun i hi h => by omega)⟩
              · intro d hd
                rw [HTK.out] at hd
                rcases List.mem_append.1 hd with hd | hd
                · exact HA.out d hd
                · rw [List.mem_singleton] at hd; subst hd; exact HSEEN.out
              · have hq := HQ.out
                rw [if_pos (by decide)] at hq
                rw [hq]
                have := O8
                rw [HXS.out] at this
                simpa [u8Vs] using this
            case measure =>
              have kk7 : Keeps (fun i => w.heap.size ≤ i ∧ ∃ cs, Blk wi i 5 cs) wi w8 := grow_trans (grow_alloc _ k7) (grow_alloc _ k8)
              have hb8 := (kk7.block _ (by omega) (fun h => iter_noBlk HITI h.2)).trans HITI
              rw [HIP.out, iterPos_of hb8]; omega
          · obtain rfl : c = 92 := UInt8.toNat_inj.1 (by simpa using he)
            clear he
            go_wp2_with (first
              | (with_reducible show wpList _ _ _ (⟨some 27, _, _, _, _, _⟩ :: _) _ _; go_must (refine wpList_append_onet rfl (.tmp 25) (.tmp 26) 90 rfl w.heap.size 5 (.int .u8 0) 1 Tryz.underlying90 (by kernel_rfl) rfl (by omega) _ xs rfl (OwnL.keepsT (S := fun _ => False) HOI.out ((Keeps.refl _ _).alloc _) (fun _ _ _ => id)) ⟨wi.heap.size, 0, none⟩ 1 (.int .u8 92) rfl ((Blk.new _ _ _).cell 0) rfl (by omega) (by simp; omega) ?_; intro v7 w7 O7 k7); obtain ⟨a7, c7, rfl⟩ := OwnL.sl' O7; have hsz7 := k7.size; simp only [World.size_alloc] at hsz7; simp only [List.length_append, List.length_cons, List.length_nil, Nat.zero_add] at O7)
              | (with_reducible show wpList _ _ _ (⟨some 32, _, _, _, _, _⟩ :: _) _ _; go_must (refine wpList_append_onet rfl (.tmp 28) (.tmp 31) 90 rfl w.heap.size 5 (.int .u8 0) 1 Tryz.underlying90 (by kernel_rfl) rfl (by omega) _ (xs ++ [.int .u8 92]) rfl (OwnL.keepsT (S := fun _ => False) O7 ((Keeps.refl _ _).alloc _) (fun _ _ _ => id)) ⟨w7.heap.size, 0, none⟩ 1 (.int .u8 92) rfl ((Blk.new _ _ _).cell 0) rfl (by simp; omega) (by simp; omega) ?_; intro v8 w8 O8 k8)))
            go_roundw
            case rel =>
              have kk7 : Keeps (fun i => w.heap.size ≤ i ∧ ∃ cs, Blk wi i 5 cs) wi w8 := grow_trans (grow_alloc _ k7) (grow_alloc _ k8)
              refine ⟨pos + 1, by omega, ?_, ?_, (kk7.block _ (by omega) (fun h => iter_noBlk HITI h.2)).trans HITI, hKi.and_ kk7 (fun i hi h => by omega)⟩
              · intro d hd
                rw [HTK.out] at hd
                rcases List.mem_append.1 hd with hd | hd
                · exact HA.out d hd
                · rw [List.mem_singleton] at hd; subst hd; exact HSEEN.out
              · have hq := HQ.out
                rw [if_pos (by decide)] at hq
                rw [hq]
                have := O8
                rw [HXS.out] at this
                simpa [u8Vs] using this
            case measure =>
              have kk7 : Keeps (fun i => w.heap.size ≤ i ∧ ∃ cs, Blk wi i 5 cs) wi w8 := grow_trans (grow_alloc _ k7) (grow_alloc _ k8)
              have hb8 := (kk7.block _ (by omega) (fun h => iter_noBlk HITI h.2)).trans HITI
              rw [HIP.out, iterPos_of hb8]; omega
        · have h1 : ((c.toNat : Int) == 34) = false := by rw [beq_eq_false_iff_ne]; omega
          have h2 : ((c.toNat : Int) == 92) = false := by rw [beq_eq_false_iff_ne]; omega
          have HE := Lib.hid he
          clear he
          go_wp2_with (with_reducible show wpList _ _ _ (⟨some 32, _, _, _, _, _⟩ :: _) _ _; go_must (refine wpList_append_onet rfl (.tmp 28) (.tmp 31) 90 rfl w.heap.size 5 (.int .u8 0) 1 Tryz.underlying90 (by kernel_rfl) rfl (by omega) _ xs rfl (OwnL.keepsT (S := fun _ => False) HOI.out ((Keeps.refl _ _).alloc _) (fun _ _ _ => id)) ⟨wi.heap.size, 0, none⟩ 1 (.int .u8 c.toNat) rfl ((Blk.new _ _ _).cell 0) rfl (by omega) (by simp; omega) ?_; intro v7 w7 O7 k7))
          go_roundw
          case rel =>
            have kk7 : Keeps (fun i => w.heap.size ≤ i ∧ ∃ cs, Blk wi i 5 cs) wi w7 := grow_alloc _ k7
            refine ⟨pos + 1, by omega, ?_, ?_, (kk7.block _ (by omega) (fun h => iter_noBlk HITI h.2)).trans HITI, hKi.and_ kk7 (fun i hi h => by omega)⟩
            · intro d hd
              rw [HTK.out] at hd
              rcases List.mem_append.1 hd with hd | hd
              · exact HA.out d hd
              · rw [List.mem_singleton] at hd; subst hd; exact HSEEN.out
            · have hq := HQ.out
              rw [if_neg HE.out] at hq
              rw [hq]
              have := O7
              rw [HXS.out] at this
              simpa [u8Vs] using this
          case measure =>
            have kk7 : Keeps (fun i => w.heap.size ≤ i ∧ ∃ cs, Blk wi i 5 cs) wi w7 := grow_alloc _ k7
            have hb8 := (kk7.block _ (by omega) (fun h => iter_noBlk HITI h.2)).trans HITI
            rw [HIP.out, iterPos_of hb8]; omega
      · have hall : s.data.toList.all seenB = false := by
          rw [List.all_eq_false]
          exact ⟨c, List.mem_of_getElem? HC.out, by unfold seenB; simp; omega⟩
        have HF := Lib.hid hall
        clear hall
        by_cases ha : c.toNat < 128
        · have hnx : ∀ ty, (Instr.next (.pointer (some ⟨w.heap.size + 1, 0, none⟩)) true ty).run Tryz.prog wr = _ := fun ty => Lib.run_next_ascii_at wr (w.heap.size + 1) s pos ty HI hp (by rw [hsc]; exact ha)
          rw [hsc] at hnx
          have hki : Keeps (fun _ => False) w (wr.iterAt (w.heap.size + 1) s (pos + 1)) := hK.and_ (Keeps.iterAt _ _ _) (fun i hi e => by omega)
          clear hsc
          by_cases h32 : c.toNat < 32
          · clear hsn
            go_wp2_with fail
            go_ret2
            exact ⟨by rw [HTX.out, HBX.out, HF.out]; rfl, hki⟩
          · have h126 : 126 < c.toNat := by omega
            clear hsn
            go_wp2_with fail
            go_ret2
            exact ⟨by rw [HTX.out, HBX.out, HF.out]; rfl, hki⟩
        · have hnx : ∀ ty, (Instr.next (.pointer (some ⟨w.heap.size + 1, 0, none⟩)) true ty).run Tryz.prog wr = _ := fun ty => Lib.run_next_any_at wr (w.heap.size + 1) s pos ty HI hp
          have hhi := (decode_high s pos hp (by rw [hsc]; omega)).1
          have hki : ∀ q, Keeps (fun _ => False) w (wr.iterAt (w.heap.size + 1) s q) := fun q => hK.and_ (Keeps.iterAt _ _ _) (fun i hi e => by omega)
          have HKI := Lib.hid hki
          obtain ⟨r, hr⟩ : ∃ r, (Utf8.decode s pos).1 = r := ⟨_, rfl⟩
          obtain ⟨r2, hr2⟩ : ∃ r, (Utf8.decode s pos).2 = r := ⟨_, rfl⟩
          rw [hr] at hhi
          simp only [hr, hr2] at hnx
          have h126 : 126 < r := by omega
          clear hr hr2 hsc hsn hki
          go_wp2_with fail
          go_ret2
          exact ⟨by rw [HTX.out, HBX.out, HF.out]; rfl, HKI.out _⟩
    · have hnx : ∀ ty, (Instr.next (.pointer (some ⟨w.heap.size + 1, 0, none⟩)) true ty).run Tryz.prog wr = _ := fun ty => Lib.run_next_end_at wr (w.heap.size + 1) s pos ty HI hp
      have hall : s.data.toList.all seenB = true := by
        rw [List.all_eq_true]; intro d hd
        have := HA.out d
        rw [List.take_of_length_le (by omega)] at this
        exact this hd
      have HF := Lib.hid hall
      have hxq : xs = u8Vs (34 :: quotedP s.data.toList) := by rw [HXS.out, List.take_of_length_le (by omega)]
      have HXQ := Lib.hid hxq
      have hsz := hK.size
      have hsz2 : w.heap.size + 1 < wr.heap.size := (Array.getElem?_eq_some_iff.1 HI).1
      clear hall hxq
      go_wp2_with (first
        | (with_reducible show wpList _ _ _ (⟨some 35, _, _, _, _, _⟩ :: _) _ _; go_must (refine wpList_append_onet rfl (.tmp 33) (.tmp 34) 90 rfl w.heap.size 5 (.int .u8 0) 1 Tryz.underlying90 (by kernel_rfl) rfl (by omega) _ xs rfl (OwnL.keepsT (S := fun _ => False) HOX.out ((Keeps.refl _ _).alloc _) (fun _ _ _ => id)) ⟨wr.heap.size, 0, none⟩ 1 (.int .u8 34) rfl ((Blk.new _ _ _).cell 0) rfl (by omega) (by simp; omega) ?_; intro v7 w7 O7 k7))
        | (with_reducible show wpList _ _ _ (⟨some 36, _, _, _, _, _⟩ :: _) _ _; go_must (refine wpList_string_own rfl (.tmp 35) 90 9 rfl 5 Tryz.underlying90 Tryz.underlying5 Tryz.underlying9 w.heap.size v7 (34 :: (quotedP s.data.toList ++ [34])) rfl (by have := O7; rw [HXQ.out] at this; simpa [u8Vs] using this) ?_)))
      go_ret2
      exact ⟨by rw [HTX.out, HBX.out, HF.out]; rfl, hK.and_ (grow_alloc _ k7) (fun i hi h => by omega)⟩

/-- what Put hands back -/
def putV (kind : Int) (t : List UInt8) : Value := .tuple #[.string (str (putP_lexm kind t).1), .int .i64 (putP_lexm kind t).2]

set_option maxRecDepth 100000 in
set_option maxHeartbeats 1000000 in
theorem lput_any (w : World) (kind line : Int) (s : ByteArray) (hs : s.size ≤ 1073741824) :
    Calls Tryz.prog 152 #[.agg #[.int .i64 kind, .string s, .int .i64 line]] w fun e w' => e = .returned (putV kind s.data.toList) ∧ Keeps (fun _ => False) w w' := by
  have hk1 : Keeps (fun _ => False) w (w.alloc (.cells #[.int .i64 kind, .string s, .int .i64 line] 192)) := (Keeps.refl _ w).alloc _
  have hb := Blk.new w 192 #[.int .i64 kind, .string s, .int .i64 line]
  have HB := Lib.hid hb
  clear hb
  by_cases h1 : kind = 1
  · subst h1
    have hw := wordy_any (w.alloc (.cells #[.int .i64 1, .string s, .int .i64 line] 192)) s (by omega)
    by_cases hwd : wordyP s.data.toList = true
    · rw [hwd] at hw
      have HW := Lib.hid hw
      have HP : Hid (putV 1 s.data.toList = .tuple #[.string s, .int .i64 0]) := Lib.hid (by unfold putV putP_lexm; rw [if_pos rfl, if_pos hwd, str_of])
      clear hw hwd
      go_enter Tryz.func152, Tryz.ntmps152
      go_wp2_with fail
      refine HW.out.mono ?_
      rintro e w2 ⟨rfl, k2⟩
      obtain ⟨c0, c1, c2⟩ := (Blk.keeps HB k2 id).cells3
      go_wp2_with fail
      go_ret2
      exact ⟨by rw [HP.out]; rfl, hk1.trans k2⟩
    · have hwf : wordyP s.data.toList = false := by simpa using hwd
      rw [hwf] at hw
      have HW := Lib.hid hw
      have HP : Hid (putV 1 s.data.toList = .tuple #[.string ⟨#[]⟩, .int .i64 3]) := Lib.hid (by unfold putV putP_lexm; rw [if_pos rfl, if_neg hwd]; rfl)
      clear hw hwd hwf
      go_enter Tryz.func152, Tryz.ntmps152
      go_wp2_with fail
      refine HW.out.mono ?_
      rintro e w2 ⟨rfl, k2⟩
      go_wp2_with fail
      go_ret2
      exact ⟨by rw [HP.out]; rfl, hk1.trans k2⟩
  · by_cases h2 : kind = 2
    · subst h2
      have hq := quoted_any (w.alloc (.cells #[.int .i64 2, .string s, .int .i64 line] 192)) s hs
      by_cases hsn : s.data.toList.all seenB = true
      · rw [hsn, if_pos rfl] at hq
        have HQ := Lib.hid hq
        have HP : Hid (putV 2 s.data.toList = .tuple #[.string (str (34 :: (quotedP s.data.toList ++ [34]))), .int .i64 0]) := Lib.hid (by unfold putV putP_lexm; rw [if_neg (by decide), if_pos rfl, if_pos hsn])
        clear hq hsn h1
        go_enter Tryz.func152, Tryz.ntmps152
        go_wp2_with fail
        refine HQ.out.mono ?_
        rintro e w2 ⟨rfl, k2⟩
        go_wp2_with fail
        go_ret2
        exact ⟨by rw [HP.out]; rfl, hk1.trans k2⟩
      · have hsf : s.data.toList.all seenB = false := by simpa using hsn
        rw [hsf] at hq
        have HQ := Lib.hid hq
        have HP : Hid (putV 2 s.data.toList = .tuple #[.string ⟨#[]⟩, .int .i64 3]) := Lib.hid (by unfold putV putP_lexm; rw [if_neg (by decide), if_pos rfl, hsf]; rfl)
        clear hq hsn hsf h1
        go_enter Tryz.func152, Tryz.ntmps152
        go_wp2_with fail
        refine HQ.out.mono ?_
        rintro e w2 ⟨rfl, k2⟩
        go_wp2_with fail
        go_ret2
        exact ⟨by rw [HP.out]; rfl, hk1.trans k2⟩
    · have b1 : (kind == 1) = false := by simpa using h1
      have b2 : (kind == 2) = false := by simpa using h2
      by_cases h3 : 3 ≤ kind ∧ kind ≤ 5
      · have h35 : kind = 3 ∨ kind = 4 ∨ kind = 5 := by omega
        by_cases h0 : s.data.toList = []
        · obtain rfl : s = ⟨#[]⟩ := ba_ext h0
          clear h1 h2 h3 h0 b1 b2
          rcases h35 with rfl | rfl | rfl
          all_goals
            go_enter Tryz.func152, Tryz.ntmps152
            go_wp2_with fail
            go_ret2
            exact ⟨rfl, hk1⟩
        · have hne := ne_nil h0
          have HP : Hid (putV kind s.data.toList = .tuple #[.string ⟨#[]⟩, .int .i64 3]) := Lib.hid (by unfold putV putP_lexm; rw [if_neg h1, if_neg h2, if_pos h3, if_neg h0]; rfl)
          clear h1 h2 h3 h0 b1 b2
          rcases h35 with rfl | rfl | rfl
          all_goals
            go_enter Tryz.func152, Tryz.ntmps152
            go_wp2_with fail
            go_ret2
            exact ⟨by rw [HP.out]; rfl, hk1⟩
      · have b3 : (kind == 3) = false := by rw [beq_eq_false_iff_ne]; omega
        have b4 : (kind == 4) = false := by rw [beq_eq_false_iff_ne]; omega
        have b5 : (kind == 5) = false := by rw [beq_eq_false_iff_ne]; omega
        have HP : Hid (putV kind s.data.toList = .tuple #[.string ⟨#[]⟩, .int .i64 1]) := Lib.hid (by unfold putV putP_lexm; rw [if_neg h1, if_neg h2, if_neg h3]; rfl)
        clear h1 h2 h3
        go_enter Tryz.func152, Tryz.ntmps152
        go_wp2_with fail
        go_ret2
        exact ⟨by rw [HP.out]; rfl, hk1⟩
end Go.Proofs.YtfpajgmdejlaeaaGreatDoor

/-
  lex's reader: what is left of a text, the line, and the pieces; skip, put, word, quote, one.
-/
namespace Go.Proofs.YtfpajgmdejlaeaaGreatDoor
open Go.RowKit

/-- a reader -/
def IsReader (w : World) (g : Nat) (rest : List UInt8) (line : Int) (v : Value) (xs : List Pc) : Prop :=
  Blk w g 150 #[.string (str rest), .int .i64 line, v] ∧ OwnS pcR 3 w (g + 1) 192 v xs

theorem both {p q : Prop} (f : q → p) (h : q) : p ∧ q := ⟨f h, h⟩
theorem keeps_set {w : World} (g i : Nat) (u : Value) : Keeps (fun k => k = g) w (w.setCell ⟨g, i, none⟩ u) := Keeps.setCell (S := fun k => k = g) (p := ⟨g, i, none⟩) (Keeps.refl _ _) (fun _ => rfl) u
theorem IsReader.rest {w : World} {g : Nat} {rest : List UInt8} {line : Int} {v : Value} {xs : List Pc} (h : IsReader w g rest line v xs) (t : List UInt8) :
    IsReader (w.setCell ⟨g, 0, none⟩ (.string (str t))) g t line v xs :=
  ⟨by simpa using h.1.set_ 0 (.string (str t)), h.2.keeps (keeps_set g 0 _) (fun i hi _ _ e => by omega)⟩
theorem IsReader.line {w : World} {g : Nat} {rest : List UInt8} {line : Int} {v : Value} {xs : List Pc} (h : IsReader w g rest line v xs) (n : Int) :
    IsReader (w.setCell ⟨g, 1, none⟩ (.int .i64 n)) g rest n v xs :=
  ⟨by simpa using h.1.set_ 1 (.int .i64 n), h.2.keeps (keeps_set g 1 _) (fun i hi _ _ e => by omega)⟩
theorem str_at (c : UInt8) (t : List UInt8) (h : 0 < (str (c :: t)).size) : (str (c :: t))[0] = c := rfl
theorem drop_at' {α : Type} {l : List α} {k : Nat} {x : α} (h : l[k]? = some x) : l.drop k = x :: l.drop (k + 1) := by
  obtain ⟨hk, he⟩ := List.getElem?_eq_some_iff.1 h
  rw [List.drop_eq_getElem_cons hk, he]
theorem str_drop (l : List UInt8) (k : Nat) : (str l).extract k (str l).size = str (l.drop k) := ba_ext (ext_list (str l) k)
theorem str_nil : (str ([] : List UInt8)).toList = [] := by rw [ByteArray.toList_eq]; rfl
theorem str_ne {c : UInt8} {t : List UInt8} : (str (c :: t)).toList.isEmpty = false := ne_nil (by rw [str_list]; simp)

set_option maxRecDepth 100000 in
set_option maxHeartbeats 1000000 in
theorem skip_any (w : World) (g : Nat) (rest : List UInt8) (line : Int) (v : Value) (xs : List Pc) (h : IsReader w g rest line v xs) (hr : rest.length ≤ 1073741824) (hl0 : 0 ≤ line) (hl : line ≤ 1073741824) :
    Calls Tryz.prog 82 #[.pointer (some ⟨g, 0, none⟩)] w fun e w' => e = .returned (.tuple #[]) ∧ IsReader w' g (skipP false line rest).2 (skipP false line rest).1 v xs ∧ Keeps (fun i => i = g) w w' := by
  obtain ⟨R, hR⟩ : ∃ R, R = skipP false line rest := ⟨_, rfl⟩
  rw [← hR]
  have HR := Lib.hid hR
  have H := Lib.hid h
  clear hR h
  go_enter Tryz.func82, Tryz.ntmps82
  go_wp2_with fail
  go_loopg [2] rest.length (fun k u2 wr => ∃ (note : Bool) (ln : Int) (rs : List UInt8), k = rs.length ∧ u2 = .bool note ∧ 0 ≤ ln ∧ ln + rs.length ≤ line + rest.length ∧ rs.length ≤ rest.length ∧ skipP note ln rs = R ∧ IsReader wr g rs ln v xs ∧ Keeps (fun i => i = g) w wr)
  case atStart => exact ⟨false, line, rest, rfl, rfl, hl0, by omega, by omega, HR.out.symm, H, Keeps.refl _ _⟩
  case round =>
    obtain ⟨note, ln, rs, rfl, rfl, hn0, hln, hlen, hS, hI, hK⟩ := hrel
    have HS := Lib.hid hS
    obtain ⟨hb, hO⟩ := hI
    obtain ⟨c0, c1, c2⟩ := hb.cells3
    have f0 := hb.frozen 0
    have f1 := hb.frozen 1
    have HB := Lib.hid hb
    have HO := Lib.hid hO
    clear hS hb hO
    cases rs with
    | nil =>
      have hnil := str_nil
      go_wp2_with fail
      refine bodyPost_end (results_none rfl _ _ _) rfl ⟨rfl, ?_, hK⟩
      have := HS.out
      simp only [skipP] at this
      rw [← this]; exact ⟨HB, HO⟩
    | cons c t =>
      have hat := str_at c t
      have hdr := str_drop (c :: t) 1
      rw [List.drop_succ_cons, List.drop_zero] at hdr
      have hne : (str (c :: t)).toList.isEmpty = false := str_ne
      have hsz : (str (c :: t)).size = t.length + 1 := rfl
      rw [hsz] at hdr
      rw [List.length_cons] at hln hlen
      have hbl := fun w => blank_any w c
      by_cases h10 : c.toNat = 10
      · obtain rfl : c = 10 := UInt8.toNat_inj.1 (by simpa using h10)
        have HS2 : Hid (skipP false (ln + 1) t = R) := Lib.hid (by have := HS.out; rw [skipP, if_pos (by decide)] at this; exact this)
        clear h10 hbl
        go_wp2_with fail
        go_roundg t.length
        case measure => simp
        case rel =>
          exact ⟨false, ln + 1, t, rfl, rfl, by omega, by omega, by omega, HS2.out, (IsReader.line ⟨HB.out, HO.out⟩ (ln + 1)).rest t, (hK.setCell (fun _ => rfl) _).setCell (fun _ => rfl) _⟩
      · have h10' : ((c.toNat : Int) == 10) = false := by rw [beq_eq_false_iff_ne]; omega
        by_cases hnb : (note || blankB c) = true
        · have HS2 : Hid (skipP note ln t = R) := Lib.hid (by have := HS.out; rw [skipP, if_neg h10, if_pos hnb] at this; exact this)
          have hstep := IsReader.rest ⟨HB.out, HO.out⟩ t
          have HST := Lib.hid hstep
          clear hstep h10
          cases note with
          | true =>
            clear hnb hbl
            go_wp2_with fail
            go_roundg t.length
            case measure => simp
            case rel => exact ⟨true, ln, t, rfl, rfl, by omega, by omega, by omega, HS2.out, HST.out, hK.setCell (fun _ => rfl) _⟩
          | false =>
            have hbt : blankB c = true := by simpa using hnb
            rw [hbt] at hbl
            have HBL := Lib.hid hbl
            clear hnb hbl hbt
            go_wp2_with (go_at_call 111; go_must (refine (HBL.out _).mono ?_; rintro e w2 ⟨rfl, rfl⟩))
            go_roundg t.length
            case measure => simp
            case rel => exact ⟨false, ln, t, rfl, rfl, by omega, by omega, by omega, HS2.out, HST.out, hK.setCell (fun _ => rfl) _⟩
        · have hnf : note = false ∧ blankB c = false := by simpa using hnb
          obtain ⟨rfl, hbt⟩ := hnf
          rw [hbt] at hbl
          have HBL := Lib.hid hbl
          by_cases h35 : c.toNat = 35
          · have HS2 : Hid (skipP true ln t = R) := Lib.hid (by have := HS.out; rw [skipP, if_neg h10, if_neg hnb, if_pos h35] at this; exact this)
            obtain rfl : c = 35 := UInt8.toNat_inj.1 (by simpa using h35)
            have hstep := IsReader.rest ⟨HB.out, HO.out⟩ t
            have HST := Lib.hid hstep
            clear hstep h10 hnb hbl hbt h35
            go_wp2_with (go_at_call 111; go_must (refine (HBL.out _).mono ?_; rintro e w2 ⟨rfl, rfl⟩))
            go_roundg t.length
            case measure => simp
            case rel => exact ⟨true, ln, t, rfl, rfl, by omega, by omega, by omega, HS2.out, HST.out, hK.setCell (fun _ => rfl) _⟩
          · have HS2 : Hid ((ln, c :: t) = R) := Lib.hid (by have := HS.out; rw [skipP, if_neg h10, if_neg hnb, if_neg h35] at this; exact this)
            have h35' : ((c.toNat : Int) == 35) = false := by rw [beq_eq_false_iff_ne]; omega
            clear h10 hnb hbl hbt h35
            go_wp2_with (go_at_call 111; go_must (refine (HBL.out _).mono ?_; rintro e w2 ⟨rfl, rfl⟩))
            refine bodyPost_ret (results_none rfl _ _ _) rfl ⟨rfl, ?_, hK⟩
            rw [← HS2.out]; exact ⟨HB, HO⟩

set_option maxRecDepth 100000 in
set_option maxHeartbeats 1000000 in
theorem rdput_any (w : World) (g : Nat) (rest : List UInt8) (line : Int) (v : Value) (xs : List Pc) (h : IsReader w g rest line v xs) (kind : Int) (s : ByteArray) (n : Int) (hn0 : 0 ≤ n) (hn : n ≤ rest.length) (hx : xs.length ≤ 1073741824) :
    Calls Tryz.prog 112 #[.pointer (some ⟨g, 0, none⟩), .int .i64 kind, .string s, .int .i64 n] w fun e w' => e = .returned (.tuple #[]) ∧ (∃ v', IsReader w' g (rest.drop n.toNat) line v' (xs ++ [⟨kind, s, line⟩])) ∧ Keeps (fun i => g ≤ i) w w' := by
  obtain ⟨hb, hO⟩ := h
  obtain ⟨c0, c1, c2⟩ := hb.cells3
  have f0 := hb.frozen 0
  have f2 := hb.frozen 2
  have hdr := str_drop rest n.toNat
  have hsz : (str rest).size = rest.length := rfl
  rw [hsz] at hdr
  obtain ⟨av, cv, rfl⟩ := OwnS.sl hO
  have HB := Lib.hid hb
  have HO := Lib.hid hO
  have hgl := hb.lt
  clear hb hO
  go_enter Tryz.func112, Tryz.ntmps112
  go_wp2_with fail
  have hcw : ∀ w', Keeps (fun i => g < i) w w' → w'.cell? ⟨g, 1, none⟩ = some (.int .i64 line) ∧ w'.cell? ⟨g, 2, none⟩ = some (.slice av xs.length cv) ∧ w'.frozen? ⟨g, 2, none⟩ = false ∧ w'.cell? ⟨g, 0, none⟩ = some (.string (str rest)) ∧ w'.frozen? ⟨g, 0, none⟩ = false := fun w' kk => by
    have hb' := Blk.keeps HB kk (by omega)
    exact ⟨hb'.cell 1, hb'.cell 2, hb'.frozen 2, hb'.cell 0, hb'.frozen 0⟩
  have HCW := Lib.hid hcw
  clear hcw
  have hne : g ≠ w.heap.size := by omega
  go_region_law ((refine step_append_st pcR 3 pcR_len (by decide) rfl _ _ _ rfl (g + 1) 192 (.agg #[.int .i64 0, .string ⟨#[]⟩, .int .i64 0]) 32 Tryz.underlying99 (by kernel_rfl) rfl (by omega) _ xs rfl (by exact OwnS.keeps (S := fun _ => False) HO.out (by (repeat (first | (with_reducible assumption) | (with_reducible exact Keeps.refl _ _) | refine Keeps.drew ?_ | refine Keeps.drewN ?_ _ | refine Keeps.setCell ?_ (by simp) _ | refine Keeps.setRow ?_ (by simp) _ | refine Keeps.alloc ?_ _))) (fun _ _ _ _ => id)) w.heap.size 1 ⟨kind, s, line⟩ rfl (by first | exact Blk.new _ _ _ | exact (Blk.new _ _ _).drew) (pcR_one _) (by omega) (by simp; omega) ?_; intro g7 cap7 w7 O7 k7 hat7; have kk7 : Keeps (fun i => g < i) w w7 := (Keeps.and_ (by (repeat (first | (with_reducible assumption) | (with_reducible exact Keeps.refl _ _) | refine Keeps.drew ?_ | refine Keeps.drewN ?_ _ | refine Keeps.setCell ?_ (by simp) _ | refine Keeps.setRow ?_ (by simp) _ | refine Keeps.alloc ?_ _))) k7 (fun i _ h => (World.ownsRow.lt HO.out i h).1)); clear k7; obtain ⟨d1, d2, d3, d4, d5⟩ := HCW.out _ kk7))
  all_goals have OO := Lib.hid O7
  all_goals clear O7 hat7 HCW
  all_goals go_wp2_with fail
  all_goals refine bodyPost_end (results_none rfl _ _ _) rfl ⟨rfl, ⟨.slice (some ⟨g7, 0, none⟩) (xs.length + 1) cap7, ?_, ?_⟩, ?_⟩
  all_goals first
    | (have := ((Blk.keeps HB kk7 (by omega)).set_ 2 (.slice (some ⟨g7, 0, none⟩) (xs.length + 1) cap7)).set_ 0 (.string (str (rest.drop n.toNat))); simpa using this)
    | exact OwnS.keeps (S := fun i => i = g) OO ((keeps_set g 2 _).trans (keeps_set g 0 _)) (fun i hi _ _ e => by omega)
    | exact Keeps.and_ (S := fun i => g ≤ i) (kk7.mono fun i _ h => Nat.le_of_lt h) ((keeps_set g 2 _).trans (keeps_set g 0 _)) (fun i _ e => by omega)
end Go.Proofs.YtfpajgmdejlaeaaGreatDoor

/-
  lex's reader: a word, a quote, a piece.
-/
namespace Go.Proofs.YtfpajgmdejlaeaaGreatDoor
open Go.RowKit

theorem while_take (l : List UInt8) (k : Nat) (h1 : ∀ c ∈ l.take k, plainB c = true) (h2 : ∀ c, l[k]? = some c → plainB c = false) : l.takeWhile plainB = l.take k ∧ l.dropWhile plainB = l.drop k := by
  induction l generalizing k with
  | nil => simp
  | cons c t ih =>
    cases k with
    | zero =>
      have := h2 c rfl
      simp [this]
    | succ k =>
      have hc := h1 c (by simp)
      have := ih k (fun d hd => h1 d (by simp [hd])) (fun d hd => h2 d (by simpa using hd))
      simp [hc, this.1, this.2]
theorem str_take (l : List UInt8) (k : Nat) : (str l).extract 0 k = str (l.take k) := by
  apply ba_ext; simp [str]

/-- what one, word and quote do to a reader: a piece is taken, or none is there -/
def RdPost (O : Option (Int × List UInt8 × List UInt8)) (w : World) (g : Nat) (rest : List UInt8) (line : Int) (v : Value) (xs : List Pc) (e : Ending) (w' : World) : Prop :=
  (∀ k tx rs, O = some (k, tx, rs) → e = .returned (.bool true) ∧ ∃ v', IsReader w' g rs line v' (xs ++ [⟨k, str tx, line⟩])) ∧
  (O = none → e = .returned (.bool false) ∧ IsReader w' g rest line v xs) ∧ Keeps (fun i => g ≤ i) w w'

set_option maxRecDepth 100000 in
set_option maxHeartbeats 1000000 in
theorem word_rd (w : World) (g : Nat) (rest : List UInt8) (line : Int) (v : Value) (xs : List Pc) (h : IsReader w g rest line v xs) (hr : rest.length ≤ 1073741824) (hx : xs.length ≤ 1073741824) :
    Calls Tryz.prog 115 #[.pointer (some ⟨g, 0, none⟩)] w fun e w' => e = .returned (.tuple #[]) ∧ (∃ v', IsReader w' g (rest.dropWhile plainB) line v' (xs ++ [⟨1, str (rest.takeWhile plainB), line⟩])) ∧ Keeps (fun i => g ≤ i) w w' := by
  have H := Lib.hid h
  obtain ⟨c0, c1, c2⟩ := h.1.cells3
  have hsz : (str rest).size = rest.length := rfl
  clear h
  go_enter Tryz.func115, Tryz.ntmps115
  go_wp2_with fail
  go_loop [2] (fun u2 => ∃ k : Nat, k ≤ rest.length ∧ u2 = .int .i64 k ∧ ∀ c ∈ rest.take k, plainB c = true) (fun u2 => rest.length - (intOf u2).toNat)
  case atStart => exact ⟨0, Nat.zero_le _, rfl, by simp⟩
  case round =>
    obtain ⟨k, hk, rfl, hall⟩ := hrel
    have HA := Lib.hid hall
    clear hall
    have hend : Hid ((∀ c, rest[k]? = some c → plainB c = false) → rest.takeWhile plainB = rest.take k ∧ rest.dropWhile plainB = rest.drop k) := Lib.hid (while_take rest k HA.out)
    have htk := str_take rest k
    by_cases hp : k < rest.length
    · obtain ⟨c, hc⟩ : ∃ c, rest[k]? = some c := ⟨_, List.getElem?_eq_getElem hp⟩
      have hsc : ∀ h, (str rest)[k]'h = c := fun h => by
        have := (List.getElem?_eq_some_iff.1 hc).2
        rw [← this]; rfl
      have HC := Lib.hid hc
      have hcl := UInt8.toNat_lt c
      have hq := fun w => plain_any w c.toNat (by omega)
      clear hc
      by_cases hpl : plainB c = true
      · rw [show plainN c.toNat = true from hpl] at hq
        have HQ := Lib.hid hq
        have HPL := Lib.hid hpl
        clear hq hpl htk
        go_wp2_with (go_at_call 114; go_must (refine (HQ.out _).mono ?_; rintro e w2 ⟨rfl, rfl⟩))
        go_round
        case rel =>
          refine ⟨k + 1, by omega, by go_num, ?_⟩
          intro d hd
          rw [List.take_add_one, HC.out] at hd
          rcases List.mem_append.1 hd with hd | hd
          · exact HA.out d hd
          · rw [Option.toList_some, List.mem_singleton] at hd; subst hd; exact HPL.out
        case measure => simp [intOf] <;> omega
      · have hpf : plainB c = false := by simpa using hpl
        have hE := hend.out (fun d hd => by rw [HC.out] at hd; injection hd with hd; subst hd; exact hpf)
        have HE := Lib.hid hE
        rw [show plainN c.toNat = false from hpf] at hq
        have HQ := Lib.hid hq
        clear hq hpl hpf hE
        go_wp2_with (go_at_call 114; go_must (refine (HQ.out _).mono ?_; rintro e w2 ⟨rfl, rfl⟩))
        refine (rdput_any _ g rest line v xs H 1 _ k (by omega) (by omega) hx).mono ?_
        rintro e w3 ⟨rfl, hI, k3⟩
        go_wp2_with fail
        refine bodyPost_end (results_none rfl _ _ _) rfl ⟨rfl, ?_, k3⟩
        rw [HE.out.1, HE.out.2]; exact hI
    · have hE := hend.out (fun d hd => by have := (List.getElem?_eq_some_iff.1 hd).1; omega)
      have HE := Lib.hid hE
      clear hE
      go_wp2_with fail
      refine (rdput_any _ g rest line v xs H 1 _ k (by omega) (by omega) hx).mono ?_
      rintro e w3 ⟨rfl, hI, k3⟩
      go_wp2_with fail
      refine bodyPost_end (results_none rfl _ _ _) rfl ⟨rfl, ?_, k3⟩
      rw [HE.out.1, HE.out.2]; exact hI

set_option maxRecDepth 100000 in
set_option maxHeartbeats 4000000 in
theorem quote_rd (w : World) (g : Nat) (t : List UInt8) (line : Int) (v : Value) (xs : List Pc) (h : IsReader w g (34 :: t) line v xs) (hr : t.length ≤ 1073741824) (hx : xs.length ≤ 1073741824) :
    Calls Tryz.prog 113 #[.pointer (some ⟨g, 0, none⟩)] w fun e w' => RdPost ((quoteP [] t).map fun x => (2, x.1, x.2)) w g (34 :: t) line v xs e w' := by
  obtain ⟨rest, hrest⟩ : ∃ rest, rest = (34 : UInt8) :: t := ⟨_, rfl⟩
  obtain ⟨Q, hQ⟩ : ∃ Q, Q = quoteP [] t := ⟨_, rfl⟩
  have hdr1 : rest.drop 1 = t := by rw [hrest]; rfl
  have hrl : rest.length = t.length + 1 := by rw [hrest]; rfl
  rw [← hrest] at h ⊢
  rw [← hQ]
  have H := Lib.hid h
  have HQ : Hid (quoteP [] (rest.drop 1) = Q) := Lib.hid (by rw [hdr1, hQ])
  have hsz : (str rest).size = rest.length := rfl
  have hrl1 : 1 ≤ rest.length := by omega
  have hrl2 : rest.length ≤ 1073741825 := by omega
  have hgl := h.1.lt
  clear hrest hdr1 hrl hQ h hr
  go_enter Tryz.func113, Tryz.ntmps113
  go_wp2_with fail
  go_loopw [3, 4] (fun u3 u4 wr => ∃ (k : Nat) (acc : List UInt8), 1 ≤ k ∧ k ≤ rest.length ∧ u4 = .int .i64 k ∧ acc.length ≤ k ∧ quoteP acc (rest.drop k) = Q ∧ OwnL wr w.heap.size 5 u3 (u8Vs acc) ∧ Keeps (fun _ => False) w wr) (fun _ u4 _ => rest.length - (intOf u4).toNat)
  case atStart => exact ⟨1, [], by omega, hrl1, rfl, by simp, HQ.out, OwnL.none_ _ _ _, Keeps.refl _ _⟩
  case round =>
    obtain ⟨k, acc, hk1, hk, rfl, hal, hq, hO, hK⟩ := hrel
    have HQK := Lib.hid hq
    have HO := Lib.hid hO
    have HI : Hid (IsReader wr g rest line v xs) := Lib.hid ⟨H.out.1.keeps hK id, H.out.2.keeps hK (fun _ _ _ _ => id)⟩
    obtain ⟨c0, c1, c2⟩ := HI.out.1.cells3
    obtain ⟨av, cv, rfl⟩ := OwnL.sl' hO
    rw [u8Vs_len] at hO ⊢
    have HO := Lib.hid hO
    have hsz2 := hK.size
    clear hq hO
    by_cases hp : k < rest.length
    · obtain ⟨c, hc⟩ : ∃ c, rest[k]? = some c := ⟨_, List.getElem?_eq_getElem hp⟩
      have hsc : ∀ h, (str rest)[k]'h = c := fun h => by
        have := (List.getElem?_eq_some_iff.1 hc).2
        rw [← this]; rfl
      have hdk := HQK.out
      rw [drop_at' hc, quoteP_cons] at hdk
      have HDK := Lib.hid hdk
      clear hdk hc
      by_cases h34 : c.toNat = 34
      · obtain rfl : c = 34 := UInt8.toNat_inj.1 (by simpa using h34)
        have hQ : Hid (Q = some (acc, rest.drop (k + 1))) := Lib.hid (by have := HDK.out; rw [if_pos (by decide)] at this; exact this.symm)
        clear h34
        go_wp2_with (with_reducible show wpList _ _ _ (⟨some 30, _, _, _, _, _⟩ :: _) _ _; go_must (refine wpList_string_own rfl (.tmp 29) 90 9 rfl 5 Tryz.underlying90 Tryz.underlying5 Tryz.underlying9 w.heap.size (.slice av acc.length cv) acc rfl (by have := HO.out; unfold u8Vs at this; exact this) ?_))
        refine (rdput_any wr g rest line v xs HI 2 (str acc) _ (by omega) (by omega) hx).mono ?_
        rintro e w3 ⟨rfl, hI3, k3⟩
        have HI3 := Lib.hid hI3
        clear hI3
        go_wp2_with fail
        go_ret
        refine ⟨?_, ?_, hK.none_.trans k3⟩
        · intro k' tx rs he
          rw [hQ.out] at he
          injection he with he
          injection he with h1 he
          injection he with h2 h3
          subst h1 h2 h3
          exact ⟨rfl, by have := HI3.out; rw [show ((k : Int) + 1).toNat = k + 1 by omega] at this; exact this⟩
        · intro he; rw [hQ.out] at he; cases he
      · have b34 : ((c.toNat : Int) == 34) = false := by rw [beq_eq_false_iff_ne]; omega
        by_cases h92 : c.toNat = 92
        · obtain rfl : c = 92 := UInt8.toNat_inj.1 (by simpa using h92)
          by_cases hp2 : k + 1 < rest.length
          · obtain ⟨d, hd⟩ : ∃ d, rest[k + 1]? = some d := ⟨_, List.getElem?_eq_getElem hp2⟩
            have hsd : ∀ h, (str rest)[k + 1]'h = d := fun h => by
              have := (List.getElem?_eq_some_iff.1 hd).2
              rw [← this]; rfl
            have hdd := HDK.out
            rw [if_neg h34, if_pos (by decide), drop_at' hd] at hdd
            have HDD := Lib.hid hdd
            clear hdd hd h34 h92
            by_cases he : d.toNat = 34 ∨ d.toNat = 92
            · have HQ2 : Hid (quoteP (acc ++ [d]) (rest.drop (k + 2)) = Q) := Lib.hid (by have := HDD.out; simp only [if_pos he] at this; exact this)
              rcases he with he | he
              · obtain rfl : d = 34 := UInt8.toNat_inj.1 (by simpa using he)
                clear he
                go_wp2_with (with_reducible show wpList _ _ _ (⟨some 77, _, _, _, _, _⟩ :: _) _ _; go_must (refine wpList_append_onet rfl (.tmp 69) (.tmp 76) 90 rfl w.heap.size 5 (.int .u8 0) 1 Tryz.underlying90 (by kernel_rfl) rfl (by omega) _ (u8Vs acc) rfl (OwnL.keepsT (S := fun _ => False) HO.out ((Keeps.refl _ _).alloc _) (fun _ _ _ => id)) ⟨wr.heap.size, 0, none⟩ 1 (.int .u8 34) rfl ((Blk.new _ _ _).cell 0) rfl (by rw [u8Vs_len]; omega) (by simp; omega) ?_; intro v7 w7 O7 k7))
                go_roundw
                case rel => exact ⟨k + 2, acc ++ [34], by omega, by omega, by go_num, by simp; omega, HQ2.out, by have := O7; simpa [u8Vs] using this, hK.and_ (grow_alloc _ k7) (fun i hi h => by omega)⟩
                case measure => simp [intOf] <;> omega
              · obtain rfl : d = 92 := UInt8.toNat_inj.1 (by simpa using he)
                clear he
                go_wp2_with (with_reducible show wpList _ _ _ (⟨some 77, _, _, _, _, _⟩ :: _) _ _; go_must (refine wpList_append_onet rfl (.tmp 69) (.tmp 76) 90 rfl w.heap.size 5 (.int .u8 0) 1 Tryz.underlying90 (by kernel_rfl) rfl (by omega) _ (u8Vs acc) rfl (OwnL.keepsT (S := fun _ => False) HO.out ((Keeps.refl _ _).alloc _) (fun _ _ _ => id)) ⟨wr.heap.size, 0, none⟩ 1 (.int .u8 92) rfl ((Blk.new _ _ _).cell 0) rfl (by rw [u8Vs_len]; omega) (by simp; omega) ?_; intro v7 w7 O7 k7))
                go_roundw
                case rel => exact ⟨k + 2, acc ++ [92], by omega, by omega, by go_num, by simp; omega, HQ2.out, by have := O7; simpa [u8Vs] using this, hK.and_ (grow_alloc _ k7) (fun i hi h => by omega)⟩
                case measure => simp [intOf] <;> omega
            · have hQN : Hid (Q = none) := Lib.hid (by have := HDD.out; simp only [if_neg he] at this; exact this.symm)
              have e1 : ((d.toNat : Int) == 34) = false := by rw [beq_eq_false_iff_ne]; omega
              have e2 : ((d.toNat : Int) == 92) = false := by rw [beq_eq_false_iff_ne]; omega
              clear he
              go_wp2_with fail
              go_ret
              refine ⟨fun k' tx rs he => (by rw [hQN.out] at he; cases he), fun _ => ⟨rfl, HI.out⟩, hK.none_⟩
          · have hQN : Hid (Q = none) := Lib.hid (by
              have := HDK.out
              rw [if_neg h34, if_pos (by decide), List.drop_of_length_le (by omega)] at this; exact this.symm)
            clear h34 h92
            go_wp2_with fail
            go_ret
            refine ⟨fun k' tx rs he => (by rw [hQN.out] at he; cases he), fun _ => ⟨rfl, HI.out⟩, hK.none_⟩
        · have b92 : ((c.toNat : Int) == 92) = false := by rw [beq_eq_false_iff_ne]; omega
          by_cases hbad : c.toNat < 32 ∨ 126 < c.toNat
          · have hQN : Hid (Q = none) := Lib.hid (by have := HDK.out; rw [if_neg h34, if_neg h92, if_pos hbad] at this; exact this.symm)
            clear h34 h92
            rcases hbad with hb | hb
            all_goals
              go_wp2_with fail
              go_ret
              refine ⟨fun k' tx rs he => (by rw [hQN.out] at he; cases he), fun _ => ⟨rfl, HI.out⟩, hK.none_⟩
          · have HQ2 : Hid (quoteP (acc ++ [c]) (rest.drop (k + 1)) = Q) := Lib.hid (by have := HDK.out; rw [if_neg h34, if_neg h92, if_neg hbad] at this; exact this)
            have hb1 : 32 ≤ c.toNat := by omega
            have hb2 : c.toNat ≤ 126 := by omega
            clear h34 h92 hbad
            go_wp2_with (with_reducible show wpList _ _ _ (⟨some 24, _, _, _, _, _⟩ :: _) _ _; go_must (refine wpList_append_onet rfl (.tmp 21) (.tmp 23) 90 rfl w.heap.size 5 (.int .u8 0) 1 Tryz.underlying90 (by kernel_rfl) rfl (by omega) _ (u8Vs acc) rfl (OwnL.keepsT (S := fun _ => False) HO.out ((Keeps.refl _ _).alloc _) (fun _ _ _ => id)) ⟨wr.heap.size, 0, none⟩ 1 (.int .u8 c.toNat) rfl ((Blk.new _ _ _).cell 0) rfl (by rw [u8Vs_len]; omega) (by simp; omega) ?_; intro v7 w7 O7 k7))
            go_roundw
            case rel => exact ⟨k + 1, acc ++ [c], by omega, by omega, by go_num, by simp; omega, HQ2.out, by have := O7; simpa [u8Vs] using this, hK.and_ (grow_alloc _ k7) (fun i hi h => by omega)⟩
            case measure => simp [intOf] <;> omega
    · have hQN : Hid (Q = none) := Lib.hid (by have := HQK.out; rw [List.drop_of_length_le (by omega), quoteP_nil] at this; exact this.symm)
      go_wp2_with fail
      go_ret
      refine ⟨fun k' tx rs he => (by rw [hQN.out] at he; cases he), fun _ => ⟨rfl, HI.out⟩, hK.none_⟩
end Go.Proofs.YtfpajgmdejlaeaaGreatDoor

/-
  Errors made, wrapped, and asked for their codes (for seats without the texts of errors).
-/
namespace Go.Proofs.YtfpajgmdejlaeaaGreatDoor
open Go.RowKit

theorem new_nil (w : World) (n : Int) (s : ByteArray) : Calls Tryz.prog 81 #[.int .i64 0, .int .i64 n, .string s] w fun e w' => e = .returned .nilIface ∧ w' = w := by
  go_enter Tryz.func81, Tryz.ntmps81
  go_wp2
  go_ret
  exact ⟨rfl, rfl⟩
theorem new_flt (w : World) (c n : Int) (s : ByteArray) (hc : c ≠ 0) : Calls Tryz.prog 81 #[.int .i64 c, .int .i64 n, .string s] w fun e w' =>
    e = .returned (.iface 94 (.pointer (some ⟨w.heap.size, 0, none⟩))) ∧ w' = w.alloc (.cells #[.int .i64 n, .string s, .iface 91 (.int .i64 c)] 98) := by
  have h : (c == 0) = false := beq_eq_false_iff_ne.2 hc
  go_enter Tryz.func81, Tryz.ntmps81
  go_wp2
  go_ret
  exact ⟨rfl, rfl⟩
theorem wrap_nil (w : World) (n : Int) (s : ByteArray) : Calls Tryz.prog 94 #[.nilIface, .int .i64 n, .string s] w fun e w' => e = .returned .nilIface ∧ w' = w := by
  go_enter Tryz.func94, Tryz.ntmps94
  go_wp2
  go_ret
  exact ⟨rfl, rfl⟩
theorem wrap_flt (w : World) (ty : TypeId) (x : Value) (n : Int) (s : ByteArray) : Calls Tryz.prog 94 #[.iface ty x, .int .i64 n, .string s] w fun e w' =>
    e = .returned (.iface 94 (.pointer (some ⟨w.heap.size, 0, none⟩))) ∧ w' = w.alloc (.cells #[.int .i64 n, .string s, .iface ty x] 98) := by
  go_enter Tryz.func94, Tryz.ntmps94
  go_wp2
  go_ret
  exact ⟨rfl, rfl⟩
set_option maxRecDepth 100000 in
theorem of_nil (w : World) : Calls Tryz.prog 16 #[.nilIface] w fun e w' => e = .returned (.int .i64 0) ∧ Keeps (fun _ => False) w w' := by
  go_enter Tryz.func16, Tryz.ntmps16
  go_wp2
  go_ret
  exact ⟨rfl, (Keeps.refl _ _).alloc _⟩

set_option maxRecDepth 100000 in
theorem of_chain (w : World) (l : List (Int × ByteArray)) (c : Int) (v : Value) (h : Chain w l c v) (hg : Ety w) :
    Calls Tryz.prog 16 #[v] w fun e w' => e = .returned (.int .i64 c) ∧ Keeps (fun _ => False) w w' := by
  have hk : Keeps (fun _ => False) w (w.alloc (.cells #[.int .i64 0] tKind)) := (Keeps.refl _ w).alloc _
  have HA := Lib.hid (as_kind c 0 w.heap.size l v _ (h.keeps hk (fun _ _ _ => id)) (hg.keeps hk id) (Blk.new w tKind #[.int .i64 0]))
  obtain ⟨ty, x, rfl⟩ := h.form
  clear h hg
  go_enter Tryz.func16, Tryz.ntmps16
  go_wp2_with (go_at_call 42; go_must (refine HA.out.mono ?_; rintro e w2 ⟨rfl, k2, hb⟩; have hcell := hb.cell 0; simp only [List.getElem?_toArray, List.getElem?_cons_zero] at hcell))
  go_ret
  exact ⟨rfl, hk.and_ k2 (fun i hi e => by omega)⟩

end Go.Proofs.YtfpajgmdejlaeaaGreatDoor

/-
  lex's reader: a piece; all pieces of a text.
-/
namespace Go.Proofs.YtfpajgmdejlaeaaGreatDoor
open Go.RowKit

theorem oneP_cons (c : UInt8) (t : List UInt8) : oneP (c :: t) = if c.toNat = 123 then some (3, [], t) else if c.toNat = 125 then some (4, [], t) else if c.toNat = 59 then some (5, [], t)
    else if c.toNat = 34 then (quoteP [] t).map fun x => (2, x.1, x.2)
    else if plainB c then some (1, (c :: t).takeWhile plainB, (c :: t).dropWhile plainB) else none := rfl

set_option maxRecDepth 100000 in
set_option maxHeartbeats 1000000 in
theorem one_rd (w : World) (g : Nat) (c : UInt8) (t : List UInt8) (line : Int) (v : Value) (xs : List Pc) (h : IsReader w g (c :: t) line v xs) (hr : t.length ≤ 1073741820) (hx : xs.length ≤ 1073741824) :
    Calls Tryz.prog 83 #[.pointer (some ⟨g, 0, none⟩)] w fun e w' => RdPost (oneP (c :: t)) w g (c :: t) line v xs e w' := by
  have H := Lib.hid h
  obtain ⟨c0, c1, c2⟩ := h.1.cells3
  have hat := str_at c t
  have hsz : (str (c :: t)).size = t.length + 1 := rfl
  have hcl := UInt8.toNat_lt c
  clear h
  by_cases h123 : c.toNat = 123
  · obtain rfl : c = 123 := UInt8.toNat_inj.1 (by simpa using h123)
    have hO : Hid (oneP (123 :: t) = some (3, [], t)) := Lib.hid (by rw [oneP_cons, if_pos (by decide)])
    have hput := Lib.hid (rdput_any w g _ line v xs H 3 (str []) 1 (by omega) (by simp only [List.length_cons]; omega) hx)
    clear h123
    go_enter Tryz.func83, Tryz.ntmps83
    go_wp2_with fail
    refine hput.out.mono ?_
    rintro e w2 ⟨rfl, hI, k2⟩
    have HI := Lib.hid hI
    clear hI
    go_wp2_with fail
    go_ret
    refine ⟨fun k tx rs he => ?_, fun he => ?_, k2⟩
    · rw [hO.out] at he
      injection he with he; injection he with h1 he; injection he with h2 h3
      subst h1 h2 h3
      exact ⟨rfl, HI.out⟩
    · rw [hO.out] at he; cases he
  · have b123 : ((c.toNat : Int) == 123) = false := by rw [beq_eq_false_iff_ne]; omega
    by_cases h125 : c.toNat = 125
    · obtain rfl : c = 125 := UInt8.toNat_inj.1 (by simpa using h125)
      have hO : Hid (oneP (125 :: t) = some (4, [], t)) := Lib.hid (by rw [oneP_cons, if_neg (by decide), if_pos (by decide)])
      have hput := Lib.hid (rdput_any w g _ line v xs H 4 (str []) 1 (by omega) (by simp only [List.length_cons]; omega) hx)
      clear h125 h123 b123
      go_enter Tryz.func83, Tryz.ntmps83
      go_wp2_with fail
      refine hput.out.mono ?_
      rintro e w2 ⟨rfl, hI, k2⟩
      have HI := Lib.hid hI
      clear hI
      go_wp2_with fail
      go_ret
      refine ⟨fun k tx rs he => ?_, fun he => ?_, k2⟩
      · rw [hO.out] at he
        injection he with he; injection he with h1 he; injection he with h2 h3
        subst h1 h2 h3
        exact ⟨rfl, HI.out⟩
      · rw [hO.out] at he; cases he
    · have b125 : ((c.toNat : Int) == 125) = false := by rw [beq_eq_false_iff_ne]; omega
      by_cases h59 : c.toNat = 59
      · obtain rfl : c = 59 := UInt8.toNat_inj.1 (by simpa using h59)
        have hO : Hid (oneP (59 :: t) = some (5, [], t)) := Lib.hid (by rw [oneP_cons, if_neg (by decide), if_neg (by decide), if_pos (by decide)])
        have hput := Lib.hid (rdput_any w g _ line v xs H 5 (str []) 1 (by omega) (by simp only [List.length_cons]; omega) hx)
        clear h125 h123 h59 b123 b125
        go_enter Tryz.func83, Tryz.ntmps83
        go_wp2_with fail
        refine hput.out.mono ?_
        rintro e w2 ⟨rfl, hI, k2⟩
        have HI := Lib.hid hI
        clear hI
        go_wp2_with fail
        go_ret
        refine ⟨fun k tx rs he => ?_, fun he => ?_, k2⟩
        · rw [hO.out] at he
          injection he with he; injection he with h1 he; injection he with h2 h3
          subst h1 h2 h3
          exact ⟨rfl, HI.out⟩
        · rw [hO.out] at he; cases he
      · have b59 : ((c.toNat : Int) == 59) = false := by rw [beq_eq_false_iff_ne]; omega
        by_cases h34 : c.toNat = 34
        · obtain rfl : c = 34 := UInt8.toNat_inj.1 (by simpa using h34)
          have hO : Hid (oneP (34 :: t) = (quoteP [] t).map fun x => (2, x.1, x.2)) := Lib.hid (by rw [oneP_cons, if_neg (by decide), if_neg (by decide), if_neg (by decide), if_pos (by decide)])
          have hq := Lib.hid (quote_rd w g t line v xs H (by omega) hx)
          clear h125 h123 h59 h34 b123 b125 b59
          go_enter Tryz.func83, Tryz.ntmps83
          go_wp2_with fail
          refine hq.out.mono ?_
          rintro e w2 hp
          have HP := Lib.hid hp
          obtain ⟨p1, p2, p3⟩ := hp
          cases hQ : quoteP [] t with
          | none =>
            obtain ⟨rfl, hI⟩ := p2 (by rw [hQ]; rfl)
            clear p1 p2 hI
            go_wp2_with fail
            go_ret
            rw [hO.out]; exact HP
          | some x =>
            obtain ⟨rfl, hI⟩ := p1 2 x.1 x.2 (by rw [hQ]; rfl)
            clear p1 p2 hI
            go_wp2_with fail
            go_ret
            rw [hO.out]; exact HP
        · have b34 : ((c.toNat : Int) == 34) = false := by rw [beq_eq_false_iff_ne]; omega
          have hq := fun w => plain_any w c.toNat (by omega)
          by_cases hpl : plainB c = true
          · have hO : Hid (oneP (c :: t) = some (1, (c :: t).takeWhile plainB, (c :: t).dropWhile plainB)) := Lib.hid (by rw [oneP_cons, if_neg h123, if_neg h125, if_neg h59, if_neg h34, if_pos hpl])
            rw [show plainN c.toNat = true from hpl] at hq
            have HQ := Lib.hid hq
            have hw := Lib.hid (word_rd w g _ line v xs H (by simp; omega) hx)
            clear h125 h123 h59 h34 hq hpl
            go_enter Tryz.func83, Tryz.ntmps83
            go_wp2_with (go_at_call 114; go_must (refine (HQ.out _).mono ?_; rintro e w2 ⟨rfl, rfl⟩))
            refine hw.out.mono ?_
            rintro e w3 ⟨rfl, hI, k3⟩
            have HI := Lib.hid hI
            clear hI
            go_wp2_with fail
            go_ret
            refine ⟨fun k tx rs he => ?_, fun he => ?_, k3⟩
            · rw [hO.out] at he
              injection he with he; injection he with h1 he; injection he with h2 h3
              subst h1 h2 h3
              exact ⟨rfl, HI.out⟩
            · rw [hO.out] at he; cases he
          · have hpf : plainB c = false := by simpa using hpl
            have hO : Hid (oneP (c :: t) = none) := Lib.hid (by rw [oneP_cons, if_neg h123, if_neg h125, if_neg h59, if_neg h34, if_neg hpl])
            rw [show plainN c.toNat = false from hpf] at hq
            have HQ := Lib.hid hq
            clear h125 h123 h59 h34 hq hpl hpf
            go_enter Tryz.func83, Tryz.ntmps83
            go_wp2_with (go_at_call 114; go_must (refine (HQ.out _).mono ?_; rintro e w2 ⟨rfl, rfl⟩))
            go_ret
            refine ⟨fun k tx rs he => ?_, fun _ => ⟨rfl, H⟩, Keeps.refl _ _⟩
            rw [hO.out] at he; cases he

theorem readP_fuel : ∀ (n f : Nat) (ln : Int) (l : List UInt8) (out : List Pc), l.length ≤ n → l.length + 1 ≤ f → readP f ln l out = readP (l.length + 1) ln l out := by
  intro n
  induction n with
  | zero =>
    intro f ln l out hn hf
    obtain rfl : l = [] := List.eq_nil_of_length_eq_zero (by omega)
    obtain ⟨f, rfl⟩ : ∃ q, f = q + 1 := ⟨f - 1, by omega⟩
    simp [readP, skipP]
  | succ n ih =>
    intro f ln l out hn hf
    obtain ⟨f, rfl⟩ : ∃ q, f = q + 1 := ⟨f - 1, by omega⟩
    rw [readP, readP]
    obtain ⟨a, b⟩ : ∃ q, q = skipP false ln l := ⟨_, rfl⟩
    rw [← b]
    have hlen := skipP_len l false ln
    rw [← b] at hlen
    simp only []
    split
    · rfl
    · split
      · rfl
      · split
        · rfl
        · rename_i k t r h1
          have := (oneP_len _ k t r h1).1
          rw [ih f _ r _ (by omega) (by omega), ih l.length _ r _ (by omega) (by omega)]

/-- what Read hands back -/
def LexPost (O : (Int × Int) ⊕ List Pc) (w : World) (e : Ending) (w' : World) : Prop :=
  (∀ xs, O = .inr xs → ∃ v, e = .returned (.tuple #[v, .nilIface]) ∧ OwnS pcR 3 w' w.heap.size 192 v xs) ∧
  (∀ c n, O = .inl (c, n) → ∃ v, e = .returned (.tuple #[.slice none 0 0, v]) ∧ Chain w' [(n, ⟨#[116, 101, 120, 116]⟩)] c v) ∧ Keeps (fun _ => False) w w'

theorem readP_step (ln : Int) (l : List UInt8) (out : List Pc) (ln2 : Int) (l2 : List UInt8) (h : skipP false ln l = (ln2, l2)) :
    readP (l.length + 1) ln l out = if l2 = [] then .inr out else if out.length = 8192 then .inl (15, ln2) else match oneP l2 with
      | none => .inl (3, ln2)
      | some (k, t, r) => readP (r.length + 1) ln2 r (out ++ [⟨k, str t, ln2⟩]) := by
  rw [readP, h]
  simp only []
  split
  · rfl
  · split
    · rfl
    · cases hq : oneP l2 with
      | none => rfl
      | some x =>
        obtain ⟨k, t, r⟩ := x
        have h2 := (oneP_len _ k t r hq).1
        have h3 := skipP_len l false ln
        rw [h] at h3
        exact readP_fuel l.length l.length ln2 r _ (by simp only [] at h3; omega) (by simp only [] at h3; omega)

set_option maxRecDepth 100000 in
set_option maxHeartbeats 2000000 in
theorem lread_any (w : World) (s : ByteArray) (hs : s.size ≤ 1073741820) :
    Calls Tryz.prog 45 #[.string s] w fun e w' => LexPost (lexP s.data.toList) w e w' := by
  have hl : s.data.toList.length = s.size := by simp
  by_cases hbig : 65536 < s.size
  · have hO : Hid (lexP s.data.toList = .inl (5, 0)) := Lib.hid (by unfold lexP; rw [if_pos (by omega)])
    go_enter Tryz.func45, Tryz.ntmps45
    go_wp2_with fail
    refine (new_flt w 5 0 _ (by decide)).mono ?_
    rintro e w2 ⟨rfl, hw2⟩
    have hch : Chain w2 [(0, ⟨#[116, 101, 120, 116]⟩)] 5 (.iface tPFault (.pointer (some ⟨w.heap.size, 0, none⟩))) := .layer _ _ _ _ _ _ (by rw [hw2]; exact Blk.new _ _ _) (.kind _)
    have hk : Keeps (fun _ => False) w w2 := by rw [hw2]; exact (Keeps.refl _ _).alloc _
    have HCH := Lib.hid hch
    clear hw2 hch
    go_wp2_with fail
    go_ret2
    refine ⟨fun xs he => ?_, fun c n he => ?_, hk⟩
    · rw [hO.out] at he; cases he
    · rw [hO.out] at he; injection he with he; injection he with h1 h2; subst h1 h2; exact ⟨_, rfl, HCH.out⟩
  · obtain ⟨rest, hrest⟩ : ∃ rest, rest = s.data.toList := ⟨_, rfl⟩
    have hse : s = str rest := by rw [hrest]; exact (str_of s).symm
    have hrl : rest.length = s.size := by rw [hrest]; exact hl
    obtain ⟨O, hO⟩ : ∃ O, O = lexP s.data.toList := ⟨_, rfl⟩
    rw [← hO]
    have hO2 : readP (rest.length + 1) 1 rest [] = O := by rw [hO, hrest]; unfold lexP; rw [if_neg (by omega)]
    have hb : Blk (w.alloc (.cells #[.string s, .int .i64 1, .slice none 0 0] 150)) w.heap.size 150 #[.string (str rest), .int .i64 1, .slice none 0 0] := by rw [← hse]; exact Blk.new _ _ _
    have HR0 : Hid (IsReader (w.alloc (.cells #[.string s, .int .i64 1, .slice none 0 0] 150)) w.heap.size rest 1 (.slice none 0 0) []) := Lib.hid ⟨hb, OwnS.none_⟩
    have HO := Lib.hid hO2
    have hrl2 : rest.length ≤ 65536 := by omega
    have hk0 : Keeps (fun _ => False) w (w.alloc (.cells #[.string s, .int .i64 1, .slice none 0 0] 150)) := (Keeps.refl _ w).alloc _
    clear hO hO2 hb hse hrl hrest
    go_enter Tryz.func45, Tryz.ntmps45
    go_wp2_with fail
    go_loopg [12] rest.length (fun k _ wr => ∃ (ln : Int) (rs : List UInt8) (v : Value) (xs : List Pc), k = rs.length ∧ rs.length ≤ rest.length ∧ 1 ≤ ln ∧ ln + rs.length ≤ 1 + rest.length ∧ xs.length + rs.length ≤ rest.length ∧ readP (rs.length + 1) ln rs xs = O ∧ IsReader wr w.heap.size rs ln v xs ∧ Keeps (fun _ => False) w wr)
    case atStart => exact ⟨1, rest, _, [], rfl, by omega, by omega, by omega, by simp, HO.out, HR0.out, hk0⟩
    case round =>
      obtain ⟨ln, rs, v, xs, rfl, hrs, hln1, hln2, hxs, hRD, hI, hK⟩ := hrel
      have HRD := Lib.hid hRD
      have HSK := Lib.hid (skip_any wr w.heap.size rs ln v xs hI (by omega) (by omega) (by omega))
      clear hRD hI
      go_wp2_with fail
      refine HSK.out.mono ?_
      rintro e w2 ⟨rfl, hI2, k2⟩
      obtain ⟨ln2, l2, hsk⟩ : ∃ ln2 l2, skipP false ln rs = (ln2, l2) := ⟨_, _, rfl⟩
      rw [hsk] at hI2
      have hstep := readP_step ln rs xs ln2 l2 hsk
      rw [HRD.out] at hstep
      have hl2 := skipP_len rs false ln
      have hli := skipP_line rs false ln
      rw [hsk] at hl2 hli
      simp only [] at hl2 hli hI2
      have HST := Lib.hid hstep
      have HI2 := Lib.hid hI2
      obtain ⟨c0, c1, c2⟩ := hI2.1.cells3
      obtain ⟨av, cv, rfl⟩ := OwnS.sl hI2.2
      have kk2 : Keeps (fun _ => False) w w2 := hK.and_ k2 (fun i hi e => by omega)
      clear hsk hstep hI2
      cases l2 with
      | nil =>
        have hnil := str_nil
        have hOr : Hid (O = .inr xs) := Lib.hid (by have := HST.out; rw [if_pos rfl] at this; exact this)
        go_wp2_with fail
        go_ret2
        refine ⟨fun xs' he => ?_, fun c n he => ?_, kk2⟩
        · rw [hOr.out] at he; injection he with he; subst he
          exact ⟨_, rfl, HI2.out.2.moreS (by omega)⟩
        · rw [hOr.out] at he; cases he
      | cons c t =>
        have hne : (str (c :: t)).toList.isEmpty = false := str_ne
        simp only [List.length_cons] at hl2 hli
        by_cases h8 : xs.length = 8192
        · have hOr : Hid (O = .inl (15, ln2)) := Lib.hid (by have := HST.out; rw [if_neg (by simp), if_pos h8] at this; exact this)
          rw [h8] at c2
          clear h8
          go_wp2_with fail
          refine (new_flt w2 15 ln2 _ (by decide)).mono ?_
          rintro e w3 ⟨rfl, hw3⟩
          have hch : Chain w3 [(ln2, ⟨#[116, 101, 120, 116]⟩)] 15 (.iface tPFault (.pointer (some ⟨w2.heap.size, 0, none⟩))) := .layer _ _ _ _ _ _ (by rw [hw3]; exact Blk.new _ _ _) (.kind _)
          have hk : Keeps (fun _ => False) w2 w3 := by rw [hw3]; exact (Keeps.refl _ _).alloc _
          have HCH := Lib.hid hch
          clear hw3 hch
          go_wp2_with fail
          go_ret2
          refine ⟨fun xs he => ?_, fun c n he => ?_, kk2.trans hk⟩
          · rw [hOr.out] at he; cases he
          · rw [hOr.out] at he; injection he with he; injection he with h1 h2; subst h1 h2; exact ⟨_, rfl, HCH.out⟩
        · have h8' : ((xs.length : Int) == 8192) = false := by rw [beq_eq_false_iff_ne]; omega
          have hst2 := HST.out
          rw [if_neg (by simp), if_neg h8] at hst2
          have HST2 := Lib.hid hst2
          have HON := Lib.hid (one_rd w2 w.heap.size c t ln2 _ xs HI2 (by omega) (by omega))
          clear h8 hst2
          go_wp2_with fail
          refine HON.out.mono ?_
          rintro e w3 ⟨p1, p2, p3⟩
          have kk3 : Keeps (fun _ => False) w w3 := kk2.and_ p3 (fun i hi h => by omega)
          cases hO1 : oneP (c :: t) with
          | none =>
            obtain ⟨rfl, hI3⟩ := p2 hO1
            have hOr : Hid (O = .inl (3, ln2)) := Lib.hid (by have := HST2.out; rw [hO1] at this; exact this)
            obtain ⟨d0, d1, d2⟩ := hI3.1.cells3
            clear p1 p2 p3 hI3 hO1 c0 c1 c2
            go_wp2_with fail
            refine (new_flt w3 3 ln2 _ (by decide)).mono ?_
            rintro e w4 ⟨rfl, hw4⟩
            have hch : Chain w4 [(ln2, ⟨#[116, 101, 120, 116]⟩)] 3 (.iface tPFault (.pointer (some ⟨w3.heap.size, 0, none⟩))) := .layer _ _ _ _ _ _ (by rw [hw4]; exact Blk.new _ _ _) (.kind _)
            have hk : Keeps (fun _ => False) w3 w4 := by rw [hw4]; exact (Keeps.refl _ _).alloc _
            have HCH := Lib.hid hch
            clear hw4 hch
            go_wp2_with fail
            go_ret2
            refine ⟨fun xs he => ?_, fun c n he => ?_, kk3.trans hk⟩
            · rw [hOr.out] at he; cases he
            · rw [hOr.out] at he; injection he with he; injection he with h1 h2; subst h1 h2; exact ⟨_, rfl, HCH.out⟩
          | some x =>
            obtain ⟨k, tx, r⟩ := x
            obtain ⟨rfl, v3, hI3⟩ := p1 k tx r hO1
            have hrl := (oneP_len _ k tx r hO1).1
            rw [List.length_cons] at hrl
            have HN : Hid (readP (r.length + 1) ln2 r (xs ++ [⟨k, str tx, ln2⟩]) = O) := Lib.hid (by have := HST2.out; rw [hO1] at this; exact this.symm)
            have HI3 := Lib.hid hI3
            clear p1 p2 p3 hI3 hO1 c0 c1 c2
            go_wp2_with fail
            go_roundg r.length
            case measure => omega
            case rel => exact ⟨ln2, r, v3, _, rfl, by omega, by omega, by omega, by simp; omega, HN.out, HI3.out, kk3⟩
end Go.Proofs.YtfpajgmdejlaeaaGreatDoor

/-
  Slices among the arguments, opened to lists: where each element's cells lie. No function of the program in sight.
-/
namespace Go.Proofs.YtfpajgmdejlaeaaGreatDoor
open Go.RowKit Go.ChangeShapes Go.WideShapes Go.Deep

/-- a slice's n elements as a list l: element x lies in the cells R x, one behind the other -/
def SlAt {α : Type} (R : α → List Value) (size : Nat) (w : World) (a : Option Addr) (n : Nat) (l : List α) : Prop :=
  l.length = n ∧ (0 < n → ∃ b off, a = some ⟨b, off, none⟩ ∧ b < w.heap.size ∧ ∀ (i : Nat) (x : α) (j : Nat) (v : Value), l[i]? = some x → (R x)[j]? = some v → w.cell? ⟨b, off + i * size + j, none⟩ = some v)

theorem SlAt.keeps {α : Type} {R : α → List Value} {size : Nat} {w w' : World} {a : Option Addr} {n : Nat} {l : List α} {S : Nat → Prop} (h : SlAt R size w a n l) (k : Keeps S w w') (hS : ∀ i, i < w.heap.size → ¬ S i) : SlAt R size w' a n l := by
  refine ⟨h.1, fun hn => ?_⟩
  obtain ⟨b, off, ha, hb, hc⟩ := h.2 hn
  refine ⟨b, off, ha, Nat.lt_of_lt_of_le hb k.size, fun i x j v hx hv => ?_⟩
  rw [World.cell?_of_block (w := w) (k.block b hb (hS b hb))]
  exact hc i x j v hx hv

section
variable {H : Type} {enc : TypeId × Value → H} {P : Program} {w : World} {base : Nat} {spare : Nat → Bool} {held : Bool}

theorem add_plain (b off k : Nat) : (⟨b, off, none⟩ : Addr).add k = ⟨b, off + k, none⟩ := by
  unfold Addr.add
  split <;> simp_all

theorem list_pick {α : Type} (Q : Nat → α → Prop) : ∀ n : Nat, (∀ i, i < n → ∃ x, Q i x) → ∃ l : List α, l.length = n ∧ ∀ i x, l[i]? = some x → Q i x
  | 0, _ => ⟨[], rfl, fun i x h => by simp at h⟩
  | n + 1, h => by
    obtain ⟨l, hl, hq⟩ := list_pick Q n (fun i hi => h i (by omega))
    obtain ⟨x, hx⟩ := h n (by omega)
    refine ⟨l ++ [x], by simp [hl], fun i y hy => ?_⟩
    rcases Nat.lt_or_ge i n with hi | hi
    · rw [List.getElem?_append_left (by omega)] at hy
      exact hq i y hy
    · rw [List.getElem?_append_right (by omega)] at hy
      have h0 : i - l.length = 0 := by
        rcases Nat.eq_zero_or_pos (i - l.length) with h0 | h0
        · exact h0
        · rw [List.getElem?_eq_none (by simp; omega)] at hy; cases hy
      rw [h0] at hy
      simp at hy
      subst hy
      have : i = n := by omega
      subst this
      exact hx

theorem sl_of {α : Type} (R : α → List Value) (good : α → Prop) (size : Nat) {t e : TypeId} {a : Option Addr} {n c : Nat} {d : DataW H} {ps : List MemPlace} (ht : P.underlying t = some (.slice e)) (hsz : P.cellsOf e = size) (hpos : 0 < size)
    (hR : ∀ x, (R x).length = size) (hel : ∀ fuel cs y, DataW.trod enc P w base spare held fuel e cs = some y → ∃ x, cs = R x ∧ good x)
    (h : DataW.Trod enc P w base spare held t (.slice a n c) d ps) : ∃ l : List α, SlAt R size w a n l ∧ ∀ x ∈ l, good x := by
  obtain ⟨fuel, hf⟩ := h
  rcases open_slice ht hf with ⟨hcs, _⟩ | ⟨a', len, cap, m, k, D, Pl, hcs, hb, hl, hm, hmm, hx, hi⟩
  · simp [Value.cells] at hcs
    obtain ⟨rfl, rfl, rfl⟩ := hcs
    exact ⟨[], ⟨rfl, fun h => absurd h (by omega)⟩, by simp⟩
  · simp [Value.cells] at hcs
    obtain ⟨rfl, rfl, rfl⟩ := hcs
    have hnm : n ≤ m := by rw [hmm]; split <;> omega
    obtain ⟨l, hlen, hq⟩ := list_pick (fun i x => good x ∧ ∀ j v, (R x)[j]? = some v → w.cell? ((a'.add (i * size)).add j) = some v) n (fun i hin => by
      obtain ⟨cs', hc, hd⟩ := hi i (by omega)
      obtain ⟨x, rfl, hg⟩ := hel _ _ _ hd
      obtain ⟨_, _, hcell⟩ := World.cells?_some hc
      refine ⟨x, hg, fun j v hv => ?_⟩
      have hj : j < size := by rw [← hR x]; exact (List.getElem?_eq_some_iff.1 hv).1
      rw [hsz] at hcell
      rw [hcell j hj, hv])
    refine ⟨l, ⟨hlen, fun hn => ?_⟩, fun x hx => ?_⟩
    · have h0 : 0 < l.length := by omega
      have hx0 := hq 0 l[0] (List.getElem?_eq_getElem h0)
      have hv0 : 0 < (R l[0]).length := by rw [hR]; exact hpos
      have hc0 := hx0.2 0 _ (List.getElem?_eq_getElem hv0)
      obtain ⟨b, off, spot⟩ := a'
      have hspot : spot = none := by simpa [Addr.add] using World.cell?_spot hc0
      subst hspot
      refine ⟨b, off, rfl, by simpa [Addr.add] using block_lt_of_cell hc0, fun i x j v hx hv => ?_⟩
      have := (hq i x hx).2 j v hv
      rw [add_add, add_plain, ← Nat.add_assoc] at this
      exact this
    · obtain ⟨i, hi', he⟩ := List.getElem_of_mem hx
      exact (hq i x (by rw [List.getElem?_eq_getElem hi', he])).1

/-- a slice of strings -/
def strR (s : ByteArray) : List Value := [.string s]
theorem strs_of {t e : TypeId} {a : Option Addr} {n c : Nat} {d : DataW H} {ps : List MemPlace} (ht : P.underlying t = some (.slice e)) (he : P.underlying e = some .string) (hc : P.cellsOf e = 1)
    (h : DataW.Trod enc P w base spare held t (.slice a n c) d ps) : ∃ l : List ByteArray, SlAt strR 1 w a n l ∧ ∀ s ∈ l, s.size ≤ maxLen :=
  sl_of strR (fun s => s.size ≤ maxLen) 1 ht hc (by omega) (fun _ => rfl) (fun fuel cs y hd => by
    obtain ⟨s, hcs, _, hs⟩ := DataW.trod_string he hd
    exact ⟨s, hcs, hs⟩) h
end

theorem SlAt.str {w : World} {b off : Nat} {l : List ByteArray} (hc : ∀ (i : Nat) (x : ByteArray) (j : Nat) (v : Value), l[i]? = some x → (strR x)[j]? = some v → w.cell? ⟨b, off + i * 1 + j, none⟩ = some v) (i : Nat) (s : ByteArray) (hi : l[i]? = some s) : w.cell? ⟨b, off + i, none⟩ = some (.string s) := by
  have := hc i s 0 _ hi rfl
  simpa using this
end Go.Proofs.YtfpajgmdejlaeaaGreatDoor

/-
  Statements in memory: rows of nodes, whose arguments and blocks are rows of their own. No program in sight.
-/
namespace Go.Proofs.YtfpajgmdejlaeaaGreatDoor
open Go.RowKit

/-- a node's cells -/
structure NdV where
  key : ByteArray
  aa : Option Addr
  an : Nat
  ac : Nat
  block : Bool
  la : Option Addr
  ln : Nat
  lc : Nat
  line : Int
def ndR (r : NdV) : List Value := [.string r.key, .slice r.aa r.an r.ac, .bool r.block, .slice r.la r.ln r.lc, .int .i64 r.line]
theorem ndR_len (r : NdV) : (ndR r).length = 5 := rfl
theorem ndR_one (r : NdV) : ∀ u ∈ ndR r, u.oneCell' = true := by
  intro u hu; simp [ndR] at hu; rcases hu with rfl | rfl | rfl | rfl | rfl <;> rfl
/-- a slice's row lies in a block of S -/
def InS (S : Nat → Prop) (a : Option Addr) (n : Nat) : Prop := 0 < n → ∃ b off, a = some ⟨b, off, none⟩ ∧ S b
theorem InS.mono {S T : Nat → Prop} {a : Option Addr} {n : Nat} (h : InS S a n) (hs : ∀ i, S i → T i) : InS T a n := fun hn => let ⟨b, off, e, hb⟩ := h hn; ⟨b, off, e, hs b hb⟩
theorem InS.none_ {S : Nat → Prop} : InS S none 0 := fun h => absurd h (by omega)
theorem SlAt.keepsS {α : Type} {R : α → List Value} {size : Nat} {w w' : World} {a : Option Addr} {n : Nat} {l : List α} {S T : Nat → Prop} (h : SlAt R size w a n l) (hs : InS S a n) (k : Keeps T w w') (hd : ∀ i, i < w.heap.size → S i → ¬ T i) : SlAt R size w' a n l := by
  refine ⟨h.1, fun hn => ?_⟩
  obtain ⟨b, off, ha, hb, hc⟩ := h.2 hn
  obtain ⟨b2, off2, ha2, hS⟩ := hs hn
  obtain rfl : b = b2 := by rw [ha] at ha2; injection ha2 with e; injection e
  refine ⟨b, off, ha, Nat.lt_of_lt_of_le hb k.size, fun i x j v hx hv => ?_⟩
  rw [World.cell?_of_block (w := w) (k.block b hb (hd b hb hS))]
  exact hc i x j v hx hv
mutual
/-- a node's cells mean a statement, whose rows lie in blocks of S -/
def NdM (w : World) (S : Nat → Prop) : Nd → NdV → Prop
  | .mk k as_ b l line, r => r.key = k ∧ r.block = b ∧ r.line = line ∧ (SlAt strR 1 w r.aa r.an as_ ∧ InS S r.aa r.an ∧ r.an ≤ r.ac ∧ r.ac ≤ maxLen) ∧ ∃ rs, SlAt ndR 5 w r.la r.ln rs ∧ InS S r.la r.ln ∧ r.ln ≤ r.lc ∧ r.lc ≤ maxLen ∧ NdAll w S l rs
def NdAll (w : World) (S : Nat → Prop) : List Nd → List NdV → Prop
  | [], [] => True
  | x :: xs, r :: rs => NdM w S x r ∧ NdAll w S xs rs
  | _, _ => False
end
section
variable {w w' : World} {S T : Nat → Prop}
mutual
theorem NdM.keeps (k : Keeps T w w') (hd : ∀ i, i < w.heap.size → S i → ¬ T i) : ∀ (x : Nd) (r : NdV), NdM w S x r → NdM w' S x r
  | .mk key as_ b l line, r, h => by
    rw [NdM] at h ⊢
    obtain ⟨h1, h2, h3, ⟨h4, h5, h6, h7⟩, rs, h8, h9, h10, h11, h12⟩ := h
    exact ⟨h1, h2, h3, ⟨h4.keepsS h5 k hd, h5, h6, h7⟩, rs, h8.keepsS h9 k hd, h9, h10, h11, NdAll.keeps k hd l rs h12⟩
theorem NdAll.keeps (k : Keeps T w w') (hd : ∀ i, i < w.heap.size → S i → ¬ T i) : ∀ (xs : List Nd) (rs : List NdV), NdAll w S xs rs → NdAll w' S xs rs
  | [], [], _ => by rw [NdAll]; trivial
  | x :: xs, r :: rs, h => by
    rw [NdAll] at h ⊢
    exact ⟨NdM.keeps k hd x r h.1, NdAll.keeps k hd xs rs h.2⟩
  | [], r :: rs, h => by rw [NdAll] at h; exact h.elim; simp; simp
  | x :: xs, [], h => by rw [NdAll] at h; exact h.elim; simp; simp
end
mutual
theorem NdM.mono (hs : ∀ i, S i → T i) : ∀ (x : Nd) (r : NdV), NdM w S x r → NdM w T x r
  | .mk key as_ b l line, r, h => by
    rw [NdM] at h ⊢
    obtain ⟨h1, h2, h3, ⟨h4, h5, h6, h7⟩, rs, h8, h9, h10, h11, h12⟩ := h
    exact ⟨h1, h2, h3, ⟨h4, h5.mono hs, h6, h7⟩, rs, h8, h9.mono hs, h10, h11, NdAll.mono hs l rs h12⟩
theorem NdAll.mono (hs : ∀ i, S i → T i) : ∀ (xs : List Nd) (rs : List NdV), NdAll w S xs rs → NdAll w T xs rs
  | [], [], _ => by rw [NdAll]; trivial
  | x :: xs, r :: rs, h => by
    rw [NdAll] at h ⊢
    exact ⟨NdM.mono hs x r h.1, NdAll.mono hs xs rs h.2⟩
  | [], r :: rs, h => by rw [NdAll] at h; exact h.elim; simp; simp
  | x :: xs, [], h => by rw [NdAll] at h; exact h.elim; simp; simp
end
theorem NdAll.len : ∀ (xs : List Nd) (rs : List NdV), NdAll w S xs rs → xs.length = rs.length
  | [], [], _ => rfl
  | x :: xs, r :: rs, h => by rw [NdAll] at h; rw [List.length_cons, List.length_cons, NdAll.len xs rs h.2]
  | [], r :: rs, h => by rw [NdAll] at h; exact h.elim; simp; simp
  | x :: xs, [], h => by rw [NdAll] at h; exact h.elim; simp; simp
theorem NdAll.snoc (x : Nd) (r : NdV) (h : NdM w S x r) : ∀ (xs : List Nd) (rs : List NdV), NdAll w S xs rs → NdAll w S (xs ++ [x]) (rs ++ [r])
  | [], [], _ => by rw [List.nil_append, List.nil_append, NdAll, NdAll]; exact ⟨h, trivial⟩
  | y :: xs, q :: rs, hh => by
    rw [NdAll] at hh
    rw [List.cons_append, List.cons_append, NdAll]
    exact ⟨hh.1, NdAll.snoc x r h xs rs hh.2⟩
  | [], q :: rs, hh => by rw [NdAll] at hh; exact hh.elim; simp; simp
  | y :: xs, [], hh => by rw [NdAll] at hh; exact hh.elim; simp; simp
theorem NdAll.get : ∀ (xs : List Nd) (rs : List NdV), NdAll w S xs rs → ∀ (i : Nat) (x : Nd), xs[i]? = some x → ∃ r, rs[i]? = some r ∧ NdM w S x r
  | [], _, _, i, x, hi => by simp at hi
  | y :: xs, q :: rs, hh, i, x, hi => by
    rw [NdAll] at hh
    cases i with
    | zero => simp at hi; subst hi; exact ⟨q, rfl, hh.1⟩
    | succ i => simp at hi; exact NdAll.get xs rs hh.2 i x hi
  | y :: xs, [], hh, i, x, hi => by rw [NdAll] at hh; exact hh.elim; simp; simp
end
/-- a slice of statements that lies in blocks of S -/
def NdsAt (w : World) (S : Nat → Prop) (v : Value) (xs : List Nd) : Prop := ∃ a c rs, v = .slice a xs.length c ∧ SlAt ndR 5 w a xs.length rs ∧ InS S a xs.length ∧ xs.length ≤ c ∧ c ≤ maxLen ∧ NdAll w S xs rs
/-- .. that its maker goes on to append to: its own row lies in no block of S -/
def NdsOwn (w : World) (B : Nat) (S : Nat → Prop) (e : TypeId) (v : Value) (xs : List Nd) : Prop := ∃ rs, OwnS ndR 5 w B e v rs ∧ NdAll w S xs rs ∧ (∀ k, v.ownBlock = some k → ¬ S k) ∧ ∀ i, S i → B ≤ i ∧ i < w.heap.size
section
variable {w w' : World} {S T : Nat → Prop} {B : Nat} {e : TypeId} {v : Value} {xs : List Nd}
theorem NdsAt.keeps (h : NdsAt w S v xs) (k : Keeps T w w') (hd : ∀ i, i < w.heap.size → S i → ¬ T i) : NdsAt w' S v xs := by
  obtain ⟨a, c, rs, hv, h1, h2, h3, h4, h5⟩ := h
  exact ⟨a, c, rs, hv, h1.keepsS h2 k hd, h2, h3, h4, NdAll.keeps k hd _ _ h5⟩
theorem NdsAt.mono (h : NdsAt w S v xs) (hs : ∀ i, S i → T i) : NdsAt w T v xs := by
  obtain ⟨a, c, rs, hv, h1, h2, h3, h4, h5⟩ := h
  exact ⟨a, c, rs, hv, h1, h2.mono hs, h3, h4, NdAll.mono hs _ _ h5⟩
theorem NdsAt.sl (h : NdsAt w S v xs) : ∃ a c, v = .slice a xs.length c ∧ xs.length ≤ c ∧ c ≤ maxLen := by
  obtain ⟨a, c, rs, hv, -, -, h3, h4, -⟩ := h
  exact ⟨a, c, hv, h3, h4⟩
theorem NdsAt.none_ : NdsAt w S (.slice none 0 0) [] := ⟨none, 0, [], rfl, ⟨rfl, fun h => absurd h (by simp)⟩, InS.none_, Nat.le_refl _, Nat.zero_le _, by rw [NdAll]; trivial⟩
theorem NdsOwn.none_ : NdsOwn w B (fun _ => False) e (.slice none 0 0) [] := ⟨[], OwnS.none_, by rw [NdAll]; trivial, fun k hk => by simp [Value.ownBlock] at hk, fun _ h => h.elim⟩
theorem NdsOwn.sl (h : NdsOwn w B S e v xs) : ∃ a c, v = .slice a xs.length c := by
  obtain ⟨rs, h1, h2, -⟩ := h
  obtain ⟨a, c, hv⟩ := h1.sl
  exact ⟨a, c, by rw [hv, NdAll.len _ _ h2]⟩
/-- nobody appends to it any more -/
theorem NdsOwn.at_ (h : NdsOwn w B S e v xs) : NdsAt w (fun i => S i ∨ v.ownBlock = some i) v xs := by
  obtain ⟨rs, h1, h2, h3, h4⟩ := h
  obtain ⟨a, c, hv, h5, h6, h7, h8⟩ := h1.shape ndR_len
  have hl := NdAll.len _ _ h2
  rw [← hl] at hv h5 h7
  subst hv
  refine ⟨a, c, rs, rfl, ⟨hl.symm, fun hn => ?_⟩, fun hn => ?_, h5, h6, NdAll.mono (fun i hi => .inl hi) _ _ h2⟩
  · obtain ⟨g, ha, hg, hlt, cs, hb⟩ := h7 hn
    exact ⟨g, 0, ha, hlt, fun i x j u hx hu => by rw [Nat.zero_add]; exact (h8 g ha i x j u hx hu).1⟩
  · obtain ⟨g, ha, hg, hlt, cs, hb⟩ := h7 hn
    exact ⟨g, 0, ha, .inr (by rw [ha]; rfl)⟩
theorem NdsOwn.lt (h : NdsOwn w B S e v xs) : ∀ k, v.ownBlock = some k → B ≤ k ∧ k < w.heap.size := by
  obtain ⟨rs, h1, -⟩ := h
  exact fun k hk => World.ownsRow.lt h1 k hk
theorem NdsOwn.keeps (h : NdsOwn w B S e v xs) (k : Keeps T w w') (hd : ∀ i, i < w.heap.size → (S i ∨ v.ownBlock = some i) → ¬ T i) : NdsOwn w' B S e v xs := by
  obtain ⟨rs, h1, h2, h3, h4⟩ := h
  refine ⟨rs, ?_, NdAll.keeps k (fun i hi hs => hd i hi (.inl hs)) _ _ h2, h3, fun i hi => ⟨(h4 i hi).1, Nat.lt_of_lt_of_le (h4 i hi).2 k.size⟩⟩
  refine ⟨h1.1, ?_⟩
  rcases h1.2 with h0 | ⟨g, cap, cur, hv, hg, hh, r⟩
  · exact .inl h0
  · have hlt : g < w.heap.size := by
      rcases Nat.lt_or_ge g w.heap.size with hlt | hge
      · exact hlt
      · rw [Array.getElem?_eq_none hge] at hh; cases hh
    exact .inr ⟨g, cap, cur, hv, hg, (k.block g hlt (hd g hlt (.inr (by rw [hv]; rfl)))).trans hh, r⟩
end
end Go.Proofs.YtfpajgmdejlaeaaGreatDoor

/-
  tree: where a parser is: kind, line, take; stop.
-/
namespace Go.Proofs.YtfpajgmdejlaeaaGreatDoor
open Go.RowKit

/-- a parser at g of the pieces l, of which 'at' are taken -/
structure IsP (w : World) (g U : Nat) (l : List Pc) (at_ : Nat) : Prop where
  blk : ∃ a c, Blk w g 104 #[.slice a l.length c, .int .i64 at_] ∧ SlAt pcR 3 w a l.length l ∧ InS (fun i => i ≠ g ∧ i < U) a l.length
  lt : g < U
  up : U ≤ w.heap.size
  le : at_ ≤ l.length
  len : l.length ≤ 1048576
section
variable {w w' : World} {g U : Nat} {l : List Pc} {at_ : Nat}
theorem IsP.same (h : IsP w g U l at_) (k : Keeps (fun _ => False) w w') : IsP w' g U l at_ := by
  obtain ⟨a, c, h1, h2, h3⟩ := h.blk
  exact ⟨⟨a, c, h1.keeps k id, h2.keeps k (fun _ _ => id), h3⟩, h.lt, Nat.le_trans h.up k.size, h.le, h.len⟩
theorem pc_at {w : World} {a : Option Addr} {n : Nat} {l : List Pc} (h : SlAt pcR 3 w a n l) {i : Nat} {x : Pc} (hx : l[i]? = some x) : ∃ b off, a = some ⟨b, off, none⟩ ∧ b < w.heap.size ∧ ∀ W, Keeps (fun j => j ≠ b) w W → W.cell? ⟨b, off + i * 3, none⟩ = some (.int .i64 x.kind) ∧ W.cell? ⟨b, off + i * 3 + 1, none⟩ = some (.string x.text) ∧ W.cell? ⟨b, off + i * 3 + 2, none⟩ = some (.int .i64 x.line) := by
  have hi : i < l.length := (List.getElem?_eq_some_iff.1 hx).1
  obtain ⟨b, off, ha, hb, hc⟩ := h.2 (by rw [← h.1]; omega)
  refine ⟨b, off, ha, hb, fun W k => ?_⟩
  have hh : ∀ j v, (pcR x)[j]? = some v → W.cell? ⟨b, off + i * 3 + j, none⟩ = some v := fun j v hj => (World.cell?_of_block (w := w) (k.block b hb (by simp))).trans (hc i x j v hx hj)
  exact ⟨hh 0 _ rfl, hh 1 _ rfl, hh 2 _ rfl⟩
theorem drop_pc {l : List Pc} {i : Nat} {x : Pc} (h : l[i]? = some x) : l.drop i = x :: l.drop (i + 1) := by
  have hi := (List.getElem?_eq_some_iff.1 h).1
  rw [← (List.getElem?_eq_some_iff.1 h).2, List.drop_eq_getElem_cons hi]
theorem Blk.cells2 {w : World} {g : Nat} {t : TypeId} {a b : Value} (h : Blk w g t #[a, b]) : w.cell? ⟨g, 0, none⟩ = some a ∧ w.cell? ⟨g, 1, none⟩ = some b := ⟨h.cell 0, h.cell 1⟩
set_option maxRecDepth 100000 in
theorem pkind_any (h : IsP w g U l at_) : Calls Tryz.prog 84 #[.pointer (some ⟨g, 0, none⟩)] w fun e w' => e = .returned (.int .i64 (kindP (l.drop at_))) ∧ Keeps (fun _ => False) w w' := by
  obtain ⟨a, c, hb, hs, -⟩ := h.blk
  obtain ⟨c0, c1⟩ := hb.cells2
  have hle := h.le
  have hln := h.len
  by_cases hlt : at_ < l.length
  · obtain ⟨x, hx⟩ : ∃ x, l[at_]? = some x := ⟨_, List.getElem?_eq_getElem hlt⟩
    obtain ⟨b, off, rfl, hbl, hc⟩ := pc_at hs hx
    obtain ⟨x0, -, -⟩ := hc w (Keeps.refl _ _)
    rw [drop_pc hx]
    unfold kindP
    simp only
    clear hx hc hb hs h
    go_enter Tryz.func84, Tryz.ntmps84
    go_wp2_with fail
    go_region
    go_wp2_with fail
    go_region
    go_wp2_with fail
    go_ret
    exact ⟨rfl, by (repeat (first | (with_reducible assumption) | (with_reducible exact Keeps.refl _ _) | refine Keeps.drew ?_ | refine Keeps.drewN ?_ _ | refine Keeps.setCell ?_ (by simp) _ | refine Keeps.setRow ?_ (by simp) _ | refine Keeps.alloc ?_ _))⟩
  · have h0 : l.drop at_ = [] := List.drop_eq_nil_of_le (by omega)
    rw [h0]
    unfold kindP
    simp only
    clear h hs hb h0
    go_enter Tryz.func84, Tryz.ntmps84
    go_wp2_with fail
    go_region
    go_wp2_with fail
    go_ret
    exact ⟨rfl, by (repeat (first | (with_reducible assumption) | (with_reducible exact Keeps.refl _ _) | refine Keeps.drew ?_ | refine Keeps.drewN ?_ _ | refine Keeps.setCell ?_ (by simp) _ | refine Keeps.setRow ?_ (by simp) _ | refine Keeps.alloc ?_ _))⟩
set_option maxRecDepth 100000 in
theorem pline_any (h : IsP w g U l at_) : Calls Tryz.prog 117 #[.pointer (some ⟨g, 0, none⟩)] w fun e w' => e = .returned (.int .i64 (lineP (lastP l) (l.drop at_))) ∧ Keeps (fun _ => False) w w' := by
  obtain ⟨a, c, hb, hs, -⟩ := h.blk
  obtain ⟨c0, c1⟩ := hb.cells2
  have hle := h.le
  have hln := h.len
  by_cases hlt : at_ < l.length
  · obtain ⟨x, hx⟩ : ∃ x, l[at_]? = some x := ⟨_, List.getElem?_eq_getElem hlt⟩
    obtain ⟨b, off, rfl, hbl, hc⟩ := pc_at hs hx
    obtain ⟨-, -, x2⟩ := hc w (Keeps.refl _ _)
    rw [drop_pc hx]
    unfold lineP
    simp only
    clear hx hc hb hs h
    go_enter Tryz.func117, Tryz.ntmps117
    go_wp2_with fail
    go_region
    go_wp2_with fail
    go_region
    go_wp2_with fail
    go_ret
    exact ⟨rfl, by (repeat (first | (with_reducible assumption) | (with_reducible exact Keeps.refl _ _) | refine Keeps.drew ?_ | refine Keeps.drewN ?_ _ | refine Keeps.setCell ?_ (by simp) _ | refine Keeps.setRow ?_ (by simp) _ | refine Keeps.alloc ?_ _))⟩
  · have h0 : l.drop at_ = [] := List.drop_eq_nil_of_le (by omega)
    rw [h0]
    unfold lineP
    simp only
    rcases Nat.eq_zero_or_pos l.length with h1 | h1
    · have hl0 : l = [] := List.eq_nil_of_length_eq_zero h1
      subst hl0
      have hla : lastP [] = 0 := rfl
      rw [hla]
      simp only [List.length_nil] at *
      clear h hs hb h0 hla
      go_enter Tryz.func117, Tryz.ntmps117
      go_wp2_with fail
      go_region
      go_wp2_with fail
      go_ret
      exact ⟨rfl, by (repeat (first | (with_reducible assumption) | (with_reducible exact Keeps.refl _ _) | refine Keeps.drew ?_ | refine Keeps.drewN ?_ _ | refine Keeps.setCell ?_ (by simp) _ | refine Keeps.setRow ?_ (by simp) _ | refine Keeps.alloc ?_ _))⟩
    · obtain ⟨x, hx⟩ : ∃ x, l[l.length - 1]? = some x := ⟨_, List.getElem?_eq_getElem (by omega)⟩
      have hla : lastP l = x.line := by unfold lastP; rw [List.getLast?_eq_getElem?, hx]
      rw [hla]
      obtain ⟨b, off, rfl, hbl, hc⟩ := pc_at hs hx
      obtain ⟨-, -, x2⟩ := hc w (Keeps.refl _ _)
      have hwn : ((l.length : Int) - 1).toNat = l.length - 1 := by omega
      clear hx hc hb hs h h0 hla
      go_enter Tryz.func117, Tryz.ntmps117
      go_wp2_with fail
      go_region
      go_wp2_with fail
      go_ret
      exact ⟨rfl, by (repeat (first | (with_reducible assumption) | (with_reducible exact Keeps.refl _ _) | refine Keeps.drew ?_ | refine Keeps.drewN ?_ _ | refine Keeps.setCell ?_ (by simp) _ | refine Keeps.setRow ?_ (by simp) _ | refine Keeps.alloc ?_ _))⟩
/-- a parser, taken one on -/
theorem IsP.step {w w' : World} (h : IsP w g U l at_) (hlt : at_ < l.length) {a : Option Addr} {c : Nat} (k : Keeps (fun i => i = g) w w') (hb : Blk w' g 104 #[.slice a l.length c, .int .i64 ((at_ : Int) + 1)]) (h0 : Blk w g 104 #[.slice a l.length c, .int .i64 at_]) : IsP w' g U l (at_ + 1) := by
  obtain ⟨a2, c2, h1, h2, h3⟩ := h.blk
  have he : #[Value.slice a l.length c, .int .i64 at_] = #[Value.slice a2 l.length c2, .int .i64 at_] := by
    unfold Blk at h0 h1
    rw [h0] at h1
    injection h1 with h1
    injection h1
  injection he with he
  injection he with he _
  injection he with e1 _ e3
  subst e1 e3
  refine ⟨⟨_, _, by have e : ((at_ + 1 : Nat) : Int) = (at_ : Int) + 1 := by omega
                    rw [e]; exact hb, h2.keepsS h3 k (fun i _ hi => hi.1), h3⟩, h.lt, Nat.le_trans h.up k.size, hlt, h.len⟩
set_option maxRecDepth 100000 in
theorem ptake_any (h : IsP w g U l at_) {x : Pc} (hx : l[at_]? = some x) : Calls Tryz.prog 118 #[.pointer (some ⟨g, 0, none⟩)] w fun e w' => e = .returned (.agg #[.int .i64 x.kind, .string x.text, .int .i64 x.line]) ∧ IsP w' g U l (at_ + 1) ∧ Keeps (fun i => i = g) w w' := by
  have H := Lib.hid h
  obtain ⟨a, c, hb, hs, hi⟩ := h.blk
  obtain ⟨c0, c1⟩ := hb.cells2
  have HB := Lib.hid hb
  have hlt : at_ < l.length := (List.getElem?_eq_some_iff.1 hx).1
  have hln := h.len
  have f0 := hb.frozen 0
  have f1 := hb.frozen 1
  obtain ⟨b, off, rfl, hbl, hc⟩ := pc_at hs hx
  obtain ⟨x0, x1, x2⟩ := hc w (Keeps.refl _ _)
  have hgl := hb.lt
  clear hx hc hb hs h hi
  go_enter Tryz.func118, Tryz.ntmps118
  go_wp2_with fail
  obtain ⟨w1, hw1⟩ : ∃ w1, w1 = w.alloc (.cells #[.int .i64 0, .string { data := #[] }, .int .i64 0] 192) := ⟨_, rfl⟩
  have k1 : Keeps (fun _ => False) w w1 := by rw [hw1]; exact (Keeps.refl _ _).alloc _
  have HZ1 := Lib.hid (show Blk w1 w.heap.size 192 #[.int .i64 0, .string { data := #[] }, .int .i64 0] by rw [hw1]; exact Blk.new _ _ _)
  rw [← hw1]
  have HB1 := Lib.hid (HB.out.keeps k1 id)
  obtain ⟨c0, c1⟩ := HB1.out.cells2
  have x0 := (World.cell?_of_block (w := w) (k1.block _ (block_lt_of_cell x0) id)).trans x0
  have x1 := (World.cell?_of_block (w := w) (k1.block _ (block_lt_of_cell x1) id)).trans x1
  have x2 := (World.cell?_of_block (w := w) (k1.block _ (block_lt_of_cell x2) id)).trans x2
  have HK1 := Lib.hid k1
  clear hw1 k1 f0 f1
  go_cut [3] (fun s3 wx => ∃ q : Nat, s3 = .pointer (some ⟨q, 0, none⟩) ∧ Hid (Blk wx q 192 #[.int .i64 x.kind, .string x.text, .int .i64 x.line] ∧ w1.heap.size ≤ q ∧ Keeps (fun _ => False) w1 wx))
  case first =>
    have ka : Keeps (fun _ => False) w1 (w1.alloc (.cells #[.int .i64 0, .string { data := #[] }, .int .i64 0] 192)) := (Keeps.refl _ _).alloc _
    have y0 := (World.cell?_of_block (w := w1) (ka.block _ (block_lt_of_cell c0) id)).trans c0
    have y1 := (World.cell?_of_block (w := w1) (ka.block _ (block_lt_of_cell c1) id)).trans c1
    have y2 := (World.cell?_of_block (w := w1) (ka.block _ (block_lt_of_cell x0) id)).trans x0
    have y3 := (World.cell?_of_block (w := w1) (ka.block _ (block_lt_of_cell x1) id)).trans x1
    have y4 := (World.cell?_of_block (w := w1) (ka.block _ (block_lt_of_cell x2) id)).trans x2
    clear ka
    go_region
    all_goals (go_wp2_with fail; go_meet)
    all_goals exact ⟨_, rfl, Lib.hid ⟨(Blk.new _ _ _).drew, Nat.le_refl _, by (repeat (first | (with_reducible assumption) | (with_reducible exact Keeps.refl _ _) | refine Keeps.drew ?_ | refine Keeps.drewN ?_ _ | refine Keeps.setCell ?_ (by simp) _ | refine Keeps.setRow ?_ (by simp) _ | refine Keeps.alloc ?_ _))⟩⟩
  case rest =>
    obtain ⟨q, rfl, HQ⟩ := hcut
    obtain ⟨⟨q0, q1, q2⟩, -⟩ := HQ.out.1.all3
    have hb2 := HB1.out.keeps HQ.out.2.2 id
    obtain ⟨c0, c1⟩ := hb2.cells2
    have f1 := hb2.frozen 1
    have HB2 := Lib.hid hb2
    have HZ2 := Lib.hid (HZ1.out.keeps HQ.out.2.2 id)
    have hqn := HQ.out.2.1
    have hz1 := HK1.out.size
    have hz2 := HZ1.out.lt
    clear hb2 x0 x1 x2
    go_upto_region 3 with (fail)
    obtain ⟨w3, hw3⟩ : ∃ w3, w3 = wc.setCell ⟨g, 1, none⟩ (.int .i64 ((at_ : Int) + 1)) := ⟨_, rfl⟩
    have k3 : Keeps (fun i => i = g) wc w3 := by rw [hw3]; exact (Keeps.refl (fun i => i = g) wc).setCell (p := ⟨g, 1, none⟩) (fun _ => rfl) _
    have HB3 := Lib.hid (show Blk w3 g 104 #[.slice (some ⟨b, off, none⟩) l.length c, .int .i64 ((at_ : Int) + 1)] by rw [hw3]; exact HB2.out.set_ 1 _)
    have hz3 := HZ2.out.keeps k3 (by omega)
    have hq3 := HQ.out.1.keeps k3 (by omega)
    obtain ⟨⟨q0, q1, q2⟩, -⟩ := hq3.all3
    obtain ⟨⟨z0, z1, z2⟩, zf0, zf1, zf2⟩ := hz3.all3
    rw [← hw3]
    have HZ3 := Lib.hid hz3
    have HK3 := Lib.hid (Keeps.and_ ((HK1.out.trans HQ.out.2.2).none_ (S := fun i => i = g)) k3 (fun _ _ h => h))
    clear hw3 k3 hz3 hq3 c0 c1 f1
    go_wp2_with fail
    refine ret_cell rfl w.heap.size 192 _ _ rfl (((HZ3.out.set_ 0 _).set_ 1 _).set_ 2 _) Tryz.underlying192 rfl (by kernel_rfl) rfl ?_
    have hks := (((Keeps.refl (fun i => i = w.heap.size) w3).setCell (p := ⟨w.heap.size, 0, none⟩) (fun _ => rfl) (.int .i64 x.kind)).setCell (p := ⟨w.heap.size, 1, none⟩) (fun _ => rfl) (.string x.text)).setCell (p := ⟨w.heap.size, 2, none⟩) (fun _ => rfl) (.int .i64 x.line)
    have hks2 := HK3.out.and_ hks (fun i hi e => by omega)
    exact ⟨rfl, H.out.step hlt hks2 (HB3.out.keeps hks (by omega)) HB.out, hks2⟩
end
end Go.Proofs.YtfpajgmdejlaeaaGreatDoor

/-
  tree: stop, args.
-/
namespace Go.Proofs.YtfpajgmdejlaeaaGreatDoor
open Go.RowKit

def stmtB : ByteArray := ⟨#[115, 116, 97, 116, 101, 109, 101, 110, 116]⟩
/-- given up, with a code and a line -/
def Gave (c n : Int) (e : Ending) (w' : World) : Prop := ∃ v, e = .panicked [{ v := v, recovered := false }] ∧ Chain w' [(n, stmtB)] c v
set_option maxRecDepth 100000 in
theorem pstop_any (w : World) (c n : Int) (hc : c ≠ 0) : Calls Tryz.prog 116 #[.int .i64 c, .int .i64 n] w fun e w' => Gave c n e w' ∧ Keeps (fun _ => False) w w' := by
  go_enter Tryz.func116, Tryz.ntmps116
  go_wp2_with fail
  refine (new_flt w c n _ hc).mono ?_
  rintro e w' ⟨rfl, hw⟩
  have HW := Lib.hid hw
  clear hw
  go_wp2_with fail
  refine ⟨rfl, ⟨_, rfl, ?_⟩, ?_⟩
  · rw [HW.out]
    exact .layer _ _ _ _ _ _ (Blk.new _ _ _) (.kind c)
  · rw [HW.out]
    exact (Keeps.refl _ _).alloc _
/-- newer blocks are written -/
theorem IsP.far {w w' : World} {g U : Nat} {l : List Pc} {at_ : Nat} (h : IsP w g U l at_) {S : Nat → Prop} (k : Keeps S w w') (hS : ∀ i, S i → U ≤ i) : IsP w' g U l at_ := by
  obtain ⟨a, c, h1, h2, h3⟩ := h.blk
  have h4 := h.lt
  exact ⟨⟨a, c, h1.keeps k (fun e => by have := hS _ e; omega), h2.keepsS h3 k (fun i _ hi e => by have := hS _ e; omega), h3⟩, h.lt, Nat.le_trans h.up k.size, h.le, h.len⟩
/-- behind an act of a parser at g: what it hands back, the parser further on; or it gave up -/
def ParsPost {α : Type} (O : (Int × Int) ⊕ (α × List Pc)) (R : Value → α → World → Prop) (w : World) (g U : Nat) (l : List Pc) (e : Ending) (w' : World) : Prop :=
  (∀ x t, O = .inr (x, t) → ∃ v at', e = .returned v ∧ R v x w' ∧ IsP w' g U l at' ∧ l.drop at' = t) ∧ (∀ c n, O = .inl (c, n) → Gave c n e w') ∧ Keeps (fun i => i = g) w w'
theorem ParsPost.ok {α : Type} {O : (Int × Int) ⊕ (α × List Pc)} {R : Value → α → World → Prop} {w w' : World} {g U : Nat} {l : List Pc} {x : α} {t : List Pc} {v : Value} {at' : Nat} (hO : O = .inr (x, t)) (hR : R v x w') (hp : IsP w' g U l at') (ht : l.drop at' = t) (k : Keeps (fun i => i = g) w w') : ParsPost O R w g U l (.returned v) w' := by
  refine ⟨fun x' t' h => ?_, fun c n h => ?_, k⟩
  · rw [hO] at h
    injection h with h
    injection h with h1 h2
    subst h1 h2
    exact ⟨v, at', rfl, hR, hp, ht⟩
  · rw [hO] at h; cases h
theorem ParsPost.gave {α : Type} {O : (Int × Int) ⊕ (α × List Pc)} {R : Value → α → World → Prop} {w w' : World} {g U : Nat} {l : List Pc} {c n : Int} {e : Ending} (hO : O = .inl (c, n)) (hG : Gave c n e w') (k : Keeps (fun i => i = g) w w') : ParsPost O R w g U l e w' := by
  refine ⟨fun x' t' h => ?_, fun c' n' h => ?_, k⟩
  · rw [hO] at h; cases h
  · rw [hO] at h
    injection h with h
    injection h with h1 h2
    subst h1 h2
    exact hG
theorem drop_at_cons {l : List Pc} {i : Nat} {x : Pc} {t : List Pc} (h : l.drop i = x :: t) : l[i]? = some x ∧ l.drop (i + 1) = t := by
  have h1 : (l.drop i)[0]? = some x := by rw [h]; rfl
  rw [List.getElem?_drop, Nat.add_zero] at h1
  refine ⟨h1, ?_⟩
  have := drop_pc h1
  rw [h] at this
  injection this with _ this
  exact this.symm
set_option maxRecDepth 100000 in
theorem field_text (k n : Int) (s : ByteArray) (w : World) : (Instr.field 192 (.agg #[.int .i64 k, .string s, .int .i64 n]) 1).run Tryz.prog w = .ok (.string s) w := by
  unfold Instr.field
  rw [Sem.run_bind, run_underlying Tryz.underlying192]
  rfl
section
variable {w w' : World} {g U : Nat} {l : List Pc} {at_ : Nat}
set_option maxRecDepth 100000 in
set_option maxHeartbeats 1000000 in
theorem pargs_any (h : IsP w g U l at_) : Calls Tryz.prog 119 #[.pointer (some ⟨g, 0, none⟩)] w (ParsPost (argsP [] (l.drop at_)) (fun v x W => OwnL W w.heap.size 9 v (x.map Value.string)) w g U l) := by
  obtain ⟨O, hO⟩ : ∃ O, O = argsP [] (l.drop at_) := ⟨_, rfl⟩
  rw [← hO]
  have HO := Lib.hid hO
  have H := Lib.hid h
  have hgl : g < w.heap.size := by obtain ⟨a, c, hb, -⟩ := h.blk; exact hb.lt
  clear hO h
  go_enter Tryz.func119, Tryz.ntmps119
  go_wp2_with fail
  go_loopg [3] (l.length - at_) (fun k u wr => ∃ (j : Nat) (acc : List ByteArray), k = l.length - j ∧ OwnL wr w.heap.size 9 u (acc.map Value.string) ∧ acc.length ≤ 16 ∧ IsP wr g U l j ∧ argsP acc (l.drop j) = O ∧ Keeps (fun i => i = g) w wr)
  case atStart => exact ⟨at_, [], rfl, OwnL.none_ _ _ _, Nat.zero_le _, H.out, HO.out.symm, Keeps.refl _ _⟩
  case round =>
    obtain ⟨j, acc, rfl, hO3, hacc, hP, hAR, hK⟩ := hrel
    obtain ⟨av, cv, rfl⟩ := hO3.sl'
    rw [List.length_map] at hO3 ⊢
    have HO3 := Lib.hid hO3
    have HP := Lib.hid hP
    have HAR := Lib.hid hAR
    have HK := Lib.hid hK
    have hjl := hP.le
    have hKD := fun W (kk : Keeps (fun _ => False) wr W) => pkind_any (hP.same kk)
    clear hO3 hP hAR hK
    cases hd : l.drop j with
    | nil =>
      rw [hd] at hKD
      unfold kindP at hKD
      simp only at hKD
      have HKD := Lib.hid hKD
      have HEND := Lib.hid (show O = .inr (acc, []) by rw [← HAR.out, hd, argsP])
      have HD := Lib.hid hd
      clear hKD hd
      go_wp2_with fail
      refine (HKD.out _ (Keeps.refl _ _)).mono ?_
      rintro e w2 ⟨rfl, k2⟩
      have HK2 := Lib.hid k2
      clear k2
      go_wp2_with fail
      refine (HKD.out _ HK2.out).mono ?_
      rintro e w3 ⟨rfl, k3⟩
      have HK3 := Lib.hid (HK2.out.trans k3)
      clear k3
      go_wp2_with fail
      go_ret
      exact .ok HEND.out (HO3.out.keeps HK3.out (fun _ _ _ => id)) (HP.out.same HK3.out) HD.out (HK.out.and_ HK3.out (fun _ _ h => h.elim))
    | cons x tt =>
      obtain ⟨hx, hdt⟩ := drop_at_cons hd
      have hjlt : j < l.length := (List.getElem?_eq_some_iff.1 hx).1
      rw [hd] at hKD
      unfold kindP at hKD
      simp only at hKD
      have HKD := Lib.hid hKD
      have HX := Lib.hid hx
      have HDT := Lib.hid hdt
      have har := HAR.out
      rw [hd, argsP] at har
      have HAR2 := Lib.hid har
      have HD := Lib.hid hd
      clear hKD hx hdt har hd
      by_cases hk : x.kind = 1 ∨ x.kind = 2
      · have har := HAR2.out
        rw [if_pos hk] at har
        have HAR3 := Lib.hid har
        clear har
        rcases hk with hk | hk
        · rw [hk] at HKD
          go_wp2_with fail
          refine (HKD.out _ (Keeps.refl _ _)).mono ?_
          rintro e w2 ⟨rfl, k2⟩
          have HK2 := Lib.hid k2
          clear k2 hk
          by_cases h16 : acc.length = 16
          · have har := HAR3.out
            rw [if_pos h16] at har
            have HEND := Lib.hid har.symm
            have hbe : ((acc.length : Int) == 16) = true := by rw [beq_iff_eq]; omega
            clear har h16
            go_wp2_with fail
            refine (pline_any (HP.out.same HK2.out)).mono ?_
            rintro e w3 ⟨rfl, k3⟩
            rw [HD.out]
            unfold lineP
            simp only
            have HK3 := Lib.hid (HK2.out.trans k3)
            clear k3
            go_wp2_with fail
            refine (pstop_any w3 15 x.line (by decide)).mono ?_
            rintro e w4 ⟨⟨v4, rfl, h4⟩, k4⟩
            have HG := Lib.hid h4
            have HK4 := Lib.hid (HK3.out.trans k4)
            clear h4 k4
            go_wp2_with fail
            exact ⟨rfl, .gave HEND.out ⟨_, rfl, HG.out⟩ (HK.out.and_ HK4.out (fun _ _ h => h.elim))⟩
          · have har := HAR3.out
            rw [if_neg h16] at har
            have HAR4 := Lib.hid har
            have hbe : ((acc.length : Int) == 16) = false := by rw [beq_eq_false_iff_ne]; omega
            have hacc2 : acc.length ≤ 15 := by omega
            clear har h16
            go_wp2_with fail
            refine (ptake_any (HP.out.same HK2.out) HX.out).mono ?_
            rintro e w3 ⟨rfl, P3, k3⟩
            have HP3 := Lib.hid P3
            have HK3 := Lib.hid ((HK.out.and_ HK2.out (fun _ _ h => h.elim)).trans k3)
            have HO4 := Lib.hid (OwnL.keeps (HO3.out.keeps HK2.out (fun _ _ _ => id)) k3 (fun i hi _ e => by omega))
            have hft := field_text x.kind x.line x.text
            have hz3 := HK3.out.size
            clear P3 k3
            go_wp2_with (with_reducible show wpList _ _ _ (⟨some 23, _, _, _, _, _⟩ :: _) _ _; go_must (refine wpList_append_onet rfl (.tmp 18) (.tmp 22) 58 rfl w.heap.size 9 (.string ⟨#[]⟩) 16 Tryz.underlying58 (by kernel_rfl) rfl (by omega) (.slice av acc.length cv) (acc.map Value.string) rfl (OwnL.keeps (S := fun _ => False) HO4.out ((Keeps.refl _ _).alloc _) (fun _ _ _ => id)) ⟨w3.heap.size, 0, none⟩ 1 (.string x.text) rfl (by go_simp) rfl (by rw [List.length_map]; omega) (by simp; omega) ?_; intro v7 w7 O7 k7; have HO7 := Lib.hid O7; have HK7 := Lib.hid k7; clear O7 k7))
            have hk7 : Keeps (fun i => i = g) w w7 := (HK3.out.alloc _).and_ HK7.out (fun i hi e => by have := e.1; omega)
            have hp7 : IsP w7 g U l (j + 1) := (HP3.out.same ((Keeps.refl _ _).alloc _)).far HK7.out (fun i hi => by have := hi.1; have := H.out.up; omega)
            go_roundg (l.length - (j + 1))
            case rel => exact ⟨j + 1, acc ++ [x.text], rfl, by rw [List.map_append]; exact HO7.out, by rw [List.length_append]; simp only [List.length_cons, List.length_nil]; omega, hp7, by rw [HDT.out]; exact HAR4.out, hk7⟩
            all_goals omega
        · rw [hk] at HKD
          go_wp2_with fail
          refine (HKD.out _ (Keeps.refl _ _)).mono ?_
          rintro e w1 ⟨rfl, k1⟩
          have HK1 := Lib.hid k1
          clear k1
          go_wp2_with fail
          refine (HKD.out _ HK1.out).mono ?_
          rintro e w2 ⟨rfl, k2⟩
          have HK2 := Lib.hid (HK1.out.trans k2)
          clear k2 hk
          by_cases h16 : acc.length = 16
          · have har := HAR3.out
            rw [if_pos h16] at har
            have HEND := Lib.hid har.symm
            have hbe : ((acc.length : Int) == 16) = true := by rw [beq_iff_eq]; omega
            clear har h16
            go_wp2_with fail
            refine (pline_any (HP.out.same HK2.out)).mono ?_
            rintro e w3 ⟨rfl, k3⟩
            rw [HD.out]
            unfold lineP
            simp only
            have HK3 := Lib.hid (HK2.out.trans k3)
            clear k3
            go_wp2_with fail
            refine (pstop_any w3 15 x.line (by decide)).mono ?_
            rintro e w4 ⟨⟨v4, rfl, h4⟩, k4⟩
            have HG := Lib.hid h4
            have HK4 := Lib.hid (HK3.out.trans k4)
            clear h4 k4
            go_wp2_with fail
            exact ⟨rfl, .gave HEND.out ⟨_, rfl, HG.out⟩ (HK.out.and_ HK4.out (fun _ _ h => h.elim))⟩
          · have har := HAR3.out
            rw [if_neg h16] at har
            have HAR4 := Lib.hid har
            have hbe : ((acc.length : Int) == 16) = false := by rw [beq_eq_false_iff_ne]; omega
            have hacc2 : acc.length ≤ 15 := by omega
            clear har h16
            go_wp2_with fail
            refine (ptake_any (HP.out.same HK2.out) HX.out).mono ?_
            rintro e w3 ⟨rfl, P3, k3⟩
            have HP3 := Lib.hid P3
            have HK3 := Lib.hid ((HK.out.and_ HK2.out (fun _ _ h => h.elim)).trans k3)
            have HO4 := Lib.hid (OwnL.keeps (HO3.out.keeps HK2.out (fun _ _ _ => id)) k3 (fun i hi _ e => by omega))
            have hft := field_text x.kind x.line x.text
            have hz3 := HK3.out.size
            clear P3 k3
            go_wp2_with (with_reducible show wpList _ _ _ (⟨some 23, _, _, _, _, _⟩ :: _) _ _; go_must (refine wpList_append_onet rfl (.tmp 18) (.tmp 22) 58 rfl w.heap.size 9 (.string ⟨#[]⟩) 16 Tryz.underlying58 (by kernel_rfl) rfl (by omega) (.slice av acc.length cv) (acc.map Value.string) rfl (OwnL.keeps (S := fun _ => False) HO4.out ((Keeps.refl _ _).alloc _) (fun _ _ _ => id)) ⟨w3.heap.size, 0, none⟩ 1 (.string x.text) rfl (by go_simp) rfl (by rw [List.length_map]; omega) (by simp; omega) ?_; intro v7 w7 O7 k7; have HO7 := Lib.hid O7; have HK7 := Lib.hid k7; clear O7 k7))
            have hk7 : Keeps (fun i => i = g) w w7 := (HK3.out.alloc _).and_ HK7.out (fun i hi e => by have := e.1; omega)
            have hp7 : IsP w7 g U l (j + 1) := (HP3.out.same ((Keeps.refl _ _).alloc _)).far HK7.out (fun i hi => by have := hi.1; have := H.out.up; omega)
            go_roundg (l.length - (j + 1))
            case rel => exact ⟨j + 1, acc ++ [x.text], rfl, by rw [List.map_append]; exact HO7.out, by rw [List.length_append]; simp only [List.length_cons, List.length_nil]; omega, hp7, by rw [HDT.out]; exact HAR4.out, hk7⟩
            all_goals omega
      · have h1 : (x.kind == 1) = false := by rw [beq_eq_false_iff_ne]; exact fun h => hk (.inl h)
        have h2 : (x.kind == 2) = false := by rw [beq_eq_false_iff_ne]; exact fun h => hk (.inr h)
        have HEND := Lib.hid (show O = .inr (acc, x :: tt) by have := HAR2.out; rw [if_neg hk] at this; exact this.symm)
        clear hk
        go_wp2_with fail
        refine (HKD.out _ (Keeps.refl _ _)).mono ?_
        rintro e w2 ⟨rfl, k2⟩
        have HK2 := Lib.hid k2
        clear k2
        go_wp2_with fail
        refine (HKD.out _ HK2.out).mono ?_
        rintro e w3 ⟨rfl, k3⟩
        have HK3 := Lib.hid (HK2.out.trans k3)
        clear k3
        go_wp2_with fail
        go_ret
        exact .ok HEND.out (HO3.out.keeps HK3.out (fun _ _ _ => id)) (HP.out.same HK3.out) HD.out (HK.out.and_ HK3.out (fun _ _ h => h.elim))
end
end Go.Proofs.YtfpajgmdejlaeaaGreatDoor

/-
  tree: one statement.
-/
namespace Go.Proofs.YtfpajgmdejlaeaaGreatDoor
open Go.RowKit

theorem Blk.all5 {w : World} {g : Nat} {t : TypeId} {a b c d e : Value} (h : Blk w g t #[a, b, c, d, e]) : (w.cell? ⟨g, 0, none⟩ = some a ∧ w.cell? ⟨g, 1, none⟩ = some b ∧ w.cell? ⟨g, 2, none⟩ = some c ∧ w.cell? ⟨g, 3, none⟩ = some d ∧ w.cell? ⟨g, 4, none⟩ = some e) ∧ w.frozen? ⟨g, 0, none⟩ = false ∧ w.frozen? ⟨g, 1, none⟩ = false ∧ w.frozen? ⟨g, 2, none⟩ = false ∧ w.frozen? ⟨g, 3, none⟩ = false ∧ w.frozen? ⟨g, 4, none⟩ = false :=
  ⟨⟨h.cell 0, h.cell 1, h.cell 2, h.cell 3, h.cell 4⟩, h.frozen 0, h.frozen 1, h.frozen 2, h.frozen 3, h.frozen 4⟩
/-- a node handed back: its cells mean the statement, its rows lie in blocks from B on -/
def NdBack (B : Nat) (v : Value) (x : Nd) (W : World) : Prop := ∃ r S, v = .agg (ndR r).toArray ∧ NdM W S x r ∧ ∀ i, S i → B ≤ i ∧ i < W.heap.size
def NdsBack (B : Nat) (v : Value) (xs : List Nd) (W : World) : Prop := ∃ S, NdsAt W S v xs ∧ ∀ i, S i → B ≤ i ∧ i < W.heap.size
theorem OwnL.strs {W : World} {B : Nat} {e : TypeId} {a : Option Addr} {c n : Nat} {l : List ByteArray} (h : OwnL W B e (.slice a n c) (l.map Value.string)) (hn : n = l.length) : SlAt strR 1 W a n l ∧ InS (fun i => B ≤ i ∧ i < W.heap.size) a n ∧ n ≤ c ∧ c ≤ maxLen := by
  obtain ⟨a2, c2, hv, h1, h2, h3, h4⟩ := h.shape
  rw [List.length_map] at hv h1 h3
  injection hv with e1 e2 e3
  subst e1 e3 hn
  refine ⟨⟨rfl, fun hp => ?_⟩, fun hp => ?_, h1, h2⟩
  · obtain ⟨g, ha, hg, hlt⟩ := h3 hp
    refine ⟨g, 0, ha, hlt, fun i x j v hx hv => ?_⟩
    have hj : j < 1 := (List.getElem?_eq_some_iff.1 hv).1
    obtain rfl : j = 0 := by omega
    have hv2 : Value.string x = v := by simpa [strR] using hv
    subst hv2
    have := (h4 g ha i (.string x) (by rw [List.getElem?_map, hx]; rfl)).1
    rw [Nat.zero_add, Nat.mul_one, Nat.add_zero]
    exact this
  · obtain ⟨g, ha, hg, hlt⟩ := h3 hp
    exact ⟨g, 0, ha, hg, hlt⟩
theorem nd_back {W : World} {B : Nat} {e : TypeId} {k : ByteArray} {as_ : List ByteArray} {aa la : Option Addr} {ac lc : Nat} {b : Bool} {xs : List Nd} {line : Int} (ha : OwnL W B e (.slice aa as_.length ac) (as_.map Value.string)) (hl : NdsBack B (.slice la xs.length lc) xs W) :
    NdBack B (.agg #[.string k, .slice aa as_.length ac, .bool b, .slice la xs.length lc, .int .i64 line]) (.mk k as_ b xs line) W := by
  obtain ⟨S, ⟨a2, c2, rs, hv, h1, h2, h3, h4, h5⟩, hS⟩ := hl
  injection hv with e1 e2 e3
  subst e1 e3
  obtain ⟨s1, s2, s3, s4⟩ := ha.strs rfl
  refine ⟨⟨k, aa, as_.length, ac, b, la, xs.length, lc, line⟩, fun i => B ≤ i ∧ i < W.heap.size, rfl, ?_, fun i h => h⟩
  rw [NdM]
  exact ⟨rfl, rfl, rfl, ⟨s1, s2, s3, s4⟩, rs, h1, h2.mono hS, h3, h4, NdAll.mono hS _ _ h5⟩
theorem NdsBack.keeps {B : Nat} {W W' : World} {v : Value} {xs : List Nd} {T : Nat → Prop} (h : NdsBack B v xs W) (k : Keeps T W W') (hT : ∀ i, B ≤ i → ¬ T i) : NdsBack B v xs W' := by
  obtain ⟨S, h1, h2⟩ := h
  exact ⟨S, h1.keeps k (fun i _ hi => hT i (h2 i hi).1), fun i hi => ⟨(h2 i hi).1, Nat.lt_of_lt_of_le (h2 i hi).2 k.size⟩⟩
theorem NdsBack.more {B B' : Nat} {W : World} {v : Value} {xs : List Nd} (h : NdsBack B v xs W) (hB : B' ≤ B) : NdsBack B' v xs W := by
  obtain ⟨S, h1, h2⟩ := h
  exact ⟨S, h1, fun i hi => ⟨Nat.le_trans hB (h2 i hi).1, (h2 i hi).2⟩⟩
theorem NdsBack.sl {B : Nat} {W : World} {v : Value} {xs : List Nd} (h : NdsBack B v xs W) : ∃ a c, v = .slice a xs.length c := by
  obtain ⟨S, h1, h2⟩ := h
  obtain ⟨a, c, hv, -⟩ := h1.sl
  exact ⟨a, c, hv⟩
theorem Keeps.set5 (W : World) (g : Nat) (a b c d e : Value) : Keeps (fun i => i = g) W (((((W.setCell ⟨g, 0, none⟩ a).setCell ⟨g, 1, none⟩ b).setCell ⟨g, 2, none⟩ c).setCell ⟨g, 3, none⟩ d).setCell ⟨g, 4, none⟩ e) :=
  (((((Keeps.refl _ _).setCell (by simp) _).setCell (by simp) _).setCell (by simp) _).setCell (by simp) _).setCell (by simp) _
theorem Keeps.set1 (W : World) (g i : Nat) (a : Value) : Keeps (fun k => k = g) W (W.setCell ⟨g, i, none⟩ a) := (Keeps.refl _ _).setCell (by simp) _
theorem NdsBack.none_ {B : Nat} {W : World} : NdsBack B (.slice none 0 0) [] W := ⟨fun _ => False, NdsAt.none_, fun _ h => h.elim⟩
section
variable {w w' : World} {g U : Nat} {l : List Pc} {at_ : Nat}
set_option maxRecDepth 100000 in
set_option maxHeartbeats 2000000 in
theorem pone_any (depth : Nat) (hdep : depth ≤ 4) (go : List Pc → (Int × Int) ⊕ (List Nd × List Pc)) (h : IsP w g U l at_)
    (H4 : ∀ j xs t3, j ≤ l.length → at_ < j → go (l.drop j) = .inr (xs, t3) → kindP t3 = 4)
    (IH : depth < 4 → ∀ W j, IsP W g U l j → at_ < j → Calls Tryz.prog 47 #[.pointer (some ⟨g, 0, none⟩), .int .i64 ((depth : Int) + 1)] W (ParsPost (go (l.drop j)) (fun v xs W' => NdsBack W.heap.size v xs W') W g U l)) :
    Calls Tryz.prog 85 #[.pointer (some ⟨g, 0, none⟩), .int .i64 depth] w (ParsPost (oneP_t (lastP l) go depth (l.drop at_)) (fun v x W => NdBack w.heap.size v x W) w g U l) := by
  obtain ⟨O, hO⟩ : ∃ O, O = oneP_t (lastP l) go depth (l.drop at_) := ⟨_, rfl⟩
  rw [← hO]
  have HO := Lib.hid hO
  have H := Lib.hid h
  have HI := Lib.hid IH
  have HH4 := Lib.hid H4
  have hgl : g < U := h.lt
  have hup := h.up
  have k1 : Keeps (fun _ => False) w (w.alloc (.cells #[.string { data := #[] }, .slice none 0 0, .bool false, .slice none 0 0, .int .i64 0] 60)) := (Keeps.refl _ _).alloc _
  have HK1 := Lib.hid k1
  have HP1 := Lib.hid (h.same k1)
  have HKD := Lib.hid (pkind_any (h.same k1))
  clear hO h IH k1 H4
  go_enter Tryz.func85, Tryz.ntmps85
  go_wp2_with fail
  refine HKD.out.mono ?_
  rintro e w2 ⟨rfl, k2⟩
  have HP2 := Lib.hid (HP1.out.same k2)
  have HZ2 := Lib.hid ((Blk.new w 60 #[.string { data := #[] }, .slice none 0 0, .bool false, .slice none 0 0, .int .i64 0]).keeps k2 id)
  have HK2 := Lib.hid (HK1.out.trans k2)
  clear k2 HKD
  cases hd : l.drop at_ with
  | nil =>
    have HEND := Lib.hid (show O = .inl (3, lastP l) by rw [HO.out, hd]; rfl)
    have HD := Lib.hid hd
    unfold kindP
    simp only
    clear hd
    go_wp2_with fail
    refine (pline_any HP2.out).mono ?_
    rintro e w3 ⟨rfl, k3⟩
    rw [HD.out]
    unfold lineP
    simp only
    have HK3 := Lib.hid (HK2.out.trans k3)
    clear k3
    go_wp2_with fail
    refine (pstop_any w3 3 _ (by decide)).mono ?_
    rintro e w4 ⟨⟨v4, rfl, h4⟩, k4⟩
    have HG := Lib.hid h4
    have HK4 := Lib.hid (HK3.out.trans k4)
    clear h4 k4
    go_wp2_with fail
    exact ⟨rfl, .gave HEND.out ⟨_, rfl, HG.out⟩ (HK4.out.mono (fun _ _ h => h.elim))⟩
  | cons x tt =>
    obtain ⟨hx, hdt⟩ := drop_at_cons hd
    have HX := Lib.hid hx
    have HDT := Lib.hid hdt
    have HD := Lib.hid hd
    have hoo := HO.out
    rw [hd, oneP_t] at hoo
    have HOO := Lib.hid hoo
    unfold kindP
    simp only
    clear hx hdt hd hoo
    by_cases hk : x.kind = 1
    · rw [hk]
      have hoo := HOO.out
      rw [if_neg (by simp [hk])] at hoo
      have HOO2 := Lib.hid hoo
      have HT := Lib.hid (ptake_any HP2.out HX.out)
      clear hoo
      go_wp2_with fail
      refine HT.out.mono ?_
      rintro e w3 ⟨rfl, P3, k3⟩
      have HP3 := Lib.hid P3
      have HK3 := Lib.hid (Keeps.and_ (S := fun i => i = g) (HK2.out.mono (fun _ _ h => h.elim)) k3 (fun _ _ h => h))
      have HZ3 := Lib.hid (HZ2.out.keeps k3 (by omega))
      have hz3 := k3.size
      have hz2 := HK2.out.size
      clear P3 k3 HT
      go_upto_region 4 with (fail)
      obtain ⟨wa, hwa⟩ : ∃ wa, wa = w3.alloc (.cells #[.int .i64 1, .string x.text, .int .i64 x.line] 192) := ⟨_, rfl⟩
      have ka : Keeps (fun _ => False) w3 wa := by rw [hwa]; exact (Keeps.refl _ _).alloc _
      have hxa : Blk wa w3.heap.size 192 #[.int .i64 1, .string x.text, .int .i64 x.line] := by rw [hwa]; exact Blk.new _ _ _
      have HXA := Lib.hid hxa
      have HPA := Lib.hid (HP3.out.same ka)
      have HZA := Lib.hid (HZ3.out.keeps ka id)
      have HKA := Lib.hid (HK3.out.trans ka.none_)
      have hsa := ka.size
      obtain ⟨xb, hxb⟩ : ∃ xb, xb = w3.heap.size := ⟨_, rfl⟩
      have hxl := hxa.lt
      rw [← hxb] at HXA hxl ⊢
      rw [← hwa]
      have hxg : w.heap.size ≤ xb := by omega
      have hcx1 : ∀ W, Keeps (fun i => i = g) wa W → W.cell? ⟨xb, 1, none⟩ = some (.string x.text) := fun W kk => (HXA.out.keeps kk (by omega)).cells3.2.1
      have hcx2 : ∀ W, Keeps (fun i => i = g) wa W → W.cell? ⟨xb, 2, none⟩ = some (.int .i64 x.line) := fun W kk => (HXA.out.keeps kk (by omega)).cells3.2.2
      have hla : w.heap.size ≤ wa.heap.size := by omega
      clear hwa ka hxa hxb
      have HA := Lib.hid (fun W (kk : Keeps (fun _ => False) wa W) => pargs_any (HPA.out.same kk))
      rw [HDT.out] at HA
      cases ha : argsP [] tt with
      | inl ee =>
        obtain ⟨c, n⟩ := ee
        rw [ha] at HA
        have HEND := Lib.hid (show O = .inl (c, n) by rw [HOO2.out, ha])
        clear ha
        refine wp_region_held_drew (S := fun W => W.cell? ⟨xb, 1, none⟩ = some (.string x.text) ∧ W.cell? ⟨xb, 2, none⟩ = some (.int .i64 x.line) ∧ Keeps (fun _ => False) wa W) (by kernel_rfl) ⟨hcx1 _ ((Keeps.refl _ _).drew), hcx2 _ ((Keeps.refl _ _).drew), (Keeps.refl _ _).drew⟩ (fun hHeld => ?_)
        refine wpAnyH_take (i := 0) (v := .pointer (some ⟨xb, 1, none⟩)) rfl (by kernel_rfl) (by kernel_rfl) (by kernel_rfl) (fun _ _ _ h => h) (Or.inl ⟨by rfl, ?_⟩) (by assumption) ?_
        · intro w hSw
          obtain ⟨hS1, hS2, -⟩ := hSw
          go_simp
        simp only [Act.put, List.setIfInBounds_toArray]
        refine wpAnyH_take (i := 1) (v := .string x.text) rfl (by kernel_rfl) (by kernel_rfl) (by kernel_rfl) (fun _ _ _ h => h) (Or.inl ⟨by rfl, ?_⟩) (by assumption) ?_
        · intro w hSw
          obtain ⟨hS1, hS2, -⟩ := hSw
          go_simp
        simp only [Act.put]
        refine wpAnyH_take (i := 2) (v := .pointer (some ⟨xb, 2, none⟩)) rfl (by kernel_rfl) (by kernel_rfl) (by kernel_rfl) (fun _ _ _ h => h) (Or.inl ⟨by rfl, ?_⟩) (by assumption) ?_
        · intro w hSw
          obtain ⟨hS1, hS2, -⟩ := hSw
          go_simp
        simp only [Act.put]
        refine wpAnyH_take (i := 3) (v := .int .i64 x.line) rfl (by kernel_rfl) (by kernel_rfl) (by kernel_rfl) (fun _ _ _ h => h) (Or.inl ⟨by rfl, ?_⟩) (by assumption) ?_
        · intro w hSw
          obtain ⟨hS1, hS2, -⟩ := hSw
          go_simp
        simp only [Act.put]
        refine wpAnyH_take (i := 4) (v := .pointer (some ⟨g, 0, none⟩)) rfl (by kernel_rfl) (by kernel_rfl) (by kernel_rfl) (fun _ _ _ h => h) (Or.inl ⟨by rfl, ?_⟩) (by assumption) ?_
        · intro w hSw
          obtain ⟨hS1, hS2, -⟩ := hSw
          go_simp
        simp only [Act.put]
        refine wpAnyH_ready (rs := [5, 7]) (by kernel_rfl) (by simp) ?_
        refine AllReadyH.cons rfl (fun K hK => ?_) ?_
        · clear hK
          go_simp
          refine (HA.out _ ((Keeps.refl _ _).drew)).mono ?_
          rintro e w5 ⟨-, hgv, k5⟩
          obtain ⟨v5, rfl, h5⟩ := hgv _ _ rfl
          exact ⟨rfl, .gave HEND.out ⟨_, rfl, h5⟩ ((HKA.out.trans ((Keeps.refl _ _).drew)).trans k5)⟩
        · refine AllReadyH.cons rfl (fun K hK => ?_) AllReadyH.nil
          go_simp
          have kc : Keeps (fun _ => False) wa (wa.drew.alloc (.cells #[.string { data := #[] }, .slice none 0 0, .bool false, .slice none 0 0, .int .i64 0] 60)) := ((Keeps.refl _ _).drew).alloc _
          refine hK.out _ _ ⟨hcx1 _ (Keeps.none_ kc), hcx2 _ (Keeps.none_ kc), kc⟩ (fun hHeld => ?_)
          clear hK K
          refine wpAnyH_ready (rs := [5]) (by kernel_rfl) (by simp) ?_
          refine AllReadyH.cons rfl (fun K hK => ?_) AllReadyH.nil
          clear hK
          go_simp
          refine (HA.out _ kc).mono ?_
          rintro e w5 ⟨-, hgv, k5⟩
          obtain ⟨v5, rfl, h5⟩ := hgv _ _ rfl
          exact ⟨rfl, .gave HEND.out ⟨_, rfl, h5⟩ ((HKA.out.trans (Keeps.none_ kc)).trans k5)⟩
      | inr p =>
        obtain ⟨ar, t2⟩ := p
        rw [ha] at HA
        have hoo := HOO2.out
        rw [ha] at hoo
        have HO3 := Lib.hid hoo
        have har16 := argsP_many _ _ _ _ (Nat.zero_le _) ha
        have hjlt : ∀ j, j ≤ l.length → l.drop j = t2 → at_ < j := fun j hj hd => by
          have h1 := argsP_len _ _ _ _ ha
          have h2 : (l.drop at_).length = tt.length + 1 := by rw [HD.out]; rfl
          have h3 : (l.drop j).length = t2.length := by rw [hd]
          rw [List.length_drop] at h2 h3
          omega
        clear ha hoo
        go_cut [6] (fun s6 wx => ∃ (q : Nat), s6 = .pointer (some ⟨q, 0, none⟩) ∧ Hid (∃ (aa : Option Addr) (ac j : Nat), Blk wx q 60 #[.string x.text, .slice aa ar.length ac, .bool false, .slice none 0 0, .int .i64 x.line] ∧ OwnL wx wa.heap.size 9 (.slice aa ar.length ac) (ar.map Value.string) ∧ IsP wx g U l j ∧ at_ < j ∧ l.drop j = t2 ∧ wa.heap.size ≤ q ∧ Keeps (fun i => i = g) wa wx))
        case first =>
          as_aux_lemma =>
          have hga : g < wa.heap.size := by omega
          refine wp_region_held_drew (S := fun W => W.cell? ⟨xb, 1, none⟩ = some (.string x.text) ∧ W.cell? ⟨xb, 2, none⟩ = some (.int .i64 x.line) ∧ Keeps (fun i => i = g) wa W) (by kernel_rfl) ⟨hcx1 _ ((Keeps.refl _ _).drew), hcx2 _ ((Keeps.refl _ _).drew), (Keeps.refl _ _).drew⟩ (fun hHeld => ?_)
          refine wpAnyH_take (i := 0) (v := .pointer (some ⟨xb, 1, none⟩)) rfl (by kernel_rfl) (by kernel_rfl) (by kernel_rfl) (fun _ _ _ h => h) (Or.inl ⟨by rfl, ?_⟩) (by assumption) ?_
          · intro w hSw
            obtain ⟨hS1, hS2, -⟩ := hSw
            go_simp
          simp only [Act.put, List.setIfInBounds_toArray]
          refine wpAnyH_take (i := 1) (v := .string x.text) rfl (by kernel_rfl) (by kernel_rfl) (by kernel_rfl) (fun _ _ _ h => h) (Or.inl ⟨by rfl, ?_⟩) (by assumption) ?_
          · intro w hSw
            obtain ⟨hS1, hS2, -⟩ := hSw
            go_simp
          simp only [Act.put]
          refine wpAnyH_take (i := 2) (v := .pointer (some ⟨xb, 2, none⟩)) rfl (by kernel_rfl) (by kernel_rfl) (by kernel_rfl) (fun _ _ _ h => h) (Or.inl ⟨by rfl, ?_⟩) (by assumption) ?_
          · intro w hSw
            obtain ⟨hS1, hS2, -⟩ := hSw
            go_simp
          simp only [Act.put]
          refine wpAnyH_take (i := 3) (v := .int .i64 x.line) rfl (by kernel_rfl) (by kernel_rfl) (by kernel_rfl) (fun _ _ _ h => h) (Or.inl ⟨by rfl, ?_⟩) (by assumption) ?_
          · intro w hSw
            obtain ⟨hS1, hS2, -⟩ := hSw
            go_simp
          simp only [Act.put]
          refine wpAnyH_take (i := 4) (v := .pointer (some ⟨g, 0, none⟩)) rfl (by kernel_rfl) (by kernel_rfl) (by kernel_rfl) (fun _ _ _ h => h) (Or.inl ⟨by rfl, ?_⟩) (by assumption) ?_
          · intro w hSw
            obtain ⟨hS1, hS2, -⟩ := hSw
            go_simp
          simp only [Act.put]
          refine wpAnyH_ready (rs := [5, 7]) (by kernel_rfl) (by simp) ?_
          refine AllReadyH.cons rfl (fun K hK => ?_) ?_
          · go_simp
            refine (HA.out _ ((Keeps.refl _ _).drew)).mono ?_
            rintro e w5 ⟨hgv, -, k5⟩
            obtain ⟨v5, j5, rfl, h5, P5, d5⟩ := hgv _ _ rfl
            obtain ⟨a5, c5, rfl⟩ := h5.sl'
            rw [List.length_map] at h5 ⊢
            have kk5 : Keeps (fun i => i = g) wa w5 := ((Keeps.refl _ _).drew).trans k5
            refine hK.out _ _ ⟨hcx1 _ kk5, hcx2 _ kk5, kk5⟩ (fun hHeld => ?_)
            clear hK K
            refine wpAnyH_take (i := 6) (v := .agg #[.string x.text, .slice a5 ar.length c5, .bool false, .slice none 0 0, .int .i64 x.line]) rfl (by kernel_rfl) (by kernel_rfl) (by kernel_rfl) (fun _ _ _ h => h) (Or.inl ⟨by rfl, ?_⟩) (by assumption) ?_
            · intro w hSw
              obtain ⟨hS1, hS2, -⟩ := hSw
              go_simp
            simp only [Act.put, List.setIfInBounds_toArray]
            refine wpAnyH_ready (rs := [7]) (by kernel_rfl) (by simp) ?_
            refine AllReadyH.cons rfl (fun K hK => ?_) AllReadyH.nil
            go_simp
            have kk6 : Keeps (fun i => i = g) wa (w5.alloc (.cells #[.string { data := #[] }, .slice none 0 0, .bool false, .slice none 0 0, .int .i64 0] 60)) := kk5.alloc _
            refine hK.out _ _ ⟨hcx1 _ kk6, hcx2 _ kk6, kk6⟩ (fun hHeld => ?_)
            clear hK K
            refine wpAnyH_ready (rs := [8]) (by kernel_rfl) (by simp) ?_
            refine AllReadyH.cons rfl (fun K hK => ?_) AllReadyH.nil
            go_simp
            have kk7 : Keeps (fun i => i = g) wa (w5.alloc (.cells #[.string x.text, .slice a5 ar.length c5, .bool false, .slice none 0 0, .int .i64 x.line] 60)) := kk5.alloc _
            refine hK.out _ _ ⟨hcx1 _ kk7, hcx2 _ kk7, kk7⟩ (fun hHeld => ?_)
            clear hK K
            refine wpAnyH_done (by kernel_rfl) ?_ _
            go_wp2_with fail
            go_meet
            case rel => exact ⟨_, rfl, Lib.hid ⟨a5, c5, j5, Blk.new _ _ _, (by have hz := k5.size; exact OwnL.keeps (S := fun _ => False) h5 ((Keeps.refl _ _).alloc _) (fun _ _ _ => id)), P5.same ((Keeps.refl _ _).alloc _), hjlt _ P5.le d5, d5, kk5.size, kk7⟩⟩
          · refine AllReadyH.cons rfl (fun K hK => ?_) AllReadyH.nil
            go_simp
            have kc : Keeps (fun _ => False) wa (wa.drew.alloc (.cells #[.string { data := #[] }, .slice none 0 0, .bool false, .slice none 0 0, .int .i64 0] 60)) := ((Keeps.refl _ _).drew).alloc _
            refine hK.out _ _ ⟨hcx1 _ (Keeps.none_ kc), hcx2 _ (Keeps.none_ kc), Keeps.none_ kc⟩ (fun hHeld => ?_)
            clear hK K
            refine wpAnyH_ready (rs := [5]) (by kernel_rfl) (by simp) ?_
            refine AllReadyH.cons rfl (fun K hK => ?_) AllReadyH.nil
            go_simp
            have hsz1 : (wa.drew.alloc (.cells #[.string { data := #[] }, .slice none 0 0, .bool false, .slice none 0 0, .int .i64 0] 60)).heap.size = wa.heap.size + 1 := by simp
            have hup2 := HPA.out.up
            refine (HA.out _ kc).mono ?_
            rintro e w5 ⟨hgv, -, k5⟩
            obtain ⟨v5, j5, rfl, h5, P5, d5⟩ := hgv _ _ rfl
            obtain ⟨a5, c5, rfl⟩ := h5.sl'
            rw [List.length_map] at h5 ⊢
            have kk5 : Keeps (fun i => i = g) wa w5 := (Keeps.none_ kc).trans k5
            have hnb : Blk w5 wa.heap.size 60 #[.string { data := #[] }, .slice none 0 0, .bool false, .slice none 0 0, .int .i64 0] := (Blk.new wa.drew 60 #[.string { data := #[] }, .slice none 0 0, .bool false, .slice none 0 0, .int .i64 0]).keeps k5 (by show ¬ wa.heap.size = g; omega)
            have n0 : w5.cell? ⟨wa.heap.size, 0, none⟩ = some (.string { data := #[] }) := hnb.cell 0
            have n1 : w5.cell? ⟨wa.heap.size, 1, none⟩ = some (.slice none 0 0) := hnb.cell 1
            have n2 : w5.cell? ⟨wa.heap.size, 2, none⟩ = some (.bool false) := hnb.cell 2
            have n3 : w5.cell? ⟨wa.heap.size, 3, none⟩ = some (.slice none 0 0) := hnb.cell 3
            have n4 : w5.cell? ⟨wa.heap.size, 4, none⟩ = some (.int .i64 0) := hnb.cell 4
            have f0 := hnb.frozen 0
            have f1 := hnb.frozen 1
            have f2 := hnb.frozen 2
            have f3 := hnb.frozen 3
            have f4 := hnb.frozen 4
            refine hK.out _ _ ⟨hcx1 _ kk5, hcx2 _ kk5, kk5⟩ (fun hHeld => ?_)
            clear hK K
            refine wpAnyH_take (i := 6) (v := .agg #[.string x.text, .slice a5 ar.length c5, .bool false, .slice none 0 0, .int .i64 x.line]) rfl (by kernel_rfl) (by kernel_rfl) (by kernel_rfl) (fun _ _ _ h => h) (Or.inl ⟨by rfl, ?_⟩) (by assumption) ?_
            · intro w hSw
              obtain ⟨hS1, hS2, -⟩ := hSw
              go_simp
            simp only [Act.put, List.setIfInBounds_toArray]
            refine wpAnyH_ready (rs := [8]) (by kernel_rfl) (by simp) ?_
            refine AllReadyH.cons rfl (fun K hK => ?_) AllReadyH.nil
            go_simp
            have kk7 : Keeps (fun i => i = g) wa (((((w5.setCell ⟨wa.heap.size, 0, none⟩ (.string x.text)).setCell ⟨wa.heap.size, 1, none⟩ (.slice a5 ar.length c5)).setCell ⟨wa.heap.size, 2, none⟩ (.bool false)).setCell ⟨wa.heap.size, 3, none⟩ (.slice none 0 0)).setCell ⟨wa.heap.size, 4, none⟩ (.int .i64 x.line)) := ((((kk5.setCell (by simp) _).setCell (by simp) _).setCell (by simp) _).setCell (by simp) _).setCell (by simp) _
            have kn : Keeps (fun i => i = wa.heap.size) w5 (((((w5.setCell ⟨wa.heap.size, 0, none⟩ (.string x.text)).setCell ⟨wa.heap.size, 1, none⟩ (.slice a5 ar.length c5)).setCell ⟨wa.heap.size, 2, none⟩ (.bool false)).setCell ⟨wa.heap.size, 3, none⟩ (.slice none 0 0)).setCell ⟨wa.heap.size, 4, none⟩ (.int .i64 x.line)) := (((((Keeps.refl _ _).setCell (by simp) _).setCell (by simp) _).setCell (by simp) _).setCell (by simp) _).setCell (by simp) _
            have hn7 : Blk _ wa.heap.size 60 #[.string x.text, .slice a5 ar.length c5, .bool false, .slice none 0 0, .int .i64 x.line] := ((((hnb.set_ 0 (.string x.text)).set_ 1 (.slice a5 ar.length c5)).set_ 2 (.bool false)).set_ 3 (.slice none 0 0)).set_ 4 (.int .i64 x.line)
            refine hK.out _ _ ⟨hcx1 _ kk7, hcx2 _ kk7, kk7⟩ (fun hHeld => ?_)
            clear hK K
            refine wpAnyH_done (by kernel_rfl) ?_ _
            go_wp2_with fail
            go_meet
            case rel => exact ⟨_, rfl, Lib.hid ⟨a5, c5, j5, hn7, (OwnL.keeps h5 kn (fun i hi _ e => by have := hsz1; omega)).more (by rw [hsz1]; omega), P5.far kn (fun i hi => by omega), hjlt _ P5.le d5, d5, Nat.le_refl _, kk7⟩⟩
        case rest =>
          as_aux_lemma =>
          obtain ⟨q, rfl, HQ⟩ := hcut
          obtain ⟨aa, ac, j, hbq, hown, hP, hatj, hdj, hqn, kq⟩ := HQ.out
          have HBQ := Lib.hid hbq
          have HY := Lib.hid hown
          have HPC := Lib.hid hP
          have HDJ := Lib.hid hdj
          have HKC := Lib.hid (HKA.out.trans kq)
          have hnz := HZA.out.keeps kq (by omega)
          have HNZ := Lib.hid hnz
          have hsq := kq.size
          have hup2 := HPC.out.up
          have hql := hbq.lt
          clear HQ hown hP hdj kq hnz hbq hcx1 hcx2
          go_wp2_with fail
          refine (pkind_any HPC.out).mono ?_
          rintro e w7 ⟨rfl, k7⟩
          rw [HDJ.out]
          have HP7 := Lib.hid (HPC.out.same k7)
          have HBQ7 := Lib.hid (HBQ.out.keeps k7 id)
          have HNZ7 := Lib.hid (HNZ.out.keeps k7 id)
          have HY7 := Lib.hid (HY.out.keeps k7 (fun _ _ _ => id))
          have HK7 := Lib.hid (Keeps.and_ HKC.out k7 (fun _ _ h => h.elim))
          have hs7 := k7.size
          clear k7 HPC HBQ HNZ HY HKC
          by_cases hk5 : kindP t2 = 5
          · have hoo := HO3.out
            simp only [if_pos hk5] at hoo
            obtain ⟨y, t3, rfl⟩ : ∃ y t3, t2 = y :: t3 := by
              cases t2 with
              | nil => cases hk5
              | cons y t3 => exact ⟨_, _, rfl⟩
            obtain ⟨hy, hdt3⟩ := drop_at_cons HDJ.out
            have HEND := Lib.hid hoo
            have HD3 := Lib.hid hdt3
            have HTK := Lib.hid (ptake_any HP7.out hy)
            rw [hk5]
            clear hoo hy hdt3 hk5
            go_wp2_with fail
            refine HTK.out.mono ?_
            rintro e w8 ⟨rfl, P8, k8⟩
            have hb8 := HBQ7.out.keeps k8 (by omega)
            have hn8 := HNZ7.out.keeps k8 (by omega)
            obtain ⟨⟨y0, y1, y2, y3, y4⟩, -⟩ := hb8.all5
            obtain ⟨⟨z0, z1, z2, z3, z4⟩, zf0, zf1, zf2, zf3, zf4⟩ := hn8.all5
            have HN8 := Lib.hid hn8
            have HP8 := Lib.hid P8
            have HK8 := Lib.hid (HK7.out.trans k8)
            have HY8 := Lib.hid (HY7.out.keeps k8 (fun i hi _ e => by omega))
            have hs8 := k8.size
            clear P8 k8 hb8 hn8 HTK
            go_wp2_with fail
            refine ret_cell rfl w.heap.size 60 _ _ rfl (((((HN8.out.set_ 0 _).set_ 1 _).set_ 2 _).set_ 3 _).set_ 4 _) Tryz.underlying60 rfl (by kernel_rfl) rfl ?_
            have kn := Keeps.set5 w8 w.heap.size (.string x.text) (.slice aa ar.length ac) (.bool false) (.slice none 0 0) (.int .i64 x.line)
            refine .ok HEND.out (nd_back (as_ := ar) (xs := []) ((OwnL.keeps HY8.out kn (fun i hi _ e => by omega)).more hla) NdsBack.none_) (HP8.out.far kn (fun i hi => by omega)) HD3.out (HK8.out.and_ kn (fun i hi e => by omega))
          · by_cases hk3 : kindP t2 = 3
            · have hoo := HO3.out
              simp only [if_neg hk5, if_pos hk3] at hoo
              obtain ⟨y, t3, rfl⟩ : ∃ y t3, t2 = y :: t3 := by
                cases t2 with
                | nil => cases hk3
                | cons y t3 => exact ⟨_, _, rfl⟩
              obtain ⟨hy, hdt3⟩ := drop_at_cons HDJ.out
              have hjl : j + 1 ≤ l.length := (List.getElem?_eq_some_iff.1 hy).1
              have HOO := Lib.hid hoo
              have HD3 := Lib.hid hdt3
              have HTK := Lib.hid (ptake_any HP7.out hy)
              rw [hk3]
              clear hoo hy hdt3 hk3 hk5
              by_cases hd4 : depth = 4
              · have hoo := HOO.out
                rw [if_pos hd4] at hoo
                have HEND := Lib.hid hoo
                have hbe : ((depth : Int) == 4) = true := by rw [beq_iff_eq]; omega
                clear hoo hd4
                go_wp2_with fail
                refine (pline_any HP7.out).mono ?_
                rintro e w8 ⟨rfl, k8⟩
                rw [HDJ.out]
                have HK8 := Lib.hid (HK7.out.and_ k8 (fun _ _ h => h.elim))
                clear k8
                go_wp2_with fail
                refine (pstop_any w8 15 _ (by decide)).mono ?_
                rintro e w9 ⟨⟨v9, rfl, h9⟩, k9⟩
                have HG := Lib.hid h9
                have HK9 := Lib.hid (HK8.out.and_ k9 (fun _ _ h => h.elim))
                clear h9 k9
                go_wp2_with fail
                exact ⟨rfl, .gave HEND.out ⟨_, rfl, HG.out⟩ HK9.out⟩
              · have hoo := HOO.out
                rw [if_neg hd4] at hoo
                simp only [List.tail_cons] at hoo
                have HOO2 := Lib.hid hoo
                have hbe : ((depth : Int) == 4) = false := by rw [beq_eq_false_iff_ne]; omega
                have hd4' : depth < 4 := by omega
                have hwr : IntKind.i64.wrap ((depth : Int) + 1) = (depth : Int) + 1 := IntWalk.i64_in _ (by omega)
                clear hoo hd4
                go_wp2_with fail
                refine HTK.out.mono ?_
                rintro e w8 ⟨rfl, P8, k8⟩
                have hb8 := HBQ7.out.keeps k8 (by omega)
                have hn8 := HNZ7.out.keeps k8 (by omega)
                have y2 := hb8.cell 2
                have yf2 := hb8.frozen 2
                have ks8 := Keeps.set1 w8 q 2 (.bool true)
                have hb9 : Blk _ q 60 #[.string x.text, .slice aa ar.length ac, .bool true, .slice none 0 0, .int .i64 x.line] := hb8.set_ 2 (.bool true)
                have HB9 := Lib.hid hb9
                have HN9 := Lib.hid (hn8.keeps ks8 (by omega))
                have HP9 := Lib.hid (P8.far ks8 (fun i hi => by omega))
                have HK9 := Lib.hid ((HK7.out.trans k8).and_ ks8 (fun i hi e => by omega))
                have HY9 := Lib.hid (OwnL.keepsT (HY7.out.keeps k8 (fun i hi _ e => by omega)) ks8 (fun i _ ⟨_, hb⟩ e => Blk.ne_ hb hb8 (by decide) e))
                have HL := Lib.hid (HI.out hd4' _ (j + 1) HP9.out (by omega))
                have hs8 := k8.size
                have hs9 : (w8.setCell ⟨q, 2, none⟩ (.bool true)).heap.size = w8.heap.size := by simp
                simp only [List.getElem?_toArray, List.getElem?_cons_zero, List.getElem?_cons_succ] at y2
                clear P8 k8 hb8 hn8 HTK ks8 hb9
                have hl := HL.out
                rw [HD3.out] at hl
                cases hgo : go t3 with
                | inl ee =>
                  obtain ⟨c, n⟩ := ee
                  rw [hgo] at hl
                  have HEND := Lib.hid (show O = .inl (c, n) by rw [HOO2.out, hgo])
                  have HL2 := Lib.hid hl
                  clear hl hgo
                  go_wp2_with fail
                  refine HL2.out.mono ?_
                  rintro e w10 ⟨-, hgv, k10⟩
                  obtain ⟨v10, rfl, h10⟩ := hgv _ _ rfl
                  have HG := Lib.hid h10
                  have HK10 := Lib.hid (HK9.out.trans k10)
                  clear hgv h10 k10
                  go_wp2_with fail
                  exact ⟨rfl, .gave HEND.out ⟨_, rfl, HG.out⟩ HK10.out⟩
                | inr p =>
                  obtain ⟨xs, t4⟩ := p
                  rw [hgo] at hl
                  have HEND := Lib.hid (show O = .inr (.mk x.text ar true xs x.line, t4.tail) by rw [HOO2.out, hgo])
                  have h44 := HH4.out (j + 1) xs t4 hjl (by omega) (by rw [HD3.out]; exact hgo)
                  have HL2 := Lib.hid hl
                  obtain ⟨z, t5, rfl⟩ : ∃ z t5, t4 = z :: t5 := by
                    cases t4 with
                    | nil => cases h44
                    | cons z t5 => exact ⟨_, _, rfl⟩
                  clear hl hgo h44
                  go_wp2_with fail
                  refine HL2.out.mono ?_
                  rintro e w10 ⟨hgv, -, k10⟩
                  obtain ⟨v10, j10, rfl, h10, P10, d10⟩ := hgv _ _ rfl
                  obtain ⟨la, lc, rfl⟩ := h10.sl
                  obtain ⟨hz, hdt5⟩ := drop_at_cons d10
                  have hb10 := HB9.out.keeps k10 (by omega)
                  have y3 := hb10.cell 3
                  have yf3 := hb10.frozen 3
                  simp only [List.getElem?_toArray, List.getElem?_cons_zero, List.getElem?_cons_succ] at y3
                  have ks10 := Keeps.set1 w10 q 3 (.slice la xs.length lc)
                  have hb11 : Blk _ q 60 #[.string x.text, .slice aa ar.length ac, .bool true, .slice la xs.length lc, .int .i64 x.line] := hb10.set_ 3 (.slice la xs.length lc)
                  have HB11 := Lib.hid hb11
                  have HN11 := Lib.hid ((HN9.out.keeps k10 (by omega)).keeps ks10 (by omega))
                  have HP11 := Lib.hid (P10.far ks10 (fun i hi => by omega))
                  have HK11 := Lib.hid ((HK9.out.trans k10).and_ ks10 (fun i hi e => by omega))
                  have HY11 := Lib.hid (OwnL.keepsT (HY9.out.keeps k10 (fun i hi _ e => by omega)) ks10 (fun i _ ⟨_, hb⟩ e => Blk.ne_ hb hb10 (by decide) e))
                  have HX11 := Lib.hid (h10.keeps ks10 (fun i hi e => by omega))
                  have HTK := Lib.hid (ptake_any HP11.out hz)
                  have HD5 := Lib.hid hdt5
                  have hs10 := k10.size
                  clear P10 hb10 ks10 hb11 hz hdt5 d10 h10 k10 hgv
                  go_wp2_with fail
                  refine HTK.out.mono ?_
                  rintro e w12 ⟨rfl, P12, k12⟩
                  have hb12 := HB11.out.keeps k12 (by omega)
                  have hn12 := HN11.out.keeps k12 (by omega)
                  obtain ⟨⟨y0, y1, y2, y3, y4⟩, -⟩ := hb12.all5
                  obtain ⟨⟨z0, z1, z2, z3, z4⟩, zf0, zf1, zf2, zf3, zf4⟩ := hn12.all5
                  have HN12 := Lib.hid hn12
                  have HP12 := Lib.hid P12
                  have HK12 := Lib.hid (HK11.out.trans k12)
                  have HY12 := Lib.hid (HY11.out.keeps k12 (fun i hi _ e => by omega))
                  have HX12 := Lib.hid (HX11.out.keeps k12 (fun i hi e => by omega))
                  clear P12 k12 hb12 hn12 HTK
                  go_wp2_with fail
                  refine ret_cell rfl w.heap.size 60 _ _ rfl (((((HN12.out.set_ 0 _).set_ 1 _).set_ 2 _).set_ 3 _).set_ 4 _) Tryz.underlying60 rfl (by kernel_rfl) rfl ?_
                  have kn := Keeps.set5 w12 w.heap.size (.string x.text) (.slice aa ar.length ac) (.bool true) (.slice la xs.length lc) (.int .i64 x.line)
                  refine .ok HEND.out (nd_back (as_ := ar) (xs := xs) ((OwnL.keeps HY12.out kn (fun i hi _ e => by omega)).more hla) ((HX12.out.keeps kn (fun i hi e => by omega)).more (by omega))) (HP12.out.far kn (fun i hi => by omega)) HD5.out (HK12.out.and_ kn (fun i hi e => by omega))
            · have hoo := HO3.out
              simp only [if_neg hk5, if_neg hk3] at hoo
              have HEND := Lib.hid hoo
              have hb5 : (kindP t2 == 5) = false := by rw [beq_eq_false_iff_ne]; exact hk5
              have hb3 : (kindP t2 == 3) = false := by rw [beq_eq_false_iff_ne]; exact hk3
              clear hoo hk5 hk3
              go_wp2_with fail
              refine (pline_any HP7.out).mono ?_
              rintro e w8 ⟨rfl, k8⟩
              rw [HDJ.out]
              have HK8 := Lib.hid (HK7.out.and_ k8 (fun _ _ h => h.elim))
              clear k8
              go_wp2_with fail
              refine (pstop_any w8 3 _ (by decide)).mono ?_
              rintro e w9 ⟨⟨v9, rfl, h9⟩, k9⟩
              have HG := Lib.hid h9
              have HK9 := Lib.hid (HK8.out.and_ k9 (fun _ _ h => h.elim))
              clear h9 k9
              go_wp2_with fail
              exact ⟨rfl, .gave HEND.out ⟨_, rfl, HG.out⟩ HK9.out⟩
    · have hkb : (x.kind != 1) = true := by rw [bne_iff_ne]; exact hk
      have HEND := Lib.hid (show O = .inl (3, x.line) by rw [HOO.out, if_pos hk])
      clear hk
      go_wp2_with fail
      refine (pline_any HP2.out).mono ?_
      rintro e w3 ⟨rfl, k3⟩
      rw [HD.out]
      unfold lineP
      simp only
      have HK3 := Lib.hid (HK2.out.trans k3)
      clear k3
      go_wp2_with fail
      refine (pstop_any w3 3 _ (by decide)).mono ?_
      rintro e w4 ⟨⟨v4, rfl, h4⟩, k4⟩
      have HG := Lib.hid h4
      have HK4 := Lib.hid (HK3.out.trans k4)
      clear h4 k4
      go_wp2_with fail
      exact ⟨rfl, .gave HEND.out ⟨_, rfl, HG.out⟩ (HK4.out.mono (fun _ _ h => h.elim))⟩
end
end Go.Proofs.YtfpajgmdejlaeaaGreatDoor

/-
  tree: statements, up to the end of a block, or of all.
-/
namespace Go.Proofs.YtfpajgmdejlaeaaGreatDoor
open Go.RowKit

/-- a block's statements end where it is closed -/
theorem listP_end (last : Int) : ∀ (n f depth : Nat) (out xs : List Nd) (l t : List Pc), l.length ≤ n → l.length + 1 ≤ f → 0 < depth → listP last f depth out l = .inr (xs, t) → kindP t = 4
  | n, 0, depth, out, xs, l, t, hn, hf, hd, h => by omega
  | n, f + 1, depth, out, xs, l, t, hn, hf, hd, h => by
    rw [listP] at h
    by_cases hq : doneP depth l = true
    · rw [if_pos hq] at h
      injection h with h
      injection h with h1 h2
      subst h2
      unfold doneP at hq
      simp only [decide_eq_true_eq] at hq
      omega
    · rw [if_neg hq] at h
      cases ho : oneP_t last (listP last f (depth + 1) []) depth l with
      | inl e => rw [ho] at h; cases h
      | inr p =>
        obtain ⟨x, t2⟩ := p
        rw [ho] at h
        have h1 := oneP_t_len (fun a b c hh => listP_len last f _ _ _ _ _ hh) ho
        cases n with
        | zero => omega
        | succ n => exact listP_end last n f depth _ xs t2 t (by omega) (by omega) hd h
theorem wpList_append_stx {P : Program} {α : Type} (R : α → List Value) (size : Nat) (hR : ∀ x, (R x).length = size) (hsz : 0 < size) {w : World} {ops : Array Oper} {rest : List Oper} {o : Oper} {a : Act} {Q : Exit → Act → World → Prop} (hgd : o.guard = none) (s x : Operand) (t : TypeId)
    (ho : o.op = .call { callee := .builtin .append, args := #[s, x], argTypes := #[t, t] }) (B : Nat) (e : TypeId) (z : Value) (bytes : Nat) (ht : P.underlying t = some (.slice e))
    (hi : (P.info? e).map (fun i => (i.zero, i.size, i.bytes)) = some (some z, size, bytes)) (hz : z.cells.size = size) (hb16 : bytes ≤ 4096)
    (v : Value) (xs : List α) (hs : a.eval s = v) (hown : OwnS R size w B e v xs) (g c : Nat) (y : α) (hx : a.eval x = .slice (some ⟨g, 0, none⟩) 1 c) (hu : Blk w g e (R y).toArray) (h1 : ∀ u ∈ R y, u.oneCell' = true)
    (hlen : xs.length ≤ 17179869184) (hbase : B ≤ w.heap.size)
    (h : ∀ g' cap' w', OwnS R size w' B e (.slice (some ⟨g', 0, none⟩) (xs.length + 1) cap') (xs ++ [y]) → Keeps (fun i => v.ownBlock = some i) w w' → (v.ownBlock = some g' ∨ g' = w.heap.size) → wpList P ops Q rest (a.put o.dst (.slice (some ⟨g', 0, none⟩) (xs.length + 1) cap')) w') : wpList P ops Q (o :: rest) a w :=
  wpList_plain hgd fun _ hK => wp_append_st R size hR hsz s x t ho B e z bytes ht hi hz hb16 v xs hs hown g c y hx hu h1 hlen hbase (fun g' cap' w' h1 h2 h3 => hK _ _ (h g' cap' w' h1 h2 h3))

/-- a list's fuel: enough for what is left -/
def restP (l : List Pc) (depth : Nat) (out : List Nd) (j : Nat) : (Int × Int) ⊕ (List Nd × List Pc) := listP (lastP l) ((l.drop j).length + 1) depth out (l.drop j)
theorem restP_fuel (l : List Pc) (depth : Nat) (out : List Nd) (j f : Nat) (h : (l.drop j).length + 1 ≤ f) : listP (lastP l) f depth out (l.drop j) = restP l depth out j := listP_fuel _ _ _ _ _ _ _ (Nat.le_refl _) h (Nat.le_refl _)
theorem restP_step (l : List Pc) (depth : Nat) (out : List Nd) (j : Nat) (h : doneP depth (l.drop j) = false) : restP l depth out j = match oneP_t (lastP l) (listP (lastP l) (l.drop j).length (depth + 1) []) depth (l.drop j) with
    | .inl e => .inl e
    | .inr (x, t) => listP (lastP l) (l.drop j).length depth (out ++ [x]) t := by
  unfold restP
  rw [listP, if_neg (by simp [h])]
  cases oneP_t (lastP l) (listP (lastP l) (l.drop j).length (depth + 1) []) depth (l.drop j) <;> rfl
theorem restP_done (l : List Pc) (depth : Nat) (out : List Nd) (j : Nat) (h : doneP depth (l.drop j) = true) : restP l depth out j = .inr (out, l.drop j) := by
  unfold restP
  rw [listP, if_pos h]

theorem NdsOwn.push {w3 w4 w7 : World} {B M g' cap' : Nat} {S Sx : Nat → Prop} {e : TypeId} {v : Value} {xs : List Nd} {x : Nd} {rs : List NdV} {r : NdV} (h2 : NdAll w3 S xs rs) (h3 : ∀ k, v.ownBlock = some k → ¬ S k) (h4 : ∀ i, S i → B ≤ i ∧ i < w3.heap.size)
    (hx : NdM w3 Sx x r) (hSx : ∀ i, Sx i → M ≤ i ∧ i < w3.heap.size) (hv : ∀ k, v.ownBlock = some k → k < M) (hB : B ≤ M) (k34 : Keeps (fun _ => False) w3 w4)
    (O7 : OwnS ndR 5 w7 B e (.slice (some ⟨g', 0, none⟩) (rs.length + 1) cap') (rs ++ [r])) (k47 : Keeps (fun i => v.ownBlock = some i) w4 w7) (hg : v.ownBlock = some g' ∨ g' = w4.heap.size) :
    NdsOwn w7 B (fun i => S i ∨ Sx i) e (.slice (some ⟨g', 0, none⟩) (rs.length + 1) cap') (xs ++ [x]) := by
  have z34 := k34.size
  have z47 := k47.size
  refine ⟨rs ++ [r], O7, NdAll.snoc x r ?_ xs rs ?_, fun k hk hh => ?_, fun i hi => ?_⟩
  · exact NdM.mono (fun i h => .inr h) _ _ (NdM.keeps k47 (fun i _ hi he => by have := hv i he; have := (hSx i hi).1; omega) _ _ (NdM.keeps k34 (fun _ _ _ => id) _ _ hx))
  · exact NdAll.mono (fun i h => .inl h) _ _ (NdAll.keeps k47 (fun i _ hi he => h3 i he hi) _ _ (NdAll.keeps k34 (fun _ _ _ => id) _ _ h2))
  · have hk' : g' = k := by simpa [Value.ownBlock] using hk
    subst hk'
    rcases hg with hg | hg
    · rcases hh with hh | hh
      · exact h3 _ hg hh
      · have := hv _ hg; have := (hSx _ hh).1; omega
    · rcases hh with hh | hh
      · have := (h4 _ hh).2; omega
      · have := (hSx _ hh).2; omega
  · rcases hi with hi | hi
    · have := h4 i hi; omega
    · have := hSx i hi; omega
section
variable {w w' : World} {g U : Nat} {l : List Pc} {at_ : Nat}
set_option maxRecDepth 100000 in
set_option maxHeartbeats 2000000 in
theorem plist_any : ∀ (f depth : Nat) (w : World) (at_ : Nat), depth ≤ 4 → l.length - at_ ≤ f → IsP w g U l at_ →
    Calls Tryz.prog 47 #[.pointer (some ⟨g, 0, none⟩), .int .i64 depth] w (ParsPost (restP l depth [] at_) (fun v xs W' => NdsBack w.heap.size v xs W') w g U l) := by
  intro f
  induction f using Nat.strongRecOn with
  | _ f IHF =>
  intro depth w at_ hdep hf h
  obtain ⟨O, hO⟩ : ∃ O, O = restP l depth [] at_ := ⟨_, rfl⟩
  rw [← hO]
  have HO := Lib.hid hO
  have H := Lib.hid h
  have HF := Lib.hid IHF
  have hgl : g < U := h.lt
  have hup := h.up
  clear hO h IHF
  go_enter Tryz.func47, Tryz.ntmps47
  go_wp2_with fail
  go_loopg [5] (l.length - at_) (fun k u wr => ∃ (j : Nat) (out : List Nd) (S : Nat → Prop), k = l.length - j ∧ at_ ≤ j ∧ out.length ≤ j ∧ Hid (NdsOwn wr w.heap.size S 60 u out ∧ IsP wr g U l j ∧ restP l depth out j = O ∧ Keeps (fun i => i = g) w wr))
  case atStart => exact ⟨at_, [], fun _ => False, rfl, Nat.le_refl _, Nat.zero_le _, Lib.hid ⟨NdsOwn.none_, H.out, HO.out.symm, Keeps.refl _ _⟩⟩
  case round =>
    obtain ⟨j, out, S, rfl, haj, hoj, HR⟩ := hrel
    obtain ⟨hN, hP, hR, hK⟩ := HR.out
    obtain ⟨av, cv, rfl⟩ := hN.sl
    have HP := Lib.hid hP
    have hszr := hK.size
    have hupr := hP.up
    clear hN hP hR hK
    go_wp2_with fail
    refine (pkind_any HP.out).mono ?_
    rintro e w2 ⟨rfl, k2⟩
    have HP2 := Lib.hid (HP.out.same k2)
    have HK2 := Lib.hid k2
    have hs2 := k2.size
    have HDN := Lib.hid (fun (hd : doneP depth (l.drop j) = true) => restP_done l depth out j hd)
    clear k2
    go_wp2_with fail
    all_goals
      first
      | (go_ret
         have hdone : doneP depth (l.drop j) = true := by
           unfold doneP
           simp only [beq_iff_eq, decide_eq_true_eq] at *
           omega
         obtain ⟨hN, hP, hR, hK⟩ := HR.out
         have hE := HDN.out hdone
         rw [hR] at hE
         refine .ok hE ?_ HP2.out rfl (hK.and_ HK2.out (fun _ _ h => h.elim))
         have hN2 := hN.keeps HK2.out (fun _ _ _ => id)
         refine ⟨_, hN2.at_, fun i hi => ?_⟩
         obtain ⟨rs, -, -, -, h4⟩ := id hN2
         rcases hi with hi | hi
         · exact h4 i hi
         · exact hN2.lt i hi)
      | skip
    all_goals
      have hdone : doneP depth (l.drop j) = false := by
        unfold doneP
        simp only [beq_eq_false_iff_ne, ne_eq, decide_eq_false_iff_not] at *
        omega
      obtain ⟨hN, hP, hR, hK⟩ := HR.out
      have hjl := hP.le
      have hst := restP_step l depth out j hdone
      rw [hR] at hst
      have hone := pone_any (g := g) (U := U) (w := w2) depth hdep (listP (lastP l) (l.drop j).length (depth + 1) []) HP2.out (fun j' xs t3 hj' hjj he => listP_end (lastP l) (l.drop j').length (l.drop j).length (depth + 1) [] xs (l.drop j') t3 (Nat.le_refl _) (by rw [List.length_drop, List.length_drop]; omega) (by omega) he)
        (fun hd4 W j' hW hjj => by
          have hW2 := hW.le
          have := HF.out (l.length - j') (by omega) (depth + 1) W j' (by omega) (Nat.le_refl _) hW
          have e : ((depth + 1 : Nat) : Int) = (depth : Int) + 1 := by omega
          rw [e] at this
          rw [restP_fuel _ _ _ _ _ (by rw [List.length_drop, List.length_drop]; omega)]
          exact this)
      have HN := Lib.hid hN
      have HK := Lib.hid hK
      clear hN hP hR hK hdone
      cases ho : oneP_t (lastP l) (listP (lastP l) (l.drop j).length (depth + 1) []) depth (l.drop j) with
      | inl ee =>
        obtain ⟨c, n⟩ := ee
        rw [ho] at hone hst
        have HEND := Lib.hid hst
        clear hst ho
        refine hone.mono ?_
        rintro e w3 ⟨-, hgv, k3⟩
        obtain ⟨v3, rfl, h3⟩ := hgv _ _ rfl
        exact ⟨rfl, .gave HEND.out ⟨_, rfl, h3⟩ ((HK.out.and_ HK2.out (fun _ _ h => h.elim)).trans k3)⟩
      | inr p =>
        obtain ⟨x, t⟩ := p
        have hlen := oneP_t_len (fun a b c hh => listP_len (lastP l) _ _ _ _ _ _ hh) ho
        rw [ho] at hone hst
        have HEND := Lib.hid hst
        clear hst ho
        refine hone.mono ?_
        rintro e w3 ⟨hgv, -, k3⟩
        obtain ⟨v3, j3, rfl, hb, P3, d3⟩ := hgv _ _ rfl
        obtain ⟨⟨rk, ra, rn, rc, rb, rla, rln, rlc, rli⟩, Sx, rfl, hx, hSx⟩ := hb
        have hgS : ∀ i, S i ∨ (Value.slice av out.length cv).ownBlock = some i → w.heap.size ≤ i ∧ i < wr.heap.size := fun i hi => by
          obtain ⟨rs, -, -, -, h4⟩ := id HN.out
          rcases hi with hi | hi
          · exact h4 i hi
          · exact HN.out.lt i hi
        have hN3 := (HN.out.keeps HK2.out (fun _ _ _ => id)).keeps k3 (fun i _ hi e => by have := (hgS i hi).1; omega)
        obtain ⟨rs, o1, o2, o3, o4⟩ := hN3
        have hrl := NdAll.len _ _ o2
        have HO1 := Lib.hid o1
        have HKK := Lib.hid ((HK.out.and_ HK2.out (fun _ _ h => h.elim)).trans k3)
        have hs3 := k3.size
        have hrl2 : rs.length ≤ 1048576 := by have := P3.len; omega
        simp only [ndR]
        clear o1 k3 hgv hone
        go_wp2_with (with_reducible show wpList _ _ _ (⟨some 28, _, _, _, _, _⟩ :: _) _ _; go_must (refine wpList_append_stx ndR 5 ndR_len (by decide) rfl (.tmp 23) (.tmp 27) 50 rfl w.heap.size 60 (.agg #[.string ⟨#[]⟩, .slice none 0 0, .bool false, .slice none 0 0, .int .i64 0]) 80 Tryz.underlying50 (by kernel_rfl) rfl (by omega) (.slice av out.length cv) rs rfl (OwnS.keeps (S := fun _ => False) HO1.out ((Keeps.refl _ _).alloc _) (fun _ _ _ _ => id)) w3.heap.size 1 ⟨rk, ra, rn, rc, rb, rla, rln, rlc, rli⟩ rfl (Blk.new _ _ _) (ndR_one _) (by omega) (by simp; omega) ?_; intro g7 c7 w7 O7 k7 hg7; have HO7 := Lib.hid O7; have HK7 := Lib.hid k7; have HG7 := Lib.hid hg7; clear O7 k7 hg7))
        have z3 : (w3.alloc (.cells #[.string rk, .slice ra rn rc, .bool rb, .slice rla rln rlc, .int .i64 rli] 60)).heap.size = w3.heap.size + 1 := by simp
        have hN7 := NdsOwn.push (M := w2.heap.size) o2 o3 o4 hx hSx (fun k hk => by have := (hgS k (.inr hk)).2; omega) (by omega) ((Keeps.refl _ _).alloc _) HO7.out HK7.out HG7.out
        have hP7 := (P3.same ((Keeps.refl _ _).alloc (.cells #[.string rk, .slice ra rn rc, .bool rb, .slice rla rln rlc, .int .i64 rli] 60))).far HK7.out (fun i hi => by have := (hgS i (.inr hi)).1; omega)
        have hj3 : (l.drop j3).length < (l.drop j).length := by rw [d3]; exact hlen
        rw [List.length_drop, List.length_drop] at hj3
        have hj3l := P3.le
        have hR7 : restP l depth (out ++ [x]) j3 = O := by rw [HEND.out, ← d3]; exact (restP_fuel _ _ _ _ _ (by rw [List.length_drop, List.length_drop]; omega)).symm
        have hK7 := (HKK.out.alloc (.cells #[.string rk, .slice ra rn rc, .bool rb, .slice rla rln rlc, .int .i64 rli] 60)).and_ HK7.out (fun i hi he => by have := (hgS i (.inr he)).1; omega)
        have HH := Lib.hid (⟨hN7, hP7, hR7, hK7⟩ : _ ∧ _ ∧ _ ∧ _)
        clear hN7 hP7 hR7 hK7 o2 o3 o4 hx hSx hgS P3 d3 hlen
        go_roundg (l.length - j3)
        case rel => exact ⟨j3, out ++ [x], _, rfl, by omega, by rw [List.length_append]; simp only [List.length_cons, List.length_nil]; omega, HH⟩
        all_goals omega
end
end Go.Proofs.YtfpajgmdejlaeaaGreatDoor

/-
  errors.As over a chain of Faults that ends in a Kind, at a target of the Faults: the outermost Fault, or none.
-/
namespace Go.Proofs.YtfpajgmdejlaeaaGreatDoor
open Go.RowKit Go.Extern.Stop Go.Stop Go.Extern

/-- what errors.As sets at a target of the Faults -/
def AsF (w w' : World) (t : Nat) (old : Value) (v : Value) (e : Ending) : Prop :=
  (∀ a, v = .iface tPFault (.pointer (some a)) → e = .returned (.bool true) ∧ Blk w' t tPFault #[.pointer (some a)]) ∧
  (∀ c, v = .iface tKind (.int .i64 c) → e = .returned (.bool false) ∧ Blk w' t tPFault #[old]) ∧ Keeps (fun i => i = t) w w'

theorem as_f_in (c : Int) (old : Value) (t b0 : Nat) (l : List (Int × ByteArray)) (v : Value) (w : World) (h : Chain w l c v)
    (hb0 : Blk w b0 tPPFault #[.pointer (some ⟨t, 0, none⟩)]) (ht : Blk w t tPFault #[old]) :
    Calls Tryz.prog 80 #[v, .iface tPPFault (.pointer (some ⟨t, 0, none⟩)), vOf tPPFault ⟨b0, 0, none⟩ 150, rt_ tPFault] w fun e w' => AsF w w' t old v e := by
  have h65 := @run_callFunc_extern Tryz.prog 108 _ ReflectliteType.typeOf Tryz.func108 (by kernel_rfl) (by kernel_rfl) (by kernel_rfl) (by kernel_rfl)
  have h97 := @run_callFunc_extern Tryz.prog 188 _ (ReflectliteType.relation "AssignableTo" ReflectliteType.assignableTo) Tryz.func188 (by kernel_rfl) (by kernel_rfl) (by kernel_rfl) (by kernel_rfl)
  have h69 := @run_callFunc_extern Tryz.prog 109 _ (ReflectliteValue.method (ReflectliteValue.valueError "reflectlite.Value.Elem" 0) ReflectliteValue.elem) Tryz.func109 (by kernel_rfl) (by kernel_rfl) (by kernel_rfl) (by kernel_rfl)
  have h58 := @run_callFunc_extern Tryz.prog 77 _ (fun args => ReflectliteValue.unpack (args.getD 0 (.tuple #[]))) Tryz.func77 (by kernel_rfl) (by kernel_rfl) (by kernel_rfl) (by kernel_rfl)
  have h70 := @run_callFunc_extern Tryz.prog 110 _ ReflectliteValue.set Tryz.func110 (by kernel_rfl) (by kernel_rfl) (by kernel_rfl) (by kernel_rfl)
  have a1 := Tryz.tK
  have a2 := Tryz.tPF
  have a3 := Tryz.aFF
  have a4 := Tryz.aKF
  have a5 := Tryz.mAssign
  have a6 := Tryz.vPF
  have b1 := Tryz.noAsK
  have b3 := Tryz.noUnK
  have b4 := Tryz.noUnsK
  cases h with
  | kind =>
    go_enter Tryz.func80, Tryz.ntmps80
    go_wp2
    refine wp_loop_rounds 1 ?_
    rw [rounds_succ]
    go_wp2
    go_ret
    refine ⟨fun _ he => (by cases he), fun _ _ => ⟨rfl, ht.alloc _⟩, (Keeps.refl (fun i => i = t) w).alloc _⟩
  | layer a n s v l _ hb hc =>
    have el := Tryz.elPPF ⟨b0, 0, none⟩ ⟨t, 0, none⟩ (w.alloc (.cells #[.pointer (some ⟨2, 146, none⟩), .pointer (some ⟨b0, 0, none⟩), .int .u64 150] 137)) ((hb0.alloc _).cell 0)
    have st := Tryz.setF ⟨t, 0, none⟩ ⟨w.heap.size + 1, 0, none⟩ ⟨a, 0, none⟩ old ((w.alloc (.cells #[.pointer (some ⟨2, 146, none⟩), .pointer (some ⟨b0, 0, none⟩), .int .u64 150] 137)).alloc (.cells #[.pointer (some ⟨a, 0, none⟩)] 94))
      (by simp)
      (((ht.alloc _).alloc _).cell 0) (((ht.alloc _).alloc _).frozen 0)
    have ht2 := Lib.hid ht
    clear hc hb hb0 ht
    go_enter Tryz.func80, Tryz.ntmps80
    go_wp2
    refine wp_loop_rounds 1 ?_
    rw [rounds_succ]
    go_wp2
    go_ret
    refine ⟨fun _ he => ?_, fun _ he => (by cases he), (((Keeps.refl (fun i => i = t) w).alloc _).alloc _).setCell (fun _ => rfl) _⟩
    cases he
    exact ⟨rfl, by simpa using ((Blk.alloc ht2 _).alloc _).set_ 0 (.pointer (some ⟨a, 0, none⟩))⟩

set_option maxHeartbeats 1000000 in
/-- errors.As at a target of the Faults -/
theorem as_fault (c : Int) (old : Value) (t : Nat) (l : List (Int × ByteArray)) (v : Value) (w : World) (h : Chain w l c v) (hg : Ety w)
    (ht : Blk w t tPFault #[old]) :
    Calls Tryz.prog 42 #[v, .iface tPPFault (.pointer (some ⟨t, 0, none⟩))] w fun e w' => AsF w w' t old v e := by
  have h58 := @run_callFunc_extern Tryz.prog 77 _ (fun args => ReflectliteValue.unpack (args.getD 0 (.tuple #[]))) Tryz.func77 (by kernel_rfl) (by kernel_rfl) (by kernel_rfl) (by kernel_rfl)
  have h59 := @run_callFunc_extern Tryz.prog 78 _ (ReflectliteValue.methodAny (ReflectliteValue.valueError "reflectlite.Value.Type" 0) (fun t _ _ _ => ReflectliteType.toType t)) Tryz.func78 (by kernel_rfl) (by kernel_rfl) (by kernel_rfl) (by kernel_rfl)
  have h60 := @run_callFunc_extern Tryz.prog 79 _ (ReflectliteValue.method (ReflectliteValue.valueError "reflectlite.Value.IsNil" 0) ReflectliteValue.isNil) Tryz.func79 (by kernel_rfl) (by kernel_rfl) (by kernel_rfl) (by kernel_rfl)
  have h89 := @run_callFunc_extern Tryz.prog 177 _ (ReflectliteType.abiMethod fun t => do pure (.int .u8 (← Rtype.kind t))) Tryz.func177 (by kernel_rfl) (by kernel_rfl) (by kernel_rfl) (by kernel_rfl)
  have h99 := @run_callFunc_extern Tryz.prog 190 _ (ReflectliteType.method ReflectliteType.elem) Tryz.func190 (by kernel_rfl) (by kernel_rfl) (by kernel_rfl) (by kernel_rfl)
  have h100 := @run_callFunc_extern Tryz.prog 191 _ (ReflectliteType.relation "Implements" ReflectliteType.implements_) Tryz.func191 (by kernel_rfl) (by kernel_rfl) (by kernel_rfl) (by kernel_rfl)
  have a1 := Tryz.vPPF
  have a2 := Tryz.tyPPF
  have a3 := Tryz.mKind
  have a4 := Tryz.kPPF
  have a5 := Tryz.mElem
  have a6 := Tryz.ePPF
  have a7 := Tryz.kPF
  have a8 := Tryz.mImpl
  have a9 := Tryz.iPF
  have n60 := Tryz.isNilPPF ⟨w.heap.size, 0, none⟩ ⟨t, 0, none⟩ ((w.alloc (.cells #[.pointer (some ⟨t, 0, none⟩)] 146)).alloc (.cells #[.pointer (some ⟨2, 146, none⟩), .pointer (some ⟨w.heap.size, 0, none⟩), .int .u64 150] 137))
    (((Blk.new w 146 #[.pointer (some ⟨t, 0, none⟩)]).alloc _).cell 0)
  have hg2 : ((w.alloc (.cells #[.pointer (some ⟨t, 0, none⟩)] 146)).alloc (.cells #[.pointer (some ⟨2, 146, none⟩), .pointer (some ⟨w.heap.size, 0, none⟩), .int .u64 150] 137)).cell? ⟨0, 0, none⟩ = some (rt_ 31) :=
    hg.keeps (((Keeps.refl (fun _ => False) w).alloc _).alloc _) id
  have hin := as_f_in c old t w.heap.size l v _ (h.keeps (((Keeps.refl (fun _ => False) w).alloc (.cells #[.pointer (some ⟨t, 0, none⟩)] 146)).alloc (.cells #[.pointer (some ⟨2, 146, none⟩), .pointer (some ⟨w.heap.size, 0, none⟩), .int .u64 150] 137)) (fun _ _ _ => id))
    ((Blk.new w 146 #[.pointer (some ⟨t, 0, none⟩)]).alloc _) ((ht.alloc _).alloc _)
  have hin := Lib.hid hin
  have hf := Lib.hid h
  obtain ⟨ty, x, rfl⟩ := h.form
  clear hg h ht
  go_enter Tryz.func42, Tryz.ntmps42
  rcases hf with ⟨c⟩ | ⟨a, n, s, v, l, c, hb, hc⟩
  · go_wp2_with (go_at_call 80; refine hin.mono ?_; rintro e w2 ⟨_, h2, hk⟩; obtain ⟨rfl, hb⟩ := h2 _ rfl)
    go_ret
    exact ⟨fun _ he => (by cases he), fun _ _ => ⟨rfl, hb⟩, (((Keeps.refl _ w).alloc _).alloc _).trans hk⟩
  · clear hb hc
    go_wp2_with (go_at_call 80; refine hin.mono ?_; rintro e w2 ⟨h1, _, hk⟩; obtain ⟨rfl, hb⟩ := h1 _ rfl)
    go_ret
    refine ⟨fun _ he => ?_, fun _ he => (by cases he), (((Keeps.refl _ w).alloc _).alloc _).trans hk⟩
    cases he
    exact ⟨rfl, hb⟩
end Go.Proofs.YtfpajgmdejlaeaaGreatDoor

/-
  An array value at an index that is a letter. No program in sight.
-/
namespace Go.Proofs.YtfpajgmdejlaeaaGreatDoor
open Go.RowKit

section
variable {P : Program}
theorem run_index_arr (w : World) (t e : TypeId) (n : Nat) (cs : Array Value) (k : Nat) (v : Value) (ht : P.underlying t = some (.array n e)) (hs : (P.info? e).map (·.size) = some 1) (he : P.underlying e = some .string) (hk : k < n) (hv : cs[k]? = some v) :
    (Instr.index t (.agg cs) (.int .i64 k)).run P w = .ok v w := by
  cases hq : P.info? e with
  | none => simp [hq] at hs
  | some i =>
    have hi : i.size = 1 := by simpa [hq] using hs
    have h1 : (0 : Int) ≤ (k : Int) ∧ (k : Int) < (n : Int) := by omega
    simp [Instr.index, asIntOf, run_underlying ht, h1, sizeOf, typeInfo, hq, hi, part, isAgg, run_underlying he, hv]
    exact fun h => absurd h (by omega)
theorem wpList_index_arr {w : World} {ops : Array Oper} {rest : List Oper} {o : Oper} {a : Act} {Q : Exit → Act → World → Prop} (hgd : o.guard = none) (x i : Operand) (t : TypeId) (ho : o.op = Op.index t x i) (n : Nat) (e : TypeId)
    (ht : P.underlying t = some (.array n e)) (hs : (P.info? e).map (·.size) = some 1) (he : P.underlying e = some .string) (cs : Array Value) (hx : a.eval x = .agg cs) (k : Nat) (hi : a.eval i = .int .i64 k) (hk : k < n) (v : Value) (hv : cs[k]? = some v)
    (h : wpList P ops Q rest (a.put o.dst v) w) : wpList P ops Q (o :: rest) a w := by
  refine wpList_plain hgd fun K hK => ?_
  have hrun := run_index_arr (P := P) w t e n cs k v ht hs he hk hv
  unfold Oper.wp
  simp only [execOp, ho, hx, hi, hrun, Sem.run_bind, Sem.run_pure, Result.andThen_ok]
  exact hK _ _ h
end
end Go.Proofs.YtfpajgmdejlaeaaGreatDoor
