/-
  Lower texts of this claim, joined.
-/
import Derived.Test.YtkmpdobojgiegaaGreatDoorChecked
import Derived.Test.YtkmpdobojgiegaaGreatDoorQGround1
import Derived.LaidEql
import Derived.Stop.Asserts
import Derived.RowKitTokens
import Derived.Test.YtkmpdobojgiegaaGreatDoorTie
import Derived.Test.YtkmpdobojgiegaaGreatDoorCards
import Derived.ChangeSame
import Derived.ChangeVars
import Derived.JoinedOf
import Derived.LaidLaws
import Derived.LaidHandle
import Derived.Stop.Joined
import Derived.SevenTiedAt
import Derived.Lib.AppendStr
import Derived.ProofKit
import Derived.Deep.Slices
import Derived.Deep.Fields
import Derived.Maps.RangeWalk
import Derived.Maps.OwnSet
import Derived.Sort.KeysCollected
import Derived.Sort.Walk0
import Derived.Shelf.Small.Bits
import Derived.Shelf.Strconv.Itoa0
import Derived.Shelf.Sort.Plain
import Derived.Shelf.Slices.In.SortNone
import Derived.Test.YtkmpdobojgiegaaGreatDoorProg
import Derived.Shelf.SlGeneric
import Derived.Shelf.SlIter.Nil
import Derived.Ground.GgzProg
import Derived.Deep.Upon
import Derived.Lib.SliceRun
import Derived.Deep.RegionLaw
/-
  Closed facts on the model's entries for internal/reflectlite and on method sets, at this program's two error types; no walk.
-/
namespace Go.Proofs.YtkmpdobojgiegaaGreatDoor
open Go.RowKit Go.Extern.Stop Go.Stop Go.Extern

abbrev tKind : TypeId := 197
abbrev tPKind : TypeId := 282
abbrev tFault : TypeId := 199
abbrev tPFault : TypeId := 196
abbrev tRt : TypeId := 353
abbrev hd (t : TypeId) : Value := .agg #[.pointer (some ⟨1, t, none⟩)]
abbrev rt_ (t : TypeId) : Value := .iface tRt (hd t)
/-- a Value of reflectlite -/
abbrev vOf (t : TypeId) (a : Addr) (f : Int) : Value := .agg #[.pointer (some ⟨1, t, none⟩), .pointer (some a), .int .u64 f]

namespace Tryz
theorem vPK (t : Addr) (w : World) : (ReflectliteValue.unpack (.iface 282 (.pointer (some t)))).run Tryz.prog w = .ok (vOf 282 ⟨w.heap.size, 0, none⟩ 150) (w.alloc (.cells #[.pointer (some t)] 282)) := by kernel_rfl
theorem vK (c : Int) (w : World) : (ReflectliteValue.unpack (.iface 197 (.int .i64 c))).run Tryz.prog w = .ok (vOf 197 ⟨w.heap.size, 0, none⟩ 130) (w.alloc (.cells #[.int .i64 c] 197)) := by kernel_rfl
theorem tyPK (a : Addr) (w : World) : (ReflectliteValue.methodAny (ReflectliteValue.valueError "reflectlite.Value.Type" 0) (fun t _ _ _ => ReflectliteType.toType t) #[vOf 282 a 150]).run Tryz.prog w = .ok (rt_ 282) w := by kernel_rfl
theorem mKind (h : Value) (w : World) : (Go.method 520 353 (.agg #[h]) "Kind").run Tryz.prog w = .ok (299, h) w := by kernel_rfl
theorem mElem (h : Value) (w : World) : (Go.method 520 353 (.agg #[h]) "Elem").run Tryz.prog w = .ok (325, .agg #[h]) w := by kernel_rfl
theorem mImpl (h : Value) (w : World) : (Go.method 520 353 (.agg #[h]) "Implements").run Tryz.prog w = .ok (326, .agg #[h]) w := by kernel_rfl
theorem mAssign (h : Value) (w : World) : (Go.method 520 353 (.agg #[h]) "AssignableTo").run Tryz.prog w = .ok (323, .agg #[h]) w := by kernel_rfl
theorem mComp (h : Value) (w : World) : (Go.method 520 353 (.agg #[h]) "Comparable").run Tryz.prog w = .ok (324, .agg #[h]) w := by kernel_rfl
theorem mUnwrap (v : Value) (w : World) : (Go.method 520 196 v "Unwrap").run Tryz.prog w = .ok (305, v) w := by kernel_rfl
theorem kPK (w : World) : ((ReflectliteType.abiMethod fun t => (fun a : Nat => Value.int IntKind.u8 (a : Int)) <$> Rtype.kind t) #[.pointer (some ⟨1, 282, none⟩)]).run Tryz.prog w = .ok (.int .u8 22) w := by kernel_rfl
theorem kK (w : World) : ((ReflectliteType.abiMethod fun t => (fun a : Nat => Value.int IntKind.u8 (a : Int)) <$> Rtype.kind t) #[.pointer (some ⟨1, 197, none⟩)]).run Tryz.prog w = .ok (.int .u8 2) w := by kernel_rfl
theorem ePK (w : World) : (ReflectliteType.method ReflectliteType.elem #[hd 282]).run Tryz.prog w = .ok (rt_ 197) w := by kernel_rfl
theorem iK (w : World) : (ReflectliteType.relation "Implements" ReflectliteType.implements_ #[hd 197, rt_ 27]).run Tryz.prog w = .ok (.bool true) w := by kernel_rfl
theorem tPF (v : Value) (w : World) : (ReflectliteType.typeOf #[.iface 196 v]).run Tryz.prog w = .ok (rt_ 196) w := by kernel_rfl
theorem tK (v : Value) (w : World) : (ReflectliteType.typeOf #[.iface 197 v]).run Tryz.prog w = .ok (rt_ 197) w := by kernel_rfl
theorem aKK (w : World) : (ReflectliteType.relation "AssignableTo" ReflectliteType.assignableTo #[hd 197, rt_ 197]).run Tryz.prog w = .ok (.bool true) w := by kernel_rfl
theorem aFK (w : World) : (ReflectliteType.relation "AssignableTo" ReflectliteType.assignableTo #[hd 196, rt_ 197]).run Tryz.prog w = .ok (.bool false) w := by kernel_rfl
theorem cK (w : World) : ((ReflectliteType.method fun t => do Extern.Rtype.noPackHeld "Comparable" t; pure (.bool (← typeInfo t).comparable)) #[hd 197]).run Tryz.prog w = .ok (.bool true) w := by kernel_rfl

/-! method sets -/
theorem noAsF (v : Value) (xT : TypeId) (w : World) : (Instr.typeAssert (.iface 196 v) xT 357 true).run Tryz.prog w = .ok (.tuple #[.nilIface, .bool false]) w := run_typeAssert_lacksB Tryz.underlying357 (by kernel_rfl) (by kernel_rfl) v xT w
theorem noIsF (v : Value) (xT : TypeId) (w : World) : (Instr.typeAssert (.iface 196 v) xT 365 true).run Tryz.prog w = .ok (.tuple #[.nilIface, .bool false]) w := run_typeAssert_lacksB Tryz.underlying365 (by kernel_rfl) (by kernel_rfl) v xT w
theorem noIsK (v : Value) (xT : TypeId) (w : World) : (Instr.typeAssert (.iface 197 v) xT 365 true).run Tryz.prog w = .ok (.tuple #[.nilIface, .bool false]) w := run_typeAssert_lacksB Tryz.underlying365 (by kernel_rfl) (by kernel_rfl) v xT w
theorem unF (v : Value) (xT : TypeId) (w : World) : (Instr.typeAssert (.iface 196 v) xT 360 true).run Tryz.prog w = .ok (.tuple #[.iface 196 v, .bool true]) w := run_typeAssert_hasB Tryz.underlying360 (by kernel_rfl) v xT w
theorem noUnK (v : Value) (xT : TypeId) (w : World) : (Instr.typeAssert (.iface 197 v) xT 360 true).run Tryz.prog w = .ok (.tuple #[.nilIface, .bool false]) w := run_typeAssert_lacksB Tryz.underlying360 (by kernel_rfl) (by kernel_rfl) v xT w
theorem noUnsK (v : Value) (xT : TypeId) (w : World) : (Instr.typeAssert (.iface 197 v) xT 361 true).run Tryz.prog w = .ok (.tuple #[.nilIface, .bool false]) w := run_typeAssert_lacksB Tryz.underlying361 (by kernel_rfl) (by kernel_rfl) v xT w

/-! the entries that read or write memory -/
theorem rlm (z : Sem Value) (f : TypeId → Addr → Nat → Nat → Sem Value) (v : Value) :
    ReflectliteValue.method z f #[v] = (do match ← ReflectliteValue.parts v with | none => z | some (t, a, fl) => f t a fl (fl % 32)) := rfl
theorem pPK (a : Addr) (w : World) : (ReflectliteValue.parts (vOf 282 a 150)).run Tryz.prog w = .ok (some (282, a, 150)) w := by kernel_rfl
theorem isNilPK (a p : Addr) (W : World) (ha : W.cell? a = some (.pointer (some p))) :
    (ReflectliteValue.method (ReflectliteValue.valueError "reflectlite.Value.IsNil" 0) ReflectliteValue.isNil #[vOf 282 a 150]).run Tryz.prog W = .ok (.bool false) W := by
  rw [rlm]
  simp only [Sem.run_bind, pPK, Result.andThen]
  simp [ReflectliteValue.isNil, loadVar, isAgg, underlying, Tryz.underlying282, ha, Result.andThen]
theorem eoPK (w : World) : (Rtype.elem? 282).run Tryz.prog w = .ok (some 197) w := by kernel_rfl
theorem mkK (p : Addr) (w : World) : (ReflectliteValue.mk 197 p ReflectliteValue.flagAddr).run Tryz.prog w = .ok (vOf 197 p 386) w := by kernel_rfl
theorem elPK (a p : Addr) (W : World) (ha : W.cell? a = some (.pointer (some p))) :
    (ReflectliteValue.method (ReflectliteValue.valueError "reflectlite.Value.Elem" 0) ReflectliteValue.elem #[vOf 282 a 150]).run Tryz.prog W = .ok (vOf 197 p 386) W := by
  rw [rlm]
  simp only [Sem.run_bind, pPK, Result.andThen]
  simp [ReflectliteValue.elem, loadVar, isAgg, underlying, Tryz.underlying282, ha, Result.andThen, eoPK, mkK]
theorem rls (v x : Value) : ReflectliteValue.set #[v, x] = (do
    let (some (dst, a, fl), some (src, b, _)) := (← ReflectliteValue.parts v, ← ReflectliteValue.parts x)
      | unsupported (.noEntry "extern/(internal/reflectlite.Value).Set.zeroValue")
    if fl / ReflectliteValue.flagAddr % 2 == 0 then unsupported (.noEntry "extern/(internal/reflectlite.Value).Set.unaddressable")
    let val ← loadVar src b
    if ← Rtype.directlyAssignable dst src then storeVar dst a val
    else if ← Rtype.implements dst src then
      if (← Rtype.kind src) == 20 then
        match val with
        | .nilIface => unsupported (.noEntry "extern/reflectlite: a nil value of one interface type handed on as a value of another")
        | _ => storeVar dst a val
      else storeVar dst a (.iface src val)
    else panicString ("reflectlite.Set: value of type " ++ (← Rtype.spelt src) ++ " is not assignable to type " ++ (← Rtype.spelt dst))
    pure (.tuple #[])) := rfl
theorem pKa (a : Addr) (w : World) : (ReflectliteValue.parts (vOf 197 a 386)).run Tryz.prog w = .ok (some (197, a, 386)) w := by kernel_rfl
theorem pK (a : Addr) (w : World) : (ReflectliteValue.parts (vOf 197 a 130)).run Tryz.prog w = .ok (some (197, a, 130)) w := by kernel_rfl
theorem diK (w : World) : (Rtype.directlyAssignable 197 197).run Tryz.prog w = .ok true w := by kernel_rfl
theorem setK (ta b : Addr) (c : Int) (old : Value) (W : World) (hb : W.cell? b = some (.int .i64 c)) (ht : W.cell? ta = some old) (hf : W.frozen? ta = false) :
    (ReflectliteValue.set #[vOf 197 ta 386, vOf 197 b 130]).run Tryz.prog W = .ok (.tuple #[]) (W.setCell ta (.int .i64 c)) := by
  rw [rls]
  simp only [Sem.run_bind, pKa, pK, Result.andThen]
  simp [ReflectliteValue.flagAddr, loadVar, isAgg, underlying, Tryz.underlying197, hb, Result.andThen, diK, storeVar, Value.cells, storeCells, Addr.add]
  rw [run_store Tryz.prog W ta _ _ (by rfl)]
  simp [ht, hf]

/-- two Kinds held against one another -/
theorem eqKK (c d : Int) (w : World) : (binOp .eql 27 (.iface 197 (.int .i64 c)) (.iface 197 (.int .i64 d))).run Tryz.prog w = .ok (.bool (decide (c = d))) w := by
  obtain ⟨i, hi, hcmp⟩ := Option.map_eq_some_iff.1 (show (Tryz.prog.info? 197).map (·.comparable) = some true by kernel_rfl)
  have h : ∀ n : Nat, (Op.equalIn (n + 2) 27 (.iface 197 (.int .i64 c)) (.iface 197 (.int .i64 d))).run Tryz.prog w = .ok (decide (c = d)) w := by
    intro n
    simp [Op.equalIn, run_underlying Tryz.underlying27, run_underlying Tryz.underlying197, typeInfo, hi, hcmp]
    rw [Bool.eq_iff_iff]; simp
  simp only [binOp]
  simp [Op.equal, Op.maxDepth, h 9998]
end Tryz
end Go.Proofs.YtkmpdobojgiegaaGreatDoor

/-
  errors.As and errors.Is over a chain of Faults that ends in a Kind: what they answer and what they set.
-/
namespace Go.Proofs.YtkmpdobojgiegaaGreatDoor
open Go.RowKit Go.Extern.Stop Go.Stop Go.Extern

/-- an error as a value in memory: Faults around one another, and a Kind within -/
inductive Chain (w : World) : List (Int × ByteArray) → Int → Value → Prop
  | kind (c : Int) : Chain w [] c (.iface tKind (.int .i64 c))
  | layer (a : Nat) (n : Int) (s : ByteArray) (v : Value) (l : List (Int × ByteArray)) (c : Int) :
      Blk w a tFault #[.int .i64 n, .string s, v] → Chain w l c v → Chain w ((n, s) :: l) c (.iface tPFault (.pointer (some ⟨a, 0, none⟩)))

/-- the blocks of a chain are none of S -/
theorem Chain.keeps {S : Nat → Prop} {w w' : World} {l : List (Int × ByteArray)} {c : Int} {v : Value} (h : Chain w l c v) (k : Keeps S w w')
    (hS : ∀ a cs, Blk w a tFault cs → ¬ S a) : Chain w' l c v := by
  induction h with
  | kind c => exact .kind c
  | layer a n s v l c hb _ ih => exact .layer a n s v l c (hb.keeps k (hS a _ hb)) ih

theorem Chain.form {w : World} {l : List (Int × ByteArray)} {c : Int} {v : Value} (h : Chain w l c v) : ∃ ty x, v = .iface ty x := by
  cases h with
  | kind => exact ⟨_, _, rfl⟩
  | layer => exact ⟨_, _, rfl⟩

/-- a Fault tells what it wraps -/
theorem unwrap_ok (a : Nat) (n : Int) (s : ByteArray) (v : Value) (w : World) (hb : Blk w a tFault #[.int .i64 n, .string s, v]) :
    Calls Tryz.prog 305 #[.pointer (some ⟨a, 0, none⟩)] w fun e w' => e = .returned v ∧ w' = w := by
  obtain ⟨h0, h1, h2⟩ := hb.cells3
  go_enter Tryz.func305, Tryz.ntmps305
  go_wp2
  go_ret
  exact ⟨rfl, rfl⟩

/-- the variable errors.errorType holds the handle of the type 'error' -/
def Ety (w : World) : Prop := w.cell? ⟨0, 0, none⟩ = some (rt_ 27)

theorem is_ok (c d : Int) (l : List (Int × ByteArray)) (v : Value) (w : World) (h : Chain w l c v) :
    Calls Tryz.prog 188 #[v, .iface tKind (.int .i64 d)] w fun e w' => e = .returned (.bool (decide (c = d))) ∧ w' = w := by
  have h65 := @run_callFunc_extern Tryz.prog 237 _ ReflectliteType.typeOf Tryz.func237 (by kernel_rfl) (by kernel_rfl) (by kernel_rfl) (by kernel_rfl)
  have h98 : ∀ w, (callFunc 324 #[hd 197]).run Tryz.prog w = .ok (.value (.bool true)) w := fun w => by
    rw [@run_callFunc_extern Tryz.prog 324 _ (ReflectliteType.method fun t => do Extern.Rtype.noPackHeld "Comparable" t; pure (.bool (← typeInfo t).comparable)) Tryz.func324 (by kernel_rfl) (by kernel_rfl) (by kernel_rfl) (by kernel_rfl), Tryz.cK]; rfl
  have a1 := Tryz.tK
  have a3 := Tryz.mComp
  have inner : ∀ (l : List (Int × ByteArray)) (v : Value), Chain w l c v → Calls Tryz.prog 238 #[v, .iface tKind (.int .i64 d), .bool true] w fun e w' => e = .returned (.bool (decide (c = d))) ∧ w' = w := by
    intro l v h
    have b1 := Tryz.noIsF
    have b2 := Tryz.noIsK
    have b3 := Tryz.unF
    have b4 := Tryz.noUnK
    have b5 := Tryz.noUnsK
    have b6 := Tryz.mUnwrap
    go_enter Tryz.func238, Tryz.ntmps238
    clear h65 h98 a1 a3
    have b7 : ∀ (x : Value) (w : World), (binOp .eql 27 (.iface 196 x) (.iface 197 (.int .i64 d))).run Tryz.prog w = .ok (.bool false) w := fun x w => run_eql_iface_types (P := Tryz.prog) _ _ x _ Tryz.underlying27 (by decide) w
    go_wp2
    go_loopg [0] l.length (fun k u wx => w = wx ∧ ∃ l, k = l.length ∧ Chain w l c u)
    case atStart => exact ⟨rfl, l, rfl, h⟩
    case round =>
      obtain ⟨rfl, l, rfl, hc⟩ := hrel
      cases hc with
      | kind =>
        have b8 := fun w => Tryz.eqKK c d w
        by_cases hcd : c = d
        · have hD : decide (c = d) = true := by simp [hcd]
          simp only [hD] at b8
          have hD := Lib.hid hD
          clear hcd
          go_wp2
          go_ret
          exact ⟨by rw [show decide (c = d) = true from hD]; rfl, rfl⟩
        · have hD : decide (c = d) = false := by simp [hcd]
          simp only [hD] at b8
          have hD := Lib.hid hD
          clear hcd
          go_wp2
          go_ret
          exact ⟨by rw [show decide (c = d) = false from hD]; rfl, rfl⟩
      | layer a n s v l _ hb hc =>
        have hu := unwrap_ok a n s v _ hb
        have hv := Lib.hid (⟨l, rfl, hc⟩ : ∃ l', l.length = l'.length ∧ Chain _ l' c v)
        cases hc with
        | kind =>
          go_wp2_with (go_at_call 305; refine hu.mono ?_; rintro _ _ ⟨rfl, rfl⟩)
          go_roundg 0
          case measure => simp
          case rel => exact ⟨rfl, hv⟩
        | layer b m q u l =>
          go_wp2_with (go_at_call 305; refine hu.mono ?_; rintro _ _ ⟨rfl, rfl⟩)
          go_roundg (l.length + 1)
          case measure => simp
          case rel => exact ⟨rfl, hv⟩
  have hin := inner l v h
  obtain ⟨ty, x, rfl⟩ := h.form
  clear inner h
  go_enter Tryz.func188, Tryz.ntmps188
  go_wp2_with (go_at_call 238; refine hin.mono ?_; rintro _ _ ⟨rfl, rfl⟩)
  go_ret
  exact ⟨rfl, rfl⟩
end Go.Proofs.YtkmpdobojgiegaaGreatDoor

/-
  errors.As over a chain of Faults that ends in a Kind, at the two targets: what it answers and what it sets.
-/
namespace Go.Proofs.YtkmpdobojgiegaaGreatDoor
open Go.RowKit Go.Extern.Stop Go.Stop Go.Extern

/-- the target's own variable: at its block, the first cell -/
theorem ety_lt {w : World} (h : Ety w) : 0 < w.heap.size := by
  rcases Nat.lt_or_ge 0 w.heap.size with h1 | h1
  · exact h1
  · unfold Ety at h; simp [World.cell?, Array.getElem?_eq_none h1] at h
theorem Ety.keeps {S : Nat → Prop} {w w' : World} (h : Ety w) (k : Keeps S w w') (hS : ¬ S 0) : Ety w' := by
  have hb := k.block _ (ety_lt h) hS
  unfold Ety at h ⊢
  rw [← h]
  simp [World.cell?, hb]

/-- errors.as at the Kind within -/
theorem as_k_in (c old : Int) (t b0 : Nat) (l : List (Int × ByteArray)) (v : Value) (w : World) (h : Chain w l c v)
    (hb0 : Blk w b0 tPKind #[.pointer (some ⟨t, 0, none⟩)]) (ht : Blk w t tKind #[.int .i64 old]) :
    Calls Tryz.prog 227 #[v, .iface tPKind (.pointer (some ⟨t, 0, none⟩)), vOf tPKind ⟨b0, 0, none⟩ 150, rt_ tKind] w fun e w' =>
      e = .returned (.bool true) ∧ Keeps (fun i => i = t) w w' ∧ Blk w' t tKind #[.int .i64 c] := by
  have h65 := @run_callFunc_extern Tryz.prog 237 _ ReflectliteType.typeOf Tryz.func237 (by kernel_rfl) (by kernel_rfl) (by kernel_rfl) (by kernel_rfl)
  have h97 := @run_callFunc_extern Tryz.prog 323 _ (ReflectliteType.relation "AssignableTo" ReflectliteType.assignableTo) Tryz.func323 (by kernel_rfl) (by kernel_rfl) (by kernel_rfl) (by kernel_rfl)
  have h69 := @run_callFunc_extern Tryz.prog 254 _ (ReflectliteValue.method (ReflectliteValue.valueError "reflectlite.Value.Elem" 0) ReflectliteValue.elem) Tryz.func254 (by kernel_rfl) (by kernel_rfl) (by kernel_rfl) (by kernel_rfl)
  have h58 := @run_callFunc_extern Tryz.prog 224 _ (fun args => ReflectliteValue.unpack (args.getD 0 (.tuple #[]))) Tryz.func224 (by kernel_rfl) (by kernel_rfl) (by kernel_rfl) (by kernel_rfl)
  have h70 := @run_callFunc_extern Tryz.prog 255 _ ReflectliteValue.set Tryz.func255 (by kernel_rfl) (by kernel_rfl) (by kernel_rfl) (by kernel_rfl)
  have a1 := Tryz.tK
  have a2 := Tryz.tPF
  have a3 := Tryz.aKK
  have a4 := Tryz.aFK
  have a5 := Tryz.mAssign
  have a6 := Tryz.vK
  have b1 := Tryz.noAsF
  have b3 := Tryz.unF
  have b6 := Tryz.mUnwrap
  go_enter Tryz.func227, Tryz.ntmps227
  go_wp2
  go_loopg [0] l.length (fun k u wx => w.alloc (.cells #[.pointer (some ⟨1, 282, none⟩), .pointer (some ⟨b0, 0, none⟩), .int .u64 150] 322) = wx ∧ ∃ l, k = l.length ∧ Chain w l c u)
  case atStart => exact ⟨rfl, l, rfl, h⟩
  case round =>
    obtain ⟨rfl, l, rfl, hc⟩ := hrel
    cases hc with
    | kind =>
      have el := Tryz.elPK ⟨b0, 0, none⟩ ⟨t, 0, none⟩ (w.alloc (.cells #[.pointer (some ⟨1, 282, none⟩), .pointer (some ⟨b0, 0, none⟩), .int .u64 150] 322)) ((hb0.alloc _).cell 0)
      have st := Tryz.setK ⟨t, 0, none⟩ ⟨w.heap.size + 1, 0, none⟩ c (.int .i64 old) ((w.alloc (.cells #[.pointer (some ⟨1, 282, none⟩), .pointer (some ⟨b0, 0, none⟩), .int .u64 150] 322)).alloc (.cells #[.int .i64 c] 197))
        (by simp)
        (((ht.alloc _).alloc _).cell 0) (((ht.alloc _).alloc _).frozen 0)
      go_wp2
      go_ret
      refine ⟨rfl, ?_, ?_⟩
      · exact (((Keeps.refl (fun i => i = t) w).alloc _).alloc _).setCell (fun _ => rfl) _
      · simpa using ((ht.alloc _).alloc _).set_ 0 (.int .i64 c)
    | layer a n s v l _ hb hc =>
      have hu := unwrap_ok a n s v _ (hb.alloc (.cells #[.pointer (some ⟨1, 282, none⟩), .pointer (some ⟨b0, 0, none⟩), .int .u64 150] 322))
      have hv := Lib.hid (⟨l, rfl, hc⟩ : ∃ l', l.length = l'.length ∧ Chain _ l' c v)
      cases hc with
      | kind =>
        go_wp2_with (go_at_call 305; refine hu.mono ?_; rintro _ _ ⟨rfl, rfl⟩)
        go_roundg 0
        case measure => simp
        case rel => exact ⟨rfl, hv⟩
      | layer b m q u l' =>
        go_wp2_with (go_at_call 305; refine hu.mono ?_; rintro _ _ ⟨rfl, rfl⟩)
        go_roundg (l'.length + 1)
        case measure => simp
        case rel => exact ⟨rfl, hv⟩

set_option maxHeartbeats 1000000 in
/-- errors.As at a target of the Kinds: it is found, whatever is around it -/
theorem as_kind (c old : Int) (t : Nat) (l : List (Int × ByteArray)) (v : Value) (w : World) (h : Chain w l c v) (hg : Ety w)
    (ht : Blk w t tKind #[.int .i64 old]) :
    Calls Tryz.prog 171 #[v, .iface tPKind (.pointer (some ⟨t, 0, none⟩))] w fun e w' =>
      e = .returned (.bool true) ∧ Keeps (fun i => i = t) w w' ∧ Blk w' t tKind #[.int .i64 c] := by
  have h58 := @run_callFunc_extern Tryz.prog 224 _ (fun args => ReflectliteValue.unpack (args.getD 0 (.tuple #[]))) Tryz.func224 (by kernel_rfl) (by kernel_rfl) (by kernel_rfl) (by kernel_rfl)
  have h59 := @run_callFunc_extern Tryz.prog 225 _ (ReflectliteValue.methodAny (ReflectliteValue.valueError "reflectlite.Value.Type" 0) (fun t _ _ _ => ReflectliteType.toType t)) Tryz.func225 (by kernel_rfl) (by kernel_rfl) (by kernel_rfl) (by kernel_rfl)
  have h60 := @run_callFunc_extern Tryz.prog 226 _ (ReflectliteValue.method (ReflectliteValue.valueError "reflectlite.Value.IsNil" 0) ReflectliteValue.isNil) Tryz.func226 (by kernel_rfl) (by kernel_rfl) (by kernel_rfl) (by kernel_rfl)
  have h89 := @run_callFunc_extern Tryz.prog 299 _ (ReflectliteType.abiMethod fun t => do pure (.int .u8 (← Rtype.kind t))) Tryz.func299 (by kernel_rfl) (by kernel_rfl) (by kernel_rfl) (by kernel_rfl)
  have h99 := @run_callFunc_extern Tryz.prog 325 _ (ReflectliteType.method ReflectliteType.elem) Tryz.func325 (by kernel_rfl) (by kernel_rfl) (by kernel_rfl) (by kernel_rfl)
  have h100 := @run_callFunc_extern Tryz.prog 326 _ (ReflectliteType.relation "Implements" ReflectliteType.implements_) Tryz.func326 (by kernel_rfl) (by kernel_rfl) (by kernel_rfl) (by kernel_rfl)
  have a1 := Tryz.vPK
  have a2 := Tryz.tyPK
  have a3 := Tryz.mKind
  have a4 := Tryz.kPK
  have a5 := Tryz.mElem
  have a6 := Tryz.ePK
  have a7 := Tryz.kK
  have a8 := Tryz.mImpl
  have a9 := Tryz.iK
  have n60 := Tryz.isNilPK ⟨w.heap.size, 0, none⟩ ⟨t, 0, none⟩ ((w.alloc (.cells #[.pointer (some ⟨t, 0, none⟩)] 282)).alloc (.cells #[.pointer (some ⟨1, 282, none⟩), .pointer (some ⟨w.heap.size, 0, none⟩), .int .u64 150] 322))
    (((Blk.new w 282 #[.pointer (some ⟨t, 0, none⟩)]).alloc _).cell 0)
  have hg2 : ((w.alloc (.cells #[.pointer (some ⟨t, 0, none⟩)] 282)).alloc (.cells #[.pointer (some ⟨1, 282, none⟩), .pointer (some ⟨w.heap.size, 0, none⟩), .int .u64 150] 322)).cell? ⟨0, 0, none⟩ = some (rt_ 27) :=
    hg.keeps (((Keeps.refl (fun _ => False) w).alloc _).alloc _) id
  have hin := as_k_in c old t w.heap.size l v _ (h.keeps (((Keeps.refl (fun _ => False) w).alloc (.cells #[.pointer (some ⟨t, 0, none⟩)] 282)).alloc (.cells #[.pointer (some ⟨1, 282, none⟩), .pointer (some ⟨w.heap.size, 0, none⟩), .int .u64 150] 322)) (fun _ _ _ => id))
    ((Blk.new w 282 #[.pointer (some ⟨t, 0, none⟩)]).alloc _) ((ht.alloc _).alloc _)
  have hin := Lib.hid hin
  obtain ⟨ty, x, rfl⟩ := h.form
  clear hg h ht
  go_enter Tryz.func171, Tryz.ntmps171
  go_wp2_with (go_at_call 227; refine hin.mono ?_; rintro _ w2 ⟨rfl, hk, hb⟩)
  go_ret
  exact ⟨rfl, (((Keeps.refl _ w).alloc _).alloc _).trans hk, hb⟩
end Go.Proofs.YtkmpdobojgiegaaGreatDoor

/-
  What the rows' condition on the listed variable gives a walk; a world that meets it.
-/
namespace Go.Proofs.YtkmpdobojgiegaaGreatDoor
open Go.ChangeShapes Go.WideShapes Go.RowKit

theorem cardEt : Tryz.prog.globalNamed "errors.errorType" = some 0 := by kernel_rfl
theorem cardRt : (Tryz.prog.cutTypes.find? (·.1 == "internal/reflectlite.rtype")).map (·.2) = some tRt := by kernel_rfl
theorem cardOne : ((List.range 420).filter fun t => Tryz.prog.rowNamed t [101, 114, 114, 111, 114]) = [27] := by kernel_rfl
theorem cardSize : Tryz.prog.types.size = 420 := by kernel_rfl

/-- what the condition gives a walk: the variable's one cell -/
theorem ety_of_laid {W : World} (h : laidMetH Tryz.prog [("errors.errorType", Rows.laid_errors_errorType)] W) : Ety W := by
  have h' : laidMet Tryz.prog [] W ∧ handlesMet Tryz.prog [("errors.errorType", Rows.laid_errors_errorType)] W := h
  obtain ⟨name, u, ty, e1, e2, e3, e4, e5⟩ := h'.2 _ (List.mem_singleton.2 rfl)
  have en : name = [101, 114, 114, 111, 114] := (Option.some.inj e1).symm
  subst en
  obtain rfl := Option.some.inj (cardRt.symm.trans e2)
  have hm : ty ∈ (List.range 420).filter fun t => Tryz.prog.rowNamed t [101, 114, 114, 111, 114] := List.mem_filter.2 ⟨List.mem_range.2 (by rw [← cardSize]; exact e3), e4⟩
  rw [cardOne] at hm
  obtain rfl := List.mem_singleton.1 hm
  have hh : typeHandle Tryz.prog 27 = .pointer (some ⟨1, 27, none⟩) := by kernel_rfl
  rw [hh] at e5
  unfold Ety
  simpa using World.var?_cell cardEt e5 0

/-- a world that meets the condition: the settled one, the variable's cell laid -/
noncomputable def laidWorld (os : Os) : World :=
  let w0 := World.holding Tryz.prog os ⟨#[], #[], []⟩
  { w0 with heap := w0.heap.modify 0 fun
      | .cells _ t frozen => .cells #[rt_ 27] t frozen
      | o => o }
theorem laidWorld_met (os : Os) (args : Array Value) : laidMetH Tryz.prog [("errors.errorType", Rows.laid_errors_errorType)] ((laidWorld os).forCall (fun _ _ => 0) ⟨#[], args, []⟩).memory :=
  laidMetH_of_parts (laidMet_nil _ _) (by kernel_rfl)
end Go.Proofs.YtkmpdobojgiegaaGreatDoor

/-
  A console's line, plainly: how long is waited, which steps are due, what is done to the line. No program in sight.
-/
namespace Go.Proofs.YtkmpdobojgiegaaGreatDoor
open Go.RowKit

def tickMax : Int := 1099511627776
/-- may something be a step? -/
def rightS (x : Stp) : Bool := (decide (x.kind = 1) && decide (x.s ≠ []) && decide (x.n = 0)) || (decide (x.kind = 2) && decide (x.s = []) && decide (0 < x.n)) || (decide (x.kind = 3) && decide (x.s = []) && decide (x.n = 0))
theorem rightS_iff {x : Stp} : rightS x = true ↔ (x.kind = 1 ∧ x.s ≠ [] ∧ x.n = 0) ∨ (x.kind = 2 ∧ x.s = [] ∧ 0 < x.n) ∨ (x.kind = 3 ∧ x.s = [] ∧ x.n = 0) := by
  unfold rightS
  simp only [Bool.or_eq_true, Bool.and_eq_true, decide_eq_true_eq]
  constructor
  · rintro ((⟨⟨a, b⟩, c⟩ | ⟨⟨a, b⟩, c⟩) | ⟨⟨a, b⟩, c⟩)
    · exact .inl ⟨a, b, c⟩
    · exact .inr (.inl ⟨a, b, c⟩)
    · exact .inr (.inr ⟨a, b, c⟩)
  · rintro (⟨a, b, c⟩ | ⟨a, b, c⟩ | ⟨a, b, c⟩)
    · exact .inl (.inl ⟨⟨a, b⟩, c⟩)
    · exact .inl (.inr ⟨⟨a, b⟩, c⟩)
    · exact .inr ⟨⟨a, b⟩, c⟩
theorem rightS_n {x : Stp} (h : rightS x = true) : 0 ≤ x.n := by rcases rightS_iff.1 h with h | h | h <;> omega
/-- why there is no runner of steps, with so many ticks left -/
def chkS : Int → List Stp → Int
  | _, [] => 0
  | left, x :: l => if rightS x then (if left < x.n then 2 else chkS (left - x.n) l) else 1
def checkS (l : List Stp) (now : Int) : Int := if now < 0 ∨ tickMax < now then 1 else chkS (tickMax - now) l
def sumS : List Stp → Int
  | [] => 0
  | x :: l => x.n + sumS l
/-- steps that may be, and end in time -/
structure StpsOk (l : List Stp) (start : Int) : Prop where
  right : ∀ x ∈ l, rightS x = true
  lo : 0 ≤ start
  hi : start + sumS l ≤ tickMax
theorem chkS_ok : ∀ (l : List Stp) (left : Int), chkS left l = 0 → (∀ x ∈ l, rightS x = true) ∧ (0 ≤ left → sumS l ≤ left)
  | [], left, _ => ⟨by simp, fun h => h⟩
  | x :: l, left, h => by
    rw [chkS] at h
    split at h
    · rename_i hr
      split at h
      · cases h
      · obtain ⟨h1, h2⟩ := chkS_ok l _ h
        refine ⟨fun y hy => ?_, fun hl => ?_⟩
        · rcases List.mem_cons.1 hy with rfl | hy
          · exact hr
          · exact h1 y hy
        · rw [sumS]; have := h2 (by omega); omega
    · cases h
theorem checkS_ok {l : List Stp} {now : Int} (h : checkS l now = 0) : StpsOk l now := by
  unfold checkS at h
  split at h
  · cases h
  · obtain ⟨h1, h2⟩ := chkS_ok l _ h
    exact ⟨h1, by omega, by have := h2 (by omega); omega⟩
theorem sumS_pos : ∀ (l : List Stp), (∀ x ∈ l, 0 ≤ x.n) → 0 ≤ sumS l
  | [], _ => Int.le_refl _
  | x :: l, h => by
    rw [sumS]
    have := h x (by simp)
    have := sumS_pos l (fun y hy => h y (by simp [hy]))
    omega
/-! which steps are due -/
/-- what is to be done behind one time, and up to another one -/
def dueS : Int → Int → Int → List Stp → List Stp
  | _, _, _, [] => []
  | t, b, now, x :: l => if x.kind ≠ 2 ∧ b < t + x.n ∧ t + x.n ≤ now then x :: dueS (t + x.n) b now l else dueS (t + x.n) b now l
/-- when there is something to do behind a time -/
def nextS : Int → Int → List Stp → Option Int
  | t, b, [] => if b < t then some t else none
  | t, b, x :: l => if x.kind ≠ 2 ∧ b < t + x.n then some (t + x.n) else nextS (t + x.n) b l
/-- how many steps are due up to a time -/
def cntS : Int → Int → List Stp → Nat
  | _, _, [] => 0
  | t, now, x :: l => if now < t + x.n then 0 else cntS (t + x.n) now l + 1
/-- the steps up to a time, behind so many -/
def outS : Int → Nat → Int → List Stp → List Stp
  | _, _, _, [] => []
  | t, d, now, x :: l => if now < t + x.n then [] else (if d = 0 ∧ x.kind ≠ 2 then [x] else []) ++ outS (t + x.n) (d - 1) now l
/-- the first step behind so many that does something -/
def nxtS : Int → Nat → List Stp → Option Int
  | _, _, [] => none
  | t, d, x :: l => if d = 0 ∧ x.kind ≠ 2 then some (t + x.n) else nxtS (t + x.n) (d - 1) l
theorem cntS_le (t now : Int) : ∀ (l : List Stp), cntS t now l ≤ l.length := by
  intro l
  induction l generalizing t with
  | nil => exact Nat.le_refl _
  | cons x l ih => rw [cntS]; split; · simp
                   · have := ih (t + x.n); simp; omega
theorem cntS_early {t b : Int} : ∀ {l : List Stp}, (∀ x ∈ l, 0 ≤ x.n) → b < t → cntS t b l = 0
  | [], _, _ => rfl
  | x :: l, hn, h => by rw [cntS, if_pos (by have := hn x (by simp); omega)]
theorem dueS_none : ∀ {l : List Stp} {t b now : Int}, (∀ x ∈ l, 0 ≤ x.n) → now < t → dueS t b now l = []
  | [], _, _, _, _, _ => rfl
  | x :: l, t, b, now, hn, h => by
    have h0 := hn x (by simp)
    rw [dueS, if_neg (by omega)]
    exact dueS_none (fun y hy => hn y (by simp [hy])) (by omega)
theorem out_due : ∀ {l : List Stp} {t b now : Int}, (∀ x ∈ l, 0 ≤ x.n) → outS t (cntS t b l) now l = dueS t b now l
  | [], _, _, _, _ => rfl
  | x :: l, t, b, now, hn => by
    have h0 := hn x (by simp)
    have hn' : ∀ y ∈ l, 0 ≤ y.n := fun y hy => hn y (by simp [hy])
    have ih := out_due (l := l) (t := t + x.n) (b := b) (now := now) hn'
    rw [outS, cntS, dueS]
    by_cases h1 : now < t + x.n
    · rw [if_pos h1, if_neg (by omega), dueS_none hn' h1]
    · rw [if_neg h1]
      by_cases h2 : b < t + x.n
      · rw [if_pos h2]
        have hc := cntS_early (t := t + x.n) (b := b) hn' h2
        rw [hc] at ih
        rw [show (0 : Nat) - 1 = 0 from rfl, ih]
        by_cases hk : x.kind ≠ 2
        · rw [if_pos ⟨rfl, hk⟩, if_pos ⟨hk, h2, by omega⟩]; rfl
        · rw [if_neg (fun h => hk h.2), if_neg (fun h => hk h.1)]; rfl
      · rw [if_neg h2, if_neg (by omega), if_neg (by omega), Nat.add_sub_cancel, ih]; rfl
theorem next_nxt : ∀ {l : List Stp} {t b : Int}, (∀ x ∈ l, 0 ≤ x.n) → nextS t b l = match nxtS t (cntS t b l) l with | some a => some a | none => if b < t + sumS l then some (t + sumS l) else none
  | [], t, b, _ => by rw [nextS, nxtS, sumS, Int.add_zero]
  | x :: l, t, b, hn => by
    have h0 := hn x (by simp)
    have hn' : ∀ y ∈ l, 0 ≤ y.n := fun y hy => hn y (by simp [hy])
    have ih := next_nxt (l := l) (t := t + x.n) (b := b) hn'
    rw [nextS, nxtS, cntS, sumS]
    by_cases h2 : b < t + x.n
    · rw [if_pos h2]
      by_cases hk : x.kind ≠ 2
      · rw [if_pos ⟨hk, h2⟩, if_pos ⟨rfl, hk⟩]
      · rw [if_neg (fun h => hk h.1), if_neg (fun h => hk h.2), ih, cntS_early hn' h2, Int.add_assoc]
    · rw [if_neg h2, if_neg (fun h => h2 h.2), if_neg (by omega), Nat.add_sub_cancel, ih, Int.add_assoc]
theorem cnt_all : ∀ {l : List Stp} {t b : Int}, (∀ x ∈ l, 0 ≤ x.n) → t + sumS l ≤ b → cntS t b l = l.length
  | [], _, _, _, _ => rfl
  | x :: l, t, b, hn, h => by
    have hn' : ∀ y ∈ l, 0 ≤ y.n := fun y hy => hn y (by simp [hy])
    have := sumS_pos l hn'
    rw [sumS] at h
    rw [cntS, if_neg (by omega), cnt_all hn' (by omega), List.length_cons]
theorem nxt_len : ∀ (l : List Stp) (t : Int), nxtS t l.length l = none
  | [], _ => rfl
  | x :: l, t => by rw [nxtS, if_neg (by simp), List.length_cons, Nat.add_sub_cancel]; exact nxt_len l _
/-- all is done, and waited -/
theorem next_none {l : List Stp} {t b : Int} (hn : ∀ x ∈ l, 0 ≤ x.n) : nextS t b l = none ↔ t + sumS l ≤ b := by
  rw [next_nxt hn]
  constructor
  · intro h
    cases hq : nxtS t (cntS t b l) l with
    | some a => rw [hq] at h; cases h
    | none =>
      rw [hq] at h
      simp only at h
      split at h
      · cases h
      · omega
  · intro h
    rw [cnt_all hn h, nxt_len]
    simp only
    rw [if_neg (by omega)]
theorem cnt_mono : ∀ {l : List Stp} {t a b : Int}, a ≤ b → cntS t a l ≤ cntS t b l
  | [], _, _, _, _ => Nat.le_refl _
  | x :: l, t, a, b, h => by
    rw [cntS, cntS]
    by_cases h1 : a < t + x.n
    · rw [if_pos h1]; exact Nat.zero_le _
    · rw [if_neg h1, if_neg (by omega)]
      have := cnt_mono (l := l) (t := t + x.n) h
      omega
/-! how long is waited -/
def lowW (base cap : Int) : Nat → Int
  | 0 => base
  | n + 1 => min (lowW base cap n + lowW base cap n) cap
theorem lowW_le {base cap : Int} (h : base ≤ cap) (h1 : 1 ≤ base) : ∀ n, base ≤ lowW base cap n ∧ lowW base cap n ≤ cap
  | 0 => ⟨Int.le_refl _, h⟩
  | n + 1 => by have := lowW_le h h1 n; rw [lowW]; omega
/-! a line -/
structure Ln where
  base : Int
  cap : Int
  jit : Int
  st : Int
  n : Nat
  at_ : Int
  first : List Stp
  l : List Stp
  start : Int
  done : Int
  held : List UInt8
abbrev OutP := Int × List UInt8
def ruleOk (base cap jit : Int) : Bool := decide (1 ≤ base) && decide (base ≤ 3600) && decide (base ≤ cap) && decide (cap ≤ 86400) && decide (0 ≤ jit) && decide (jit ≤ 3600)
def Ln.new (base cap jit : Int) (first : List Stp) : Ln := ⟨base, cap, jit, 0, 0, 0, first, [], 0, 0, []⟩
def lateP (now : Int) : Bool := decide (now < 0) || decide (549755813888 < now)
def failedL (m : Ln) (now r : Int) : Ln :=
  { m with n := if now + lowW m.base m.cap m.n + r % (m.jit + 1) ≤ tickMax then m.n + 1 else m.n, at_ := if now + lowW m.base m.cap m.n + r % (m.jit + 1) ≤ tickMax then now + lowW m.base m.cap m.n + r % (m.jit + 1) else tickMax, st := 1, l := [], held := [] }
def outOf (x : Stp) : OutP := if x.kind = 3 then (4, []) else (3, x.s)
def goOnL (m : Ln) (now : Int) : Ln × List OutP :=
  if nextS m.start now m.l = none then ({ m with done := now, st := 4, l := [], held := [] }, (dueS m.start m.done now m.l).map outOf ++ (if m.held = [] then [] else [(3, m.held)]))
  else ({ m with done := now }, (dueS m.start m.done now m.l).map outOf)
def startL (m : Ln) : Ln × List OutP := if m.st = 0 then ({ m with n := 0, st := 2 }, [(1, [])]) else (m, [])
def openedL (m : Ln) (now : Int) (ok : Bool) (r : Int) : Ln × List OutP :=
  if m.st ≠ 2 ∨ lateP now = true then (m, []) else if ok then goOnL { m with n := 0, st := 3, l := m.first, start := now, done := now - 1 } now else (failedL m now r, [])
def lostL (m : Ln) (now r : Int) : Ln × Bool := if m.st < 3 ∨ lateP now = true then (m, false) else (failedL m now r, true)
def sendL (m : Ln) (s : List UInt8) : Ln × List OutP × Bool :=
  if m.st = 4 then (m, if s = [] then [] else [(3, s)], true)
  else if (m.st ≠ 3 ∧ m.st ≠ 5) ∨ 4096 < m.held.length + s.length then (m, [], false)
  else ({ m with held := m.held ++ s }, [], true)
/-- what holds of a line -/
structure LnOk (m : Ln) : Prop where
  rule : ruleOk m.base m.cap m.jit = true
  st : 0 ≤ m.st ∧ m.st ≤ 5
  n : m.n ≤ 1099511627776
  first : (∀ x ∈ m.first, rightS x = true) ∧ sumS m.first ≤ 1000000 ∧ m.first.length ≤ 255
  run : m.st = 3 ∨ m.st = 5 → StpsOk m.l m.start ∧ nextS m.start m.done m.l ≠ none ∧ m.start - 1 ≤ m.done ∧ m.done ≤ tickMax
  idle : m.st ≠ 3 → m.st ≠ 5 → m.l = [] ∧ m.held = []
  held : m.held.length ≤ 4096
  len : m.l.length ≤ 1048576
  at_ : m.st = 1 → 0 ≤ m.at_ ∧ m.at_ ≤ tickMax
end Go.Proofs.YtkmpdobojgiegaaGreatDoor

/-
  A runner's steps with their times, plainly. No program in sight.
-/
namespace Go.Proofs.YtkmpdobojgiegaaGreatDoor
open Go.RowKit

abbrev DueP := Int × Stp
def itemsS : Int → List Stp → List DueP
  | _, [] => []
  | t, x :: l => (t + x.n, x) :: itemsS (t + x.n) l
theorem items_len (t : Int) (l : List Stp) : (itemsS t l).length = l.length := by
  induction l generalizing t with
  | nil => rfl
  | cons x l ih => rw [itemsS, List.length_cons, ih, List.length_cons]
theorem items_get {l : List Stp} {t : Int} {i : Nat} {x : Stp} (h : l[i]? = some x) : (itemsS t l)[i]? = some (t + sumS (l.take (i + 1)), x) := by
  induction l generalizing t i with
  | nil => simp at h
  | cons y l ih =>
    cases i with
    | zero =>
      simp at h
      subst h
      simp [itemsS, sumS]
    | succ i =>
      simp at h
      rw [itemsS, List.getElem?_cons_succ, ih h, List.take_succ_cons, sumS]
      rw [Int.add_assoc]
theorem cnt_items (t now : Int) (l : List Stp) : cntS t now l = ((itemsS t l).takeWhile (fun p => decide (p.1 ≤ now))).length := by
  induction l generalizing t with
  | nil => rfl
  | cons x l ih =>
    rw [cntS, itemsS, List.takeWhile_cons]
    by_cases h : now < t + x.n
    · rw [if_pos h, if_neg (show ¬ decide ((t + x.n, x).fst ≤ now) = true by simp; omega)]; rfl
    · rw [if_neg h, if_pos (show decide ((t + x.n, x).fst ≤ now) = true by simp; omega), ih, List.length_cons]
def doesS (x : Stp) : Bool := decide (x.kind ≠ 2)
theorem out_items (t now : Int) (d : Nat) (l : List Stp) : outS t d now l = ((((itemsS t l).takeWhile (fun p => decide (p.1 ≤ now))).map Prod.snd).drop d).filter doesS := by
  induction l generalizing t d with
  | nil => simp [outS, itemsS]
  | cons x l ih =>
    rw [outS, itemsS, List.takeWhile_cons]
    by_cases h : now < t + x.n
    · rw [if_pos h, if_neg (show ¬ decide ((t + x.n, x).fst ≤ now) = true by simp; omega)]; simp
    · rw [if_neg h, if_pos (show decide ((t + x.n, x).fst ≤ now) = true by simp; omega), ih, List.map_cons]
      cases d with
      | zero =>
        rw [List.drop_zero, List.drop_zero, List.filter_cons]
        by_cases hk : x.kind ≠ 2
        · rw [if_pos ⟨rfl, hk⟩, if_pos (by unfold doesS; simp [hk])]; rfl
        · rw [if_neg (fun h => hk h.2), if_neg (by unfold doesS; simp at hk; simp [hk])]; rfl
      | succ d => rw [if_neg (by simp), List.drop_succ_cons]; rfl
/-- the steps up to a time: all of them that came are in time, and the next one is not -/
theorem take_now {t now : Int} {l : List Stp} {pre : List DueP} {rest : List DueP} (h : itemsS t l = pre ++ rest) (h1 : ∀ p ∈ pre, p.1 ≤ now) (h2 : rest = [] ∨ ∃ x r, rest = x :: r ∧ now < x.1) : (itemsS t l).takeWhile (fun p => decide (p.1 ≤ now)) = pre := by
  rw [h, List.takeWhile_append_of_pos (by intro p hp; exact decide_eq_true (h1 p hp))]
  rcases h2 with rfl | ⟨x, r, rfl, hx⟩
  · simp
  · rw [List.takeWhile_cons, if_neg (by simp; omega), List.append_nil]
theorem sumS_take {l : List Stp} (h : ∀ x ∈ l, 0 ≤ x.n) (k : Nat) : 0 ≤ sumS (l.take k) ∧ sumS (l.take k) ≤ sumS l := by
  induction l generalizing k with
  | nil => simp [sumS]
  | cons x l ih =>
    have hx := h x (by simp)
    have hl : ∀ y ∈ l, 0 ≤ y.n := fun y hy => h y (by simp [hy])
    have hp := sumS_pos l hl
    cases k with
    | zero => simp [sumS]; omega
    | succ k =>
      have := ih hl k
      rw [List.take_succ_cons, sumS, sumS]
      omega
end Go.Proofs.YtkmpdobojgiegaaGreatDoor

/-
  A slice of one-cell elements that begins anywhere in its row: append of one value, and what lies in it. No program in sight.
-/
namespace Go.Proofs.YtkmpdobojgiegaaGreatDoor
open Go.RowKit

/-- the slice value v, of element type e, holds the values vs; behind them, up to its capacity, the row is its own -/
def OwnQ (w : World) (e : TypeId) (v : Value) (vs : List Value) : Prop :=
  (vs = [] ∧ ∃ a, v = .slice a 0 0) ∨ ∃ g off cap cur, v = .slice (some ⟨g, off, none⟩) vs.length cap ∧ Blk w g e cur ∧ vs.length ≤ cap ∧ off + cap ≤ cur.size ∧ cap ≤ maxLen ∧ ∀ j u, vs[j]? = some u → cur[off + j]? = some u

/-- the block into which an append may write -/
def rowB : Value → Option Nat
  | .slice (some a) _ c => if c = 0 then none else some a.block
  | _ => none
theorem rowB_some (g off n c : Nat) (h : 0 < c) : rowB (.slice (some ⟨g, off, none⟩) n c) = some g := by simp only [rowB]; rw [if_neg (by omega)]
theorem rowB_zero (a : Option Addr) (n : Nat) : rowB (.slice a n 0) = none := by cases a <;> rfl

section
variable {w w' : World} {e : TypeId} {v : Value} {vs : List Value}
theorem OwnQ.none_ : OwnQ w e (.slice none 0 0) [] := .inl ⟨rfl, none, rfl⟩
theorem OwnQ.keeps {S : Nat → Prop} (h : OwnQ w e v vs) (k : Keeps S w w') (hS : ∀ i, rowB v = some i → (∃ cs, Blk w i e cs) → ¬ S i) : OwnQ w' e v vs := by
  rcases h with h | ⟨g, off, cap, cur, rfl, hb, r⟩
  · exact .inl h
  · by_cases h0 : cap = 0
    · subst h0
      exact .inl ⟨List.eq_nil_of_length_eq_zero (by omega), _, by rw [show vs.length = 0 by omega]⟩
    · exact .inr ⟨g, off, cap, cur, rfl, hb.keeps k (hS g (rowB_some _ _ _ _ (by omega)) ⟨_, hb⟩), r⟩
theorem OwnQ.row (h : OwnQ w e v vs) : ∀ i, rowB v = some i → ∃ cs, Blk w i e cs := by
  intro i hi
  rcases h with ⟨rfl, a, rfl⟩ | ⟨g, off, cap, cur, rfl, hb, r⟩
  · rw [rowB_zero] at hi; cases hi
  · by_cases h0 : cap = 0
    · subst h0; rw [rowB_zero] at hi; cases hi
    · rw [rowB_some _ _ _ _ (by omega)] at hi; injection hi with hi; subst hi; exact ⟨_, hb⟩
theorem OwnQ.sl (h : OwnQ w e v vs) : ∃ a cap, v = .slice a vs.length cap := by
  rcases h with ⟨rfl, a, rfl⟩ | ⟨g, off, cap, cur, rfl, _⟩
  · exact ⟨a, 0, rfl⟩
  · exact ⟨_, _, rfl⟩
theorem OwnQ.sl3 (h : OwnQ w e v vs) : ∃ a n c, v = .slice a n c := by obtain ⟨a, c, hv⟩ := h.sl; exact ⟨a, _, c, hv⟩
theorem OwnQ.cell (h : OwnQ w e v vs) {j : Nat} {u : Value} (hu : vs[j]? = some u) : ∃ g off cap, v = .slice (some ⟨g, off, none⟩) vs.length cap ∧ w.cell? ⟨g, off + j, none⟩ = some u ∧ w.frozen? ⟨g, off + j, none⟩ = false ∧ g < w.heap.size ∧ ∃ cs, Blk w g e cs := by
  rcases h with ⟨rfl, _⟩ | ⟨g, off, cap, cur, rfl, hb, h1, h2, h3, h4⟩
  · simp at hu
  · exact ⟨g, off, cap, rfl, by rw [hb.cell]; exact h4 j u hu, hb.frozen _, hb.lt, _, hb⟩
/-- without its first element -/
theorem OwnQ.tail {u : Value} (h : OwnQ w e v (u :: vs)) {a : Option Addr} {n c : Nat} (hv : v = .slice a n c) : OwnQ w e (.slice (if c = 1 then a else a.map (·.add 1)) (n - 1) (c - 1)) vs := by
  rcases h with ⟨h, _⟩ | ⟨g, off, cap, cur, rfl, hb, h1, h2, h3, h4⟩
  · cases h
  · injection hv with ha hn hc
    subst ha; subst hn; subst hc
    rw [List.length_cons] at h1
    by_cases h0 : cap = 1
    · subst h0
      have : vs = [] := List.eq_nil_of_length_eq_zero (by omega)
      subst this
      exact .inl ⟨rfl, _, rfl⟩
    · rw [if_neg h0]
      refine .inr ⟨g, off + 1, cap - 1, cur, ?_, hb, by omega, by omega, by omega, fun j u' hj => ?_⟩
      · simp [Addr.add]
      · have := h4 (j + 1) u' (by simpa using hj)
        rw [← this]; congr 1; omega
end

section
variable {P : Program}
theorem run_append_q (w : World) (t ty e : TypeId) (z : Value) (bytes : Nat) (ht : P.underlying t = some (.slice e))
    (hi : (P.info? e).map (fun i => (i.zero, i.size, i.bytes)) = some (some z, 1, bytes)) (hb16 : bytes ≤ 4096) (hz : z.cells.size = 1)
    (v : Value) (vs : List Value) (hown : OwnQ w e v vs) (ad : Addr) (c : Nat) (u : Value) (hu : w.cell? ad = some u) (h1 : u.oneCell' = true) (hlen : vs.length ≤ 17179869184) :
    ∃ v' w', (Builtin.append_ #[t, t] ty #[v, .slice (some ad) 1 c]).run P w = .ok v' w' ∧ OwnQ w' e v' (vs ++ [u]) ∧ Keeps (fun i => rowB v = some i) w w' ∧ (rowB v' = rowB v ∨ rowB v' = some w.heap.size) := by
  obtain ⟨i, hi0, hzi, hsi, hbi⟩ := info_parts hi
  have hnews : ∀ j u', [u][j]? = some u' → w.cell? (ad.add j) = some u' := fun j u' hj => by
    match j, hj with
    | 0, hj => simp at hj; subst hj; simpa [Addr.add] using hu
  have hone : ∀ x ∈ [u], x.oneCell' = true := fun x hx => by simp at hx; subst hx; exact h1
  have hmul : (vs.length + 1) * i.bytes ≤ 140737488355328 := by
    have := Nat.mul_le_mul (show vs.length + 1 ≤ 17179869185 by omega) (show i.bytes ≤ 4096 by omega)
    omega
  have grown : ∀ (old : Nat), ∃ w', w' = w.drew.alloc (.cells (vs.toArray ++ [u].toArray ++ Builtin.zeroCells z.cells (grownCap w (vs.length + 1) old e - (vs.length + 1))) e) ∧
      OwnQ w' e (.slice (some ⟨w.heap.size, 0, none⟩) (vs.length + 1) (grownCap w (vs.length + 1) old e)) (vs ++ [u]) ∧ Keeps (fun i => rowB v = some i) w w' := fun old => by
    have hge := grownCap_ge w (vs.length + 1) old e
    have hcm : grownCap w (vs.length + 1) old e ≤ maxLen := grownCap_le_maxLen w (vs.length + 1) old e (by unfold maxLen; omega)
    refine ⟨_, rfl, .inr ⟨w.heap.size, 0, _, _, by simp, heap_alloc_new w.drew _, by simpa using hge, ?_, hcm, fun j u' hj => ?_⟩, (Keeps.refl _ w).drew.alloc _⟩
    · simp only [Array.size_append, List.size_toArray, size_zeroCells, hz, List.length_singleton]; omega
    · rw [Nat.zero_add, Array.getElem?_append_left (by
        have := (List.getElem?_eq_some_iff.1 hj).1
        simpa using this)]
      simpa using hj
  rcases hown with ⟨rfl, a, rfl⟩ | ⟨g, off, cap, cur, rfl, hb, hnc, hcs, hcm, hget⟩
  · obtain ⟨w', hw', hO, hK⟩ := grown 0
    refine ⟨_, w', ?_, hO, hK, .inr (rowB_some _ _ _ _ (by have := grownCap_ge w (0 + 1) 0 e; simp at this ⊢; omega))⟩
    rw [hw']
    cases a with
    | none =>
      have hr := run_append_nil (P := P) w t ty e i z ht hi0 hzi ad 1 c [u] (by rw [hsi]; rfl) hnews (by omega) (by omega) (by simp at hmul; omega)
      simpa using hr
    | some b =>
      have hr := run_append_grow (P := P) w t ty e i z ht hi0 hzi b 0 0 [] (by simp) (fun j u' hj => by simp at hj) ad 1 c [u] (by rw [hsi]; rfl) hnews (by omega) (by omega) (growslice_fits (by omega) hmul)
      simpa using hr
  · by_cases hroom : vs.length + 1 ≤ cap
    · have hf := run_firstCells_some (P := P) w i.size 1 ad 1 c [u] (by rw [hsi]; rfl) hnews
      rw [hsi] at hf
      have hst := run_storeCells_at P g (off + vs.length) e [u] 0 cur w hb (by simp; omega) (fun x hx => by simp at hx; subst hx; exact h1)
      simp only [Nat.add_zero] at hst
      refine ⟨.slice (some ⟨g, off, none⟩) (vs.length + 1) cap, w.setRow g (cur.toList.take (off + vs.length) ++ [u] ++ cur.toList.drop (off + vs.length + [u].length)).toArray, ?_, .inr ⟨g, off, cap, (cur.toList.take (off + vs.length) ++ [u] ++ cur.toList.drop (off + vs.length + [u].length)).toArray, by simp, setRow_heap w g cur _ e _ hb, by simpa using hroom, ?_, hcm, fun j u' hj => ?_⟩, (Keeps.refl _ w).setRow (fun _ => rowB_some _ _ _ _ (by omega)) _, .inl ((rowB_some _ _ _ _ (by omega)).trans (rowB_some _ _ _ _ (by omega)).symm)⟩
      rotate_left
      · simp only [List.size_toArray, List.length_append, List.length_take, List.length_drop, Array.length_toList, List.length_singleton]; omega
      · have hjl : j < vs.length + 1 := by simpa using (List.getElem?_eq_some_iff.1 hj).1
        have htl : (cur.toList.take (off + vs.length)).length = off + vs.length := by simp; omega
        rw [List.getElem?_toArray, List.append_assoc]
        by_cases hjn : j < vs.length
        · rw [List.getElem?_append_left (by rw [htl]; omega), List.getElem?_take, if_pos (by omega)]
          rw [List.getElem?_append_left hjn] at hj
          simpa using hget j u' hj
        · obtain rfl : j = vs.length := by omega
          rw [List.getElem?_append_right (by rw [htl]; omega), htl]
          simpa using hj
      · simp [Builtin.append_, run_underlying ht, sizeOf, typeInfo, hi0, Builtin.lenOf, hroom, hf, Addr.add_lit, hst, hsi]
    · obtain ⟨w', hw', hO, hK⟩ := grown cap
      refine ⟨_, w', ?_, hO, hK, .inr (rowB_some _ _ _ _ (by have := grownCap_ge w (vs.length + 1) cap e; omega))⟩
      rw [hw']
      exact run_append_grow (P := P) w t ty e i z ht hi0 hzi ⟨g, off, none⟩ vs.length cap vs (by rw [hsi]; omega) (fun j u' hj => by
        rw [Addr.add_lit, hb.cell]; exact hget j u' hj) ad 1 c [u] (by rw [hsi]; rfl) hnews (by omega) (by omega) (growslice_fits (by omega) hmul)

/-- append of one value at an operation, and at a step of a region that draws its order -/
theorem wp_append_q {w : World} {o : Oper} {a : Act} {K : Act → World → Prop} {Q : Exit → Act → World → Prop} (s x : Operand) (t : TypeId)
    (ho : o.op = .call { callee := .builtin .append, args := #[s, x], argTypes := #[t, t] }) (e : TypeId) (z : Value) (bytes : Nat) (ht : P.underlying t = some (.slice e))
    (hi : (P.info? e).map (fun i => (i.zero, i.size, i.bytes)) = some (some z, 1, bytes)) (hz : z.cells.size = 1) (hb16 : bytes ≤ 4096)
    (v : Value) (vs : List Value) (hs : a.eval s = v) (hown : OwnQ w e v vs) (ad : Addr) (c : Nat) (u : Value) (hx : a.eval x = .slice (some ad) 1 c) (hu : w.cell? ad = some u) (h1 : u.oneCell' = true)
    (hlen : vs.length ≤ 17179869184)
    (h : ∀ v' w', OwnQ w' e v' (vs ++ [u]) → Keeps (fun i => rowB v = some i) w w' → (rowB v' = rowB v ∨ rowB v' = some w.heap.size) → K (a.put o.dst v') w') : o.wp P a w K Q := by
  obtain ⟨v', w', hr, h2, h3, h4⟩ := run_append_q (P := P) w t o.type e z bytes ht hi hb16 hz v vs hown ad c u hu h1 hlen
  unfold Oper.wp execOp
  simp only [ho, resolve, invoke, builtin, Sem.run_bind, Sem.run_pure, Result.andThen_ok, List.map_toArray, List.map_cons, List.map_nil, hs, hx, hr]
  exact h v' w' h2 h3 h4
theorem wpList_append_q {w : World} {ops : Array Oper} {rest : List Oper} {o : Oper} {a : Act} {Q : Exit → Act → World → Prop} (hgd : o.guard = none) (s x : Operand) (t : TypeId)
    (ho : o.op = .call { callee := .builtin .append, args := #[s, x], argTypes := #[t, t] }) (e : TypeId) (z : Value) (bytes : Nat) (ht : P.underlying t = some (.slice e))
    (hi : (P.info? e).map (fun i => (i.zero, i.size, i.bytes)) = some (some z, 1, bytes)) (hz : z.cells.size = 1) (hb16 : bytes ≤ 4096)
    (v : Value) (vs : List Value) (hs : a.eval s = v) (hown : OwnQ w e v vs) (ad : Addr) (c : Nat) (u : Value) (hx : a.eval x = .slice (some ad) 1 c) (hu : w.cell? ad = some u) (h1 : u.oneCell' = true)
    (hlen : vs.length ≤ 17179869184)
    (h : ∀ v' w', OwnQ w' e v' (vs ++ [u]) → Keeps (fun i => rowB v = some i) w w' → (rowB v' = rowB v ∨ rowB v' = some w.heap.size) → wpList P ops Q rest (a.put o.dst v') w') : wpList P ops Q (o :: rest) a w :=
  wpList_plain hgd fun _ hK => wp_append_q s x t ho e z bytes ht hi hz hb16 v vs hs hown ad c u hx hu h1 hlen fun v' w' h2 h3 h4 => hK _ _ (h v' w' h2 h3 h4)
end
end Go.Proofs.YtkmpdobojgiegaaGreatDoor

/-
  Own bytes that begin anywhere in their row: append of a text's bytes, of another slice's cells; the text of them; a cut with its capacity. No program in sight.
-/
namespace Go.Proofs.YtkmpdobojgiegaaGreatDoor
open Go.RowKit

theorem strCells_u8 (s : ByteArray) : Lib.strCells s = u8Vs s.data.toList := by simp [Lib.strCells, u8Vs]
theorem u8Vs_app (a b : List UInt8) : u8Vs (a ++ b) = u8Vs a ++ u8Vs b := by simp [u8Vs]
theorem u8Vs_take (l : List UInt8) (n : Nat) : u8Vs (l.take n) = (u8Vs l).take n := by simp [u8Vs]
theorem u8Vs_size (s : ByteArray) : (u8Vs s.data.toList).length = s.size := by rw [u8Vs_len]; simp

section
variable {P : Program}
/-- what an append leaves: the values, and which row they lie in -/
def Appended (w w' : World) (e : TypeId) (v v' : Value) (vs : List Value) : Prop := OwnQ w' e v' vs ∧ Keeps (fun i => rowB v = some i) w w' ∧ (rowB v' = rowB v ∨ rowB v' = some w.heap.size)

theorem app_grown {w : World} {e : TypeId} {z : Value} (hz : z.cells.size = 1) (v : Value) (vs news : List Value) (hpos : 0 < news.length) (hlen : vs.length + news.length ≤ 34359738368) (old : Nat) :
    Appended w (w.drew.alloc (.cells (vs.toArray ++ news.toArray ++ Builtin.zeroCells z.cells (grownCap w (vs.length + news.length) old e - (vs.length + news.length))) e)) e v (.slice (some ⟨w.heap.size, 0, none⟩) (vs.length + news.length) (grownCap w (vs.length + news.length) old e)) (vs ++ news) := by
  have hge := grownCap_ge w (vs.length + news.length) old e
  have hcm : grownCap w (vs.length + news.length) old e ≤ maxLen := grownCap_le_maxLen w (vs.length + news.length) old e (by unfold maxLen; omega)
  refine ⟨.inr ⟨w.heap.size, 0, _, _, by simp, heap_alloc_new w.drew _, by simpa using hge, ?_, hcm, fun j u' hj => ?_⟩, (Keeps.refl _ w).drew.alloc _, ?_⟩
  · simp only [Array.size_append, List.size_toArray, size_zeroCells, hz]; omega
  · rw [Nat.zero_add, Array.getElem?_append_left (by
      have := (List.getElem?_eq_some_iff.1 hj).1
      simpa using this)]
    simpa using hj
  · exact .inr (rowB_some _ _ _ _ (by omega))
theorem Appended.same {w : World} {e : TypeId} {v : Value} {vs : List Value} (h : OwnQ w e v vs) : Appended w w e v v (vs ++ []) := ⟨by rw [List.append_nil]; exact h, Keeps.refl _ _, .inl rfl⟩
/-- the row has room -/
theorem app_room {w : World} {e : TypeId} {g off n cap : Nat} {cur : Array Value} {vs news : List Value} (hn : n = vs.length) (hb : Blk w g e cur) (hroom : vs.length + news.length ≤ cap) (hcs : off + cap ≤ cur.size) (hcm : cap ≤ maxLen) (hget : ∀ j u, vs[j]? = some u → cur[off + j]? = some u) (hpos : 0 < news.length) :
    Appended w (w.setRow g (cur.toList.take (off + vs.length) ++ news ++ cur.toList.drop (off + vs.length + news.length)).toArray) e (.slice (some ⟨g, off, none⟩) n cap) (.slice (some ⟨g, off, none⟩) (vs.length + news.length) cap) (vs ++ news) := by
  subst hn
  refine ⟨.inr ⟨g, off, cap, (cur.toList.take (off + vs.length) ++ news ++ cur.toList.drop (off + vs.length + news.length)).toArray, by simp, setRow_heap w g cur _ e _ hb, by simpa using hroom, ?_, hcm, fun j u' hj => ?_⟩, (Keeps.refl _ w).setRow (fun _ => rowB_some _ _ _ _ (by omega)) _, .inl ?_⟩
  · simp only [List.size_toArray, List.length_append, List.length_take, List.length_drop, Array.length_toList]; omega
  · have htl : (cur.toList.take (off + vs.length)).length = off + vs.length := by simp; omega
    rw [List.getElem?_toArray, List.append_assoc]
    by_cases hjn : j < vs.length
    · rw [List.getElem?_append_left (by rw [htl]; omega), List.getElem?_take, if_pos (by omega)]
      rw [List.getElem?_append_left hjn] at hj
      simpa using hget j u' hj
    · rw [List.getElem?_append_right (by rw [htl]; omega), htl, show off + j - (off + vs.length) = j - vs.length by omega]
      rw [List.getElem?_append_right (by omega)] at hj
      rw [List.getElem?_append_left (List.getElem?_eq_some_iff.1 hj).1]
      exact hj
  · rw [rowB_some _ _ _ _ (by omega), rowB_some _ _ _ _ (by omega)]

theorem run_append_qs (w : World) (t u ty e : TypeId) (ht : P.underlying t = some (.slice e)) (hu : P.underlying u = some .string)
    (hi : (P.info? e).map (fun i => (i.zero, i.size, i.bytes)) = some (some (.int .u8 0), 1, 1))
    (v : Value) (vs : List Value) (hown : OwnQ w e v vs) (s : ByteArray) (hlen : vs.length + s.size ≤ 34359738368) :
    ∃ v' w', (Builtin.append_ #[t, u] ty #[v, .string s]).run P w = .ok v' w' ∧ Appended w w' e v v' (vs ++ u8Vs s.data.toList) := by
  obtain ⟨i, hi0, hzi, hsi, hbi⟩ := info_parts hi
  have hsl := Lib.strCells_length s
  by_cases hm : s.size = 0
  · have hn : u8Vs s.data.toList = [] := List.eq_nil_of_length_eq_zero (by rw [u8Vs_size]; exact hm)
    have hf := Lib.run_firstCells_string (P := P) w 1 s
    rw [hm, strCells_u8, hn] at hf
    obtain ⟨a, c, hv⟩ := hown.sl
    have hle : vs.length ≤ c := by
      rcases hown with ⟨rfl, a', rfl⟩ | ⟨g, off, cap, cur, rfl, hb, hnc, hcs, hcm, hget⟩
      · simp
      · injection hv with _ _ h3
        omega
    refine ⟨v, w, ?_, by rw [hn]; exact Appended.same hown⟩
    rw [hv]
    cases a with
    | none => simp [Builtin.append_, run_underlying ht, run_underlying hu, sizeOf, typeInfo, hi0, hsi, Builtin.lenOf, hm, hf, hle]
    | some a => simp [Builtin.append_, run_underlying ht, run_underlying hu, sizeOf, typeInfo, hi0, hsi, Builtin.lenOf, hm, hf, hle, storeCells]
  · have hz1 : (Value.int IntKind.u8 0).cells.size = 1 := rfl
    have hpos : 0 < (Lib.strCells s).length := by rw [hsl]; omega
    rw [← strCells_u8]
    rcases hown with ⟨rfl, a, rfl⟩ | ⟨g, off, cap, cur, rfl, hb, hnc, hcs, hcm, hget⟩
    · cases a with
      | none =>
        have hr := run_append_nil_string (P := P) w t u ty e i (.int .u8 0) ht hu hi0 hzi s (by omega) (by omega) (by rw [hbi]; omega)
        have hgr := app_grown (w := w) (e := e) hz1 (.slice none 0 0) [] (Lib.strCells s) hpos (by rw [hsl]; simpa using hlen) 0
        have e1 : (s.data.map fun b => Value.int .u8 b.toNat) = (Lib.strCells s).toArray := by
          apply Array.ext'
          simp [Lib.strCells]
        rw [e1] at hr
        simp only [List.length_nil, Nat.zero_add, hsl, List.nil_append, Array.empty_append] at hgr
        exact ⟨_, _, hr, hgr⟩
      | some b =>
        have hr := Lib.run_append_grow_string (P := P) (w := w) t u ty e i (.int .u8 0) ht hu hi0 hzi b 0 0 [] (by simp) (fun j u' hj => by simp at hj) s (by omega) (by omega) (by rw [hbi]; exact growslice_fits (by omega) (by omega))
        have hgr := app_grown (w := w) (e := e) hz1 (.slice (some b) 0 0) [] (Lib.strCells s) hpos (by rw [hsl]; simpa using hlen) 0
        simp only [List.length_nil, hsl] at hgr
        exact ⟨_, _, hr, hgr⟩
    · by_cases hroom : vs.length + s.size ≤ cap
      · have hf := Lib.run_firstCells_string (P := P) w 1 s
        have hst := run_storeCells_at P g (off + vs.length) e (Lib.strCells s) 0 cur w hb (by rw [hsl]; omega) (Lib.strCells_oneCell s)
        simp only [Nat.add_zero] at hst
        refine ⟨.slice (some ⟨g, off, none⟩) (vs.length + s.size) cap, _, ?_, by
          have := app_room (w := w) (e := e) (g := g) (off := off) (n := vs.length) (cap := cap) (vs := vs) (news := Lib.strCells s) rfl hb (by rw [hsl]; exact hroom) hcs hcm hget hpos
          rw [hsl] at this
          exact this⟩
        rw [hsl] at hst
        simp [Builtin.append_, run_underlying ht, run_underlying hu, sizeOf, typeInfo, hi0, hsi, Builtin.lenOf, hroom, hf, Addr.add_lit, hst]
      · have hr := Lib.run_append_grow_string (P := P) (w := w) t u ty e i (.int .u8 0) ht hu hi0 hzi ⟨g, off, none⟩ vs.length cap vs (by rw [hsi]; omega) (fun j u' hj => by
          rw [Addr.add_lit, hb.cell]; exact hget j u' hj) s (by omega) (by omega) (by rw [hbi]; exact growslice_fits (by omega) (by omega))
        have hgr := app_grown (w := w) (e := e) hz1 (.slice (some ⟨g, off, none⟩) vs.length cap) vs (Lib.strCells s) hpos (by rw [hsl]; exact hlen) cap
        rw [hsl] at hgr
        exact ⟨_, _, hr, hgr⟩

theorem wpList_append_qs {w : World} {ops : Array Oper} {rest : List Oper} {o : Oper} {a : Act} {Q : Exit → Act → World → Prop} (hgd : o.guard = none) (sl x : Operand) (t u : TypeId)
    (ho : o.op = .call { callee := .builtin .append, args := #[sl, x], argTypes := #[t, u] }) (e : TypeId) (ht : P.underlying t = some (.slice e)) (hu : P.underlying u = some .string)
    (hi : (P.info? e).map (fun i => (i.zero, i.size, i.bytes)) = some (some (.int .u8 0), 1, 1))
    (v : Value) (vs : List Value) (hs : a.eval sl = v) (hown : OwnQ w e v vs) (s : ByteArray) (hx : a.eval x = .string s) (hlen : vs.length + s.size ≤ 34359738368)
    (h : ∀ v' w', Appended w w' e v v' (vs ++ u8Vs s.data.toList) → wpList P ops Q rest (a.put o.dst v') w') : wpList P ops Q (o :: rest) a w :=
  wpList_plain hgd fun _ hK => by
    obtain ⟨v', w', hr, h2⟩ := run_append_qs (P := P) w t u o.type e ht hu hi v vs hown s hlen
    unfold Oper.wp execOp
    simp only [ho, resolve, invoke, builtin, Sem.run_bind, Sem.run_pure, Result.andThen_ok, List.map_toArray, List.map_cons, List.map_nil, hs, hx, hr]
    exact hK _ _ (h v' w' h2)

/-- the text of own bytes -/
theorem run_string_q (w : World) (src dst e : TypeId) (v : Value) (cs : List UInt8) (hs : P.underlying src = some (.slice e)) (he : P.underlying e = some (.int .u8)) (hd : P.underlying dst = some .string) (h : OwnQ w e v (u8Vs cs)) :
    (convert src dst v).run P w = .ok (.string (str cs)) w := by
  rcases h with ⟨h1, a, rfl⟩ | ⟨g, off, cap, cur, rfl, hb, hnc, hcs, hcm, hget⟩
  · have : cs = [] := List.eq_nil_of_length_eq_zero (by rw [← u8Vs_len, h1]; rfl)
    subst this
    rw [run_convert_bytes_string w src dst e _ _ 0 hs he hd]
    cases a <;> rfl
  · rw [u8Vs_len]
    exact run_string_bytes w src dst e ⟨g, off, none⟩ cs.length cap cs hs he hd rfl (fun j c hj => by
      rw [Addr.add_lit, hb.cell]
      exact hget j _ (by unfold u8Vs; rw [List.getElem?_map, hj]; rfl))
/-- the first n, without room behind -/
theorem OwnQ.cut {w : World} {e : TypeId} {a : Option Addr} {m c : Nat} {vs : List Value} (h : OwnQ w e (.slice a m c) vs) {n : Nat} (hn : n ≤ vs.length) : OwnQ w e (.slice a n n) (vs.take n) ∧ (rowB (.slice a n n) = none ∨ rowB (.slice a n n) = rowB (.slice a m c)) := by
  rcases h with ⟨rfl, b, hv⟩ | ⟨g, off, cap, cur, hv, hb, h1, h2, h3, h4⟩
  · obtain rfl : n = 0 := by simpa using hn
    exact ⟨.inl ⟨by simp, _, rfl⟩, .inl (rowB_zero _ _)⟩
  · injection hv with e1 e2 e3
    subst e1 e2 e3
    by_cases h0 : n = 0
    · subst h0
      exact ⟨.inl ⟨by simp, _, rfl⟩, .inl (rowB_zero _ _)⟩
    · have hl : (vs.take n).length = n := by rw [List.length_take]; omega
      refine ⟨.inr ⟨g, off, n, cur, by rw [hl], hb, by omega, by omega, by omega, fun j u hj => ?_⟩, .inr ?_⟩
      · rw [List.getElem?_take] at hj
        split at hj
        · exact h4 j u hj
        · cases hj
      · rw [rowB_some _ _ _ _ (by omega), rowB_some _ _ _ _ (by omega)]
end
end Go.Proofs.YtkmpdobojgiegaaGreatDoor

/-
  Slices among the arguments, opened to lists: where each element's cells lie. No function of the program in sight.
-/
namespace Go.Proofs.YtkmpdobojgiegaaGreatDoor
open Go.RowKit Go.ChangeShapes Go.WideShapes Go.Deep

/-- a slice's n elements as a list l: element x lies in the cells R x, one behind the other -/
def SlAt {α : Type} (R : α → List Value) (size : Nat) (w : World) (a : Option Addr) (n : Nat) (l : List α) : Prop :=
  l.length = n ∧ (0 < n → ∃ b off, a = some ⟨b, off, none⟩ ∧ b < w.heap.size ∧ ∀ (i : Nat) (x : α) (j : Nat) (v : Value), l[i]? = some x → (R x)[j]? = some v → w.cell? ⟨b, off + i * size + j, none⟩ = some v)

theorem SlAt.keeps {α : Type} {R : α → List Value} {size : Nat} {w w' : World} {a : Option Addr} {n : Nat} {l : List α} {S : Nat → Prop} (h : SlAt R size w a n l) (k : Keeps S w w') (hS : ∀ i, i < w.heap.size → ¬ S i) : SlAt R size w' a n l := by
  refine ⟨h.1, fun hn => ?_⟩
  obtain ⟨b, off, ha, hb, hc⟩ := h.2 hn
  refine ⟨b, off, ha, Nat.lt_of_lt_of_le hb k.size, fun i x j v hx hv => ?_⟩
  rw [World.cell?_of_block (w := w) (k.block b hb (hS b hb))]
  exact hc i x j v hx hv

section
variable {H : Type} {enc : TypeId × Value → H} {P : Program} {w : World} {base : Nat} {spare : Nat → Bool} {held : Bool}

theorem add_plain (b off k : Nat) : (⟨b, off, none⟩ : Addr).add k = ⟨b, off + k, none⟩ := by
  unfold Addr.add
  split <;> simp_all

/-- a slice of strings -/
def strR (s : ByteArray) : List Value := [.string s]
end

theorem SlAt.str {w : World} {b off : Nat} {l : List ByteArray} (hc : ∀ (i : Nat) (x : ByteArray) (j : Nat) (v : Value), l[i]? = some x → (strR x)[j]? = some v → w.cell? ⟨b, off + i * 1 + j, none⟩ = some v) (i : Nat) (s : ByteArray) (hi : l[i]? = some s) : w.cell? ⟨b, off + i, none⟩ = some (.string s) := by
  have := hc i s 0 _ hi rfl
  simpa using this
end Go.Proofs.YtkmpdobojgiegaaGreatDoor

/-
  Footprints: which blocks a part of the memory is made of, and how they grow by what it does. No program in sight.
-/
namespace Go.Proofs.YtkmpdobojgiegaaGreatDoor
open Go.RowKit

/-- a footprint behind an act: what was there, and what the act made -/
def Ext (F : Nat → Prop) (w w' : World) : Nat → Prop := fun i => F i ∨ (w.heap.size ≤ i ∧ i < w'.heap.size)
/-- all of a footprint is there -/
def In (F : Nat → Prop) (w : World) : Prop := ∀ i, F i → i < w.heap.size
/-- two footprints have nothing in common -/
def Apart (F G : Nat → Prop) : Prop := ∀ i, F i → ¬ G i
section
variable {F G S : Nat → Prop} {a b c w w' : World}
theorem Apart.symm (h : Apart F G) : Apart G F := fun i hi hf => h i hf hi
theorem Apart.mono {F' G' : Nat → Prop} (h : Apart F G) (hF : ∀ i, F' i → F i) (hG : ∀ i, G' i → G i) : Apart F' G' := fun i hi hg => h i (hF i hi) (hG i hg)
theorem Ext.old {i : Nat} (h : F i) : Ext F w w' i := .inl h
theorem Ext.new {i : Nat} (h : w.heap.size ≤ i) (h2 : i < w'.heap.size) : Ext F w w' i := .inr ⟨h, h2⟩
theorem In.ext (h : In F w) (k : w.heap.size ≤ w'.heap.size) : In (Ext F w w') w' := fun i hi => hi.elim (fun hf => Nat.lt_of_lt_of_le (h i hf) k) (·.2)
theorem In.later (h : In F w) (k : Keeps S w w') : In F w' := fun i hi => Nat.lt_of_lt_of_le (h i hi) k.size
theorem Ext.mono {i : Nat} (h : Ext F w w' i) (hG : ∀ i, F i → G i) : Ext G w w' i := h.imp (hG i) id
theorem Ext.twice {i : Nat} (h : Ext (Ext F a b) b c i) (h1 : a.heap.size ≤ b.heap.size) (h2 : b.heap.size ≤ c.heap.size) : Ext F a c i := by
  rcases h with (h | h) | h
  · exact .inl h
  · exact .inr ⟨h.1, by omega⟩
  · exact .inr ⟨by omega, h.2⟩
/-- what lies apart lies apart behind the act too -/
theorem Apart.ext (h : Apart G F) (hG : In G w) : Apart G (Ext F w w') := fun i hi hx => hx.elim (h i hi) (fun hn => by have := hG i hi; omega)
/-- an act behind another one, of the same part -/
theorem Keeps.more {F' : Nat → Prop} (h : Keeps F a b) (k : Keeps F' b c) (hF : ∀ i, F' i → Ext F a b i) : Keeps F a c :=
  h.and_ k fun i hi hf => (hF i hf).elim id (fun hn => by omega)
end
/-! whether a guarded operation is wanted -/
theorem ite_yes {c : Bool} {a b : Prop} (h : c = true) (x : a) : if c = true then a else b := by rw [if_pos h]; exact x
theorem ite_no {c : Bool} {a b : Prop} (h : c = false) (x : b) : if c = true then a else b := by rw [if_neg (by rw [h]; decide)]; exact x
end Go.Proofs.YtkmpdobojgiegaaGreatDoor

/-
  Ticks: calc's Is, Add, Double; backoff's rule; the document's Double.
-/
namespace Go.Proofs.YtkmpdobojgiegaaGreatDoor
open Go.RowKit

def isT (n : Int) : Bool := decide (0 ≤ n) && decide (n ≤ 1099511627776)
theorem isT_true {n : Int} (h : 0 ≤ n ∧ n ≤ 1099511627776) : isT n = true := by unfold isT; simp [h]
theorem isT_false {n : Int} (h : n < 0 ∨ 1099511627776 < n) : isT n = false := by
  unfold isT
  rw [Bool.and_eq_false_iff]
  rcases h with h | h
  · left; simp; omega
  · right; simp; omega
theorem lowW_shift {b cap : Int} : ∀ n, lowW b cap (n + 1) = lowW (min (b + b) cap) cap n
  | 0 => rfl
  | n + 1 => by rw [lowW, lowW_shift n, lowW]
theorem lowW_cap {cap : Int} (h : 0 ≤ cap) : ∀ n, lowW cap cap n = cap
  | 0 => rfl
  | n + 1 => by rw [lowW, lowW_cap h n]; omega
theorem calcis_any (w : World) (n : Int) : Calls Tryz.prog 126 #[.int .i64 n] w fun e w' => e = .returned (.bool (isT n)) ∧ w' = w := by
  by_cases h0 : 0 ≤ n
  · by_cases h1 : n ≤ 1099511627776
    · have he := isT_true ⟨h0, h1⟩
      rw [he]
      clear he
      go_enter Tryz.func126, Tryz.ntmps126
      go_wp2
      go_ret
      exact ⟨rfl, rfl⟩
    · have he := isT_false (n := n) (.inr (by omega))
      rw [he]
      clear he
      go_enter Tryz.func126, Tryz.ntmps126
      go_wp2
      go_ret
      exact ⟨rfl, rfl⟩
  · have he := isT_false (n := n) (.inl (by omega))
    rw [he]
    clear he
    go_enter Tryz.func126, Tryz.ntmps126
    go_wp2
    go_ret
    exact ⟨rfl, rfl⟩
theorem cboth_any (w : World) (a b : Int) : Calls Tryz.prog 234 #[.int .i64 a, .int .i64 b] w fun e w' => e = .returned (.bool (isT a && isT b)) ∧ w' = w := by
  cases ha : isT a with
  | true =>
    have H := Lib.hid (ha ▸ calcis_any w a)
    have HB := Lib.hid (calcis_any w b)
    clear ha
    go_enter Tryz.func234, Tryz.ntmps234
    go_wp2_with fail
    refine H.out.mono ?_
    rintro e w2 ⟨rfl, rfl⟩
    go_wp2_with fail
    refine HB.out.mono ?_
    rintro e w2 ⟨rfl, rfl⟩
    go_wp2_with fail
    go_ret
    exact ⟨rfl, rfl⟩
  | false =>
    have H := Lib.hid (ha ▸ calcis_any w a)
    clear ha
    go_enter Tryz.func234, Tryz.ntmps234
    go_wp2_with fail
    refine H.out.mono ?_
    rintro e w2 ⟨rfl, rfl⟩
    go_wp2_with fail
    go_ret
    exact ⟨rfl, rfl⟩
theorem cadd_ok (w : World) (a b : Int) (ha : 0 ≤ a ∧ a ≤ 1099511627776) (hb : 0 ≤ b) (hs : a + b ≤ 1099511627776) : Calls Tryz.prog 181 #[.int .i64 a, .int .i64 b] w fun e w' => e = .returned (.tuple #[.int .i64 (a + b), .int .i64 0]) ∧ w' = w := by
  have h := cboth_any w a b
  rw [isT_true ha, isT_true (n := b) (by omega)] at h
  have H := Lib.hid h
  have hn : ¬ 1099511627776 - a < b := by omega
  clear h
  go_enter Tryz.func181, Tryz.ntmps181
  go_wp2_with fail
  refine H.out.mono ?_
  rintro e w2 ⟨rfl, rfl⟩
  go_wp2_with fail
  go_ret2
  exact ⟨rfl, rfl⟩
theorem cadd_bad (w : World) (a b : Int) (ha : 0 ≤ a ∧ a ≤ 1099511627776) (hs : 1099511627776 < a + b) : Calls Tryz.prog 181 #[.int .i64 a, .int .i64 b] w fun e w' => (∃ c : Int, c ≠ 0 ∧ e = .returned (.tuple #[.int .i64 0, .int .i64 c])) ∧ w' = w := by
  have h := cboth_any w a b
  rw [isT_true ha] at h
  by_cases hb : b ≤ 1099511627776
  · rw [isT_true (n := b) (by omega)] at h
    have H := Lib.hid h
    have hn : 1099511627776 - a < b := by omega
    clear h
    go_enter Tryz.func181, Tryz.ntmps181
    go_wp2_with fail
    refine H.out.mono ?_
    rintro e w2 ⟨rfl, rfl⟩
    go_wp2_with fail
    go_ret2
    exact ⟨⟨2, by decide, rfl⟩, rfl⟩
  · rw [isT_false (n := b) (.inr (by omega))] at h
    have H := Lib.hid h
    clear h
    go_enter Tryz.func181, Tryz.ntmps181
    go_wp2_with fail
    refine H.out.mono ?_
    rintro e w2 ⟨rfl, rfl⟩
    go_wp2_with fail
    go_ret2
    exact ⟨⟨1, by decide, rfl⟩, rfl⟩
theorem ret_int_ {k : IntKind} {a b : Int} (h : a = b) : Ending.returned (.int k a) = Ending.returned (.int k b) := by rw [h]
theorem ret_tup2 {a b c : Int} (h : a = b) : Ending.returned (.tuple #[.int .i64 a, .int .i64 c]) = Ending.returned (.tuple #[.int .i64 b, .int .i64 c]) := by rw [h]
set_option maxRecDepth 100000 in
theorem cdouble_any (w : World) (b cap : Int) (n : Nat) (hb : 1 ≤ b) (hc : b ≤ cap) (hm : cap ≤ 1099511627776) (hn : (n : Int) ≤ 1099511627776) : Calls Tryz.prog 233 #[.int .i64 b, .int .i64 n, .int .i64 cap] w fun e w' => e = .returned (.tuple #[.int .i64 (lowW b cap n), .int .i64 0]) ∧ w' = w := by
  have h := cboth_any w b cap
  rw [isT_true (n := b) (by omega), isT_true (n := cap) (by omega)] at h
  have H := Lib.hid h
  obtain ⟨R, hR⟩ : ∃ R, R = lowW b cap n := ⟨_, rfl⟩
  have HR := Lib.hid hR
  rw [← hR]
  have h1 : ¬ cap < b := by omega
  clear h hR
  go_enter Tryz.func233, Tryz.ntmps233
  go_wp2_with fail
  refine H.out.mono ?_
  rintro e w2 ⟨rfl, rfl⟩
  go_wp2_with fail
  go_loop [0, 1] (fun u0 u1 => ∃ (x : Int) (k : Nat), u0 = .int .i64 x ∧ u1 = .int .i64 k ∧ 1 ≤ x ∧ x ≤ cap ∧ k ≤ n ∧ Hid (lowW x cap k = R)) (fun _ u1 => (intOf u1).toNat)
  case atStart => exact ⟨b, n, rfl, rfl, hb, hc, Nat.le_refl _, Lib.hid HR.out.symm⟩
  case round =>
    obtain ⟨x, k, rfl, rfl, hx1, hx2, hk, HI⟩ := hrel
    have hq : cap.tdiv 2 = cap / 2 := Int.tdiv_eq_ediv_of_nonneg (by omega)
    by_cases hk0 : 0 < k
    · obtain ⟨j, rfl⟩ : ∃ j, k = j + 1 := ⟨k - 1, by omega⟩
      by_cases hxc : x < cap
      · by_cases hh : cap / 2 < x
        · have he := HI.out
          rw [lowW_shift, show min (x + x) cap = cap by omega, lowW_cap (by omega)] at he
          have HE := Lib.hid he
          clear he
          go_wp2
          go_ret2
          exact ⟨ret_tup2 HE.out, rfl⟩
        · have he := HI.out
          rw [lowW_shift, show min (x + x) cap = x * 2 by omega] at he
          have HE := Lib.hid he
          clear he
          go_wp2
          all_goals
            go_round
            case rel => exact ⟨x * 2, j, rfl, by go_num, by omega, by omega, by omega, HE⟩
            case measure => simp [intOf]
      · have he := HI.out
        obtain rfl : x = cap := by omega
        rw [lowW_cap (by omega)] at he
        have HE := Lib.hid he
        clear he
        go_wp2
        go_ret2
        exact ⟨ret_tup2 HE.out, rfl⟩
    · obtain rfl : k = 0 := by omega
      have he := HI.out
      rw [lowW] at he
      have HE := Lib.hid he
      clear he
      go_wp2
      go_ret2
      exact ⟨ret_tup2 HE.out, rfl⟩
end Go.Proofs.YtkmpdobojgiegaaGreatDoor

/-
  Append of a part of another row of structs.
-/
namespace Go.Proofs.YtkmpdobojgiegaaGreatDoor
open Go.RowKit

section
variable {α : Type} {R : α → List Value} {size : Nat}
/-- a slice value that reads as these elements -/
def SrcS (R : α → List Value) (_size : Nat) (w : World) (v : Value) (ys : List α) : Prop :=
  ∃ a c, v = .slice a ys.length c ∧ (ys = [] ∨ ∃ ad, a = some ad ∧ ∀ j u, (ys.map R).flatten[j]? = some u → w.cell? (ad.add j) = some u)
theorem SrcS.nil_ (w : World) (a : Option Addr) (c : Nat) : SrcS R size w (.slice a 0 c) [] := ⟨a, c, rfl, .inl rfl⟩
end
section
variable {P : Program} {α : Type}
theorem run_append_src (R : α → List Value) (size : Nat) (hR : ∀ x, (R x).length = size) (hsz : 0 < size) (w : World) (t ty : TypeId) (B : Nat) (e : TypeId) (z : Value) (bytes : Nat) (ht : P.underlying t = some (.slice e))
    (hi : (P.info? e).map (fun i => (i.zero, i.size, i.bytes)) = some (some z, size, bytes)) (hz : z.cells.size = size) (hb16 : bytes ≤ 4096)
    (v : Value) (xs : List α) (hown : OwnS R size w B e v xs) (s : Value) (ys : List α) (hsrc : SrcS R size w s ys) (h1 : ∀ y, ∀ u ∈ R y, u.oneCell' = true)
    (hlen : xs.length + ys.length ≤ 17179869184) (hbase : B ≤ w.heap.size) :
    ∃ v' w', (Builtin.append_ #[t, t] ty #[v, s]).run P w = .ok v' w' ∧ OwnS R size w' B e v' (xs ++ ys) ∧ Keeps (fun i => B ≤ i ∧ ∃ cs, Blk w i e cs) w w' := by
  obtain ⟨i, hi0, hzi, hsi, hbi⟩ := info_parts hi
  obtain ⟨a, c, rfl, hs⟩ := hsrc
  cases a with
  | none =>
    obtain rfl : ys = [] := by
      rcases hs with h | ⟨ad, h, _⟩
      · exact h
      · cases h
    obtain ⟨b, cap, rfl, hcap, -, hb, -⟩ := hown.shape hR
    refine ⟨.slice b xs.length cap, w, ?_, by rw [List.append_nil]; exact hown, Keeps.refl _ _⟩
    cases b with
    | none =>
      have hn : xs.length = 0 := by
        rcases Nat.eq_zero_or_pos xs.length with h | h
        · exact h
        · obtain ⟨g, hg, _⟩ := hb h; cases hg
      rw [hn]
      simp [Builtin.append_, run_underlying ht, sizeOf, typeInfo, hi0, Builtin.lenOf, Builtin.firstCells]
    | some b => simp [Builtin.append_, run_underlying ht, sizeOf, typeInfo, hi0, Builtin.lenOf, Builtin.firstCells, loadCells, storeCells, hcap]
  | some ad =>
    obtain ⟨v', w', hrun, h2, h3, -⟩ := run_append_own (P := P) w B t ty e i z size bytes ht hi0 hzi hsi hbi hz hsz v xs.length _ hown ad ys.length c (ys.map R).flatten (by rw [flat_len hR]) (by
      rcases hs with rfl | ⟨ad', ha, hc⟩
      · intro j u hj; simp at hj
      · injection ha with ha; subst ha; exact hc) (fun u hu => by
        obtain ⟨l, hl, hu⟩ := List.mem_flatten.1 hu
        obtain ⟨y, _, rfl⟩ := List.mem_map.1 hl
        exact h1 y u hu) (by unfold maxLen; omega) (by
      have := Nat.mul_le_mul hlen hb16
      omega) hbase
    exact ⟨v', w', hrun, by unfold OwnS; rw [List.map_append, List.flatten_append, List.length_append]; exact h2, (Keeps.refl _ _).grown h3 (fun k hk _ => ⟨(hown.lt k hk).1, hown.ownBlk k hk⟩)⟩

theorem wpList_append_src (R : α → List Value) (size : Nat) (hR : ∀ x, (R x).length = size) (hsz : 0 < size) {w : World} {ops : Array Oper} {rest : List Oper} {o : Oper} {a : Act} {Q : Exit → Act → World → Prop} (hgd : o.guard = none) (s x : Operand) (t : TypeId)
    (ho : o.op = .call { callee := .builtin .append, args := #[s, x], argTypes := #[t, t] }) (B : Nat) (e : TypeId) (z : Value) (bytes : Nat) (ht : P.underlying t = some (.slice e))
    (hi : (P.info? e).map (fun i => (i.zero, i.size, i.bytes)) = some (some z, size, bytes)) (hz : z.cells.size = size) (hb16 : bytes ≤ 4096)
    (v : Value) (xs : List α) (hs : a.eval s = v) (hown : OwnS R size w B e v xs) (sv : Value) (ys : List α) (hx : a.eval x = sv) (hsrc : SrcS R size w sv ys) (h1 : ∀ y, ∀ u ∈ R y, u.oneCell' = true)
    (hlen : xs.length + ys.length ≤ 17179869184) (hbase : B ≤ w.heap.size)
    (h : ∀ v' w', OwnS R size w' B e v' (xs ++ ys) → Keeps (fun i => B ≤ i ∧ ∃ cs, Blk w i e cs) w w' → wpList P ops Q rest (a.put o.dst v') w') : wpList P ops Q (o :: rest) a w := by
  refine wpList_plain hgd fun K hK => ?_
  obtain ⟨v', w', hrun, h2, h3⟩ := run_append_src R size hR hsz w t o.type B e z bytes ht hi hz hb16 v xs hown sv ys hsrc h1 hlen hbase
  unfold Oper.wp
  simp only [execOp, ho, resolve, invoke, builtin, Sem.run_bind, Sem.run_pure, Result.andThen_ok, List.map_toArray, List.map_cons, List.map_nil, hs, hx, hrun]
  exact hK _ _ (h v' w' h2 h3)

variable {R : α → List Value} {size : Nat} {w : World} {B : Nat} {e : TypeId} {xs : List α}
/-- what is behind a row's first k -/
theorem OwnS.srcDrop {a : Option Addr} {n c : Nat} (h : OwnS R size w B e (.slice a n c) xs) (hR : ∀ x, (R x).length = size) {k : Nat} (hk : k < xs.length) (c' : Nat) : ∃ ad, a = some ad ∧ SrcS R size w (.slice (some (ad.add (k * size))) (xs.length - k) c') (xs.drop k) := by
  rcases h.2 with ⟨_, h2⟩ | ⟨g, cap, cur, h0, hg, hh, h1, h2, h3, h4⟩
  · omega
  · injection h0 with h0 _ _
    subst h0
    refine ⟨_, rfl, _, c', by rw [List.length_drop], .inr ⟨_, rfl, fun j u hj => ?_⟩⟩
    have hf : (xs.map R).flatten[k * size + j]? = some u := by
      rw [← List.take_append_drop k xs, List.map_append, List.flatten_append, List.getElem?_append_right (by rw [flat_len hR, List.length_take, Nat.min_eq_left (by omega)]; omega), flat_len hR, List.length_take, Nat.min_eq_left (by omega), Nat.add_sub_cancel_left]
      exact hj
    have hl : k * size + j < xs.length * size := by rw [← flat_len hR xs]; exact (List.getElem?_eq_some_iff.1 hf).1
    have e0 : ((⟨g, 0, none⟩ : Addr).add (k * size)).add j = ⟨g, k * size + j, none⟩ := by
      by_cases h0 : k * size = 0 <;> by_cases h1 : j = 0 <;> simp [Addr.add, h0, h1]
    rw [e0, cell_of_row w g _ cur e (0, 0) hh, ← hf, ← h4, List.getElem?_take, if_pos hl]
    simp
end
end Go.Proofs.YtkmpdobojgiegaaGreatDoor

/-
  runner: right, Done, New.
-/
namespace Go.Proofs.YtkmpdobojgiegaaGreatDoor
open Go.RowKit

theorem ret_bool_ {a b : Bool} (h : a = b) : Ending.returned (.bool a) = Ending.returned (.bool b) := by rw [h]
theorem str_emp (s : List UInt8) : (str s).toList.isEmpty = decide (s = []) := by rw [ByteArray.toList_eq, str_list]; cases s <;> simp
theorem rright_any (w : World) (x : Stp) : Calls Tryz.prog 183 #[.agg #[.int .i64 x.kind, .string (str x.s), .int .i64 x.n]] w fun e w' => e = .returned (.bool (rightS x)) ∧ Keeps (fun _ => False) w w' := by
  obtain ⟨k, s, n⟩ := x
  obtain ⟨V, hV⟩ : ∃ V, V = rightS ⟨k, s, n⟩ := ⟨_, rfl⟩
  rw [← hV]
  unfold rightS at hV
  simp only at hV ⊢
  have he := str_emp s
  rcases (show k = 1 ∨ k ≠ 1 from by omega) with hk1 | hk1
  · subst hk1
    by_cases hs : s = []
    · have he2 : (str s).toList.isEmpty = true := by rw [he]; simp [hs]
      have HV := Lib.hid (show V = false by rw [hV]; simp [hs])
      clear hV he hs
      go_enter Tryz.func183, Tryz.ntmps183
      go_wp2
      go_ret
      exact ⟨ret_bool_ HV.out.symm, by (repeat (first | (with_reducible assumption) | (with_reducible exact Keeps.refl _ _) | refine Keeps.drew ?_ | refine Keeps.drewN ?_ _ | refine Keeps.setCell ?_ (by simp) _ | refine Keeps.setRow ?_ (by simp) _ | refine Keeps.alloc ?_ _))⟩
    · have he2 : (str s).toList.isEmpty = false := by rw [he]; simp [hs]
      by_cases hn : n = 0
      · have HV := Lib.hid (show V = true by rw [hV]; simp [hs, hn])
        have en : (n == 0) = true := by simpa using hn
        clear hV he hs
        go_enter Tryz.func183, Tryz.ntmps183
        go_wp2
        go_ret
        exact ⟨ret_bool_ HV.out.symm, by (repeat (first | (with_reducible assumption) | (with_reducible exact Keeps.refl _ _) | refine Keeps.drew ?_ | refine Keeps.drewN ?_ _ | refine Keeps.setCell ?_ (by simp) _ | refine Keeps.setRow ?_ (by simp) _ | refine Keeps.alloc ?_ _))⟩
      · have HV := Lib.hid (show V = false by rw [hV]; simp [hs, hn])
        have en : (n == 0) = false := by simpa using hn
        clear hV he hs
        go_enter Tryz.func183, Tryz.ntmps183
        go_wp2
        go_ret
        exact ⟨ret_bool_ HV.out.symm, by (repeat (first | (with_reducible assumption) | (with_reducible exact Keeps.refl _ _) | refine Keeps.drew ?_ | refine Keeps.drewN ?_ _ | refine Keeps.setCell ?_ (by simp) _ | refine Keeps.setRow ?_ (by simp) _ | refine Keeps.alloc ?_ _))⟩
  rcases (show k = 2 ∨ k ≠ 2 from by omega) with hk2 | hk2
  · subst hk2
    by_cases hs : s = []
    · have he2 : (str s).toList.isEmpty = true := by rw [he]; simp [hs]
      by_cases hn : 0 < n
      · have HV := Lib.hid (show V = true by rw [hV]; simp [hs, hn])
        have en : decide (0 < n) = true := by simpa using hn
        clear hV he hs
        go_enter Tryz.func183, Tryz.ntmps183
        go_wp2
        go_ret
        exact ⟨ret_bool_ HV.out.symm, by (repeat (first | (with_reducible assumption) | (with_reducible exact Keeps.refl _ _) | refine Keeps.drew ?_ | refine Keeps.drewN ?_ _ | refine Keeps.setCell ?_ (by simp) _ | refine Keeps.setRow ?_ (by simp) _ | refine Keeps.alloc ?_ _))⟩
      · have HV := Lib.hid (show V = false by rw [hV]; simp [hs, hn])
        have en : decide (0 < n) = false := by simpa using hn
        clear hV he hs
        go_enter Tryz.func183, Tryz.ntmps183
        go_wp2
        go_ret
        exact ⟨ret_bool_ HV.out.symm, by (repeat (first | (with_reducible assumption) | (with_reducible exact Keeps.refl _ _) | refine Keeps.drew ?_ | refine Keeps.drewN ?_ _ | refine Keeps.setCell ?_ (by simp) _ | refine Keeps.setRow ?_ (by simp) _ | refine Keeps.alloc ?_ _))⟩
    · have he2 : (str s).toList.isEmpty = false := by rw [he]; simp [hs]
      have HV := Lib.hid (show V = false by rw [hV]; simp [hs])
      clear hV he hs
      go_enter Tryz.func183, Tryz.ntmps183
      go_wp2
      go_ret
      exact ⟨ret_bool_ HV.out.symm, by (repeat (first | (with_reducible assumption) | (with_reducible exact Keeps.refl _ _) | refine Keeps.drew ?_ | refine Keeps.drewN ?_ _ | refine Keeps.setCell ?_ (by simp) _ | refine Keeps.setRow ?_ (by simp) _ | refine Keeps.alloc ?_ _))⟩
  rcases (show k = 3 ∨ k ≠ 3 from by omega) with hk3 | hk3
  · subst hk3
    by_cases hs : s = []
    · have he2 : (str s).toList.isEmpty = true := by rw [he]; simp [hs]
      by_cases hn : n = 0
      · have HV := Lib.hid (show V = true by rw [hV]; simp [hs, hn])
        have en : (n == 0) = true := by simpa using hn
        clear hV he hs
        go_enter Tryz.func183, Tryz.ntmps183
        go_wp2
        go_ret
        exact ⟨ret_bool_ HV.out.symm, by (repeat (first | (with_reducible assumption) | (with_reducible exact Keeps.refl _ _) | refine Keeps.drew ?_ | refine Keeps.drewN ?_ _ | refine Keeps.setCell ?_ (by simp) _ | refine Keeps.setRow ?_ (by simp) _ | refine Keeps.alloc ?_ _))⟩
      · have HV := Lib.hid (show V = false by rw [hV]; simp [hs, hn])
        have en : (n == 0) = false := by simpa using hn
        clear hV he hs
        go_enter Tryz.func183, Tryz.ntmps183
        go_wp2
        go_ret
        exact ⟨ret_bool_ HV.out.symm, by (repeat (first | (with_reducible assumption) | (with_reducible exact Keeps.refl _ _) | refine Keeps.drew ?_ | refine Keeps.drewN ?_ _ | refine Keeps.setCell ?_ (by simp) _ | refine Keeps.setRow ?_ (by simp) _ | refine Keeps.alloc ?_ _))⟩
    · have he2 : (str s).toList.isEmpty = false := by rw [he]; simp [hs]
      have HV := Lib.hid (show V = false by rw [hV]; simp [hs])
      clear hV he hs
      go_enter Tryz.func183, Tryz.ntmps183
      go_wp2
      go_ret
      exact ⟨ret_bool_ HV.out.symm, by (repeat (first | (with_reducible assumption) | (with_reducible exact Keeps.refl _ _) | refine Keeps.drew ?_ | refine Keeps.drewN ?_ _ | refine Keeps.setCell ?_ (by simp) _ | refine Keeps.setRow ?_ (by simp) _ | refine Keeps.alloc ?_ _))⟩
  · have e1 : (k == 1) = false := by simpa using hk1
    have e2 : (k == 2) = false := by simpa using hk2
    have e3 : (k == 3) = false := by simpa using hk3
    have HV := Lib.hid (show V = false by rw [hV]; simp [hk1, hk2, hk3])
    clear hV he hk1 hk2 hk3
    go_enter Tryz.func183, Tryz.ntmps183
    go_wp2
    go_ret
    exact ⟨ret_bool_ HV.out.symm, by (repeat (first | (with_reducible assumption) | (with_reducible exact Keeps.refl _ _) | refine Keeps.drew ?_ | refine Keeps.drewN ?_ _ | refine Keeps.setCell ?_ (by simp) _ | refine Keeps.setRow ?_ (by simp) _ | refine Keeps.alloc ?_ _))⟩
end Go.Proofs.YtkmpdobojgiegaaGreatDoor

/-
  backoff: more, Check, Bounds, New, Good, Fail.
-/
namespace Go.Proofs.YtkmpdobojgiegaaGreatDoor
open Go.RowKit

theorem tmod_lo (r b : Int) (hb : 0 < b) : -b < r.tmod b := by
  rcases Int.le_total 0 r with h | h
  · rw [Int.tmod_eq_emod_of_nonneg h]
    have := Int.emod_nonneg r (show b ≠ 0 by omega)
    omega
  · obtain ⟨s, rfl⟩ : ∃ s, r = -s := ⟨-r, by omega⟩
    rw [Int.neg_tmod, Int.tmod_eq_emod_of_nonneg (by omega)]
    have := Int.emod_lt_of_pos s hb
    omega
theorem tmod_mod (r b : Int) (hb : 0 < b) : (r.tmod b + b).tmod b = r % b := by
  have h1 : 0 ≤ r.tmod b + b := by
    have := tmod_lo r b hb
    omega
  rw [Int.tmod_eq_emod_of_nonneg h1, Int.add_emod_right]
  rcases Int.le_total 0 r with h | h
  · rw [Int.tmod_eq_emod_of_nonneg h, Int.emod_emod_of_dvd _ (Int.dvd_refl b)]
  · obtain ⟨s, rfl⟩ : ∃ s, r = -s := ⟨-r, by omega⟩
    rw [Int.neg_tmod, Int.tmod_eq_emod_of_nonneg (by omega)]
    rw [Int.emod_def s b]
    rw [show -(s - b * (s / b)) = -s + b * (s / b) by omega, Int.add_mul_emod_self_left]
theorem cmore_any (w : World) (r b : Int) (hb : 0 < b ∧ b ≤ 1000000) : Calls Tryz.prog 182 #[.int .i64 r, .int .i64 b] w fun e w' => e = .returned (.int .i64 (r % b)) ∧ w' = w := by
  have hm := tmod_mod r b hb.1
  obtain ⟨q, hq⟩ : ∃ q, q = r.tmod b := ⟨_, rfl⟩
  have h1 := tmod_lo r b hb.1
  have h2 := Int.tmod_lt_of_pos r hb.1
  rw [← hq] at h1 h2
  have hb0 : ¬ b = 0 := by omega
  have hbn : ¬ b = -1 := by omega
  have hw : IntKind.i64.wrap (q + b) = q + b := wrap_in (by omega) (by omega)
  obtain ⟨hb1, hb2⟩ := hb
  go_enter Tryz.func182, Tryz.ntmps182
  go_wp2
  go_ret
  exact ⟨rfl, rfl⟩
theorem bcheck_any (w : World) (b c j : Int) : Calls Tryz.prog 163 #[.agg #[.int .i64 b, .int .i64 c, .int .i64 j]] w fun e w' => e = .returned (.int .i64 (if ruleOk b c j = true then 0 else 2)) ∧ Keeps (fun _ => False) w w' := by
  have hr : (1 ≤ b ∧ b ≤ 3600 ∧ b ≤ c ∧ c ≤ 86400 ∧ 0 ≤ j ∧ j ≤ 3600) ↔ ruleOk b c j = true := by unfold ruleOk; simp; omega
  obtain ⟨V, hV⟩ : ∃ V, V = (if ruleOk b c j = true then (0 : Int) else 2) := ⟨_, rfl⟩
  rw [← hV]
  by_cases h : 1 ≤ b ∧ b ≤ 3600 ∧ b ≤ c ∧ c ≤ 86400 ∧ 0 ≤ j ∧ j ≤ 3600
  · rw [if_pos (hr.1 h)] at hV
    have HV := Lib.hid hV
    obtain ⟨a1, a2, a3, a4, a5, a6⟩ := h
    have b1 : ¬ b < 1 := by omega
    have b2 : ¬ 3600 < b := by omega
    have b3 : ¬ c < b := by omega
    have b4 : ¬ 86400 < c := by omega
    have b5 : ¬ j < 0 := by omega
    have b6 : ¬ 3600 < j := by omega
    clear hV hr
    go_enter Tryz.func163, Tryz.ntmps163
    go_wp2
    go_ret
    exact ⟨ret_int_ HV.out.symm, by (repeat (first | (with_reducible assumption) | (with_reducible exact Keeps.refl _ _) | refine Keeps.drew ?_ | refine Keeps.drewN ?_ _ | refine Keeps.setCell ?_ (by simp) _ | refine Keeps.setRow ?_ (by simp) _ | refine Keeps.alloc ?_ _))⟩
  · rw [if_neg (fun hh => h (hr.2 hh))] at hV
    have HV := Lib.hid hV
    clear hV hr
    rcases (show b < 1 ∨ (¬ b < 1 ∧ (3600 < b ∨ (¬ 3600 < b ∧ (c < b ∨ (¬ c < b ∧ (86400 < c ∨ (¬ 86400 < c ∧ (j < 0 ∨ (¬ j < 0 ∧ 3600 < j))))))))) by omega) with h1 | ⟨h1, h2 | ⟨h2, h3 | ⟨h3, h4 | ⟨h4, h5 | ⟨h5, h6⟩⟩⟩⟩⟩
    all_goals
      go_enter Tryz.func163, Tryz.ntmps163
      go_wp2
      go_ret
      exact ⟨ret_int_ HV.out.symm, by (repeat (first | (with_reducible assumption) | (with_reducible exact Keeps.refl _ _) | refine Keeps.drew ?_ | refine Keeps.drewN ?_ _ | refine Keeps.setCell ?_ (by simp) _ | refine Keeps.setRow ?_ (by simp) _ | refine Keeps.alloc ?_ _))⟩
end Go.Proofs.YtkmpdobojgiegaaGreatDoor

/-
  backoff: a wait in memory: Bounds, New, made, Good, Fail.
-/
namespace Go.Proofs.YtkmpdobojgiegaaGreatDoor
open Go.RowKit

theorem ruleOk_iff {b c j : Int} : ruleOk b c j = true ↔ (1 ≤ b ∧ b ≤ 3600 ∧ b ≤ c ∧ c ≤ 86400 ∧ 0 ≤ j ∧ j ≤ 3600) := by unfold ruleOk; simp; omega
set_option maxRecDepth 100000 in
theorem bbounds (w : World) (b c j : Int) (n : Nat) (hr : ruleOk b c j = true) (hn : n ≤ 1099511627776) :
    Calls Tryz.prog 180 #[.agg #[.int .i64 b, .int .i64 c, .int .i64 j], .int .i64 n] w fun e w' => e = .returned (.tuple #[.int .i64 (lowW b c n), .int .i64 (lowW b c n + j)]) ∧ Keeps (fun _ => False) w w' := by
  obtain ⟨a1, a2, a3, a4, a5, a6⟩ := ruleOk_iff.1 hr
  have H := Lib.hid (fun W => cdouble_any W b c n a1 a3 (by omega) (by omega))
  obtain ⟨hl1, hl2⟩ := lowW_le a3 a1 n
  obtain ⟨R, hR⟩ : ∃ R, R = lowW b c n := ⟨_, rfl⟩
  rw [← hR] at H hl1 hl2 ⊢
  clear hr
  rcases Nat.eq_zero_or_pos n with hn0 | hn0
  · subst hn0
    have H0 : ∀ W, Calls Tryz.prog 233 #[.int .i64 b, .int .i64 0, .int .i64 c] W fun e w' => e = .returned (.tuple #[.int .i64 R, .int .i64 0]) ∧ w' = W := fun W => by simpa using H.out W
    have HH := Lib.hid H0
    clear H H0 hR
    go_enter Tryz.func180, Tryz.ntmps180
    go_wp2_with (go_at_call 233; refine (HH.out _).mono ?_; rintro e w2 ⟨rfl, rfl⟩)
    go_quiet (fail)
    go_wp2_with fail
    go_ret2
    exact ⟨rfl, by (repeat (first | (with_reducible assumption) | (with_reducible exact Keeps.refl _ _) | refine Keeps.drew ?_ | refine Keeps.drewN ?_ _ | refine Keeps.setCell ?_ (by simp) _ | refine Keeps.setRow ?_ (by simp) _ | refine Keeps.alloc ?_ _))⟩
  · have hi : (0 : Int) < n := by omega
    clear hR
    go_enter Tryz.func180, Tryz.ntmps180
    go_wp2_with (go_at_call 233; refine (H.out _).mono ?_; rintro e w2 ⟨rfl, rfl⟩)
    go_quiet (fail)
    go_wp2_with fail
    go_ret2
    exact ⟨rfl, by (repeat (first | (with_reducible assumption) | (with_reducible exact Keeps.refl _ _) | refine Keeps.drew ?_ | refine Keeps.drewN ?_ _ | refine Keeps.setCell ?_ (by simp) _ | refine Keeps.setRow ?_ (by simp) _ | refine Keeps.alloc ?_ _))⟩
theorem Blk.cells4 {w : World} {g : Nat} {t : TypeId} {a b c d : Value} (h : Blk w g t #[a, b, c, d]) : (w.cell? ⟨g, 0, none⟩ = some a ∧ w.cell? ⟨g, 1, none⟩ = some b ∧ w.cell? ⟨g, 2, none⟩ = some c ∧ w.cell? ⟨g, 3, none⟩ = some d) ∧ w.frozen? ⟨g, 3, none⟩ = false := ⟨⟨h.cell 0, h.cell 1, h.cell 2, h.cell 3⟩, h.frozen 3⟩
/-- a wait in memory: its rule, and how many failures there were -/
abbrev WaitB (w : World) (wb : Nat) (b c j : Int) (n : Nat) : Prop := Blk w wb 225 #[.int .i64 b, .int .i64 c, .int .i64 j, .int .i64 n]
set_option maxRecDepth 100000 in
theorem bmade (w : World) (wb : Nat) (b c j : Int) (n : Nat) (h : WaitB w wb b c j n) (hr : ruleOk b c j = true) : Calls Tryz.prog 125 #[.pointer (some ⟨wb, 0, none⟩)] w fun e w' => e = .returned (.bool true) ∧ Keeps (fun _ => False) w w' := by
  obtain ⟨a1, -⟩ := ruleOk_iff.1 hr
  obtain ⟨⟨c0, c1, c2, c3⟩, f3⟩ := h.cells4
  have hb : ¬ b = 0 := by omega
  clear h hr
  go_enter Tryz.func125, Tryz.ntmps125
  go_wp2_with fail
  go_ret
  exact ⟨rfl, by (repeat (first | (with_reducible assumption) | (with_reducible exact Keeps.refl _ _) | refine Keeps.drew ?_ | refine Keeps.drewN ?_ _ | refine Keeps.setCell ?_ (by simp) _ | refine Keeps.setRow ?_ (by simp) _ | refine Keeps.alloc ?_ _))⟩
theorem bnew_bad (w : World) (b c j : Int) (hr : ruleOk b c j = false) : Calls Tryz.prog 108 #[.agg #[.int .i64 b, .int .i64 c, .int .i64 j]] w fun e w' => e = .returned (.tuple #[.pointer none, .int .i64 2]) ∧ Keeps (fun _ => False) w w' := by
  have h := fun W => bcheck_any W b c j
  rw [hr] at h
  have H := Lib.hid h
  clear h hr
  go_enter Tryz.func108, Tryz.ntmps108
  go_wp2_with fail
  refine (H.out _).mono ?_
  rintro e w2 ⟨rfl, k2⟩
  go_wp2_with fail
  go_ret2
  exact ⟨rfl, ((Keeps.refl _ _).alloc _).trans k2⟩
theorem bnew_ok (w : World) (b c j : Int) (hr : ruleOk b c j = true) : Calls Tryz.prog 108 #[.agg #[.int .i64 b, .int .i64 c, .int .i64 j]] w fun e w' => ∃ wb, e = .returned (.tuple #[.pointer (some ⟨wb, 0, none⟩), .int .i64 0]) ∧ w.heap.size ≤ wb ∧ WaitB w' wb b c j 0 ∧ Keeps (fun _ => False) w w' := by
  have h := fun W => bcheck_any W b c j
  rw [hr] at h
  have H := Lib.hid h
  clear h hr
  go_enter Tryz.func108, Tryz.ntmps108
  go_wp2_with fail
  refine (H.out _).mono ?_
  rintro e w2 ⟨rfl, k2⟩
  have kk : Keeps (fun _ => False) w w2 := ((Keeps.refl _ _).alloc _).trans k2
  have hb := (Blk.new w 203 #[.int .i64 b, .int .i64 c, .int .i64 j]).keeps k2 id
  obtain ⟨c0, c1, c2⟩ := hb.cells3
  have HK := Lib.hid kk
  clear k2 kk hb
  go_wp2_with fail
  go_ret2
  exact ⟨_, rfl, HK.out.size, Blk.new _ _ _, HK.out.alloc _⟩
theorem bgood (w : World) (wb : Nat) (b c j : Int) (n : Nat) (h : WaitB w wb b c j n) (hr : ruleOk b c j = true) : Calls Tryz.prog 56 #[.pointer (some ⟨wb, 0, none⟩)] w fun e w' => e = .returned (.tuple #[]) ∧ WaitB w' wb b c j 0 ∧ Keeps (fun i => i = wb) w w' := by
  have H := Lib.hid h
  have HM := Lib.hid (bmade w wb b c j n h hr)
  clear h hr
  go_enter Tryz.func56, Tryz.ntmps56
  go_wp2_with fail
  refine HM.out.mono ?_
  rintro e w2 ⟨rfl, k2⟩
  have hb := Blk.keeps H.out k2 id
  obtain ⟨⟨c0, c1, c2, c3⟩, f3⟩ := hb.cells4
  have HB := Lib.hid hb
  have HK := Lib.hid k2
  clear hb k2
  go_wp2_with fail
  go_end0
  exact ⟨rfl, HB.out.set_ 3 (.int .i64 0), ((HK.out.none_ : Keeps (fun i => i = wb) w w2)).setCell (p := ⟨wb, 3, none⟩) (fun _ => rfl) _⟩
set_option maxRecDepth 100000 in
set_option maxHeartbeats 400000 in
theorem bfail (w : World) (wb : Nat) (b c j : Int) (n : Nat) (h : WaitB w wb b c j n) (hr : ruleOk b c j = true) (hn : n ≤ 1099511627775) (now r : Int) (h0 : 0 ≤ now ∧ now ≤ 1099511627776) :
    Calls Tryz.prog 127 #[.pointer (some ⟨wb, 0, none⟩), .int .i64 now, .int .i64 r] w fun e w' =>
      (∃ q n', e = .returned (.tuple #[.int .i64 q.1, .int .i64 q.2]) ∧ WaitB w' wb b c j n' ∧ (now + lowW b c n + r % (j + 1) ≤ 1099511627776 ∧ q = (now + lowW b c n + r % (j + 1), 0) ∧ n' = n + 1 ∨ 1099511627776 < now + lowW b c n + r % (j + 1) ∧ q.2 ≠ 0 ∧ n' = n)) ∧ Keeps (fun i => i = wb) w w' := by
  obtain ⟨a1, a2, a3, a4, a5, a6⟩ := ruleOk_iff.1 hr
  have H := Lib.hid h
  have HM := Lib.hid (bmade w wb b c j n h hr)
  have HI := Lib.hid (fun W => calcis_any W now)
  rw [isT_true h0] at HI
  have HB := Lib.hid (fun W => bbounds W b c j n hr (by omega))
  have HO := Lib.hid (fun W => cmore_any W r (j + 1) (by omega))
  obtain ⟨hl1, hl2⟩ := lowW_le a3 a1 n
  have hm1 := Int.emod_nonneg r (show j + 1 ≠ 0 by omega)
  have hm2 := Int.emod_lt_of_pos r (show 0 < j + 1 by omega)
  obtain ⟨R, hR⟩ : ∃ R, R = lowW b c n := ⟨_, rfl⟩
  obtain ⟨M, hM⟩ : ∃ M, M = r % (j + 1) := ⟨_, rfl⟩
  rw [← hR] at HB hl1 hl2 ⊢
  rw [← hM] at HO hm1 hm2 ⊢
  obtain ⟨h01, h02⟩ := h0
  clear hR hM hr h
  go_enter Tryz.func127, Tryz.ntmps127
  go_wp2_with fail
  refine HM.out.mono ?_
  rintro e w2 ⟨rfl, k2⟩
  have hb := Blk.keeps H.out k2 id
  have HK := Lib.hid k2
  have HB2 := Lib.hid hb
  clear hb k2
  go_wp2_with fail
  refine (HI.out _).mono ?_
  rintro e w3 ⟨rfl, hw⟩
  obtain rfl : w2 = w3 := hw.symm
  obtain ⟨⟨c0, c1, c2, c3⟩, f3⟩ := HB2.out.cells4
  go_wp2_with fail
  clear HI HM
  go_region_held3 (fun w4 => w4.cell? ⟨wb, 0, none⟩ = some (.int .i64 b) ∧ w4.cell? ⟨wb, 1, none⟩ = some (.int .i64 c) ∧ w4.cell? ⟨wb, 2, none⟩ = some (.int .i64 j) ∧ w4.cell? ⟨wb, 3, none⟩ = some (.int .i64 n))
    ((first | exact ⟨c0, c1, c2, c3⟩ | exact ⟨d0, d1, d2, d3⟩))
    ((go_at_call 180; refine (HB.out _).mono ?_; rintro e w5 ⟨rfl, k5⟩; have k5 := k5.from_drew; have hb5 := Blk.keeps HB2.out k5 id; obtain ⟨⟨d0, d1, d2, d3⟩, g3⟩ := hb5.cells4; have HB5 := Lib.hid hb5; have HK5 := Lib.hid (HK.out.trans k5); clear hb5))
  clear HB HB2 HK c0 c1 c2 c3 f3
  by_cases hle : now + (R + M) ≤ 1099511627776
  · have HA := Lib.hid (fun W => cadd_ok W now (R + M) ⟨h01, h02⟩ (by omega) hle)
    go_wp2_with fail
    refine (HO.out _).mono ?_
    rintro e w6 ⟨rfl, hw⟩
    obtain rfl : w5 = w6 := hw.symm
    go_wp2_with fail
    refine (HA.out _).mono ?_
    rintro e w6 ⟨rfl, hw⟩
    obtain rfl : w5 = w6 := hw.symm
    go_wp2_with fail
    go_ret2
    exact ⟨⟨(now + (R + M), 0), n + 1, rfl, HB5.out.set_ 3 (.int .i64 ((n : Int) + 1)), .inl ⟨by omega, by rw [Int.add_assoc], rfl⟩⟩, (HK5.out.none_ : Keeps (fun i => i = wb) w w5).setCell (p := ⟨wb, 3, none⟩) (fun _ => rfl) _⟩
  · have HA := Lib.hid (fun W => cadd_bad W now (R + M) ⟨h01, h02⟩ (by omega))
    go_wp2_with fail
    refine (HO.out _).mono ?_
    rintro e w6 ⟨rfl, hw⟩
    obtain rfl : w5 = w6 := hw.symm
    go_wp2_with fail
    refine (HA.out _).mono ?_
    rintro e w6 ⟨⟨q, hq, rfl⟩, hw⟩
    obtain rfl : w5 = w6 := hw.symm
    have hq2 : (q != 0) = true := by simpa using hq
    go_wp2_with fail
    go_ret2
    exact ⟨⟨(0, q), n, rfl, HB5.out, .inr ⟨by omega, hq, rfl⟩⟩, HK5.out.none_⟩
end Go.Proofs.YtkmpdobojgiegaaGreatDoor

/-
  The document's ticks, rules and steps: wheelhouseref01.Is, Double; wheelhouseref18; wheelhouseref17.
-/
namespace Go.Proofs.YtkmpdobojgiegaaGreatDoor
open Go.RowKit

theorem r18check_any (w : World) (b cap j : Int) : Calls Tryz.prog 118 #[.int .i64 b, .int .i64 cap, .int .i64 j] w fun e w' => e = .returned (.int .i64 (if ruleOk b cap j = true then 0 else 2)) ∧ w' = w := by
  obtain ⟨V, hV⟩ : ∃ V : Int, V = if ruleOk b cap j = true then 0 else 2 := ⟨_, rfl⟩
  rw [← hV]
  by_cases h : ruleOk b cap j = true
  · obtain ⟨a1, a2, a3, a4, a5, a6⟩ := ruleOk_iff.1 h
    obtain rfl : V = 0 := by rw [hV, if_pos h]
    clear hV h
    go_enter Tryz.func118, Tryz.ntmps118
    go_wp2
    go_ret
    exact ⟨rfl, rfl⟩
  · obtain rfl : V = 2 := by rw [hV, if_neg h]
    have hn : ¬ (1 ≤ b ∧ b ≤ 3600 ∧ b ≤ cap ∧ cap ≤ 86400 ∧ 0 ≤ j ∧ j ≤ 3600) := fun e => h (ruleOk_iff.2 e)
    clear hV h
    by_cases b1 : 1 ≤ b
    · by_cases b2 : b ≤ 3600
      · by_cases b3 : b ≤ cap
        · by_cases b4 : cap ≤ 86400
          · by_cases b5 : 0 ≤ j
            · have b6 : ¬ j ≤ 3600 := fun e => hn ⟨b1, b2, b3, b4, b5, e⟩
              clear hn
              go_enter Tryz.func118, Tryz.ntmps118
              go_wp2
              go_ret
              exact ⟨rfl, rfl⟩
            · clear hn
              go_enter Tryz.func118, Tryz.ntmps118
              go_wp2
              go_ret
              exact ⟨rfl, rfl⟩
          · clear hn
            go_enter Tryz.func118, Tryz.ntmps118
            go_wp2
            go_ret
            exact ⟨rfl, rfl⟩
        · clear hn
          go_enter Tryz.func118, Tryz.ntmps118
          go_wp2
          go_ret
          exact ⟨rfl, rfl⟩
      · clear hn
        go_enter Tryz.func118, Tryz.ntmps118
        go_wp2
        go_ret
        exact ⟨rfl, rfl⟩
    · clear hn
      go_enter Tryz.func118, Tryz.ntmps118
      go_wp2
      go_ret
      exact ⟨rfl, rfl⟩
end Go.Proofs.YtkmpdobojgiegaaGreatDoor

/-
  Files by name, plainly: lists that rise by name, what is put there, what goes; and how they read in a map. No program in sight.
-/
namespace Go.Proofs.YtkmpdobojgiegaaGreatDoor
open Go.RowKit Go.Maps

def nmLt (a b : ByteArray) : Bool := bytesBefore a.data.toList b.data.toList
theorem before_less : ∀ a b : List UInt8, bytesBefore a b = Op.bytesLess a b
  | [], [] => rfl
  | [], _ :: _ => rfl
  | _ :: _, [] => rfl
  | a :: r, b :: s => by
    show (a < b || (a == b && bytesBefore r s)) = (a < b || (a == b && Op.bytesLess r s))
    rw [before_less r s]
theorem nmLt_irrefl (a : ByteArray) : nmLt a a = false := WideAt.bytes_irrefl _
theorem nmLt_trans {a b c : ByteArray} (h : nmLt a b = true) (k : nmLt b c = true) : nmLt a c = true := WideShapes.bytes_trans _ _ _ h k
theorem nmLt_ne {a b : ByteArray} (h : nmLt a b = true) : a ≠ b := by rintro rfl; rw [nmLt_irrefl] at h; cases h
theorem nmLt_asymm {a b : ByteArray} (h : nmLt a b = true) : nmLt b a = false := by
  cases hb : nmLt b a with
  | false => rfl
  | true => have := nmLt_trans h hb; rw [nmLt_irrefl] at this; cases this
theorem nmLt_total {a b : ByteArray} (h : a ≠ b) : nmLt a b = true ∨ nmLt b a = true := WideAt.bytes_total _ _ (fun e => h (ba_ext e))
theorem nmLt_le {a b : ByteArray} (h : nmLt a b = true) : leB a.data.toList b.data.toList = true := by
  unfold nmLt at h
  rw [before_less, bytesLess_eq] at h
  simp only [decide_eq_true_eq] at h ⊢
  exact List.le_of_lt h

/-! lists by name -/
section
variable {α : Type} (nm : α → ByteArray)
def insG (x : α) : List α → List α
  | [] => [x]
  | y :: r => if nmLt (nm x) (nm y) then x :: y :: r else y :: insG x r
def delG (n : ByteArray) (l : List α) : List α := l.filter fun y => decide (nm y ≠ n)
def getG (n : ByteArray) (l : List α) : Option α := l.find? fun y => decide (nm y = n)
def putG (x : α) (l : List α) : List α := insG nm x (delG nm (nm x) l)
def Rise (l : List α) : Prop := l.Pairwise fun a b => nmLt (nm a) (nm b) = true
variable {nm}
theorem insG_perm (x : α) : ∀ l, (insG nm x l).Perm (x :: l)
  | [] => List.Perm.refl _
  | y :: r => by
    unfold insG
    split
    · exact List.Perm.refl _
    · exact ((insG_perm x r).cons y).trans (List.Perm.swap _ _ _)
theorem insG_mem {x z : α} {l : List α} : z ∈ insG nm x l ↔ z = x ∨ z ∈ l := by rw [(insG_perm x l).mem_iff, List.mem_cons]
theorem insG_len (x : α) (l : List α) : (insG nm x l).length = l.length + 1 := by rw [(insG_perm x l).length_eq]; rfl
theorem insG_rise {x : α} : ∀ {l : List α}, Rise nm l → (∀ y ∈ l, nm y ≠ nm x) → Rise nm (insG nm x l)
  | [], _, _ => by simp [insG, Rise]
  | y :: r, h, hn => by
    obtain ⟨h1, h2⟩ := List.pairwise_cons.1 h
    unfold insG
    split
    · rename_i hlt
      refine List.pairwise_cons.2 ⟨fun z hz => ?_, h⟩
      rcases List.mem_cons.1 hz with rfl | hz
      · exact hlt
      · exact nmLt_trans hlt (h1 z hz)
    · rename_i hlt
      refine List.pairwise_cons.2 ⟨fun z hz => ?_, insG_rise h2 (fun z hz => hn z (by simp [hz]))⟩
      rcases insG_mem.1 hz with rfl | hz
      · rcases nmLt_total (hn y (by simp)) with h3 | h3
        · exact h3
        · exact absurd h3 hlt
      · exact h1 z hz
theorem delG_rise {l : List α} (h : Rise nm l) (n : ByteArray) : Rise nm (delG nm n l) := List.Pairwise.filter _ h
theorem delG_ne {n : ByteArray} {l : List α} : ∀ y ∈ delG nm n l, nm y ≠ n := fun y hy => by simpa using (List.mem_filter.1 hy).2
theorem delG_mem {n : ByteArray} {l : List α} {y : α} : y ∈ delG nm n l ↔ y ∈ l ∧ nm y ≠ n := by unfold delG; rw [List.mem_filter]; simp
theorem putG_rise {l : List α} (h : Rise nm l) (x : α) : Rise nm (putG nm x l) := insG_rise (delG_rise h _) delG_ne
theorem delG_none {n : ByteArray} {l : List α} (h : getG nm n l = none) : delG nm n l = l := by
  refine List.filter_eq_self.2 fun y hy => ?_
  have := List.find?_eq_none.1 h y hy
  simpa using this
theorem getG_some {n : ByteArray} {l : List α} {x : α} (h : getG nm n l = some x) : x ∈ l ∧ nm x = n := ⟨List.mem_of_find?_eq_some h, by simpa using List.find?_some h⟩
theorem getG_ne {n : ByteArray} {l : List α} (h : getG nm n l = none) : ∀ y ∈ l, nm y ≠ n := fun y hy => by simpa using List.find?_eq_none.1 h y hy
theorem rise_inj {l : List α} (h : Rise nm l) {x y : α} (hx : x ∈ l) (hy : y ∈ l) (e : nm x = nm y) : x = y := by
  induction l with
  | nil => cases hx
  | cons z l ih =>
    obtain ⟨h1, h2⟩ := List.pairwise_cons.1 h
    rcases List.mem_cons.1 hx with rfl | hx'
    · rcases List.mem_cons.1 hy with rfl | hy'
      · rfl
      · exact absurd e (nmLt_ne (h1 y hy'))
    · rcases List.mem_cons.1 hy with rfl | hy'
      · exact absurd e.symm (nmLt_ne (h1 x hx'))
      · exact ih h2 hx' hy'
theorem getG_of_mem {l : List α} (h : Rise nm l) {x : α} (hx : x ∈ l) : getG nm (nm x) l = some x := by
  cases hg : getG nm (nm x) l with
  | none => exact absurd rfl (getG_ne hg x hx)
  | some y => rw [rise_inj h hx (getG_some hg).1 (getG_some hg).2.symm]
theorem insG_first {x : α} {l : List α} (h : ∀ y ∈ l, nmLt (nm x) (nm y) = true) : insG nm x l = x :: l := by
  cases l with
  | nil => rfl
  | cons y r => unfold insG; rw [if_pos (h y (by simp))]
/-- what is put in place of one of its name stands in its place -/
theorem putG_there {x : α} : ∀ {l : List α}, Rise nm l → (∃ y ∈ l, nm y = nm x) → putG nm x l = l.map fun y => if nm y = nm x then x else y
  | [], _, h => by obtain ⟨y, hy, _⟩ := h; cases hy
  | y :: r, hr, h => by
    obtain ⟨h1, h2⟩ := List.pairwise_cons.1 hr
    by_cases he : nm y = nm x
    · have hd : delG nm (nm x) (y :: r) = r := by
        unfold delG
        rw [List.filter_cons_of_neg (by simpa using he)]
        refine List.filter_eq_self.2 fun z hz => ?_
        have := nmLt_ne (h1 z hz)
        rw [he] at this
        simpa using fun e => this e.symm
      have hm : (r.map fun z => if nm z = nm x then x else z) = r := by
        refine (List.map_congr_left fun z hz => ?_).trans (List.map_id' r)
        have := nmLt_ne (h1 z hz)
        rw [he] at this
        rw [if_neg fun e => this e.symm]
      unfold putG
      rw [hd, List.map_cons, if_pos he, hm]
      exact insG_first fun z hz => by rw [← he]; exact h1 z hz
    · have hex : ∃ z ∈ r, nm z = nm x := by
        obtain ⟨z, hz, e⟩ := h
        rcases List.mem_cons.1 hz with rfl | hz
        · exact absurd e he
        · exact ⟨z, hz, e⟩
      have ih := putG_there h2 hex
      have hlt : nmLt (nm x) (nm y) = false := by
        obtain ⟨z, hz, e⟩ := hex
        rw [← e]
        exact nmLt_asymm (h1 z hz)
      unfold putG at ih ⊢
      have hd : delG nm (nm x) (y :: r) = y :: delG nm (nm x) r := by unfold delG; rw [List.filter_cons_of_pos (by simpa using he)]
      rw [hd, List.map_cons, if_neg he]
      show (if nmLt (nm x) (nm y) then x :: y :: delG nm (nm x) r else y :: insG nm x (delG nm (nm x) r)) = _
      rw [if_neg (by rw [hlt]; simp), ih]
variable {β : Type} {nb : β → ByteArray} {f : α → β}
theorem insG_map (hf : ∀ a, nb (f a) = nm a) (x : α) : ∀ l, (insG nm x l).map f = insG nb (f x) (l.map f)
  | [] => rfl
  | y :: r => by
    unfold insG
    rw [hf, List.map_cons]
    show _ = if nmLt (nm x) (nb (f y)) then _ else _
    rw [hf]
    split
    · rfl
    · rw [List.map_cons, insG_map hf x r]
theorem delG_map (hf : ∀ a, nb (f a) = nm a) (n : ByteArray) (l : List α) : (delG nm n l).map f = delG nb n (l.map f) := by
  unfold delG
  rw [List.filter_map]
  congr 1
  refine List.filter_congr fun y _ => ?_
  simp [hf]
theorem putG_map (hf : ∀ a, nb (f a) = nm a) (x : α) (l : List α) : (putG nm x l).map f = putG nb (f x) (l.map f) := by
  unfold putG
  rw [insG_map hf, delG_map hf, hf]
theorem getG_map (hf : ∀ a, nb (f a) = nm a) (n : ByteArray) (l : List α) : getG nb n (l.map f) = (getG nm n l).map f := by
  unfold getG
  rw [List.find?_map]
  congr 2
  funext y
  simp [hf]
end

/-! how such a list reads in a map from texts to pointers -/
/-- a pointer to a block's head reads as that block's number -/
def ptrR : Value → Option (DataW Unit × List MemPlace)
  | .pointer (some ⟨p, 0, none⟩) => some (.lit (.int .i64 p), [])
  | .pointer none => some (.lit (.bool false), [])
  | _ => none
theorem ptrR_inv {v : Value} {p : Nat} {ps : List MemPlace} (h : ptrR v = some (.lit (.int .i64 p), ps)) : v = .pointer (some ⟨p, 0, none⟩) := by
  unfold ptrR at h
  split at h
  · rename_i q
    simp only [Option.some.injEq, Prod.mk.injEq, DataW.lit.injEq, Lit.int.injEq, true_and] at h
    have : q = p := by omega
    rw [this]
  · simp at h
  · cases h
theorem ptrR_nil {v : Value} {ps : List MemPlace} (h : ptrR v = some (.lit (.bool false), ps)) : v = .pointer none := by
  unfold ptrR at h
  split at h
  · simp at h
  · rfl
  · cases h
section
variable {α : Type} {nm : α → ByteArray} {pt : α → Nat}
def ent (nm : α → ByteArray) (pt : α → Nat) (x : α) : Lit × DataW Unit := (.string (nm x).data.toList, .lit (.int .i64 (pt x)))
def mapD (nm : α → ByteArray) (pt : α → Nat) (l : List α) : DataW Unit := .map (l.map (ent nm pt))
theorem ent_same (n : ByteArray) (x : α) : (ent nm pt x).1.sameKey (.string n.data.toList) = decide (nm x = n) := by
  show ((nm x).data.toList == n.data.toList) = _
  by_cases h : nm x = n
  · rw [h]; simp
  · rw [decide_eq_false h, beq_eq_false_iff_ne]; exact fun e => h (ba_ext e)
theorem mapD_ins (x : α) : ∀ l : List α, DataW.insert (ent nm pt x) (l.map (ent nm pt)) = (insG nm x l).map (ent nm pt)
  | [] => rfl
  | y :: r => by
    rw [List.map_cons]
    unfold DataW.insert insG
    show (if nmLt (nm x) (nm y) = true then _ else _) = _
    split
    · rfl
    · rw [mapD_ins x r, List.map_cons]
theorem mapD_del (n : ByteArray) (l : List α) : (mapD nm pt l).del (.string n.data.toList) = mapD nm pt (delG nm n l) := by
  show DataW.map ((l.map (ent nm pt)).filter fun p => !p.1.sameKey (.string n.data.toList)) = DataW.map ((l.filter fun y => decide (nm y ≠ n)).map (ent nm pt))
  rw [List.filter_map]
  congr 2
  refine List.filter_congr fun y _ => ?_
  show (!(ent nm pt y).1.sameKey (.string n.data.toList)) = _
  rw [ent_same]
  by_cases h : nm y = n <;> simp [h]
theorem mapD_put (x : α) (l : List α) : (mapD nm pt l).put (.string (nm x).data.toList) (.lit (.int .i64 (pt x))) = mapD nm pt (putG nm x l) := by
  have hd := mapD_del (nm := nm) (pt := pt) (nm x) l
  unfold mapD DataW.del at hd
  injection hd with hd
  unfold mapD DataW.put
  show DataW.map (DataW.insert (ent nm pt x) _) = _
  rw [hd, mapD_ins]; rfl
theorem mapD_at (n : ByteArray) (l : List α) (zd : DataW Unit) : (mapD nm pt l).atKey (.string n.data.toList) zd = match getG nm n l with | some x => .lit (.int .i64 (pt x)) | none => zd := by
  unfold mapD DataW.atKey getG
  simp only [List.find?_map]
  have : ((fun p : Lit × DataW Unit => p.1.sameKey (.string n.data.toList)) ∘ ent nm pt) = fun y => decide (nm y = n) := by
    funext y; exact ent_same (pt := pt) n y
  rw [this]
  cases l.find? fun y => decide (nm y = n) <;> rfl
theorem mapD_has (n : ByteArray) (l : List α) : Maps.has (mapD nm pt l) (.string n.data.toList) = (getG nm n l).isSome := by
  unfold mapD getG
  rw [has_eq, List.any_map, List.isSome_find?]
  congr 1
  funext y
  exact ent_same (pt := pt) n y
theorem mapD_keys (l : List α) : strKeys (mapD nm pt l) = l.map fun x => (nm x).data.toList := by
  show (l.map (ent nm pt)).map (fun p => strOf p.1) = _
  rw [List.map_map]; rfl
/-- sorted, they are as they stand -/
theorem keys_sorted {l : List α} (h : Rise nm l) {ss : List (List UInt8)} (hp : ss.Perm (strKeys (mapD nm pt l))) : ss.mergeSort leB = l.map fun x => (nm x).data.toList := by
  rw [mergeSort_of_perm hp, mapD_keys]
  refine List.mergeSort_of_pairwise ?_
  rw [List.pairwise_map]
  exact h.imp fun h => nmLt_le h
end

section
variable {H : Type} {P : Program} {k : TypeId} {R : Value → Option (DataW H × List MemPlace)} {w w' : World} {b n : Nat}
theorem ownsMap_keeps {D : DataW H} {S : Nat → Prop} (h : w.ownsMap P k R b n D) (kk : Keeps S w w') (hS : ¬ S b) : w'.ownsMap P k R b n D := by
  have hlt := h.lt
  obtain ⟨es, clock, hb, F, hs, hD⟩ := h
  exact ⟨es, clock, (kk.block b hlt hS).trans hb, F, hs, hD⟩
theorem ownsMap_len {E : List (Lit × DataW H)} (h : w.ownsMap P k R b n (.map E)) : w.ownsMap P k R b E.length (.map E) := by
  obtain ⟨es, clock, hb, F, hs, hD⟩ := h
  refine ⟨es, clock, hb, F, ?_, hD⟩
  injection hD with hD
  rw [hD, length_read]
  exact Nat.le_refl _
theorem turned_keeps (h : w.mapTurned w' b) : Keeps (fun i => i = b) w w' := by
  have hg := h.grown
  exact ⟨hg.os, hg.tape, hg.output, hg.size, fun i hi hn => hg.block i hi (fun e => hn (by injection e))⟩
end
end Go.Proofs.YtkmpdobojgiegaaGreatDoor

/-
  How a store lies in memory; what its map answers; what a put, a file's change, and a delete leave.
-/
namespace Go.Proofs.YtkmpdobojgiegaaGreatDoor
open Go.RowKit Go.Maps

structure SFile where
  name : ByteArray
  data : ByteArray
  sure : Nat
/-- a file, the block that it is, and the value of its bytes -/
structure SRep where
  f : SFile
  p : Nat
  v : Value
def SRep.nm (r : SRep) : ByteArray := r.f.name
structure FileOk (w : World) (F : Nat → Prop) (r : SRep) : Prop where
  blk : Blk w r.p 140 #[r.v, .int .i64 r.f.sure]
  own : OwnQ w 5 r.v (u8Vs r.f.data.data.toList)
  fp : F r.p
  fr : ∀ i, rowB r.v = some i → F i
def Off (a b : SRep) : Prop := a.p ≠ b.p ∧ ∀ i, rowB a.v = some i → rowB b.v ≠ some i
theorem Off.symm {a b : SRep} (h : Off a b) : Off b a := ⟨fun e => h.1 e.symm, fun i hi e => h.2 i e hi⟩
/-- a store at block s, its map at M, its files L; all its blocks are among F -/
structure StoreAt (w : World) (F : Nat → Prop) (s : Nat) (most : Int) (bad M : Nat) (L : List SRep) : Prop where
  top : Blk w s 103 #[.map (some M), .int .i64 most, .int .i64 bad]
  map : w.ownsMap Tryz.prog 9 ptrR M L.length (mapD SRep.nm SRep.p L)
  fs : F s
  fM : F M
  each : ∀ r ∈ L, FileOk w F r
  apart : L.Pairwise Off
  rise : Rise SRep.nm L

section
variable {w w' : World} {F G S : Nat → Prop} {s M bad : Nat} {most : Int} {L : List SRep}
theorem FileOk.keeps {r : SRep} (h : FileOk w F r) (k : Keeps S w w') (hS : ∀ i, F i → ¬ S i) : FileOk w' F r := ⟨h.blk.keeps k (hS _ h.fp), h.own.keeps k (fun i hi _ => hS i (h.fr i hi)), h.fp, h.fr⟩
theorem FileOk.mono {r : SRep} (h : FileOk w F r) (hG : ∀ i, F i → G i) : FileOk w G r := ⟨h.blk, h.own, hG _ h.fp, fun i hi => hG i (h.fr i hi)⟩
theorem StoreAt.keeps (h : StoreAt w F s most bad M L) (k : Keeps S w w') (hS : ∀ i, F i → ¬ S i) : StoreAt w' F s most bad M L :=
  ⟨h.top.keeps k (hS _ h.fs), ownsMap_keeps h.map k (hS _ h.fM), h.fs, h.fM, fun r hr => (h.each r hr).keeps k hS, h.apart, h.rise⟩
theorem StoreAt.mono (h : StoreAt w F s most bad M L) (hG : ∀ i, F i → G i) : StoreAt w G s most bad M L :=
  ⟨h.top, h.map, hG _ h.fs, hG _ h.fM, fun r hr => (h.each r hr).mono hG, h.apart, h.rise⟩
theorem StoreAt.isMap (h : StoreAt w F s most bad M L) : ∃ es c, w.heap[M]? = some (.map es c) := by
  obtain ⟨es, c, hb, _⟩ := h.map
  exact ⟨es, c, hb⟩
theorem blk_map_ne {b M : Nat} {t : TypeId} {cs : Array Value} (h : Blk w b t cs) (hm : ∃ es c, w.heap[M]? = some (.map es c)) : b ≠ M := by
  rintro rfl
  obtain ⟨es, c, hm⟩ := hm
  unfold Blk at h
  rw [h] at hm
  cases hm
/-- the kinds of blocks that a store is made of -/
def StT (w : World) (i : Nat) : Prop := (∃ cs, Blk w i 103 cs) ∨ (∃ cs, Blk w i 140 cs) ∨ (∃ cs, Blk w i 5 cs) ∨ ∃ es c, w.heap[i]? = some (.map es c)
theorem StoreAt.shrink (h : StoreAt w F s most bad M L) : StoreAt w (fun i => F i ∧ StT w i) s most bad M L :=
  ⟨h.top, h.map, ⟨h.fs, .inl ⟨_, h.top⟩⟩, ⟨h.fM, .inr (.inr (.inr h.isMap))⟩, fun r hr => ⟨(h.each r hr).blk, (h.each r hr).own, ⟨(h.each r hr).fp, .inr (.inl ⟨_, (h.each r hr).blk⟩)⟩, fun i hi => ⟨(h.each r hr).fr i hi, .inr (.inr (.inl ((h.each r hr).own.row i hi)))⟩⟩, h.apart, h.rise⟩
theorem StT.not {i : Nat} {t : TypeId} {cs : Array Value} (h : StT w i) (hb : Blk w i t cs) (h1 : t ≠ 103) (h2 : t ≠ 140) (h3 : t ≠ 5) : False := by
  rcases h with ⟨_, h⟩ | ⟨_, h⟩ | ⟨_, h⟩ | h
  · exact Blk.ne_ hb h h1 rfl
  · exact Blk.ne_ hb h h2 rfl
  · exact Blk.ne_ hb h h3 rfl
  · exact blk_map_ne hb h rfl
theorem StT.keeps {i : Nat} (h : StT w i) (k : Keeps S w w') (hS : ¬ S i) : StT w' i := by
  rcases h with ⟨_, h⟩ | ⟨_, h⟩ | ⟨_, h⟩ | ⟨es, c, h⟩
  · exact .inl ⟨_, h.keeps k hS⟩
  · exact .inr (.inl ⟨_, h.keeps k hS⟩)
  · exact .inr (.inr (.inl ⟨_, h.keeps k hS⟩))
  · refine .inr (.inr (.inr ⟨es, c, (k.block i ?_ hS).trans h⟩))
    exact (Array.getElem?_eq_some_iff.1 h).1

theorem sto_key (nm : ByteArray) (hn : nm.size ≤ maxLen) : keyOf Tryz.prog 9 (.string nm) = some (.string nm.data.toList) := WideMaps.keyOf_string_mk Tryz.underlying9 hn
abbrev stoK : Keyed Tryz.prog 9 := string_keyed Tryz.underlying9
theorem sto_zero : (zeroValue 138).run Tryz.prog w = .ok (.pointer none) w := by kernel_rfl

/-- v, ok := m[name] -/
theorem StoreAt.look (h : StoreAt w F s most bad M L) (nm : ByteArray) (hn : nm.size ≤ maxLen) :
    (Instr.lookup 101 (.map (some M)) (.string nm) true).run Tryz.prog w = .ok (.tuple #[.pointer ((getG SRep.nm nm L).map fun r => ⟨r.p, 0, none⟩), .bool (getG SRep.nm nm L).isSome]) w := by
  obtain ⟨v, ps, hrun, hv⟩ := h.map.look_ok stoK Tryz.underlying101 sto_zero (zd := .lit (.bool false)) (zp := []) rfl (sto_key nm hn)
  rw [mapD_has] at hrun
  rw [mapD_at] at hv
  rw [hrun]
  cases hg : getG SRep.nm nm L with
  | none => rw [hg] at hv; rw [ptrR_nil hv]; rfl
  | some r => rw [hg] at hv; rw [ptrR_inv hv]; rfl
/-- m[name], of one that is there -/
theorem StoreAt.look1 (h : StoreAt w F s most bad M L) {r : SRep} (hr : r ∈ L) (hn : r.f.name.size ≤ maxLen) :
    (Instr.lookup 101 (.map (some M)) (.string r.f.name) false).run Tryz.prog w = .ok (.pointer (some ⟨r.p, 0, none⟩)) w := by
  obtain ⟨v, ps, hrun, hv⟩ := h.map.lookup stoK Tryz.underlying101 sto_zero (zd := .lit (.bool false)) (zp := []) rfl (sto_key r.f.name hn)
  rw [mapD_at, show getG SRep.nm r.f.name L = some r from getG_of_mem h.rise hr] at hv
  rw [hrun, ptrR_inv hv]

theorem off_perm {l l' : List SRep} (h : l.Pairwise Off) (p : l.Perm l') : l'.Pairwise Off := (p.pairwise_iff (fun {_ _} h => h.symm)).1 h
/-- m[name] = p -/
theorem StoreAt.put (h : StoreAt w F s most bad M L) (r : SRep) (hr : FileOk w F r) (hap : ∀ a ∈ delG SRep.nm r.f.name L, Off r a) (hn : r.f.name.size ≤ maxLen) (hL : L.length < maxLen) :
    ∃ w', (Instr.mapUpdate 101 (.map (some M)) (.string r.f.name) (.pointer (some ⟨r.p, 0, none⟩))).run Tryz.prog w = .ok () w' ∧ StoreAt w' F s most bad M (putG SRep.nm r L) ∧ Keeps (fun i => i = M) w w' := by
  obtain ⟨w', hrun, hm, ht⟩ := h.map.store stoK Tryz.underlying101 hL (sto_key r.f.name hn) (val := .pointer (some ⟨r.p, 0, none⟩)) (d := .lit (.int .i64 r.p)) (ps := []) rfl
  have k := turned_keeps ht
  have hne : ∀ {b : Nat} {t : TypeId} {cs : Array Value}, Blk w b t cs → ¬ b = M := fun hb => blk_map_ne hb h.isMap
  have hfile : ∀ a, FileOk w F a → FileOk w' F a := fun a ha => ⟨ha.blk.keeps k (hne ha.blk), ha.own.keeps k (fun i _ ⟨_, hb⟩ => hne hb), ha.fp, ha.fr⟩
  refine ⟨w', hrun, ⟨h.top.keeps k (hne h.top), ?_, h.fs, h.fM, fun a ha => ?_, ?_, putG_rise h.rise r⟩, k⟩
  · have hm2 : w'.ownsMap Tryz.prog 9 ptrR M (L.length + 1) (mapD SRep.nm SRep.p (putG SRep.nm r L)) := by
      rw [← mapD_put]; exact hm
    have := ownsMap_len hm2
    rwa [List.length_map] at this
  · rcases insG_mem.1 ha with rfl | ha
    · exact hfile _ hr
    · exact hfile a (h.each a (delG_mem.1 ha).1)
  · refine off_perm (List.pairwise_cons.2 ⟨fun a ha => hap a ha, List.Pairwise.filter _ h.apart⟩) (insG_perm r _).symm
/-- delete(m, name) -/
theorem StoreAt.del (h : StoreAt w F s most bad M L) (nm : ByteArray) (hn : nm.size ≤ maxLen) (ty : TypeId) :
    ∃ w', (Builtin.delete_ #[101, 9] ty #[.map (some M), .string nm]).run Tryz.prog w = .ok (.tuple #[]) w' ∧ StoreAt w' F s most bad M (delG SRep.nm nm L) ∧ Keeps (fun i => i = M) w w' := by
  obtain ⟨w', hrun, hm, ht⟩ := h.map.drop stoK Tryz.underlying101 (sto_key nm hn) ty
  have k := turned_keeps ht
  have hne : ∀ {b : Nat} {t : TypeId} {cs : Array Value}, Blk w b t cs → ¬ b = M := fun hb => blk_map_ne hb h.isMap
  refine ⟨w', hrun, ⟨h.top.keeps k (hne h.top), ?_, h.fs, h.fM, fun a ha => ?_, List.Pairwise.filter _ h.apart, delG_rise h.rise nm⟩, k⟩
  · rw [mapD_del] at hm
    have := ownsMap_len hm
    rwa [List.length_map] at this
  · have hf := h.each a (delG_mem.1 ha).1
    exact ⟨hf.blk.keeps k (hne hf.blk), hf.own.keeps k (fun i _ ⟨_, hb⟩ => hne hb), hf.fp, hf.fr⟩
/-- the calls that will fail -/
theorem StoreAt.setBad (h : StoreAt w F s most bad M L) (b' : Nat) (x : Int) (hx : x = b') : StoreAt (w.setCell ⟨s, 2, none⟩ (.int .i64 x)) F s most b' M L ∧ Keeps (fun i => i = s) w (w.setCell ⟨s, 2, none⟩ (.int .i64 x)) := by
  subst hx
  have k : Keeps (fun i => i = s) w (w.setCell ⟨s, 2, none⟩ (.int .i64 b')) := (Keeps.refl (fun i => i = s) w).setCell (p := ⟨s, 2, none⟩) (fun _ => rfl) _
  have hs := h.top
  refine ⟨⟨hs.set_ 2 _, ownsMap_keeps h.map k (fun e => blk_map_ne hs h.isMap e.symm), h.fs, h.fM, fun r hr => ?_, h.apart, h.rise⟩, k⟩
  have hf := h.each r hr
  exact ⟨hf.blk.keeps k (Blk.ne_ hf.blk hs (by decide)), hf.own.keeps k (fun i _ ⟨_, hb⟩ => Blk.ne_ hb hs (by decide)), hf.fp, hf.fr⟩
def swapR (r : SRep) (L : List SRep) : List SRep := L.map fun a => if a.f.name = r.f.name then r else a
theorem swap_D {r0 r : SRep} (hr : Rise SRep.nm L) (h0 : r0 ∈ L) (hn : r.f.name = r0.f.name) (hp : r.p = r0.p) : mapD SRep.nm SRep.p (swapR r L) = mapD SRep.nm SRep.p L := by
  unfold mapD swapR
  rw [List.map_map]
  congr 1
  refine List.map_congr_left fun a ha => ?_
  show ent SRep.nm SRep.p (if a.f.name = r.f.name then r else a) = ent SRep.nm SRep.p a
  by_cases he : a.f.name = r.f.name
  · rw [if_pos he]
    have hx : a = r0 := rise_inj hr ha h0 (he.trans hn)
    rw [hx]
    unfold ent
    show (Lit.string r.f.name.data.toList, DataW.lit (Lit.int .i64 (r.p : Int))) = (Lit.string r0.f.name.data.toList, DataW.lit (Lit.int .i64 (r0.p : Int)))
    rw [hn, hp]
  · rw [if_neg he]
theorem swap_mem {r0 r a : SRep} (hn : r.f.name = r0.f.name) (ha : a ∈ swapR r L) : a = r ∨ (a ∈ L ∧ a ≠ r0) := by
  obtain ⟨b, hb, rfl⟩ := List.mem_map.1 ha
  by_cases he : b.f.name = r.f.name
  · rw [if_pos he]; exact .inl rfl
  · rw [if_neg he]; exact .inr ⟨hb, fun e => he (by rw [e, hn])⟩
/-- a file of it has changed, and nothing else of it -/
theorem StoreAt.swap {r0 r : SRep} (h : StoreAt w F s most bad M L) (h0 : r0 ∈ L) (hn : r.f.name = r0.f.name) (hp : r.p = r0.p)
    (k : Keeps (fun i => i = r0.p ∨ rowB r0.v = some i) w w') (hG : ∀ i, F i → G i) (hr : FileOk w' G r) (hrow : ∀ i, rowB r.v = some i → rowB r0.v = some i ∨ w.heap.size ≤ i) : StoreAt w' G s most bad M (swapR r L) := by
  have f0 := h.each r0 h0
  have hother : ∀ a ∈ L, a ≠ r0 → Off a r0 := fun a ha hne => by
    have : ∀ {l : List SRep}, l.Pairwise Off → a ∈ l → r0 ∈ l → Off a r0 := by
      intro l hl h1 h2
      induction l with
      | nil => cases h1
      | cons x l ih =>
        obtain ⟨p1, p2⟩ := List.pairwise_cons.1 hl
        rcases List.mem_cons.1 h1 with rfl | h1'
        · rcases List.mem_cons.1 h2 with e | h2'
          · exact absurd e.symm hne
          · exact p1 r0 h2'
        · rcases List.mem_cons.1 h2 with rfl | h2'
          · exact (p1 a h1').symm
          · exact ih p2 h1' h2'
    exact this h.apart ha h0
  have hrowlt : ∀ a ∈ L, ∀ i, rowB a.v = some i → i < w.heap.size := fun a ha i hi => by obtain ⟨cs, hb⟩ := (h.each a ha).own.row i hi; exact hb.lt
  have hfar : ∀ a ∈ L, a ≠ r0 → FileOk w' G a := fun a ha hne => by
    have fa := h.each a ha
    have ho := hother a ha hne
    refine ⟨fa.blk.keeps k ?_, fa.own.keeps k ?_, hG _ fa.fp, fun i hi => hG i (fa.fr i hi)⟩
    · rintro (e | e)
      · exact ho.1 e
      · obtain ⟨cs, hb⟩ := f0.own.row _ e
        exact Blk.ne_ fa.blk hb (by decide) rfl
    · rintro i hi ⟨cs, hb⟩ (e | e)
      · subst e
        exact Blk.ne_ hb f0.blk (by decide) rfl
      · exact ho.2 i hi e
  refine ⟨h.top.keeps k ?_, ?_, hG _ h.fs, hG _ h.fM, fun a ha => ?_, ?_, ?_⟩
  · rintro (e | e)
    · exact Blk.ne_ h.top f0.blk (by decide) e
    · obtain ⟨cs, hb⟩ := f0.own.row _ e
      exact Blk.ne_ h.top hb (by decide) rfl
  · rw [swap_D h.rise h0 hn hp, show (swapR r L).length = L.length by simp [swapR]]
    refine ownsMap_keeps h.map k ?_
    rintro (e | e)
    · exact blk_map_ne f0.blk h.isMap e.symm
    · obtain ⟨cs, hb⟩ := f0.own.row _ e
      exact blk_map_ne hb h.isMap rfl
  · rcases swap_mem hn ha with rfl | ⟨ha, hne⟩
    · exact hr
    · exact hfar a ha hne
  · unfold swapR
    rw [List.pairwise_map]
    refine h.apart.imp_of_mem fun {a b} ha hb ho => ?_
    have hro : ∀ a ∈ L, a ≠ r0 → Off a r := fun a ha hne => by
      have ho := hother a ha hne
      refine ⟨by rw [hp]; exact ho.1, fun i hi e => ?_⟩
      rcases hrow i e with e | e
      · exact ho.2 i hi e
      · have := hrowlt a ha i hi; omega
    by_cases h1 : a.f.name = r.f.name
    · have e1 : a = r0 := rise_inj h.rise ha h0 (h1.trans hn)
      by_cases h2 : b.f.name = r.f.name
      · have e2 : b = r0 := rise_inj h.rise hb h0 (h2.trans hn)
        subst e1
        rw [e2] at ho
        exact absurd rfl ho.1
      · rw [if_pos h1, if_neg h2]
        exact (hro b hb fun e => h2 (by rw [e, hn])).symm
    · by_cases h2 : b.f.name = r.f.name
      · rw [if_neg h1, if_pos h2]
        exact hro a ha fun e => h1 (by rw [e, hn])
      · rw [if_neg h1, if_neg h2]; exact ho
  · have : Rise SRep.nm (swapR r L) := by
      unfold Rise swapR
      rw [List.pairwise_map]
      refine h.rise.imp fun {a b} hlt => ?_
      have hs : ∀ a : SRep, SRep.nm (if a.f.name = r.f.name then r else a) = SRep.nm a := fun a => by
        by_cases h1 : a.f.name = r.f.name
        · rw [if_pos h1]; exact h1.symm
        · rw [if_neg h1]
      rw [hs, hs]; exact hlt
    exact this
theorem swap_put {r : SRep} (hr : Rise SRep.nm L) (h0 : ∃ r0 ∈ L, SRep.nm r0 = SRep.nm r) : swapR r L = putG SRep.nm r L := (putG_there hr h0).symm
end
end Go.Proofs.YtkmpdobojgiegaaGreatDoor

/-
  Errors made, wrapped, and asked for their codes (for seats without the texts of errors).
-/
namespace Go.Proofs.YtkmpdobojgiegaaGreatDoor
open Go.RowKit

theorem new_flt (w : World) (c n : Int) (s : ByteArray) (hc : c ≠ 0) : Calls Tryz.prog 39 #[.int .i64 c, .int .i64 n, .string s] w fun e w' =>
    e = .returned (.iface 196 (.pointer (some ⟨w.heap.size, 0, none⟩))) ∧ w' = w.alloc (.cells #[.int .i64 n, .string s, .iface 197 (.int .i64 c)] 199) := by
  have h : (c == 0) = false := beq_eq_false_iff_ne.2 hc
  go_enter Tryz.func39, Tryz.ntmps39
  go_wp2
  go_ret
  exact ⟨rfl, rfl⟩
theorem wrap_flt (w : World) (ty : TypeId) (x : Value) (n : Int) (s : ByteArray) : Calls Tryz.prog 221 #[.iface ty x, .int .i64 n, .string s] w fun e w' =>
    e = .returned (.iface 196 (.pointer (some ⟨w.heap.size, 0, none⟩))) ∧ w' = w.alloc (.cells #[.int .i64 n, .string s, .iface ty x] 199) := by
  go_enter Tryz.func221, Tryz.ntmps221
  go_wp2
  go_ret
  exact ⟨rfl, rfl⟩
set_option maxRecDepth 100000 in
theorem of_nil (w : World) : Calls Tryz.prog 116 #[.nilIface] w fun e w' => e = .returned (.int .i64 0) ∧ Keeps (fun _ => False) w w' := by
  go_enter Tryz.func116, Tryz.ntmps116
  go_wp2
  go_ret
  exact ⟨rfl, (Keeps.refl _ _).alloc _⟩

set_option maxRecDepth 100000 in
theorem of_chain (w : World) (l : List (Int × ByteArray)) (c : Int) (v : Value) (h : Chain w l c v) (hg : Ety w) :
    Calls Tryz.prog 116 #[v] w fun e w' => e = .returned (.int .i64 c) ∧ Keeps (fun _ => False) w w' := by
  have hk : Keeps (fun _ => False) w (w.alloc (.cells #[.int .i64 0] tKind)) := (Keeps.refl _ w).alloc _
  have HA := Lib.hid (as_kind c 0 w.heap.size l v _ (h.keeps hk (fun _ _ _ => id)) (hg.keeps hk id) (Blk.new w tKind #[.int .i64 0]))
  obtain ⟨ty, x, rfl⟩ := h.form
  clear h hg
  go_enter Tryz.func116, Tryz.ntmps116
  go_wp2_with (go_at_call 171; go_must (refine HA.out.mono ?_; rintro e w2 ⟨rfl, k2, hb⟩; have hcell := hb.cell 0; simp only [List.getElem?_toArray, List.getElem?_cons_zero] at hcell))
  go_ret
  exact ⟨rfl, hk.and_ k2 (fun i hi e => by omega)⟩

theorem has_chain (w : World) (l : List (Int × ByteArray)) (c d : Int) (v : Value) (h : Chain w l c v) :
    Calls Tryz.prog 253 #[v, .int .i64 d] w fun e w' => e = .returned (.bool (decide (d ≠ 0 ∧ c = d))) ∧ Keeps (fun _ => False) w w' := by
  have hi := is_ok c d l v w h
  obtain ⟨ty, x, rfl⟩ := h.form
  clear h
  by_cases hd : d = 0
  · subst hd
    clear hi
    go_enter Tryz.func253, Tryz.ntmps253
    go_wp2
    go_ret
    exact ⟨rfl, Keeps.refl _ _⟩
  · have h1 : (d != 0) = true := by simpa using hd
    have h2 : decide (d ≠ 0 ∧ c = d) = decide (c = d) := by simp [hd]
    have H2 := Lib.hid h2
    have HI := Lib.hid hi
    clear h2 hi
    go_enter Tryz.func253, Tryz.ntmps253
    go_wp2_with (go_at_call 188; go_must (refine HI.out.mono ?_; rintro e w2 ⟨rfl, rfl⟩))
    go_ret
    exact ⟨by rw [H2.out]; rfl, Keeps.refl _ _⟩
end Go.Proofs.YtkmpdobojgiegaaGreatDoor

/-
  store: which texts may be names; the document's word on it.
-/
namespace Go.Proofs.YtkmpdobojgiegaaGreatDoor
open Go.RowKit Go.Maps

def okB (c : UInt8) : Bool := decide (33 ≤ c.toNat) && decide (c.toNat ≤ 126) && decide (c.toNat ≠ 47)
def namedP (s : ByteArray) : Bool := decide (1 ≤ s.size) && decide (s.size ≤ 64) && s.data.toList.all okB
theorem namedP_size {s : ByteArray} (h : namedP s = true) : 1 ≤ s.size ∧ s.size ≤ 64 := by
  unfold namedP at h
  simp only [Bool.and_eq_true, decide_eq_true_eq] at h
  exact ⟨h.1.1, h.1.2⟩
theorem namedP_bad {s : ByteArray} {i : Nat} {c : UInt8} (h : s.data.toList[i]? = some c) (hc : okB c = false) : namedP s = false := by
  unfold namedP
  have : s.data.toList.all okB = false := by
    rw [List.all_eq_false]
    exact ⟨c, List.mem_of_getElem? h, by rw [hc]; simp⟩
  rw [this, Bool.and_false]
theorem namedP_out {s : ByteArray} (h : s.size < 1 ∨ 64 < s.size) : namedP s = false := by
  unfold namedP
  rcases h with h | h
  · rw [decide_eq_false (by omega : ¬ 1 ≤ s.size), Bool.false_and, Bool.false_and]
  · rw [decide_eq_false (by omega : ¬ s.size ≤ 64), Bool.and_false, Bool.false_and]
theorem namedP_ok {s : ByteArray} (h1 : 1 ≤ s.size) (h2 : s.size ≤ 64) (h : s.data.toList.all okB = true) : namedP s = true := by
  unfold namedP
  rw [decide_eq_true h1, decide_eq_true h2, h]; rfl
theorem take_snoc2 {α : Type} {l : List α} {k : Nat} {x : α} (h : l[k]? = some x) : l.take (k + 1) = l.take k ++ [x] := by rw [List.take_add_one, h]; rfl
theorem byte_at {s : ByteArray} {i : Nat} (h : i < s.size) : s.data.toList[i]? = some (s[i]'h) := List.getElem?_eq_getElem (by simpa using h)
theorem all_take {s : ByteArray} {i : Nat} (h : i < s.size) (f : UInt8 → Bool) : (s.data.toList.take (i + 1)).all f = ((s.data.toList.take i).all f && f (s[i]'h)) := by
  rw [take_snoc2 (byte_at h), List.all_append]; simp

set_option maxRecDepth 100000 in
set_option maxHeartbeats 1000000 in
theorem named_any (w : World) (s : ByteArray) : Calls Tryz.prog 236 #[.string s] w fun e w' => e = .returned (.bool (namedP s)) ∧ w' = w := by
  by_cases h0 : s.size = 0
  · have hn := namedP_out (s := s) (.inl (by omega))
    have hs : s = ⟨#[]⟩ := by
      apply ba_ext
      exact List.eq_nil_of_length_eq_zero (by simpa using h0)
    subst hs
    have HN := Lib.hid hn
    clear hn h0
    go_enter Tryz.func236, Tryz.ntmps236
    go_wp2_with fail
    go_ret
    exact ⟨by rw [HN.out]; rfl, rfl⟩
  · have hne : s.toList.isEmpty = false := by
      rw [ByteArray.toList_eq]
      cases hh : s.data.toList with
      | nil =>
        have : s.data.toList.length = s.size := by simp
        rw [hh] at this
        exact absurd this.symm h0
      | cons x y => rfl
    by_cases h64 : 64 < s.size
    · have hn := namedP_out (s := s) (.inr h64)
      have HN := Lib.hid hn
      clear hn
      go_enter Tryz.func236, Tryz.ntmps236
      go_wp2_with fail
      go_ret
      exact ⟨by rw [HN.out]; rfl, rfl⟩
    · go_enter Tryz.func236, Tryz.ntmps236
      go_wp2_with fail
      go_loopw [13] (fun u13 wr => w = wr ∧ ∃ i : Nat, u13 = .int .i64 i ∧ Hid (i ≤ s.size ∧ (s.data.toList.take i).all okB = true)) (fun u13 _ => s.size - (intOf u13).toNat)
      case atStart => exact ⟨rfl, 0, rfl, Lib.hid ⟨Nat.zero_le _, by simp⟩⟩
      case round =>
        obtain ⟨rfl, i, rfl, HI⟩ := hrel
        by_cases hi : i < s.size
        · have hx8 := (s[i]'hi).toNat_lt
          by_cases hc : okB (s[i]'hi) = true
          · have hall : (s.data.toList.take (i + 1)).all okB = true := by rw [all_take hi, HI.out.2, hc]; rfl
            have HA := Lib.hid hall
            simp only [okB, Bool.and_eq_true, decide_eq_true_eq] at hc
            obtain ⟨⟨b1, b2⟩, b3⟩ := hc
            obtain ⟨x, hx⟩ : ∃ x : Nat, (s[i]'hi).toNat = x := ⟨_, rfl⟩
            rw [hx] at b1 b2 b3 hx8
            have b4 : ((x : Int) == 47) = false := by rw [beq_eq_false_iff_ne]; omega
            clear hall b3
            go_wp2_with fail
            go_roundw
            case rel => exact ⟨trivial, i + 1, by go_num, Lib.hid ⟨by omega, HA.out⟩⟩
            case measure => simp [intOf]; omega
          · have hn := namedP_bad (byte_at hi) (by simpa using hc)
            have HN := Lib.hid hn
            clear hn
            obtain ⟨x, hx⟩ : ∃ x : Nat, (s[i]'hi).toNat = x := ⟨_, rfl⟩
            unfold okB at hc
            rw [hx] at hc hx8
            by_cases b1 : 33 ≤ x
            · by_cases b2 : x ≤ 126
              · have b3 : x = 47 := by
                  by_cases b3 : x = 47
                  · exact b3
                  · exact absurd (by simp [b1, b2, b3]) hc
                subst b3
                clear hc
                go_wp2_with fail
                go_ret
                exact ⟨by rw [HN.out]; rfl, rfl⟩
              · clear hc
                go_wp2_with fail
                go_ret
                exact ⟨by rw [HN.out]; rfl, rfl⟩
            · clear hc
              go_wp2_with fail
              go_ret
              exact ⟨by rw [HN.out]; rfl, rfl⟩
        · have hn : namedP s = true := namedP_ok (by omega) (by omega) (by
            have := HI.out.2
            rwa [List.take_of_length_le (by simp; omega)] at this)
          have HN := Lib.hid hn
          clear hn
          go_wp2_with fail
          go_ret
          exact ⟨by rw [HN.out]; rfl, rfl⟩

end Go.Proofs.YtkmpdobojgiegaaGreatDoor

/-
  store: New, made, begin, there, Fail, Read, Size, by walk.
-/
namespace Go.Proofs.YtkmpdobojgiegaaGreatDoor
open Go.RowKit Go.Maps

/-- an error of a code; none, if it is 0 -/
def ErrV (w : World) (c : Int) (v : Value) : Prop := (c = 0 ∧ v = .nilIface) ∨ (c ≠ 0 ∧ ∃ l, Chain w l c v)
section
variable {w w' : World} {F S : Nat → Prop} {s M bad : Nat} {most : Int} {L : List SRep}
theorem ErrV.ok : ErrV w 0 .nilIface := .inl ⟨rfl, rfl⟩
theorem ErrV.keeps {c : Int} {v : Value} (h : ErrV w c v) (k : Keeps S w w') (hS : ∀ i cs, Blk w i 199 cs → ¬ S i) : ErrV w' c v := by
  rcases h with h | ⟨hc, l, hl⟩
  · exact .inl h
  · refine .inr ⟨hc, l, ?_⟩
    clear hc
    induction hl with
    | kind c => exact .kind c
    | layer a n t v l c hb _ ih => exact .layer a n t v l c (hb.keeps k (hS a _ hb)) ih
theorem ErrV.keeps0 {c : Int} {v : Value} (h : ErrV w c v) (k : Keeps (fun _ => False) w w') : ErrV w' c v := h.keeps k (fun _ _ _ => id)
theorem of_err (w : World) {c : Int} {v : Value} (h : ErrV w c v) (hg : Ety w) : Calls Tryz.prog 116 #[v] w fun e w' => e = .returned (.int .i64 c) ∧ Keeps (fun _ => False) w w' := by
  rcases h with ⟨rfl, rfl⟩ | ⟨_, l, hl⟩
  · exact of_nil w
  · exact of_chain w l c v hl hg
/-- a made error -/
theorem new_err (w : World) (c : Int) (nm : ByteArray) (hc : c ≠ 0) : Calls Tryz.prog 39 #[.int .i64 c, .int .i64 0, .string nm] w fun e w' =>
    (∃ a, e = .returned (.iface 196 (.pointer (some ⟨a, 0, none⟩))) ∧ Chain w' [(0, nm)] c (.iface 196 (.pointer (some ⟨a, 0, none⟩)))) ∧ Keeps (fun _ => False) w w' := by
  refine (new_flt w c 0 nm hc).mono ?_
  rintro e w' ⟨rfl, rfl⟩
  exact ⟨⟨_, rfl, .layer _ _ _ _ _ _ (Blk.new _ _ _) (.kind c)⟩, (Keeps.refl _ _).alloc _⟩

set_option maxRecDepth 100000 in
theorem made_any (h : StoreAt w F s most bad M L) : Calls Tryz.prog 135 #[.pointer (some ⟨s, 0, none⟩)] w fun e w' => e = .returned (.bool true) ∧ w' = w := by
  obtain ⟨h0, h1, h2⟩ := h.top.cells3
  have hq : (binOp .neq 101 (.map (some M)) (.map none)).run Tryz.prog w = .ok (.bool true) w := by kernel_rfl
  clear h
  go_enter Tryz.func135, Tryz.ntmps135
  go_wp2_with fail
  go_ret
  exact ⟨rfl, rfl⟩
set_option maxRecDepth 100000 in
theorem made_nil (w : World) : Calls Tryz.prog 135 #[.pointer none] w fun e w' => e = .returned (.bool false) ∧ w' = w := by
  go_enter Tryz.func135, Tryz.ntmps135
  go_wp2_with fail
  go_ret
  exact ⟨rfl, rfl⟩

/-- what is asked ahead of a call that writes -/
def beginC (bad : Nat) (nm : ByteArray) : Int × Nat := if namedP nm then (if 0 < bad then (12, bad - 1) else (0, bad)) else (1, bad)
set_option maxRecDepth 100000 in
theorem begin_any (h : StoreAt w F s most bad M L) (nm : ByteArray) (hb : bad ≤ 9223372036854775807) :
    Calls Tryz.prog 186 #[.pointer (some ⟨s, 0, none⟩), .string nm] w fun e w' => (∃ v, e = .returned v ∧ ErrV w' (beginC bad nm).1 v) ∧ StoreAt w' F s most (beginC bad nm).2 M L ∧ Keeps (fun i => i = s) w w' := by
  have HM := Lib.hid (made_any h)
  have HN := Lib.hid (named_any w nm)
  have H := Lib.hid h
  obtain ⟨h0, h1, h2⟩ := h.top.cells3
  have f2 := h.top.frozen 2
  clear h
  by_cases hn : namedP nm = true
  · by_cases h0b : 0 < bad
    · have hc : beginC bad nm = (12, bad - 1) := by unfold beginC; rw [if_pos hn, if_pos h0b]
      rw [hc]
      have HNN := Lib.hid hn
      clear hn hc
      go_enter Tryz.func186, Tryz.ntmps186
      go_wp2_with (go_at_call 135; refine HM.out.mono ?_; rintro e w1 ⟨rfl, rfl⟩)
      refine HN.out.mono ?_
      rintro e w1 ⟨rfl, rfl⟩
      rw [HNN.out]
      go_wp2_with fail
      have hsb := H.out.setBad (bad - 1) ((bad : Int) - 1) (by omega)
      refine (new_err _ 12 nm (by decide)).mono ?_
      rintro e w2 ⟨⟨a, rfl, hch⟩, k2⟩
      have HCH := Lib.hid hch
      have HSB := Lib.hid hsb
      have HK2 := Lib.hid k2
      clear hch k2 hsb
      go_wp2_with fail
      go_ret
      exact ⟨⟨_, rfl, .inr ⟨by decide, _, HCH.out⟩⟩, HSB.out.1.keeps HK2.out (fun _ _ => id), HSB.out.2.trans (Keeps.none_ HK2.out)⟩
    · have hc : beginC bad nm = (0, bad) := by unfold beginC; rw [if_pos hn, if_neg h0b]
      rw [hc]
      have h0c : (bad : Int) ≤ 0 := by omega
      have HNN := Lib.hid hn
      clear hn hc h0b
      go_enter Tryz.func186, Tryz.ntmps186
      go_wp2_with (go_at_call 135; refine HM.out.mono ?_; rintro e w1 ⟨rfl, rfl⟩)
      refine HN.out.mono ?_
      rintro e w1 ⟨rfl, rfl⟩
      rw [HNN.out]
      go_wp2_with fail
      go_ret
      exact ⟨⟨_, rfl, ErrV.ok⟩, H.out, Keeps.refl _ _⟩
  · have hc : beginC bad nm = (1, bad) := by unfold beginC; rw [if_neg hn]
    rw [hc]
    have HNN := Lib.hid (show namedP nm = false by simpa using hn)
    clear hn hc
    go_enter Tryz.func186, Tryz.ntmps186
    go_wp2_with (go_at_call 135; refine HM.out.mono ?_; rintro e w1 ⟨rfl, rfl⟩)
    refine HN.out.mono ?_
    rintro e w1 ⟨rfl, rfl⟩
    rw [HNN.out]
    go_wp2_with fail
    refine (new_err _ 1 nm (by decide)).mono ?_
    rintro e w2 ⟨⟨a, rfl, hch⟩, k2⟩
    have HCH := Lib.hid hch
    have HK2 := Lib.hid k2
    clear hch k2
    go_wp2_with fail
    go_ret
    exact ⟨⟨_, rfl, .inr ⟨by decide, _, HCH.out⟩⟩, H.out.keeps HK2.out (fun _ _ => id), Keeps.none_ HK2.out⟩
set_option maxRecDepth 100000 in
theorem begin_nil (w : World) (nm : ByteArray) : Calls Tryz.prog 186 #[.pointer none, .string nm] w fun e w' => (∃ v, e = .returned v ∧ ErrV w' 14 v) ∧ Keeps (fun _ => False) w w' := by
  go_enter Tryz.func186, Tryz.ntmps186
  go_wp2_with (go_at_call 135; refine (made_nil _).mono ?_; rintro e w1 ⟨rfl, rfl⟩)
  refine (new_err _ 14 _ (by decide)).mono ?_
  rintro e w2 ⟨⟨a, rfl, hch⟩, k2⟩
  have HCH := Lib.hid hch
  have HK2 := Lib.hid k2
  clear hch k2
  go_wp2_with fail
  go_ret
  exact ⟨⟨_, rfl, .inr ⟨by decide, _, HCH.out⟩⟩, HK2.out⟩

set_option maxRecDepth 100000 in
/-- a file that must be there -/
theorem there_any (h : StoreAt w F s most bad M L) (nm : ByteArray) (hn : nm.size ≤ maxLen) :
    Calls Tryz.prog 187 #[.pointer (some ⟨s, 0, none⟩), .string nm] w fun e w' =>
      ((∃ r, getG SRep.nm nm L = some r ∧ e = .returned (.tuple #[.pointer (some ⟨r.p, 0, none⟩), .nilIface])) ∨
       (getG SRep.nm nm L = none ∧ ∃ a, e = .returned (.tuple #[.pointer none, .iface 196 (.pointer (some ⟨a, 0, none⟩))]) ∧ Chain w' [(0, nm)] 7 (.iface 196 (.pointer (some ⟨a, 0, none⟩))))) ∧ Keeps (fun _ => False) w w' := by
  have hl := h.look nm hn
  obtain ⟨h0, h1, h2⟩ := h.top.cells3
  clear h
  cases hg : getG SRep.nm nm L with
  | none =>
    rw [hg] at hl
    simp only [Option.map_none, Option.isSome_none] at hl
    clear hg
    go_enter Tryz.func187, Tryz.ntmps187
    go_wp2_with fail
    refine (new_err _ 7 nm (by decide)).mono ?_
    rintro e w2 ⟨⟨a, rfl, hch⟩, k2⟩
    have HCH := Lib.hid hch
    have HK2 := Lib.hid k2
    clear hch k2
    go_wp2_with fail
    go_ret2
    exact ⟨.inr ⟨by first | rfl | trivial, a, rfl, HCH.out⟩, HK2.out⟩
  | some r =>
    rw [hg] at hl
    simp only [Option.map_some, Option.isSome_some] at hl
    clear hg
    go_enter Tryz.func187, Tryz.ntmps187
    go_wp2_with fail
    go_ret2
    exact ⟨.inl ⟨r, by first | rfl | trivial, rfl⟩, Keeps.refl _ _⟩

set_option maxRecDepth 100000 in
/-- the next calls fail -/
theorem fail_any (h : StoreAt w F s most bad M L) (n : Int) :
    Calls Tryz.prog 66 #[.pointer (some ⟨s, 0, none⟩), .int .i64 n] w fun e w' => e = .returned (.tuple #[]) ∧ StoreAt w' F s most n.toNat M L ∧ Keeps (fun i => i = s) w w' := by
  have HM := Lib.hid (made_any h)
  have H := Lib.hid h
  obtain ⟨h0, h1, h2⟩ := h.top.cells3
  have f2 := h.top.frozen 2
  clear h
  have hsb := H.out.setBad n.toNat (max 0 n) (by omega)
  have HSB := Lib.hid hsb
  clear hsb
  by_cases hn : 0 < n
  · go_enter Tryz.func66, Tryz.ntmps66
    go_wp2_with (go_at_call 135; refine HM.out.mono ?_; rintro e w1 ⟨rfl, rfl⟩)
    exact bodyPost_end (results_none rfl _ _ _) rfl ⟨rfl, HSB.out⟩
  · go_enter Tryz.func66, Tryz.ntmps66
    go_wp2_with (go_at_call 135; refine HM.out.mono ?_; rintro e w1 ⟨rfl, rfl⟩)
    exact bodyPost_end (results_none rfl _ _ _) rfl ⟨rfl, HSB.out⟩
set_option maxRecDepth 100000 in
/-- a file's bytes -/
theorem read_any (h : StoreAt w F s most bad M L) (nm : ByteArray) (hn : nm.size ≤ maxLen) :
    Calls Tryz.prog 139 #[.pointer (some ⟨s, 0, none⟩), .string nm] w fun e w' => e = .returned (match getG SRep.nm nm L with | some r => .tuple #[.string r.f.data, .bool true] | none => .tuple #[.string ⟨#[]⟩, .bool false]) ∧ w' = w := by
  have HM := Lib.hid (made_any h)
  have hl := h.look nm hn
  obtain ⟨h0, h1, h2⟩ := h.top.cells3
  cases hg : getG SRep.nm nm L with
  | none =>
    rw [hg] at hl
    simp only [Option.map_none, Option.isSome_none] at hl
    clear hg h
    go_enter Tryz.func139, Tryz.ntmps139
    go_wp2_with (go_at_call 135; refine HM.out.mono ?_; rintro e w1 ⟨rfl, rfl⟩)
    go_ret2
    exact ⟨rfl, rfl⟩
  | some r =>
    rw [hg] at hl
    simp only [Option.map_some, Option.isSome_some] at hl
    have hf := h.each r (getG_some hg).1
    obtain ⟨p, v, hr⟩ : ∃ p v, r = ⟨r.f, p, v⟩ := ⟨_, _, rfl⟩
    have c0 := hf.blk.cell 0
    simp only [List.getElem?_toArray, List.getElem?_cons_zero] at c0
    have hcv := run_string_q (P := Tryz.prog) w 126 9 5 r.v r.f.data.data.toList Tryz.underlying126 Tryz.underlying5 Tryz.underlying9 hf.own
    have hsd : str r.f.data.data.toList = r.f.data := ba_ext (by rw [str_list])
    rw [hsd] at hcv
    clear hg h hf hr hsd
    go_enter Tryz.func139, Tryz.ntmps139
    go_wp2_with (go_at_call 135; refine HM.out.mono ?_; rintro e w1 ⟨rfl, rfl⟩)
    go_ret2
    exact ⟨rfl, rfl⟩
set_option maxRecDepth 100000 in
/-- how many bytes, and how many are sure -/
theorem size_any (h : StoreAt w F s most bad M L) (nm : ByteArray) (hn : nm.size ≤ maxLen) :
    Calls Tryz.prog 162 #[.pointer (some ⟨s, 0, none⟩), .string nm] w fun e w' => e = .returned (match getG SRep.nm nm L with | some r => .tuple #[.int .i64 (r.f.data.size : Nat), .int .i64 (r.f.sure : Nat)] | none => .tuple #[.int .i64 0, .int .i64 0]) ∧ Keeps (fun _ => False) w w' := by
  have HM := Lib.hid (made_any h)
  have hl := h.look nm hn
  obtain ⟨h0, h1, h2⟩ := h.top.cells3
  cases hg : getG SRep.nm nm L with
  | none =>
    rw [hg] at hl
    simp only [Option.map_none, Option.isSome_none] at hl
    clear hg h
    go_enter Tryz.func162, Tryz.ntmps162
    go_wp2_with (go_at_call 135; refine HM.out.mono ?_; rintro e w1 ⟨rfl, rfl⟩)
    go_ret2
    exact ⟨rfl, Keeps.refl _ _⟩
  | some r =>
    rw [hg] at hl
    simp only [Option.map_some, Option.isSome_some] at hl
    have hf := h.each r (getG_some hg).1
    have c0 := hf.blk.cell 0
    have c1 := hf.blk.cell 1
    simp only [List.getElem?_toArray, List.getElem?_cons_zero, List.getElem?_cons_succ] at c0 c1
    obtain ⟨a, c, hv⟩ := hf.own.sl
    rw [u8Vs_size] at hv
    rw [hv] at c0
    clear hg h hf hv
    go_enter Tryz.func162, Tryz.ntmps162
    go_wp2_with (go_at_call 135; refine HM.out.mono ?_; rintro e w1 ⟨rfl, rfl⟩)
    go_region
    all_goals (go_wp2_with fail)
    all_goals go_ret2
    all_goals (refine ⟨rfl, ?_⟩)
    all_goals (repeat (first | (with_reducible assumption) | (with_reducible exact Keeps.refl _ _) | refine Keeps.drew ?_ | refine Keeps.drewN ?_ _ | refine Keeps.setCell ?_ (by simp) _ | refine Keeps.setRow ?_ (by simp) _ | refine Keeps.alloc ?_ _))
end
end Go.Proofs.YtkmpdobojgiegaaGreatDoor

/-
  store: how many bytes there are.
-/
namespace Go.Proofs.YtkmpdobojgiegaaGreatDoor
open Go.RowKit Go.Maps

def totL (L : List SRep) : Nat := (L.map fun r => r.f.data.size).sum
/-- the bytes of those that came already -/
def sumL (left : Lit → Bool) (L : List SRep) : Nat := (L.map fun r => cond (left (.string r.f.name.data.toList)) 0 r.f.data.size).sum
theorem sumL_cons (left : Lit → Bool) (r : SRep) (L : List SRep) : sumL left (r :: L) = cond (left (.string r.f.name.data.toList)) 0 r.f.data.size + sumL left L := by unfold sumL; rw [List.map_cons, List.sum_cons]
theorem totL_cons (r : SRep) (L : List SRep) : totL (r :: L) = r.f.data.size + totL L := by unfold totL; rw [List.map_cons, List.sum_cons]
theorem sumL_le (left : Lit → Bool) : ∀ L, sumL left L ≤ totL L
  | [] => Nat.le_refl _
  | r :: L => by
    have := sumL_le left L
    rw [sumL_cons, totL_cons]
    cases left (.string r.f.name.data.toList)
    · show r.f.data.size + _ ≤ _; omega
    · show 0 + _ ≤ _; omega
theorem sumL_congr {f g : Lit → Bool} : ∀ {L : List SRep}, (∀ r ∈ L, f (.string r.f.name.data.toList) = g (.string r.f.name.data.toList)) → sumL f L = sumL g L
  | [], _ => rfl
  | r :: L, h => by rw [sumL_cons, sumL_cons, h r (by simp), sumL_congr (L := L) fun a ha => h a (by simp [ha])]
theorem sumL_end {left : Lit → Bool} (h : ∀ kl, left kl = false) : ∀ L : List SRep, sumL left L = totL L
  | [] => rfl
  | r :: L => by rw [sumL_cons, totL_cons, h, sumL_end h L]; rfl
theorem sumL_start {L : List SRep} (h : Rise SRep.nm L) : sumL (Maps.has (mapD SRep.nm SRep.p L)) L = 0 := by
  have : ∀ L' : List SRep, (∀ r ∈ L', r ∈ L) → sumL (Maps.has (mapD SRep.nm SRep.p L)) L' = 0 := by
    intro L' hL
    induction L' with
    | nil => rfl
    | cons r L' ih =>
      rw [sumL_cons, ih fun a ha => hL a (by simp [ha]), mapD_has, show getG SRep.nm r.f.name L = some r from getG_of_mem h (hL r (by simp))]
      rfl
  exact this L fun _ h => h
theorem sumL_step {left : Lit → Bool} : ∀ {L : List SRep} {r : SRep}, Rise SRep.nm L → r ∈ L → left (.string r.f.name.data.toList) = true →
    sumL (fun z => left z && !z.sameKey (.string r.f.name.data.toList)) L = sumL left L + r.f.data.size
  | [], _, _, h, _ => by cases h
  | a :: L, r, hr, h, hl => by
    obtain ⟨h1, h2⟩ := List.pairwise_cons.1 hr
    have hs : ∀ b : SRep, Lit.sameKey (.string b.f.name.data.toList) (.string r.f.name.data.toList) = decide (b.f.name = r.f.name) := fun b => ent_same (nm := SRep.nm) (pt := SRep.p) r.f.name b
    rw [sumL_cons, sumL_cons, hs]
    rcases List.mem_cons.1 h with rfl | h'
    · rw [sumL_congr (g := left) fun b hb => by
        have hne : b.f.name ≠ r.f.name := fun e => nmLt_ne (h1 b hb) e.symm
        show (left _ && !Lit.sameKey _ _) = _
        rw [hs, decide_eq_false hne]; simp, hl, decide_eq_true rfl]
      show r.f.data.size + sumL left L = 0 + sumL left L + r.f.data.size
      omega
    · have hne : a.f.name ≠ r.f.name := nmLt_ne (h1 r h')
      rw [sumL_step h2 h' hl, decide_eq_false hne, Bool.not_false, Bool.and_true]
      omega

/-- what a step over the map hands out -/
theorem step_rep {L : List SRep} {x : List UInt8} {c : Value} {yd : DataW Unit} {yp : List MemPlace} (hR : ptrR c = some (yd, yp)) (hat : ∀ zd, (mapD SRep.nm SRep.p L).atKey (.string x) zd = yd) :
    ∃ r ∈ L, r.f.name.data.toList = x ∧ c = .pointer (some ⟨r.p, 0, none⟩) := by
  obtain ⟨n, hn0⟩ : ∃ n : ByteArray, n.data.toList = x := ⟨⟨x.toArray⟩, rfl⟩
  subst hn0
  have e := hat
  simp only [mapD_at] at e
  cases hg : getG SRep.nm n L with
  | none =>
    rw [hg] at e
    have h1 := (e (.lit (.bool true))).trans (e (.lit (.bool false))).symm
    simp at h1
  | some r =>
    rw [hg] at e
    have h1 : DataW.lit (Lit.int .i64 (r.p : Int)) = yd := e (.lit (.bool true))
    obtain ⟨hm, hn⟩ := getG_some hg
    refine ⟨r, hm, ?_, ptrR_inv (ps := yp) (by rw [hR, h1])⟩
    have : r.f.name = n := hn
    rw [this]

section
variable {w w' : World} {F S : Nat → Prop} {s M bad : Nat} {most : Int} {L : List SRep}
set_option maxRecDepth 100000 in
set_option maxHeartbeats 1000000 in
theorem total_any (h : StoreAt w F s most bad M L) (ht : totL L ≤ 4611686018427387904) :
    Calls Tryz.prog 160 #[.pointer (some ⟨s, 0, none⟩)] w fun e w' => e = .returned (.int .i64 (totL L : Nat)) ∧ Keeps (fun _ => False) w w' := by
  have HM := Lib.hid (made_any h)
  obtain ⟨h0, h1, h2⟩ := h.top.cells3
  have H := Lib.hid h
  have hmap := h.map
  clear h
  go_enter Tryz.func160, Tryz.ntmps160
  go_wp2_with (first
    | (go_at_call 135; refine HM.out.mono ?_; rintro e w1 ⟨rfl, hw1⟩; obtain rfl : w = w1 := hw1.symm)
    | (at_range; refine wpList_range_own _ rfl _ 101 rfl 9 138 stoK Tryz.underlying101 _ M L.length _ rfl hmap ?_; intro w0 hrg0 hg0 hs0))
  go_frame
  have hk0 : Keeps (fun _ => False) w w0 := (Keeps.refl _ _).grown hg0 (fun k hk => by cases hk)
  have HG0 := Lib.hid hk0
  clear hg0 hs0 hk0
  go_loopw [3] (fun u3 wr => ∃ (left : Lit → Bool) (cnt : Nat), wr.ranges Tryz.prog 9 ptrR M w.heap.size L.length (mapD SRep.nm SRep.p L) left cnt ∧ u3 = .int .i64 (sumL left L : Nat) ∧ Hid (Keeps (fun _ => False) w wr)) (fun _ wr => wr.rangeLeft M w.heap.size)
  case atStart => exact ⟨_, _, hrg0, by rw [sumL_start H.out.rise]; rfl, HG0⟩
  case round =>
    obtain ⟨left, cnt, hrg, rfl, HK⟩ := hrel
    have hle := sumL_le left L
    go_wp2_with (at_next; refine wpList_next_ranges _ rfl _ rfl 9 stoK ptrR Go.Proofs.encStr id (fun key kl hk => by obtain ⟨x, hx, _⟩ := Maps.keyOf_str Tryz.underlying9 hk; exact ⟨x, hx⟩) (fun v _ _ => ⟨v, rfl⟩) M w.heap.size L.length _ left cnt rfl hrg ?_ ?_)
    · intro hc0 hl0
      have he := sumL_end hl0 L
      rw [he]
      go_wp2_with fail
      go_ret
      exact ⟨rfl, HK.out⟩
    · intro x c kl yd yp w2 cnt2 hkey hlk hv hat hrg2 hlt hg2 hs2 hen
      obtain ⟨x', ex, rfl, _⟩ := Maps.keyOf_str Tryz.underlying9 hkey
      obtain rfl : x = x' := encStr_inj ex
      obtain ⟨r, hr, rfl, rfl⟩ := step_rep hv hat
      have hlk2 := sumL_step H.out.rise hr hlk
      have hle2 := sumL_le (fun z => left z && !z.sameKey (.string r.f.name.data.toList)) L
      rw [hlk2] at hle2
      have hK2 : Keeps (fun _ => False) w w2 := HK.out.and_ (Keeps.grown (Keeps.refl (fun i => i = w.heap.size) wr) hg2 (fun k hk _ => by injection hk with hk; exact hk.symm)) (fun i hi h => by omega)
      have hf := (H.out.each r hr).blk.keeps hK2 id
      have c0 := hf.cell 0
      simp only [List.getElem?_toArray, List.getElem?_cons_zero] at c0
      obtain ⟨a, c, hv2⟩ := (H.out.each r hr).own.sl
      rw [u8Vs_size] at hv2
      rw [hv2] at c0
      have HL2 := Lib.hid hlk2
      have HK2 := Lib.hid hK2
      have HLT := Lib.hid hlt
      clear hlk2 hK2 hf hv2 hg2 hs2 hlk hat hv hlt
      go_wp2_with fail
      go_roundw
      case rel => exact ⟨_, cnt2, hrg2, by rw [HL2.out]; rfl, HK2⟩
      case measure => rw [hrg2.left_eq, hrg.left_eq]; exact HLT.out
end
end Go.Proofs.YtkmpdobojgiegaaGreatDoor

/-
  store: Sync, Remove, Rename, Append, plainly and by walk.
-/
namespace Go.Proofs.YtkmpdobojgiegaaGreatDoor
open Go.RowKit Go.Maps

def totF (l : List SFile) : Nat := (l.map fun f => f.data.size).sum
def syncP (bad : Nat) (l : List SFile) (nm : ByteArray) : Int × Nat × List SFile :=
  if (beginC bad nm).1 ≠ 0 then ((beginC bad nm).1, (beginC bad nm).2, l) else
  match getG SFile.name nm l with
  | none => (7, (beginC bad nm).2, l)
  | some f => (0, (beginC bad nm).2, putG SFile.name ⟨nm, f.data, f.data.size⟩ l)
def removeP (bad : Nat) (l : List SFile) (nm : ByteArray) : Int × Nat × List SFile :=
  if (beginC bad nm).1 ≠ 0 then ((beginC bad nm).1, (beginC bad nm).2, l) else
  match getG SFile.name nm l with
  | none => (7, (beginC bad nm).2, l)
  | some _ => (0, (beginC bad nm).2, delG SFile.name nm l)
def renameP (bad : Nat) (l : List SFile) (nm tn : ByteArray) : Int × Nat × List SFile :=
  if (beginC bad nm).1 ≠ 0 then ((beginC bad nm).1, (beginC bad nm).2, l) else
  if namedP tn = false then (1, (beginC bad nm).2, l) else
  match getG SFile.name nm l with
  | none => (7, (beginC bad nm).2, l)
  | some f => (0, (beginC bad nm).2, putG SFile.name ⟨tn, f.data, f.sure⟩ (delG SFile.name nm l))
def appendP (most : Int) (bad : Nat) (l : List SFile) (nm b : ByteArray) : Int × Nat × List SFile :=
  if (beginC bad nm).1 ≠ 0 then ((beginC bad nm).1, (beginC bad nm).2, l) else
  if most < (totF l : Int) + b.size then (6, (beginC bad nm).2, l) else
  match getG SFile.name nm l with
  | none => (0, (beginC bad nm).2, putG SFile.name ⟨nm, b, 0⟩ l)
  | some f => (0, (beginC bad nm).2, putG SFile.name ⟨nm, f.data ++ b, f.sure⟩ l)

def up (F : Nat → Prop) (w : World) (i : Nat) : Prop := F i ∨ w.heap.size ≤ i
/-- what a call leaves: its error's code, the calls that will fail, the files -/
def After (w : World) (F : Nat → Prop) (s : Nat) (most : Int) (M : Nat) (x : Int × Nat × List SFile) (e : Ending) (w' : World) : Prop :=
  ∃ v L, e = .returned v ∧ ErrV w' x.1 v ∧ StoreAt w' (up F w) s most x.2.1 M L ∧ L.map SRep.f = x.2.2 ∧ Keeps F w w'

theorem nm_f (r : SRep) : SFile.name (SRep.f r) = SRep.nm r := rfl
theorem get_f (nm : ByteArray) (L : List SRep) : getG SFile.name nm (L.map SRep.f) = (getG SRep.nm nm L).map SRep.f := getG_map nm_f nm L
theorem tot_f (L : List SRep) : totF (L.map SRep.f) = totL L := by unfold totF totL; rw [List.map_map]; rfl
theorem begin_named {bad : Nat} {nm : ByteArray} (h : (beginC bad nm).1 = 0) : namedP nm = true := by
  unfold beginC at h
  by_cases hn : namedP nm = true
  · exact hn
  · rw [if_neg hn] at h; cases h
theorem begin_bad (bad : Nat) (nm : ByteArray) : (beginC bad nm).2 ≤ bad := by
  unfold beginC
  by_cases hn : namedP nm = true
  · rw [if_pos hn]; split <;> simp
  · rw [if_neg hn]; exact Nat.le_refl _

section
variable {w w' : World} {F S : Nat → Prop} {s M bad : Nat} {most : Int} {L : List SRep}
theorem ErrV.iface {c : Int} {v : Value} (h : ErrV w c v) (hc : c ≠ 0) : ∃ ty x, v = .iface ty x := by
  rcases h with ⟨h, _⟩ | ⟨_, l, hl⟩
  · exact absurd h hc
  · exact hl.form
theorem ErrV.nil_ {v : Value} (h : ErrV w 0 v) : v = .nilIface := by
  rcases h with ⟨_, h⟩ | ⟨h, _⟩
  · exact h
  · exact absurd rfl h
theorem Keeps.up (h : Keeps (fun i => i = s) w w') (hs : F s) : Keeps F w w' := h.mono fun _ _ e => by rw [e]; exact hs
theorem After.fails {x : Int × Nat × List SFile} {v : Value} (he : ErrV w' x.1 v) (hs : StoreAt w' F s most x.2.1 M L) (hl : x.2.2 = L.map SRep.f) (k : Keeps F w w') : After w F s most M x (.returned v) w' :=
  ⟨v, L, rfl, he, hs.mono fun _ h => .inl h, hl.symm, k⟩
theorem swap_f {r0 r : SRep} (h : Rise SRep.nm L) (h0 : r0 ∈ L) (hn : r.f.name = r0.f.name) : (swapR r L).map SRep.f = putG SFile.name r.f (L.map SRep.f) := by
  rw [swap_put h ⟨r0, h0, hn.symm⟩, putG_map nm_f]
/-- how many bytes are sure -/
theorem StoreAt.setSure {r : SRep} (h : StoreAt w F s most bad M L) (hr : r ∈ L) (n : Nat) (x : Int) (hx : x = n) :
    StoreAt (w.setCell ⟨r.p, 1, none⟩ (.int .i64 x)) F s most bad M (swapR ⟨⟨r.f.name, r.f.data, n⟩, r.p, r.v⟩ L) ∧ Keeps (fun i => i = r.p) w (w.setCell ⟨r.p, 1, none⟩ (.int .i64 x)) := by
  subst hx
  have hf := h.each r hr
  have k : Keeps (fun i => i = r.p) w (w.setCell ⟨r.p, 1, none⟩ (.int .i64 n)) := (Keeps.refl (fun i => i = r.p) w).setCell (p := ⟨r.p, 1, none⟩) (fun _ => rfl) _
  refine ⟨h.swap (r := ⟨⟨r.f.name, r.f.data, n⟩, r.p, r.v⟩) hr rfl rfl (k.mono fun _ _ e => .inl e) (fun _ h => h) ⟨hf.blk.set_ 1 _, hf.own.keeps k (fun i _ ⟨_, hb⟩ => Blk.ne_ hb hf.blk (by decide)), hf.fp, hf.fr⟩ (fun i hi => .inl hi), k⟩
/-- its bytes, which an append left in a world between -/
theorem StoreAt.setBytes {r : SRep} (h : StoreAt w F s most bad M L) (hr : r ∈ L) {v' : Value} {d : ByteArray} (ha : Appended w w' 5 r.v v' (u8Vs d.data.toList)) :
    StoreAt (w'.setCell ⟨r.p, 0, none⟩ v') (up F w) s most bad M (swapR ⟨⟨r.f.name, d, r.f.sure⟩, r.p, v'⟩ L) ∧ Keeps F w (w'.setCell ⟨r.p, 0, none⟩ v') := by
  have hf := h.each r hr
  obtain ⟨ho, k1, hrow⟩ := ha
  have hb1 : Blk w' r.p 140 #[r.v, .int .i64 r.f.sure] := hf.blk.keeps k1 fun e => by
    obtain ⟨cs, hb⟩ := hf.own.row _ e
    exact Blk.ne_ hf.blk hb (by decide) rfl
  have k2 : Keeps (fun i => i = r.p) w' (w'.setCell ⟨r.p, 0, none⟩ v') := (Keeps.refl (fun i => i = r.p) w').setCell (p := ⟨r.p, 0, none⟩) (fun _ => rfl) _
  have k : Keeps (fun i => i = r.p ∨ rowB r.v = some i) w (w'.setCell ⟨r.p, 0, none⟩ v') := (k1.mono fun _ _ h => .inr h).and_ k2 (fun i _ h => .inl h)
  refine ⟨h.swap (r := ⟨⟨r.f.name, d, r.f.sure⟩, r.p, v'⟩) hr rfl rfl k (fun _ h => .inl h) ⟨hb1.set_ 0 _, ho.keeps k2 (fun i _ ⟨_, hb⟩ => Blk.ne_ hb hb1 (by decide)), .inl hf.fp, fun i hi => ?_⟩ (fun i hi => ?_), k.mono fun i _ h => ?_⟩
  · rcases hrow with e | e
    · exact .inl (hf.fr i (e ▸ hi))
    · rw [show rowB v' = some i from hi] at e
      injection e with e
      exact .inr (by omega)
  · rcases hrow with e | e
    · exact .inl (e ▸ hi)
    · rw [show rowB v' = some i from hi] at e
      injection e with e
      exact .inr (by omega)
  · rcases h with rfl | h
    · exact hf.fp
    · exact hf.fr i h

theorem there_some (h : StoreAt w F s most bad M L) {nm : ByteArray} (hn : nm.size ≤ maxLen) {r : SRep} (hg : getG SRep.nm nm L = some r) :
    Calls Tryz.prog 187 #[.pointer (some ⟨s, 0, none⟩), .string nm] w fun e w' => e = .returned (.tuple #[.pointer (some ⟨r.p, 0, none⟩), .nilIface]) ∧ Keeps (fun _ => False) w w' :=
  (there_any h nm hn).mono fun e w' hh => by
    rcases hh with ⟨⟨r', h1, h2⟩ | ⟨h1, _⟩, k⟩
    · rw [hg] at h1; injection h1 with h1; subst h1; exact ⟨h2, k⟩
    · rw [hg] at h1; cases h1
theorem there_none (h : StoreAt w F s most bad M L) {nm : ByteArray} (hn : nm.size ≤ maxLen) (hg : getG SRep.nm nm L = none) :
    Calls Tryz.prog 187 #[.pointer (some ⟨s, 0, none⟩), .string nm] w fun e w' => (∃ a, e = .returned (.tuple #[.pointer none, .iface 196 (.pointer (some ⟨a, 0, none⟩))]) ∧ Chain w' [(0, nm)] 7 (.iface 196 (.pointer (some ⟨a, 0, none⟩)))) ∧ Keeps (fun _ => False) w w' :=
  (there_any h nm hn).mono fun e w' hh => by
    rcases hh with ⟨⟨r', h1, h2⟩ | ⟨_, h2⟩, k⟩
    · rw [hg] at h1; cases h1
    · exact ⟨h2, k⟩

set_option maxRecDepth 100000 in
set_option maxHeartbeats 1000000 in
/-- all bytes of a file are sure -/
theorem sync_any (h : StoreAt w F s most bad M L) (nm : ByteArray) (hb : bad ≤ 9223372036854775807) :
    Calls Tryz.prog 130 #[.pointer (some ⟨s, 0, none⟩), .string nm] w (After w F s most M (syncP bad (L.map SRep.f) nm)) := by
  have HB := Lib.hid (begin_any h nm hb)
  have hfs := h.fs
  have HF := Lib.hid hfs
  clear h hfs
  obtain ⟨c, hc⟩ : ∃ c, c = (beginC bad nm).1 := ⟨_, rfl⟩
  obtain ⟨b', hb'⟩ : ∃ b', b' = (beginC bad nm).2 := ⟨_, rfl⟩
  by_cases h0 : c = 0
  · have hnm := begin_named (hc ▸ h0)
    have hle := (namedP_size hnm).2
    have hsync : syncP bad (L.map SRep.f) nm = match getG SFile.name nm (L.map SRep.f) with | none => (7, b', L.map SRep.f) | some f => (0, b', putG SFile.name ⟨nm, f.data, f.data.size⟩ (L.map SRep.f)) := by
      unfold syncP
      rw [if_neg (by rw [← hc, h0]; simp), ← hb']
    rw [hsync, get_f]
    rw [← hc, ← hb', h0] at HB
    clear hsync hc hb' hnm h0
    have hle2 : nm.size ≤ maxLen := by unfold maxLen; omega
    cases hg : getG SRep.nm nm L with
    | some r =>
      simp only [Option.map_some]
      have HG := Lib.hid hg
      clear hg
      go_enter Tryz.func130, Tryz.ntmps130
      go_wp2_with fail
      refine HB.out.mono ?_
      rintro e w1 ⟨⟨v, rfl, hev⟩, hs1, k1⟩
      obtain rfl := hev.nil_
      have HS1 := Lib.hid hs1
      have HK1 := Lib.hid k1
      clear hs1 k1 hev
      go_wp2_with fail
      refine (there_some HS1.out hle2 HG.out).mono ?_
      rintro e w2 ⟨rfl, k2⟩
      have hr := getG_some HG.out
      have hs2 := HS1.out.keeps k2 (fun _ _ => id)
      have hf := hs2.each r hr.1
      have c0 := hf.blk.cell 0
      have c1 := hf.blk.cell 1
      have f1 := hf.blk.frozen 1
      simp only [List.getElem?_toArray, List.getElem?_cons_zero, List.getElem?_cons_succ] at c0 c1
      obtain ⟨a, cc, hv2⟩ := hf.own.sl
      rw [u8Vs_size] at hv2
      have hss := hs2.setSure hr.1 r.f.data.size _ rfl
      rw [hv2] at c0
      have hrn : r.f.name = nm := hr.2
      have HRN := Lib.hid hrn
      have HSS := Lib.hid hss
      have HR := Lib.hid hr.1
      have HS2 := Lib.hid hs2
      have HK2 := Lib.hid k2
      clear hr hs2 hf hv2 hrn hss k2
      go_wp2_with fail
      go_ret
      refine ⟨_, _, rfl, ErrV.ok, HSS.out.1.mono fun _ h => .inl h, ?_, ?_⟩
      · refine (swap_f (r := ⟨⟨r.f.name, r.f.data, r.f.data.size⟩, r.p, r.v⟩) HS2.out.rise HR.out rfl).trans ?_
        rw [HRN.out]
      · exact ((HK1.out.up HF.out).trans (Keeps.none_ HK2.out)).trans (HSS.out.2.mono fun i _ e => by rw [e]; exact (HS2.out.each r HR.out).fp)
    | none =>
      simp only [Option.map_none]
      have HG := Lib.hid hg
      clear hg
      go_enter Tryz.func130, Tryz.ntmps130
      go_wp2_with fail
      refine HB.out.mono ?_
      rintro e w1 ⟨⟨v, rfl, hev⟩, hs1, k1⟩
      obtain rfl := hev.nil_
      have HS1 := Lib.hid hs1
      have HK1 := Lib.hid k1
      clear hs1 k1 hev
      go_wp2_with fail
      refine (there_none HS1.out hle2 HG.out).mono ?_
      rintro e w2 ⟨⟨a, rfl, hch⟩, k2⟩
      have HCH := Lib.hid hch
      have HK2 := Lib.hid k2
      clear hch k2
      go_wp2_with fail
      go_ret
      exact After.fails (.inr ⟨(by decide : (7 : Int) ≠ 0), _, HCH.out⟩) (HS1.out.keeps HK2.out (fun _ _ => id)) rfl ((HK1.out.up HF.out).trans (Keeps.none_ HK2.out))
  · have hsync : syncP bad (L.map SRep.f) nm = (c, b', L.map SRep.f) := by
      unfold syncP
      rw [if_pos (by rw [← hc]; exact h0), ← hb', ← hc]
    rw [hsync]
    rw [← hc, ← hb'] at HB
    clear hsync hc hb'
    go_enter Tryz.func130, Tryz.ntmps130
    go_wp2_with fail
    refine HB.out.mono ?_
    rintro e w1 ⟨⟨v, rfl, hev⟩, hs1, k1⟩
    have HEV := Lib.hid hev
    obtain ⟨ty, x, rfl⟩ := hev.iface h0
    have HS1 := Lib.hid hs1
    have HK1 := Lib.hid k1
    clear hs1 k1 hev
    go_wp2_with fail
    go_ret
    exact After.fails HEV.out HS1.out rfl (HK1.out.up HF.out)

theorem del_f (nm : ByteArray) (L : List SRep) : (delG SRep.nm nm L).map SRep.f = delG SFile.name nm (L.map SRep.f) := delG_map nm_f nm L
set_option maxRecDepth 100000 in
set_option maxHeartbeats 1000000 in
/-- a file goes -/
theorem remove_any (h : StoreAt w F s most bad M L) (nm : ByteArray) (hb : bad ≤ 9223372036854775807) :
    Calls Tryz.prog 220 #[.pointer (some ⟨s, 0, none⟩), .string nm] w (After w F s most M (removeP bad (L.map SRep.f) nm)) := by
  have HB := Lib.hid (begin_any h nm hb)
  have hfs := h.fs
  have HF := Lib.hid hfs
  have HFM := Lib.hid h.fM
  clear h hfs
  obtain ⟨c, hc⟩ : ∃ c, c = (beginC bad nm).1 := ⟨_, rfl⟩
  obtain ⟨b', hb'⟩ : ∃ b', b' = (beginC bad nm).2 := ⟨_, rfl⟩
  by_cases h0 : c = 0
  · have hnm := begin_named (hc ▸ h0)
    have hle := (namedP_size hnm).2
    have hsync : removeP bad (L.map SRep.f) nm = match getG SFile.name nm (L.map SRep.f) with | none => (7, b', L.map SRep.f) | some _ => (0, b', delG SFile.name nm (L.map SRep.f)) := by
      unfold removeP
      rw [if_neg (by rw [← hc, h0]; simp), ← hb']
    rw [hsync, get_f]
    rw [← hc, ← hb', h0] at HB
    clear hsync hc hb' hnm h0
    have hle2 : nm.size ≤ maxLen := by unfold maxLen; omega
    cases hg : getG SRep.nm nm L with
    | some r =>
      simp only [Option.map_some]
      have HG := Lib.hid hg
      clear hg
      go_enter Tryz.func220, Tryz.ntmps220
      go_wp2_with fail
      refine HB.out.mono ?_
      rintro e w1 ⟨⟨v, rfl, hev⟩, hs1, k1⟩
      obtain rfl := hev.nil_
      have HS1 := Lib.hid hs1
      have HK1 := Lib.hid k1
      clear hs1 k1 hev
      go_wp2_with fail
      refine (there_some HS1.out hle2 HG.out).mono ?_
      rintro e w2 ⟨rfl, k2⟩
      have hs2 := HS1.out.keeps k2 (fun _ _ => id)
      obtain ⟨c0, c1, c2⟩ := hs2.top.cells3
      obtain ⟨w3, hrun, hs3, k3⟩ := hs2.del nm hle2 0
      have HS3 := Lib.hid hs3
      have HK2 := Lib.hid k2
      have HK3 := Lib.hid k3
      clear hs2 hs3 k2 k3
      go_wp2_with fail
      go_ret
      exact ⟨_, _, rfl, ErrV.ok, HS3.out.mono fun _ h => .inl h, del_f nm L, ((HK1.out.up HF.out).trans (Keeps.none_ HK2.out)).trans (HK3.out.mono fun i _ e => by rw [e]; exact HFM.out)⟩
    | none =>
      simp only [Option.map_none]
      have HG := Lib.hid hg
      clear hg
      go_enter Tryz.func220, Tryz.ntmps220
      go_wp2_with fail
      refine HB.out.mono ?_
      rintro e w1 ⟨⟨v, rfl, hev⟩, hs1, k1⟩
      obtain rfl := hev.nil_
      have HS1 := Lib.hid hs1
      have HK1 := Lib.hid k1
      clear hs1 k1 hev
      go_wp2_with fail
      refine (there_none HS1.out hle2 HG.out).mono ?_
      rintro e w2 ⟨⟨a, rfl, hch⟩, k2⟩
      have HCH := Lib.hid hch
      have HK2 := Lib.hid k2
      clear hch k2
      go_wp2_with fail
      go_ret
      exact After.fails (.inr ⟨(by decide : (7 : Int) ≠ 0), _, HCH.out⟩) (HS1.out.keeps HK2.out (fun _ _ => id)) rfl ((HK1.out.up HF.out).trans (Keeps.none_ HK2.out))
  · have hsync : removeP bad (L.map SRep.f) nm = (c, b', L.map SRep.f) := by
      unfold removeP
      rw [if_pos (by rw [← hc]; exact h0), ← hb', ← hc]
    rw [hsync]
    rw [← hc, ← hb'] at HB
    clear hsync hc hb'
    go_enter Tryz.func220, Tryz.ntmps220
    go_wp2_with fail
    refine HB.out.mono ?_
    rintro e w1 ⟨⟨v, rfl, hev⟩, hs1, k1⟩
    have HEV := Lib.hid hev
    obtain ⟨ty, x, rfl⟩ := hev.iface h0
    have HS1 := Lib.hid hs1
    have HK1 := Lib.hid k1
    clear hs1 k1 hev
    go_wp2_with fail
    go_ret
    exact After.fails HEV.out HS1.out rfl (HK1.out.up HF.out)
end
end Go.Proofs.YtkmpdobojgiegaaGreatDoor

/-
  store: Rename, Append.
-/
namespace Go.Proofs.YtkmpdobojgiegaaGreatDoor
open Go.RowKit Go.Maps

section
variable {w w' : World} {F S : Nat → Prop} {s M bad : Nat} {most : Int} {L : List SRep}
theorem StoreAt.off (h : StoreAt w F s most bad M L) {a r : SRep} (ha : a ∈ L) (hr : r ∈ L) (hne : a ≠ r) : Off a r := by
  have : ∀ {l : List SRep}, l.Pairwise Off → a ∈ l → r ∈ l → Off a r := by
    intro l hl h1 h2
    induction l with
    | nil => cases h1
    | cons x l ih =>
      obtain ⟨p1, p2⟩ := List.pairwise_cons.1 hl
      rcases List.mem_cons.1 h1 with rfl | h1'
      · rcases List.mem_cons.1 h2 with e | h2'
        · exact absurd e.symm hne
        · exact p1 r h2'
      · rcases List.mem_cons.1 h2 with rfl | h2'
        · exact (p1 a h1').symm
        · exact ih p2 h1' h2'
  exact this h.apart ha hr
/-- one of its files under another name, the old one gone -/
theorem StoreAt.move {r : SRep} (h : StoreAt w F s most bad M L) (hr : r ∈ L) (tn : ByteArray) {w1 : World} (h1 : StoreAt w1 F s most bad M (delG SRep.nm r.f.name L)) (k1 : Keeps (fun i => i = M) w w1) (hto : tn.size ≤ maxLen) (hL : L.length ≤ 4294967296) :
    ∃ w2, (Instr.mapUpdate 101 (.map (some M)) (.string tn) (.pointer (some ⟨r.p, 0, none⟩))).run Tryz.prog w1 = .ok () w2 ∧ StoreAt w2 F s most bad M (putG SRep.nm ⟨⟨tn, r.f.data, r.f.sure⟩, r.p, r.v⟩ (delG SRep.nm r.f.name L)) ∧ Keeps (fun i => i = M) w1 w2 := by
  have hf := h.each r hr
  have hne : ∀ {b : Nat} {t : TypeId} {cs : Array Value}, Blk w b t cs → ¬ b = M := fun hb => blk_map_ne hb h.isMap
  refine h1.put ⟨⟨tn, r.f.data, r.f.sure⟩, r.p, r.v⟩ ⟨hf.blk.keeps k1 (hne hf.blk), hf.own.keeps k1 (fun i _ ⟨_, hb⟩ => hne hb), hf.fp, hf.fr⟩ (fun a ha => ?_) hto ?_
  · obtain ⟨ha, _⟩ := delG_mem.1 ha
    obtain ⟨ha, hn⟩ := delG_mem.1 ha
    have ho := h.off hr ha (fun e => hn (by rw [← e]; rfl))
    exact ho
  · have : (delG SRep.nm r.f.name L).length ≤ L.length := List.length_filter_le _ _
    unfold maxLen
    omega

set_option maxRecDepth 100000 in
set_option maxHeartbeats 1000000 in
/-- a file is called otherwise -/
theorem rename_any (h : StoreAt w F s most bad M L) (nm tn : ByteArray) (hb : bad ≤ 9223372036854775807) (hL : L.length ≤ 4294967296) :
    Calls Tryz.prog 222 #[.pointer (some ⟨s, 0, none⟩), .string nm, .string tn] w (After w F s most M (renameP bad (L.map SRep.f) nm tn)) := by
  have HB := Lib.hid (begin_any h nm hb)
  have hfs := h.fs
  have HF := Lib.hid hfs
  have HFM := Lib.hid h.fM
  clear h hfs
  obtain ⟨c, hc⟩ : ∃ c, c = (beginC bad nm).1 := ⟨_, rfl⟩
  obtain ⟨b', hb'⟩ : ∃ b', b' = (beginC bad nm).2 := ⟨_, rfl⟩
  by_cases h0 : c = 0
  · have hnm := begin_named (hc ▸ h0)
    have hle := (namedP_size hnm).2
    have hle2 : nm.size ≤ maxLen := by unfold maxLen; omega
    by_cases hto : namedP tn = true
    · have htl := (namedP_size hto).2
      have htl2 : tn.size ≤ maxLen := by unfold maxLen; omega
      have hsync : renameP bad (L.map SRep.f) nm tn = match getG SFile.name nm (L.map SRep.f) with | none => (7, b', L.map SRep.f) | some f => (0, b', putG SFile.name ⟨tn, f.data, f.sure⟩ (delG SFile.name nm (L.map SRep.f))) := by
        unfold renameP
        rw [if_neg (by rw [← hc, h0]; simp), if_neg (by rw [hto]; simp), ← hb']
        try (cases getG SFile.name nm (L.map SRep.f) <;> rfl)
      rw [hsync, get_f]
      rw [← hc, ← hb', h0] at HB
      have HTO := Lib.hid hto
      clear hsync hc hb' hnm h0 hto
      cases hg : getG SRep.nm nm L with
      | some r =>
        simp only [Option.map_some]
        have HG := Lib.hid hg
        clear hg
        go_enter Tryz.func222, Tryz.ntmps222
        go_wp2_with fail
        refine HB.out.mono ?_
        rintro e w1 ⟨⟨v, rfl, hev⟩, hs1, k1⟩
        obtain rfl := hev.nil_
        have HS1 := Lib.hid hs1
        have HK1 := Lib.hid k1
        clear hs1 k1 hev
        go_wp2_with fail
        refine (named_any w1 tn).mono ?_
        rintro e wx ⟨rfl, hwx⟩
        obtain rfl : w1 = wx := hwx.symm
        rw [HTO.out]
        go_wp2_with fail
        refine (there_some HS1.out hle2 HG.out).mono ?_
        rintro e w2 ⟨rfl, k2⟩
        have hr := getG_some HG.out
        have hs2 := HS1.out.keeps k2 (fun _ _ => id)
        obtain ⟨c0, c1, c2⟩ := hs2.top.cells3
        obtain ⟨w3, hrun, hs3, k3⟩ := hs2.del nm hle2 0
        have hrn : r.f.name = nm := hr.2
        have hs3' := hs3
        rw [← hrn] at hs3'
        obtain ⟨w4, hrun4, hs4, k4⟩ := hs2.move hr.1 tn hs3' k3 htl2 hL
        obtain ⟨d0, d1, d2⟩ := hs3.top.cells3
        rw [hrn] at hs4
        have HS4 := Lib.hid hs4
        have HK2 := Lib.hid k2
        have HK3 := Lib.hid k3
        have HK4 := Lib.hid k4
        have HR := Lib.hid hr.1
        clear hs2 hs3 hs3' hs4 k2 k3 k4 hr hrn
        go_wp2_with fail
        go_ret
        refine ⟨_, _, rfl, ErrV.ok, HS4.out.mono fun _ h => .inl h, ?_, (((HK1.out.up HF.out).trans (Keeps.none_ HK2.out)).trans (HK3.out.mono fun i _ e => by rw [e]; exact HFM.out)).trans (HK4.out.mono fun i _ e => by rw [e]; exact HFM.out)⟩
        refine (putG_map nm_f _ _).trans ?_
        rw [del_f]
      | none =>
        simp only [Option.map_none]
        have HG := Lib.hid hg
        clear hg
        go_enter Tryz.func222, Tryz.ntmps222
        go_wp2_with fail
        refine HB.out.mono ?_
        rintro e w1 ⟨⟨v, rfl, hev⟩, hs1, k1⟩
        obtain rfl := hev.nil_
        have HS1 := Lib.hid hs1
        have HK1 := Lib.hid k1
        clear hs1 k1 hev
        go_wp2_with fail
        refine (named_any w1 tn).mono ?_
        rintro e wx ⟨rfl, hwx⟩
        obtain rfl : w1 = wx := hwx.symm
        rw [HTO.out]
        go_wp2_with fail
        refine (there_none HS1.out hle2 HG.out).mono ?_
        rintro e w2 ⟨⟨a, rfl, hch⟩, k2⟩
        have HCH := Lib.hid hch
        have HK2 := Lib.hid k2
        clear hch k2
        go_wp2_with fail
        go_ret
        exact After.fails (.inr ⟨(by decide : (7 : Int) ≠ 0), _, HCH.out⟩) (HS1.out.keeps HK2.out (fun _ _ => id)) rfl ((HK1.out.up HF.out).trans (Keeps.none_ HK2.out))
    · have hsync : renameP bad (L.map SRep.f) nm tn = (1, b', L.map SRep.f) := by
        unfold renameP
        rw [if_neg (by rw [← hc, h0]; simp), if_pos (by simpa using hto), ← hb']
      rw [hsync]
      rw [← hc, ← hb', h0] at HB
      have HTO := Lib.hid (show namedP tn = false by simpa using hto)
      clear hsync hc hb' hnm h0 hto
      go_enter Tryz.func222, Tryz.ntmps222
      go_wp2_with fail
      refine HB.out.mono ?_
      rintro e w1 ⟨⟨v, rfl, hev⟩, hs1, k1⟩
      obtain rfl := hev.nil_
      have HS1 := Lib.hid hs1
      have HK1 := Lib.hid k1
      clear hs1 k1 hev
      go_wp2_with fail
      refine (named_any w1 tn).mono ?_
      rintro e wx ⟨rfl, hwx⟩
      obtain rfl : w1 = wx := hwx.symm
      rw [HTO.out]
      go_wp2_with fail
      refine (new_err _ 1 tn (by decide)).mono ?_
      rintro e w2 ⟨⟨a, rfl, hch⟩, k2⟩
      have HCH := Lib.hid hch
      have HK2 := Lib.hid k2
      clear hch k2
      go_wp2_with fail
      go_ret
      exact After.fails (.inr ⟨(by decide : (1 : Int) ≠ 0), _, HCH.out⟩) (HS1.out.keeps HK2.out (fun _ _ => id)) rfl ((HK1.out.up HF.out).trans (Keeps.none_ HK2.out))
  · have hsync : renameP bad (L.map SRep.f) nm tn = (c, b', L.map SRep.f) := by
      unfold renameP
      rw [if_pos (by rw [← hc]; exact h0), ← hb', ← hc]
    rw [hsync]
    rw [← hc, ← hb'] at HB
    clear hsync hc hb'
    go_enter Tryz.func222, Tryz.ntmps222
    go_wp2_with fail
    refine HB.out.mono ?_
    rintro e w1 ⟨⟨v, rfl, hev⟩, hs1, k1⟩
    have HEV := Lib.hid hev
    obtain ⟨ty, x, rfl⟩ := hev.iface h0
    have HS1 := Lib.hid hs1
    have HK1 := Lib.hid k1
    clear hs1 k1 hev
    go_wp2_with fail
    go_ret
    exact After.fails HEV.out HS1.out rfl (HK1.out.up HF.out)

/-- a new file, empty so far -/
theorem StoreAt.fresh (h : StoreAt w F s most bad M L) {nm : ByteArray} (hn : nm.size ≤ maxLen) (hL : L.length ≤ 4294967296) :
    ∃ w2, (Instr.mapUpdate 101 (.map (some M)) (.string nm) (.pointer (some ⟨w.heap.size, 0, none⟩))).run Tryz.prog (w.alloc (.cells #[.slice none 0 0, .int .i64 0] 140)) = .ok () w2 ∧
      StoreAt w2 (up F w) s most bad M (putG SRep.nm ⟨⟨nm, ⟨#[]⟩, 0⟩, w.heap.size, .slice none 0 0⟩ L) ∧ Keeps F w w2 := by
  have k1 : Keeps (fun _ => False) w (w.alloc (.cells #[.slice none 0 0, .int .i64 0] 140)) := (Keeps.refl _ _).alloc _
  have h1 := (h.keeps k1 (fun _ _ => id)).mono (G := up F w) (fun _ h => .inl h)
  have hap : ∀ a ∈ delG SRep.nm nm L, Off ⟨⟨nm, ⟨#[]⟩, 0⟩, w.heap.size, .slice none 0 0⟩ a := fun a ha => by
    have hb := (h.each a (delG_mem.1 ha).1).blk.lt
    refine ⟨fun e => ?_, fun i hi => ?_⟩
    · have : w.heap.size = a.p := e
      omega
    · rw [show rowB (SRep.mk ⟨nm, ⟨#[]⟩, 0⟩ w.heap.size (.slice none 0 0)).v = none from rfl] at hi
      cases hi
  obtain ⟨w2, hrun, hs, k2⟩ := h1.put ⟨⟨nm, ⟨#[]⟩, 0⟩, w.heap.size, .slice none 0 0⟩ ⟨Blk.new w _ _, .inl ⟨rfl, none, rfl⟩, .inr (Nat.le_refl _), fun i hi => by rw [show rowB (SRep.mk ⟨nm, ⟨#[]⟩, 0⟩ w.heap.size (.slice none 0 0)).v = none from rfl] at hi; cases hi⟩ hap hn (by unfold maxLen; omega)
  exact ⟨w2, hrun, hs, (Keeps.none_ k1 : Keeps F w _).and_ k2 fun i _ e => by rw [e]; exact h.fM⟩
theorem delG_insG {α : Type} {nm : α → ByteArray} {x : α} {n : ByteArray} (h : nm x = n) : ∀ l : List α, delG nm n (insG nm x l) = delG nm n l
  | [] => by unfold insG delG; rw [List.filter_cons_of_neg (by simpa using h)]
  | y :: r => by
    unfold insG
    split
    · unfold delG
      rw [List.filter_cons_of_neg (by simpa using h)]
    · have ih := delG_insG h r
      unfold delG at ih ⊢
      rw [List.filter_cons, List.filter_cons, ih]
theorem delG_delG {α : Type} {nm : α → ByteArray} {n : ByteArray} (l : List α) : delG nm n (delG nm n l) = delG nm n l := by
  unfold delG; rw [List.filter_filter]; simp
theorem tot_ge {L : List SRep} {r : SRep} (h : r ∈ L) : r.f.data.size ≤ totL L := by
  induction L with
  | nil => cases h
  | cons a L ih =>
    rw [totL_cons]
    rcases List.mem_cons.1 h with rfl | h
    · omega
    · have := ih h; omega
/-- behind an append to a file's bytes: the file as it stands, to be stored into -/
theorem app_file {w w' : World} {F : Nat → Prop} {r : SRep} {a : Option Addr} {n c : Nat} {v' : Value} {vs : List Value} (hf : FileOk w F r) (hv : r.v = .slice a n c) (ha : Appended w w' 5 (.slice a n c) v' vs) :
    (∃ a n c, v' = .slice a n c) ∧ w'.cell? ⟨r.p, 0, none⟩ = some (.slice a n c) ∧ w'.frozen? ⟨r.p, 0, none⟩ = false := by
  have hb4 : Blk w' r.p 140 #[r.v, .int .i64 r.f.sure] := hf.blk.keeps ha.2.1 fun e => by
    rw [← hv] at e
    obtain ⟨cs, hbb⟩ := hf.own.row _ e
    exact Blk.ne_ hf.blk hbb (by decide) rfl
  have g0 := hb4.cell 0
  simp only [List.getElem?_toArray, List.getElem?_cons_zero] at g0
  rw [hv] at g0
  exact ⟨ha.1.sl3, g0, hb4.frozen 0⟩
theorem keeps_of_up {w1 w2 : World} (h : Keeps F w w1) (k : Keeps (up F w) w1 w2) : Keeps F w w2 := h.and_ k fun i hi hh => by
  rcases hh with hh | hh
  · exact hh
  · omega
theorem putG_swap {r r' : SRep} (h : Rise SRep.nm L) (hn : r'.f.name = r.f.name) : (swapR r' (putG SRep.nm r L)).map SRep.f = putG SFile.name r'.f (L.map SRep.f) := by
  rw [swap_f (r0 := r) (putG_rise h r) (insG_mem.2 (.inl rfl)) hn, putG_map nm_f]
  unfold putG
  rw [hn]
  have hd : delG SFile.name r.f.name (insG SFile.name r.f (delG SFile.name r.f.name (L.map SRep.f))) = delG SFile.name r.f.name (L.map SRep.f) := by
    rw [delG_insG rfl, delG_delG]
  exact congrArg _ hd

set_option maxRecDepth 100000 in
set_option maxHeartbeats 1000000 in
/-- more bytes -/
theorem append_any (h : StoreAt w F s most bad M L) (nm b : ByteArray) (hb : bad ≤ 9223372036854775807) (hL : L.length ≤ 4294967296) (hm1 : 1 ≤ most) (hm : most ≤ 16777216) (ht : (totL L : Int) ≤ most) (hbz : b.size ≤ 17179869184) :
    Calls Tryz.prog 198 #[.pointer (some ⟨s, 0, none⟩), .string nm, .string b] w (After w F s most M (appendP most bad (L.map SRep.f) nm b)) := by
  have HB := Lib.hid (begin_any h nm hb)
  have hfs := h.fs
  have HF := Lib.hid hfs
  have HFM := Lib.hid h.fM
  clear h hfs
  obtain ⟨c, hc⟩ : ∃ c, c = (beginC bad nm).1 := ⟨_, rfl⟩
  obtain ⟨b', hb'⟩ : ∃ b', b' = (beginC bad nm).2 := ⟨_, rfl⟩
  by_cases h0 : c = 0
  · have hnm := begin_named (hc ▸ h0)
    have hle := (namedP_size hnm).2
    have hle2 : nm.size ≤ maxLen := by unfold maxLen; omega
    obtain ⟨T, hT⟩ : ∃ T, T = totL L := ⟨_, rfl⟩
    have hTot : ∀ w1 : World, StoreAt w1 F s most b' M L → Calls Tryz.prog 160 #[.pointer (some ⟨s, 0, none⟩)] w1 fun e w' => e = .returned (.int .i64 (T : Nat)) ∧ Keeps (fun _ => False) w1 w' := fun w1 h1 => by
      rw [hT]; exact total_any h1 (by omega)
    rw [← hT] at ht
    have HTOT := Lib.hid hTot
    clear hTot
    have hw : IntKind.i64.wrap (most - (T : Int)) = most - T := IntWalk.i64_in _ (by omega)
    by_cases hfull : most < (T : Int) + b.size
    · have hsync : appendP most bad (L.map SRep.f) nm b = (6, b', L.map SRep.f) := by
        unfold appendP
        rw [if_neg (by rw [← hc, h0]; simp), tot_f, ← hT, if_pos hfull, ← hb']
      rw [hsync]
      rw [← hc, ← hb', h0] at HB
      have hcmp : decide (most - (T : Int) < (b.size : Int)) = true := decide_eq_true (by omega)
      clear hsync hc hb' hnm h0 hT
      go_enter Tryz.func198, Tryz.ntmps198
      go_wp2_with fail
      refine HB.out.mono ?_
      rintro e w1 ⟨⟨v, rfl, hev⟩, hs1, k1⟩
      obtain rfl := hev.nil_
      have HS1 := Lib.hid hs1
      have HK1 := Lib.hid k1
      obtain ⟨c0, c1, c2⟩ := hs1.top.cells3
      clear hs1 k1 hev c0 c2
      go_wp2_with fail
      go_region_held3 (fun w' => w'.cell? ⟨s, 1, none⟩ = some (.int .i64 most) ∧ Keeps (fun _ => False) w1 w')
        ((first | exact ⟨c1, by (repeat (first | (with_reducible assumption) | (with_reducible exact Keeps.refl _ _) | refine Keeps.drew ?_ | refine Keeps.drewN ?_ _ | refine Keeps.setCell ?_ (by simp) _ | refine Keeps.setRow ?_ (by simp) _ | refine Keeps.alloc ?_ _))⟩ | exact ⟨d1, kk⟩))
        ((go_at_call 160; rename_i hh _ _; refine (HTOT.out _ (HS1.out.keeps hh.2 (fun _ _ => id))).mono ?_; rintro e w3 ⟨rfl, k3⟩; have kk : Keeps (fun _ => False) w1 w3 := hh.2.trans k3; have d1 := (HS1.out.top.keeps kk id).cells3.2.1))
      go_wp2_with fail
      refine (new_err _ 6 nm (by decide)).mono ?_
      rintro e w4 ⟨⟨a, rfl, hch⟩, k4⟩
      have HCH := Lib.hid hch
      have HK4 := Lib.hid (kk.trans k4)
      clear hch k4
      go_wp2_with fail
      go_ret
      exact After.fails (.inr ⟨(by decide : (6 : Int) ≠ 0), _, HCH.out⟩) (HS1.out.keeps HK4.out (fun _ _ => id)) rfl ((HK1.out.up HF.out).trans (Keeps.none_ HK4.out))
    · have hcmp : decide (most - (T : Int) < (b.size : Int)) = false := decide_eq_false (by omega)
      have hcmp2 : (b.size : Int) ≤ most - T := by omega
      have hsync : appendP most bad (L.map SRep.f) nm b = match getG SFile.name nm (L.map SRep.f) with | none => (0, b', putG SFile.name ⟨nm, b, 0⟩ (L.map SRep.f)) | some f => (0, b', putG SFile.name ⟨nm, f.data ++ b, f.sure⟩ (L.map SRep.f)) := by
        unfold appendP
        rw [if_neg (by rw [← hc, h0]; simp), tot_f, ← hT, if_neg hfull, ← hb']
        try (cases getG SFile.name nm (L.map SRep.f) <;> rfl)
      rw [hsync, get_f]
      rw [← hc, ← hb', h0] at HB
      have HT := Lib.hid hT
      clear hsync hc hb' hnm h0 hT hfull
      cases hg : getG SRep.nm nm L with
      | some r =>
        simp only [Option.map_some]
        have HG := Lib.hid hg
        clear hg
        go_enter Tryz.func198, Tryz.ntmps198
        go_wp2_with fail
        refine HB.out.mono ?_
        rintro e w1 ⟨⟨v, rfl, hev⟩, hs1, k1⟩
        obtain rfl := hev.nil_
        have HS1 := Lib.hid hs1
        have HK1 := Lib.hid k1
        obtain ⟨c0, c1, c2⟩ := hs1.top.cells3
        clear hs1 k1 hev c0 c2
        go_wp2_with fail
        go_region_held3 (fun w' => w'.cell? ⟨s, 1, none⟩ = some (.int .i64 most) ∧ Keeps (fun _ => False) w1 w')
          ((first | exact ⟨c1, by (repeat (first | (with_reducible assumption) | (with_reducible exact Keeps.refl _ _) | refine Keeps.drew ?_ | refine Keeps.drewN ?_ _ | refine Keeps.setCell ?_ (by simp) _ | refine Keeps.setRow ?_ (by simp) _ | refine Keeps.alloc ?_ _))⟩ | exact ⟨d1, kk⟩))
          ((go_at_call 160; rename_i hh _ _; refine (HTOT.out _ (HS1.out.keeps hh.2 (fun _ _ => id))).mono ?_; rintro e w3 ⟨rfl, k3⟩; have kk : Keeps (fun _ => False) w1 w3 := hh.2.trans k3; have d1 := (HS1.out.top.keeps kk id).cells3.2.1))
        have hs3 := HS1.out.keeps kk (fun _ _ => id)
        obtain ⟨d0, d1', d2⟩ := hs3.top.cells3
        have hl := hs3.look nm hle2
        rw [HG.out] at hl
        simp only [Option.map_some, Option.isSome_some] at hl
        have hr := getG_some HG.out
        have hf := hs3.each r hr.1
        have f0 := hf.blk.cell 0
        have z0 := hf.blk.frozen 0
        simp only [List.getElem?_toArray, List.getElem?_cons_zero] at f0
        have hdz : r.f.data.size ≤ 16777216 := by
          have h1 : r.f.data.size ≤ totL L := by
            exact tot_ge hr.1
          have := HT.out
          omega
        obtain ⟨a, cc, hv2⟩ := hf.own.sl
        rw [u8Vs_size] at hv2
        rw [hv2] at f0
        have HRN := Lib.hid (show r.f.name = nm from hr.2)
        have HR := Lib.hid hr.1
        have HS3 := Lib.hid hs3
        have HKK := Lib.hid kk
        have HF3 := Lib.hid hf
        have HV2 := Lib.hid hv2
        have HDZ := Lib.hid hdz
        clear hs3 hf hr hv2 kk hdz
        go_wp2_with (with_reducible show wpList _ _ _ (⟨some 53, _, _, _, _, _⟩ :: _) _ _; go_must (refine wpList_append_qs rfl (.tmp 51) (.tmp 52) 126 9 rfl 5 Tryz.underlying126 Tryz.underlying9 (by kernel_rfl) (.slice a r.f.data.size cc) (u8Vs r.f.data.data.toList) rfl (by rw [← HV2.out]; exact HF3.out.own) b rfl (by rw [u8Vs_size]; have := HDZ.out; omega) ?_; intro v' w4 ha; have hA := app_file HF3.out HV2.out ha; obtain ⟨hsl, g0, y0⟩ := hA; obtain ⟨a', n', cc', hv'⟩ := hsl; subst hv'; have HA := Lib.hid ha; clear ha))
        go_ret
        have ha2 : Appended w3 w4 5 r.v (.slice a' n' cc') (u8Vs (r.f.data ++ b).data.toList) := by
          have e : (r.f.data ++ b).data.toList = r.f.data.data.toList ++ b.data.toList := by simp
          rw [e, u8Vs_app, HV2.out]; exact HA.out
        have hsb := HS3.out.setBytes HR.out ha2
        refine ⟨_, _, rfl, ErrV.ok, hsb.1.mono (fun i hi => ?_), ?_, ((HK1.out.up HF.out).trans (Keeps.none_ HKK.out)).trans hsb.2⟩
        · rcases hi with hi | hi
          · exact .inl hi
          · exact .inr (Nat.le_trans (Nat.le_trans HK1.out.size HKK.out.size) hi)
        · refine (swap_f (r := ⟨⟨r.f.name, r.f.data ++ b, r.f.sure⟩, r.p, .slice a' n' cc'⟩) HS3.out.rise HR.out rfl).trans ?_
          rw [HRN.out]
      | none =>
        simp only [Option.map_none]
        have HG := Lib.hid hg
        clear hg
        go_enter Tryz.func198, Tryz.ntmps198
        go_wp2_with fail
        refine HB.out.mono ?_
        rintro e w1 ⟨⟨v, rfl, hev⟩, hs1, k1⟩
        obtain rfl := hev.nil_
        have HS1 := Lib.hid hs1
        have HK1 := Lib.hid k1
        obtain ⟨c0, c1, c2⟩ := hs1.top.cells3
        clear hs1 k1 hev c0 c2
        go_wp2_with fail
        go_region_held3 (fun w' => w'.cell? ⟨s, 1, none⟩ = some (.int .i64 most) ∧ Keeps (fun _ => False) w1 w')
          ((first | exact ⟨c1, by (repeat (first | (with_reducible assumption) | (with_reducible exact Keeps.refl _ _) | refine Keeps.drew ?_ | refine Keeps.drewN ?_ _ | refine Keeps.setCell ?_ (by simp) _ | refine Keeps.setRow ?_ (by simp) _ | refine Keeps.alloc ?_ _))⟩ | exact ⟨d1, kk⟩))
          ((go_at_call 160; rename_i hh _ _; refine (HTOT.out _ (HS1.out.keeps hh.2 (fun _ _ => id))).mono ?_; rintro e w3 ⟨rfl, k3⟩; have kk : Keeps (fun _ => False) w1 w3 := hh.2.trans k3; have d1 := (HS1.out.top.keeps kk id).cells3.2.1))
        have hs3 := HS1.out.keeps kk (fun _ _ => id)
        obtain ⟨d0, d1', d2⟩ := hs3.top.cells3
        have hl := hs3.look nm hle2
        rw [HG.out] at hl
        simp only [Option.map_none, Option.isSome_none] at hl
        obtain ⟨w4, hrun, hs4, k4⟩ := hs3.fresh (nm := nm) hle2 hL
        obtain ⟨p0, p1, p2⟩ := (hs3.top.alloc (.cells #[.slice none 0 0, .int .i64 0] 140)).cells3
        have hr : (⟨⟨nm, ⟨#[]⟩, 0⟩, w3.heap.size, .slice none 0 0⟩ : SRep) ∈ putG SRep.nm ⟨⟨nm, ⟨#[]⟩, 0⟩, w3.heap.size, .slice none 0 0⟩ L := insG_mem.2 (.inl rfl)
        have hf := hs4.each _ hr
        have f0 := hf.blk.cell 0
        simp only [List.getElem?_toArray, List.getElem?_cons_zero] at f0
        have HS4 := Lib.hid hs4
        have HK4 := Lib.hid k4
        have HKK := Lib.hid kk
        have HR := Lib.hid hr
        have HF3 := Lib.hid hf
        have HRS := Lib.hid hs3.rise
        clear hs3 hs4 k4 kk hr hf
        go_wp2_with (with_reducible show wpList _ _ _ (⟨some 53, _, _, _, _, _⟩ :: _) _ _; go_must (refine wpList_append_qs rfl (.tmp 51) (.tmp 52) 126 9 rfl 5 Tryz.underlying126 Tryz.underlying9 (by kernel_rfl) (.slice none 0 0) [] rfl OwnQ.none_ b rfl (by simp; omega) ?_; intro v' w5 ha; have hA := app_file HF3.out rfl ha; obtain ⟨hsl, g0, y0⟩ := hA; obtain ⟨a', n', cc', hv'⟩ := hsl; subst hv'; have HA := Lib.hid ha; clear ha))
        go_ret
        have hsb := HS4.out.setBytes (d := b) HR.out HA.out
        refine ⟨_, _, rfl, ErrV.ok, hsb.1.mono (fun i hi => ?_), ?_, keeps_of_up (((HK1.out.up HF.out).trans (Keeps.none_ HKK.out)).trans HK4.out) (hsb.2.mono fun i _ hi => ?_)⟩
        · rcases hi with hi | hi
          · rcases hi with hi | hi
            · exact .inl hi
            · exact .inr (Nat.le_trans (Nat.le_trans HK1.out.size HKK.out.size) hi)
          · exact .inr (Nat.le_trans (Nat.le_trans (Nat.le_trans HK1.out.size HKK.out.size) HK4.out.size) hi)
        · exact putG_swap (r := ⟨⟨nm, ⟨#[]⟩, 0⟩, w3.heap.size, .slice none 0 0⟩) (r' := ⟨⟨nm, b, 0⟩, w3.heap.size, .slice a' n' cc'⟩) HRS.out rfl
        · rcases hi with hi | hi
          · exact .inl hi
          · exact .inr (Nat.le_trans (Nat.le_trans HK1.out.size HKK.out.size) hi)
  · have hsync : appendP most bad (L.map SRep.f) nm b = (c, b', L.map SRep.f) := by
      unfold appendP
      rw [if_pos (by rw [← hc]; exact h0), ← hb', ← hc]
    rw [hsync]
    rw [← hc, ← hb'] at HB
    clear hsync hc hb'
    go_enter Tryz.func198, Tryz.ntmps198
    go_wp2_with fail
    refine HB.out.mono ?_
    rintro e w1 ⟨⟨v, rfl, hev⟩, hs1, k1⟩
    have HEV := Lib.hid hev
    obtain ⟨ty, x, rfl⟩ := hev.iface h0
    have HS1 := Lib.hid hs1
    have HK1 := Lib.hid k1
    clear hs1 k1 hev
    go_wp2_with fail
    go_ret
    exact After.fails HEV.out HS1.out rfl (HK1.out.up HF.out)
end
end Go.Proofs.YtkmpdobojgiegaaGreatDoor

/-
  The contracts of the library, laid by the shelf over this translation.
-/
namespace Go.Proofs
open Go.Shelf
def Tryz.lays190_ren : Go.Shelf.Ren := ⟨fun | 190 => 200 | 125 => 243 | 258 => 242 | 128 => 269 | 129 => 270 | 302 => 260 | 303 => 261 | 304 => 262 | 305 => 263 | 306 => 264 | 307 => 265 | 308 => 266 | 309 => 267 | 310 => 268 | 333 => 275 | 329 => 276 | 330 => 277 | 334 => 278 | 335 => 279 | 336 => 280 | 344 => 284 | n => n, fun | 31 => 69 | 9 => 9 | 3 => 3 | 46 => 344 | 0 => 0 | 51 => 377 | 53 => 379 | 4 => 4 | 183 => 370 | 182 => 369 | 131 => 76 | 5 => 5 | 218 => 382 | 222 => 386 | 228 => 389 | 229 => 94 | n => n, fun | n => n⟩
theorem Tryz.lays190 : Go.Proofs.Lays.n190 Tryz.prog Tryz.lays190_ren := {
  mixed := by kernel_rfl
  f125 := Tryz.func243.trans (congrArg some (by kernel_rfl))
  f128 := Tryz.func269.trans (congrArg some (by kernel_rfl))
  f129 := Tryz.func270.trans (congrArg some (by kernel_rfl))
  f190 := Tryz.func200.trans (congrArg some (by kernel_rfl))
  f258 := Tryz.func242.trans (congrArg some (by kernel_rfl))
  f302 := Tryz.func260.trans (congrArg some (by kernel_rfl))
  f303 := Tryz.func261.trans (congrArg some (by kernel_rfl))
  f304 := Tryz.func262.trans (congrArg some (by kernel_rfl))
  f305 := Tryz.func263.trans (congrArg some (by kernel_rfl))
  f306 := Tryz.func264.trans (congrArg some (by kernel_rfl))
  f307 := Tryz.func265.trans (congrArg some (by kernel_rfl))
  f308 := Tryz.func266.trans (congrArg some (by kernel_rfl))
  f309 := Tryz.func267.trans (congrArg some (by kernel_rfl))
  f310 := Tryz.func268.trans (congrArg some (by kernel_rfl))
  f329 := Tryz.func276.trans (congrArg some (by kernel_rfl))
  f330 := Tryz.func277.trans (congrArg some (by kernel_rfl))
  f333 := Tryz.func275.trans (congrArg some (by kernel_rfl))
  f334 := Tryz.func278.trans (congrArg some (by kernel_rfl))
  f335 := Tryz.func279.trans (congrArg some (by kernel_rfl))
  f336 := Tryz.func280.trans (congrArg some (by kernel_rfl))
  f344 := Tryz.func284.trans (congrArg some (by kernel_rfl))
  t0 := Tryz.underlying0
  a0 := Tryz.isAgg0
  z0 := Tryz.sizeOf0
  v0 := Tryz.zeroValue0
  t3 := Tryz.underlying3
  a3 := Tryz.isAgg3
  z3 := Tryz.sizeOf3
  v3 := Tryz.zeroValue3
  t4 := Tryz.underlying4
  a4 := Tryz.isAgg4
  z4 := Tryz.sizeOf4
  v4 := Tryz.zeroValue4
  t5 := Tryz.underlying5
  a5 := Tryz.isAgg5
  z5 := Tryz.sizeOf5
  v5 := Tryz.zeroValue5
  t9 := Tryz.underlying9
  a9 := Tryz.isAgg9
  z9 := Tryz.sizeOf9
  v9 := Tryz.zeroValue9
  t31 := Tryz.underlying69
  a31 := Tryz.isAgg69
  z31 := Tryz.sizeOf69
  v31 := Tryz.zeroValue69
  t46 := Tryz.underlying344
  a46 := Tryz.isAgg344
  z46 := Tryz.sizeOf344
  v46 := Tryz.zeroValue344
  t51 := Tryz.underlying377
  a51 := Tryz.isAgg377
  z51 := Tryz.sizeOf377
  v51 := Tryz.zeroValue377
  t53 := Tryz.underlying379
  a53 := Tryz.isAgg379
  z53 := Tryz.sizeOf379
  v53 := Tryz.zeroValue379
  t131 := Tryz.underlying76
  a131 := Tryz.isAgg76
  z131 := Tryz.sizeOf76
  v131 := Tryz.zeroValue76
  t182 := Tryz.underlying369
  a182 := Tryz.isAgg369
  z182 := Tryz.sizeOf369
  v182 := Tryz.zeroValue369
  t183 := Tryz.underlying370
  a183 := Tryz.isAgg370
  z183 := Tryz.sizeOf370
  v183 := Tryz.zeroValue370
  t218 := Tryz.underlying382
  a218 := Tryz.isAgg382
  z218 := Tryz.sizeOf382
  v218 := Tryz.zeroValue382
  t222 := Tryz.underlying386
  a222 := Tryz.isAgg386
  z222 := Tryz.sizeOf386
  v222 := Tryz.zeroValue386
  t228 := Tryz.underlying389
  a228 := Tryz.isAgg389
  z228 := Tryz.sizeOf389
  v228 := Tryz.zeroValue389
  t229 := Tryz.underlying94
  a229 := Tryz.isAgg94
  z229 := Tryz.sizeOf94
  v229 := Tryz.zeroValue94 }
open Go.Sort Go.RowKit in
theorem Tryz.slices_Sort_string (blk off cap : Nat) (ss : List (List UInt8)) (w : World) (hH : Holds encStr w blk off ss.toArray) (hblk : blk < w.heap.size) (hsz : ss.length < 4611686018427387904) :
    Calls Tryz.prog 200 #[.slice (some ⟨blk, off, none⟩) ss.length cap] w fun e w' =>
      e = .returned (.tuple #[]) ∧ ∃ n os, w' = grow (putRow encStr (Sort.ahead w n) blk off (ss.mergeSort fun x y => decide (x ≤ y)).toArray) os := Any.slices_Sort_string Tryz.lays190 blk off cap ss w hH hblk hsz
open Go.RowKit Go.Sort in
theorem Tryz.slices_Sort_string_none (p : Option Addr) (cap : Nat) (w : World) :
    Calls Tryz.prog 200 #[.slice p 0 cap] w fun e w' => e = .returned (.tuple #[]) ∧ w' = w := Any.slices_Sort_string_none Tryz.lays190 p cap w
end Go.Proofs

/-
  The contracts of maps.Keys and slices.Sorted, laid by the shelf over this translation.
-/
namespace Go.Proofs
open Go.Shelf
def Tryz.keysA_ren : Go.Shelf.Ren := ⟨fun | 7 => 137 | 10 => 201 | n => n, fun | 23 => 101 | 26 => 9 | 3 => 138 | 28 => 237 | 0 => 0 | 27 => 236 | 33 => 289 | 4 => 4 | n => n, fun | n => n⟩
theorem Tryz.keysA : Go.Proofs.SlLaysZ.n7 Tryz.prog Tryz.keysA_ren := {
  mixed := by kernel_rfl
  f7 := ⟨Tryz.f137.name, by decide, Tryz.func137.trans (congrArg some (by kernel_rfl))⟩
  f10 := ⟨Tryz.f201.name, by decide, Tryz.func201.trans (congrArg some (by kernel_rfl))⟩
  t0 := Tryz.underlying0
  a0 := Tryz.isAgg0
  z0 := Tryz.sizeOf0
  v0 := Tryz.zeroValue0
  t4 := Tryz.underlying4
  a4 := Tryz.isAgg4
  z4 := Tryz.sizeOf4
  v4 := Tryz.zeroValue4
  t23 := Tryz.underlying101
  a23 := Tryz.isAgg101
  z23 := Tryz.sizeOf101
  v23 := Tryz.zeroValue101
  t26 := Tryz.underlying9
  a26 := Tryz.isAgg9
  z26 := Tryz.sizeOf9
  v26 := Tryz.zeroValue9
  t27 := Tryz.underlying236
  a27 := Tryz.isAgg236
  z27 := Tryz.sizeOf236
  v27 := Tryz.zeroValue236
  t28 := Tryz.underlying237
  a28 := Tryz.isAgg237
  z28 := Tryz.sizeOf237
  v28 := Tryz.zeroValue237
  t33 := Tryz.underlying289
  a33 := Tryz.isAgg289
  z33 := Tryz.sizeOf289
  v33 := Tryz.zeroValue289 }
def Tryz.sortedA_ren : Go.Shelf.Ren := ⟨fun | 6 => 136 | 8 => 199 | 9 => 200 | 11 => 241 | 13 => 243 | 12 => 242 | 23 => 269 | 24 => 270 | 14 => 260 | 15 => 261 | 16 => 262 | 17 => 263 | 18 => 264 | 19 => 265 | 20 => 266 | 21 => 267 | 22 => 268 | 25 => 275 | 26 => 276 | 27 => 277 | 28 => 278 | 29 => 279 | 30 => 280 | 31 => 284 | n => n, fun | 26 => 9 | 28 => 237 | 24 => 69 | 0 => 0 | 3 => 3 | 37 => 344 | 48 => 377 | 50 => 379 | 4 => 4 | 40 => 370 | 39 => 369 | 45 => 76 | 5 => 5 | 9 => 9 | 51 => 382 | 55 => 386 | 57 => 389 | 58 => 94 | 33 => 289 | n => n, fun | n => n⟩
theorem Tryz.sortedA : Go.Proofs.SlLaysZ.n6 Tryz.prog Tryz.sortedA_ren := {
  mixed := by kernel_rfl
  f6 := ⟨Tryz.f136.name, by decide, Tryz.func136.trans (congrArg some (by kernel_rfl))⟩
  f8 := ⟨Tryz.f199.name, by decide, Tryz.func199.trans (congrArg some (by kernel_rfl))⟩
  f11 := ⟨Tryz.f241.name, by decide, Tryz.func241.trans (congrArg some (by kernel_rfl))⟩
  t0 := Tryz.underlying0
  a0 := Tryz.isAgg0
  z0 := Tryz.sizeOf0
  v0 := Tryz.zeroValue0
  t24 := Tryz.underlying69
  a24 := Tryz.isAgg69
  z24 := Tryz.sizeOf69
  v24 := Tryz.zeroValue69
  t26 := Tryz.underlying9
  a26 := Tryz.isAgg9
  z26 := Tryz.sizeOf9
  v26 := Tryz.zeroValue9
  t28 := Tryz.underlying237
  a28 := Tryz.isAgg237
  z28 := Tryz.sizeOf237
  v28 := Tryz.zeroValue237
  i26 := by kernel_rfl }
end Go.Proofs

/-
  store: the names of all files, rising.
-/
namespace Go.Proofs.YtkmpdobojgiegaaGreatDoor
open Go.RowKit Go.Maps Go.Sort Go.Shelf Go.Proofs

/-- slices.Sort's two contracts at the fence that asks nothing -/
theorem stoSorts (m : Nat) : AnyZ.SortsIn Tryz.prog Tryz.sortedA_ren Fence.wide m :=
  ⟨fun blk off cap ss W hH hblk hsz => callsIn_wide.2 (Tryz.slices_Sort_string blk off cap ss W hH hblk hsz), fun p cap W => callsIn_wide.2 (Tryz.slices_Sort_string_none p cap W)⟩

/-- slices.Sorted(maps.Keys(m)) -/
theorem sorted_keys (w : World) (b nn : Nat) (D0 : DataW Unit) (R : Value → Option (DataW Unit × List MemPlace)) (hown : w.ownsMap Tryz.prog 9 R b nn D0) (hmax : Maps.size D0 ≤ 4294967296) :
    Calls Tryz.prog 136 #[.func (.func 201) #[] #[.pointer (some ⟨w.heap.size, 0, none⟩)]] (w.alloc (.cells #[.map (some b)] 101)) fun e w' => ∃ (v : Value) (ss : List (List UInt8)), e = .returned v ∧ ss.Perm (strKeys D0) ∧
      w'.ownsRow (w.heap.size + 1) 9 1 v ss.length ((ss.mergeSort (fun x y => decide (x ≤ y))).map encStr) ∧ Keeps (fun _ => False) w w' := by
  refine (callsIn_wide (n := 5)).1 ?_
  have hbl := hown.lt
  have hseq : SeqGives Fence.wide 2 Tryz.prog 201 #[.pointer (some ⟨w.heap.size, 0, none⟩)] encStr (fun ss => ss.Perm (strKeys D0)) (Maps.size D0) (w.alloc (.cells #[.map (some b)] 101)) :=
    AnyZ.keys_gives (ρ := Tryz.keysA_ren) { Tryz.keysA with } Fence.wide _ trivial rfl (by omega) w.heap.size b nn D0 _ (by simp) (by simp) (by
      obtain ⟨es, clock, hb, Ft, hs, hD⟩ := hown
      exact ⟨es, clock, (Below.heap_alloc _ _ b hbl).trans hb, Ft, hs, hD⟩)
  have cS := AnyZ.sorted_in Tryz.sortedA Fence.wide 5 trivial trivial trivial trivial rfl (by omega) (stoSorts _) (enters_of Tryz.func200 (by kernel_rfl) rfl) 201 #[.pointer (some ⟨w.heap.size, 0, none⟩)] trivial (enters_of Tryz.func201 (by kernel_rfl) rfl) _ _ (by unfold maxLen; omega) (by omega) _ hseq
  refine cS.mono ?_
  rintro e w' ⟨v, ss, rfl, hS, hrow, _, hb⟩
  refine ⟨v, ss, rfl, hS, ?_, ?_⟩
  · rw [show (w.alloc (.cells #[.map (some b)] 101)).heap.size = w.heap.size + 1 by simp] at hrow
    exact hrow
  · exact ((Keeps.refl (fun _ => False) w).alloc _).trans (Keeps.of_below hb)
theorem keys_any (w : World) (mb : Option Nat) : Calls Tryz.prog 137 #[.map mb] w fun e w' => e = .returned (.func (.func 201) #[] #[.pointer (some ⟨w.heap.size, 0, none⟩)]) ∧ w' = w.alloc (.cells #[.map mb] 101) :=
  (callsIn_wide (n := 5)).1 (AnyZ.keys_in Tryz.keysA Fence.wide 5 trivial rfl mb w)
section
variable {w w' : World} {F S : Nat → Prop} {s M bad : Nat} {most : Int} {L : List SRep}
def namesV (L : List SRep) : List Value := (L.map fun r => r.f.name).map Value.string
set_option maxRecDepth 100000 in
theorem names_any (h : StoreAt w F s most bad M L) (hL : L.length ≤ 4294967296) :
    Calls Tryz.prog 65 #[.pointer (some ⟨s, 0, none⟩)] w fun e w' => (∃ v, e = .returned v ∧ OwnL w' w.heap.size 9 v (namesV L)) ∧ Keeps (fun _ => False) w w' := by
  have HM := Lib.hid (made_any h)
  have H := Lib.hid h
  obtain ⟨h0, h1, h2⟩ := h.top.cells3
  have hs := sorted_keys w M L.length (mapD SRep.nm SRep.p L) ptrR h.map (by unfold mapD Maps.size; simpa using hL)
  have HS := Lib.hid hs
  clear h hs
  go_enter Tryz.func65, Tryz.ntmps65
  go_wp2_with (first
    | (go_at_call 135; refine HM.out.mono ?_; rintro e w1 ⟨rfl, hw1⟩; obtain rfl : w = w1 := hw1.symm))
  refine (keys_any _ _).mono ?_
  rintro e w1 ⟨rfl, rfl⟩
  go_wp2_with fail
  refine HS.out.mono ?_
  rintro e w2 ⟨v, ss, rfl, hp, hrow, k⟩
  go_wp2_with fail
  go_ret
  refine ⟨⟨v, rfl, ?_⟩, k⟩
  have hk := keys_sorted H.out.rise hp
  have hl : ss.length = (namesV L).length := by
    rw [hp.length_eq, mapD_keys]; simp [namesV]
  have hr2 : w2.ownsRow (w.heap.size + 1) 9 1 v (namesV L).length (namesV L) := by
    have e1 : (ss.mergeSort fun x y => decide (x ≤ y)).map encStr = namesV L := by
      rw [hk]
      unfold namesV
      rw [List.map_map, List.map_map]
      rfl
    rw [e1, hl] at hrow
    exact hrow
  exact OwnL.more (show OwnL w2 (w.heap.size + 1) 9 v (namesV L) from hr2) (by omega)
end
end Go.Proofs.YtkmpdobojgiegaaGreatDoor

/-
  store: a crash, plainly and by walk.
-/
namespace Go.Proofs.YtkmpdobojgiegaaGreatDoor
open Go.RowKit Go.Maps

def intR (k : Int) : List Value := [.int .i64 k]
/-- how many more bytes of a file stay -/
def moreC (keep : List Int) (j : Nat) (f : SFile) : Nat := match keep[j]? with
  | some k => (min k ((f.data.size : Int) - f.sure)).toNat
  | none => 0
def crashF (keep : List Int) (j : Nat) (f : SFile) : SFile := ⟨f.name, f.data.extract 0 (f.sure + moreC keep j f), f.sure + moreC keep j f⟩
def crashUp (keep : List Int) (l : List SFile) (i : Nat) : List SFile := l.mapIdx fun j f => if j < i then crashF keep j f else f
def crashP (keep : List Int) (l : List SFile) : List SFile := l.mapIdx (crashF keep)
theorem crashUp_zero (keep : List Int) (l : List SFile) : crashUp keep l 0 = l := by
  apply List.ext_getElem?
  intro j
  unfold crashUp
  rw [List.getElem?_mapIdx]
  cases l[j]? <;> simp
theorem crashUp_end (keep : List Int) (l : List SFile) {i : Nat} (h : l.length ≤ i) : crashUp keep l i = crashP keep l := by
  apply List.ext_getElem?
  intro j
  unfold crashUp crashP
  rw [List.getElem?_mapIdx, List.getElem?_mapIdx]
  rcases Nat.lt_or_ge j l.length with hj | hj
  · rw [List.getElem?_eq_getElem hj]; simp [show j < i by omega]
  · rw [List.getElem?_eq_none hj]; rfl
theorem crashUp_at {keep : List Int} {l : List SFile} {i : Nat} : (crashUp keep l i)[i]? = l[i]? := by
  unfold crashUp
  rw [List.getElem?_mapIdx]
  cases l[i]? <;> simp
theorem crashUp_step {keep : List Int} {l : List SFile} {i : Nat} {f : SFile} (h : l[i]? = some f) : crashUp keep l (i + 1) = (crashUp keep l i).set i (crashF keep i f) := by
  have hi := (List.getElem?_eq_some_iff.1 h).1
  apply List.ext_getElem?
  intro j
  unfold crashUp
  rw [List.getElem?_mapIdx, List.getElem?_set, List.getElem?_mapIdx]
  by_cases hj : i = j
  · subst hj
    rw [if_pos rfl, if_pos (by simpa using hi), h]; simp
  · rw [if_neg hj]
    cases l[j]? with
    | none => rfl
    | some g =>
      simp only [Option.map_some]
      by_cases h1 : j < i
      · rw [if_pos h1, if_pos (by omega)]
      · rw [if_neg h1, if_neg (by omega)]

section
variable {w w' : World} {F S : Nat → Prop} {s M bad : Nat} {most : Int} {L : List SRep}
theorem swap_set {r r0 : SRep} (hr : Rise SRep.nm L) {i : Nat} (h0 : L[i]? = some r0) (hn : r.f.name = r0.f.name) : swapR r L = L.set i r := by
  apply List.ext_getElem?
  intro j
  unfold swapR
  rw [List.getElem?_map, List.getElem?_set]
  have hi := (List.getElem?_eq_some_iff.1 h0).1
  by_cases hj : i = j
  · subst hj
    rw [if_pos rfl, if_pos hi, h0]
    simp only [Option.map_some]
    rw [if_pos hn.symm]
  · rw [if_neg hj]
    cases ha : L[j]? with
    | none => rfl
    | some a =>
      simp only [Option.map_some]
      rw [if_neg]
      intro e
      have h1 := rise_inj hr (List.mem_of_getElem? ha) (List.mem_of_getElem? h0) (e.trans hn)
      subst h1
      have hp := hr
      unfold Rise at hp
      rw [List.pairwise_iff_getElem] at hp
      have hj2 := (List.getElem?_eq_some_iff.1 ha)
      have hi2 := (List.getElem?_eq_some_iff.1 h0)
      rcases Nat.lt_or_ge i j with hlt | hge
      · have := hp i j hi hj2.1 hlt
        rw [hi2.2, hj2.2, nmLt_irrefl] at this
        cases this
      · have := hp j i hj2.1 hi (by omega)
        rw [hi2.2, hj2.2, nmLt_irrefl] at this
        cases this
/-- a file cut to its first n bytes, all of them sure -/
theorem StoreAt.cutTo {r : SRep} (h : StoreAt w F s most bad M L) {i : Nat} (hi : L[i]? = some r) {a : Option Addr} {m c n : Nat} (hv : r.v = .slice a m c) (hn : n ≤ r.f.data.size) (x : Int) (hx : x = n) {w1 : World} (k1 : Keeps (fun _ => False) (w.setCell ⟨r.p, 1, none⟩ (.int .i64 x)) w1) :
    StoreAt (w1.setCell ⟨r.p, 0, none⟩ (.slice a n n)) F s most bad M (L.set i ⟨⟨r.f.name, r.f.data.extract 0 n, n⟩, r.p, .slice a n n⟩) ∧ Keeps (fun i => i = r.p) w (w1.setCell ⟨r.p, 0, none⟩ (.slice a n n)) := by
  have hr := List.mem_of_getElem? hi
  subst hx
  have h1 := h.setSure hr n n rfl
  have hf := h.each r hr
  have hs := h1.1.keeps k1 (fun _ _ => id)
  have e1 : swapR ⟨⟨r.f.name, r.f.data, n⟩, r.p, r.v⟩ L = L.set i ⟨⟨r.f.name, r.f.data, n⟩, r.p, r.v⟩ := swap_set h.rise hi rfl
  rw [e1] at hs
  have hlt := (List.getElem?_eq_some_iff.1 hi).1
  have hi1 : (L.set i ⟨⟨r.f.name, r.f.data, n⟩, r.p, r.v⟩)[i]? = some ⟨⟨r.f.name, r.f.data, n⟩, r.p, r.v⟩ := by rw [List.getElem?_set, if_pos rfl, if_pos hlt]
  have hf1 := hs.each _ (List.mem_of_getElem? hi1)
  have k2 : Keeps (fun i => i = r.p) w1 (w1.setCell ⟨r.p, 0, none⟩ (.slice a n n)) := (Keeps.refl (fun i => i = r.p) w1).setCell (p := ⟨r.p, 0, none⟩) (fun _ => rfl) _
  have hown : OwnQ w1 5 (.slice a m c) (u8Vs r.f.data.data.toList) := by rw [← hv]; exact hf1.own
  have hcut := hown.cut (n := n) (by rw [u8Vs_size]; exact hn)
  have hd : (u8Vs r.f.data.data.toList).take n = u8Vs (r.f.data.extract 0 n).data.toList := by
    rw [← u8Vs_take]
    congr 1
    simp [List.extract_eq_take_drop]
  rw [hd] at hcut
  have hrow : ∀ j, rowB (.slice a n n) = some j → rowB r.v = some j := fun j hj => by
    rcases hcut.2 with e | e
    · rw [e] at hj; cases hj
    · rw [hv, ← e]; exact hj
  have hb : ∀ j, j = r.p → (∃ cs, Blk w1 j 5 cs) → False := fun j e ⟨_, hb⟩ => Blk.ne_ hb hf1.blk (by decide) e
  have hsw := hs.swap (r := ⟨⟨r.f.name, r.f.data.extract 0 n, n⟩, r.p, .slice a n n⟩) (List.mem_of_getElem? hi1) rfl rfl (k2.mono fun _ _ e => .inl e) (fun _ h => h) ⟨hf1.blk.set_ 0 _, hcut.1.keeps k2 (fun j _ hbb e => hb j e hbb), hf.fp, fun j hj => hf.fr j (hrow j hj)⟩ (fun j hj => .inl (hrow j hj))
  rw [swap_set (r := ⟨⟨r.f.name, r.f.data.extract 0 n, n⟩, r.p, .slice a n n⟩) hs.rise hi1 rfl, List.set_set] at hsw
  exact ⟨hsw, (h1.2.and_ k1 (fun _ _ h => h.elim)).trans k2⟩

theorem own_cell {w : World} {B : Nat} {e : TypeId} {v : Value} {vs : List Value} (h : OwnL w B e v vs) {j n : Nat} {u : Value} (hu : vs[j]? = some u) (hn : vs.length = n) :
    ∃ g c, v = .slice (some ⟨g, 0, none⟩) n c ∧ w.cell? ⟨g, j, none⟩ = some u ∧ B ≤ g ∧ g < w.heap.size := by
  subst hn
  obtain ⟨a, c, hv, h1, h2, h3, h4⟩ := h.shape
  obtain ⟨g, hg, hB, hlt⟩ := h3 (by have := (List.getElem?_eq_some_iff.1 hu).1; omega)
  subst hg
  exact ⟨g, c, hv, (h4 g rfl j u hu).1, hB, hlt⟩
theorem ownQ_cap {w : World} {e : TypeId} {a : Option Addr} {n c : Nat} {vs : List Value} (h : OwnQ w e (.slice a n c) vs) : n ≤ c := by
  rcases h with ⟨_, b, hv⟩ | ⟨g, off, cap, cur, hv, hb, h1, _⟩
  · injection hv with _ e1 e2; omega
  · injection hv with _ e1 e2; omega
theorem StT.lt {i : Nat} (h : StT w i) : i < w.heap.size := by
  rcases h with ⟨_, h⟩ | ⟨_, h⟩ | ⟨_, h⟩ | ⟨es, c, h⟩
  · exact h.lt
  · exact h.lt
  · exact h.lt
  · exact (Array.getElem?_eq_some_iff.1 h).1
theorem getElem_map_f {L : List SRep} {i : Nat} {r : SRep} (h : L[i]? = some r) : (L.map SRep.f)[i]? = some r.f := by rw [List.getElem?_map, h]; rfl
theorem namesV_at {L : List SRep} {i : Nat} {r : SRep} (h : L[i]? = some r) : (namesV L)[i]? = some (.string r.f.name) := by unfold namesV; rw [List.getElem?_map, List.getElem?_map, h]; rfl
set_option maxRecDepth 100000 in
set_option maxHeartbeats 1000000 in
theorem crash_any (h : StoreAt w F s most bad M L) (hL : L.length ≤ 4294967296) (hsure : ∀ r ∈ L, r.f.sure ≤ r.f.data.size ∧ r.f.data.size ≤ 4294967296 ∧ r.f.name.size ≤ maxLen) (keep : List Int) (a : Option Addr) (n c : Nat) (hk : ∀ W, Keeps F w W → SlAt intR 1 W a n keep) (hkb : ∀ k ∈ keep, -9223372036854775808 ≤ k ∧ k ≤ 9223372036854775807) (hn : n ≤ 4611686018427387904) :
    Calls Tryz.prog 16 #[.pointer (some ⟨s, 0, none⟩), .slice a n c] w fun e w' => e = .returned (.tuple #[]) ∧ (∃ L', StoreAt w' F s most 0 M L' ∧ L'.map SRep.f = crashP keep (L.map SRep.f)) ∧ Keeps F w w' := by
  have HN := Lib.hid (names_any h hL)
  have H := Lib.hid h.shrink
  have HSU := Lib.hid hsure
  have HK := Lib.hid hk
  have HKB := Lib.hid hkb
  clear h hsure hk hkb
  go_enter Tryz.func16, Tryz.ntmps16
  go_wp2_with fail
  refine HN.out.mono ?_
  rintro e w1 ⟨⟨v, rfl, hO⟩, k1⟩
  obtain ⟨av, cv, rfl⟩ := hO.sl'
  have hnl : (namesV L).length = L.length := by simp [namesV]
  rw [hnl] at hO ⊢
  have HO := Lib.hid hO
  have HK1 := Lib.hid k1
  have HNL := Lib.hid hnl
  clear hO k1 hnl
  go_wp2_with fail
  go_loopw [11] (fun u11 wr => ∃ i : Nat, u11 = .int .i64 i ∧ Hid (i ≤ L.length ∧ (∃ L', StoreAt wr (fun i => F i ∧ StT w i) s most bad M L' ∧ L'.map SRep.f = crashUp keep (L.map SRep.f) i) ∧ Keeps (fun i => F i ∧ StT w i) w1 wr)) (fun u11 _ => L.length - (intOf u11).toNat)
  case atStart => exact ⟨0, rfl, Lib.hid ⟨Nat.zero_le _, ⟨L, H.out.keeps HK1.out (fun _ _ => id), (crashUp_zero _ _).symm⟩, Keeps.refl _ _⟩⟩
  case round =>
    obtain ⟨i, rfl, HR⟩ := hrel
    rename World => w2
    obtain ⟨hi0, ⟨L', hs, hl⟩, k2⟩ := HR.out
    have hlen : L'.length = L.length := by
      have := congrArg List.length hl
      simpa [crashUp] using this
    by_cases hi : i < L.length
    · obtain ⟨r0, hr0⟩ : ∃ r0, L[i]? = some r0 := ⟨_, List.getElem?_eq_getElem hi⟩
      obtain ⟨r, hr⟩ : ∃ r, L'[i]? = some r := ⟨_, List.getElem?_eq_getElem (by rw [hlen]; exact hi)⟩
      have hrf : r.f = r0.f := by
        have e1 := getElem_map_f hr
        rw [hl, crashUp_at, getElem_map_f hr0] at e1
        exact (Option.some.inj e1).symm
      have hrm := List.mem_of_getElem? hr
      obtain ⟨b1, b2, b3⟩ := HSU.out r0 (List.mem_of_getElem? hr0)
      rw [← hrf] at b1 b2 b3
      -- the name's cell
      obtain ⟨gv, qv, hvv, hcn, hBv, hlv⟩ := own_cell HO.out (namesV_at hr0) HNL.out
      injection hvv with e1 e2 e3
      subst e1 e3
      have hcn2 : w2.cell? ⟨gv, i, none⟩ = some (.string r.f.name) := by
        rw [hrf, World.cell?_of_block (w := w1) (k2.block gv hlv (fun e => by have := e.2.lt; omega))]
        exact hcn
      have hlk := hs.look1 hrm b3
      obtain ⟨c0, c1, c2⟩ := hs.top.cells3
      have hf := hs.each r hrm
      obtain ⟨ra, rc, hv⟩ := hf.own.sl
      rw [u8Vs_size] at hv
      have hcap : r.f.data.size ≤ rc := ownQ_cap (hv ▸ hf.own)
      have f0 := hf.blk.cell 0
      have f1 := hf.blk.cell 1
      have z0 := hf.blk.frozen 0
      have z1 := hf.blk.frozen 1
      simp only [List.getElem?_toArray, List.getElem?_cons_zero, List.getElem?_cons_succ] at f0 f1
      rw [hv] at f0
      have hst := crashUp_step (keep := keep) (getElem_map_f hr0)
      rw [← hl, ← hrf] at hst
      have hkk := HK.out w2 ((HK1.out.none_ : Keeps F w w1).and_ k2 fun _ _ h => h.1)
      obtain ⟨mo, hmo⟩ : ∃ mo, mo = moreC keep i r.f := ⟨_, rfl⟩
      have hmz : r.f.sure + mo ≤ r.f.data.size := by
        rw [hmo]; unfold moreC
        cases keep[i]? with
        | none => simpa using b1
        | some k => simp only; omega
      have HV := Lib.hid hv
      have HS := Lib.hid hs
      have HRI := Lib.hid hr
      have HST := Lib.hid hst
      have HK2 := Lib.hid k2
      have HMO := Lib.hid hmo
      have HHK := Lib.hid hkk
      obtain ⟨sz, hsz⟩ : ∃ sz, sz = r.f.data.size := ⟨_, rfl⟩
      obtain ⟨su, hsu⟩ : ∃ su, su = r.f.sure := ⟨_, rfl⟩
      rw [← hsz] at hmz f0 b1 b2 hcap
      rw [← hsu] at hmz f1 b1
      have HSZ := Lib.hid hsz
      have HSU2 := Lib.hid hsu
      clear hs hl hf hv hcn hst hr hr0 hrf hmo hkk k2 hsz hsu e2
      by_cases hin : i < n
      · obtain ⟨k, hkat⟩ : ∃ k, keep[i]? = some k := ⟨_, List.getElem?_eq_getElem (by rw [HHK.out.1]; exact hin)⟩
        obtain ⟨kb, koff, rfl, -, hkc⟩ := HHK.out.2 (by omega)
        have hkc2 := hkc i k 0 (.int .i64 k) hkat rfl
        rw [Nat.mul_one, Nat.add_zero] at hkc2
        obtain ⟨kl, kh⟩ := HKB.out k (List.mem_of_getElem? hkat)
        have hme : (mo : Int) = max 0 (min k ((sz : Int) - su)) := by
          rw [HMO.out]; unfold moreC; rw [hkat, ← HSZ.out, ← HSU2.out]
          simp only
          omega
        have HME := Lib.hid hme
        clear hkc hkat hme
        go_wp2_with fail
        go_region
        rw [← HME.out]
        go_wp2_with fail
        go_region
        go_wp2_with fail
        go_roundw
        case rel =>
          have hc := HS.out.cutTo HRI.out HV.out (n := su + mo) (by rw [← HSZ.out]; omega) ((su : Int) + mo) (by omega) (w1 := w2.setCell ⟨r.p, 1, none⟩ (.int .i64 ((su : Int) + mo))) (Keeps.refl _ _)
          refine ⟨i + 1, by go_num, Lib.hid ⟨by omega, ⟨_, hc.1.keeps (S := fun _ => False) ((Keeps.refl _ _).drew.drew) (fun _ _ => id), ?_⟩, ?_⟩⟩
          · rw [HST.out, List.map_set]
            congr 1
            unfold crashF
            rw [← HMO.out, ← HSU2.out]
          · exact (HK2.out.trans (hc.2.mono fun j _ e => by rw [e]; exact (HS.out.each r (List.mem_of_getElem? HRI.out)).fp)).trans (Keeps.none_ ((Keeps.refl _ _).drew.drew))
        case measure => simp [intOf]; omega
      · have hm0 : mo = 0 := by rw [HMO.out]; unfold moreC; rw [List.getElem?_eq_none (by rw [HHK.out.1]; omega)]
        subst hm0
        rw [Nat.add_zero] at hmz
        go_wp2_with fail
        go_region
        go_wp2_with fail
        go_roundw
        case rel =>
          have hc := HS.out.cutTo HRI.out HV.out (n := su) (by rw [← HSZ.out]; omega) (su : Int) (by omega) (w1 := w2.setCell ⟨r.p, 1, none⟩ (.int .i64 (su : Int))) (Keeps.refl _ _)
          refine ⟨i + 1, by go_num, Lib.hid ⟨by omega, ⟨_, hc.1.keeps (S := fun _ => False) ((Keeps.refl _ _).drew) (fun _ _ => id), ?_⟩, ?_⟩⟩
          · rw [HST.out, List.map_set]
            congr 1
            unfold crashF
            rw [← HMO.out, ← HSU2.out, Nat.add_zero]
          · exact (HK2.out.trans (hc.2.mono fun j _ e => by rw [e]; exact (HS.out.each r (List.mem_of_getElem? HRI.out)).fp)).trans (Keeps.none_ ((Keeps.refl _ _).drew))
        case measure => simp [intOf]; omega
    · have hie : L.length ≤ i := by omega
      have hend := crashUp_end keep (L.map SRep.f) (i := i) (by rw [List.length_map]; exact hie)
      rw [hend] at hl
      have HS := Lib.hid hs
      have HL := Lib.hid hl
      have HK2 := Lib.hid k2
      have HFL := Lib.hid (fail_any hs 0)
      clear hs hl hend k2
      go_wp2_with fail
      refine HFL.out.mono ?_
      rintro e w3 ⟨rfl, hs3, k3⟩
      go_wp2_with fail
      refine bodyPost_end (results_none rfl _ _ _) rfl ⟨rfl, ⟨L', hs3.mono fun _ h => h.1, HL.out⟩, ?_⟩
      exact ((HK1.out.none_ : Keeps F w w1).and_ HK2.out fun _ _ h => h.1).trans (k3.mono fun j _ e => by rw [e]; exact HS.out.fs.1)
end
end Go.Proofs.YtkmpdobojgiegaaGreatDoor

/-
  store, plainly: what every act keeps: no more are sure than there are, all names may be, all fits.
-/
namespace Go.Proofs.YtkmpdobojgiegaaGreatDoor
open Go.RowKit Go.Maps

structure Fit (most : Int) (l : List SFile) : Prop where
  fit : (totF l : Int) ≤ most
  each : ∀ f ∈ l, f.sure ≤ f.data.size ∧ namedP f.name = true

theorem totF_cons (f : SFile) (l : List SFile) : totF (f :: l) = f.data.size + totF l := by unfold totF; rw [List.map_cons, List.sum_cons]
theorem totF_perm {a b : List SFile} (h : a.Perm b) : totF a = totF b := by
  induction h with
  | nil => rfl
  | cons x _ ih => rw [totF_cons, totF_cons, ih]
  | swap x y l => rw [totF_cons, totF_cons, totF_cons, totF_cons]; omega
  | trans _ _ ih1 ih2 => rw [ih1, ih2]
theorem totF_mem {f : SFile} : ∀ {l : List SFile}, f ∈ l → f.data.size ≤ totF l
  | x :: l, h => by
    rw [totF_cons]
    rcases List.mem_cons.1 h with rfl | h
    · omega
    · have := totF_mem h; omega
def szG (nm : ByteArray) (l : List SFile) : Nat := match getG SFile.name nm l with
  | some f => f.data.size
  | none => 0
theorem totF_del (nm : ByteArray) : ∀ {l : List SFile}, Rise SFile.name l → totF (delG SFile.name nm l) + szG nm l = totF l
  | [], _ => rfl
  | x :: l, h => by
    obtain ⟨h1, h2⟩ := List.pairwise_cons.1 h
    have ih := totF_del nm h2
    by_cases hx : x.name = nm
    · subst hx
      have hn : getG SFile.name x.name l = none := by
        unfold getG
        rw [List.find?_eq_none]
        intro y hy
        simpa using fun e => nmLt_ne (h1 y hy) e.symm
      have e1 : delG SFile.name x.name (x :: l) = l := by
        have : delG SFile.name x.name (x :: l) = delG SFile.name x.name l := by unfold delG; rw [List.filter_cons_of_neg (by simp)]
        rw [this, delG_none hn]
      have e2 : szG x.name (x :: l) = x.data.size := by unfold szG getG; rw [List.find?_cons_of_pos (by simp)]
      rw [e1, e2, totF_cons]; omega
    · have e1 : delG SFile.name nm (x :: l) = x :: delG SFile.name nm l := by unfold delG; rw [List.filter_cons_of_pos (by simpa using hx)]
      have e2 : szG nm (x :: l) = szG nm l := by unfold szG getG; rw [List.find?_cons_of_neg (by simpa using hx)]
      rw [e1, e2, totF_cons, totF_cons]; omega
theorem totF_put (f : SFile) (l : List SFile) : totF (putG SFile.name f l) = totF (delG SFile.name f.name l) + f.data.size := by
  unfold putG
  rw [totF_perm (insG_perm f _), totF_cons]; omega
theorem put_mem {f x : SFile} {l : List SFile} (h : x ∈ putG SFile.name f l) : x = f ∨ x ∈ l := by
  rcases insG_mem.1 h with rfl | h
  · exact .inl rfl
  · exact .inr (delG_mem.1 h).1
theorem put_len (f : SFile) (l : List SFile) : (putG SFile.name f l).length ≤ l.length + 1 := by
  unfold putG
  rw [insG_len]
  have : (delG SFile.name f.name l).length ≤ l.length := List.length_filter_le _ _
  omega
theorem del_len (nm : ByteArray) (l : List SFile) : (delG SFile.name nm l).length ≤ l.length := List.length_filter_le _ _
/-- what an act leaves: fits, no more calls that fail, at most one file more -/
def Left (most : Int) (bad : Nat) (l : List SFile) (x : Int × Nat × List SFile) : Prop := Fit most x.2.2 ∧ x.2.1 ≤ bad ∧ x.2.2.length ≤ l.length + 1

section
variable {most : Int} {l : List SFile}
theorem Fit.same (h : Fit most l) (c : Int) {bad b' : Nat} (hb : b' ≤ bad) : Left most bad l (c, b', l) := ⟨h, hb, Nat.le_succ _⟩
theorem Fit.put (h : Fit most l) {f : SFile} (ht : (totF (delG SFile.name f.name l) : Int) + f.data.size ≤ most) (hs : f.sure ≤ f.data.size) (hn : namedP f.name = true) : Fit most (putG SFile.name f l) :=
  ⟨by rw [totF_put]; omega, fun x hx => by
    rcases put_mem hx with rfl | hx
    · exact ⟨hs, hn⟩
    · exact h.each x hx⟩
theorem Fit.del (h : Fit most l) (hr : Rise SFile.name l) (nm : ByteArray) : Fit most (delG SFile.name nm l) :=
  ⟨by have := totF_del nm hr; have := h.fit; omega, fun x hx => h.each x (delG_mem.1 hx).1⟩
theorem Fit.sync (h : Fit most l) (hr : Rise SFile.name l) (bad : Nat) (nm : ByteArray) : Left most bad l (syncP bad l nm) := by
  unfold syncP
  by_cases h0 : (beginC bad nm).1 ≠ 0
  · rw [if_pos h0]; exact h.same _ (begin_bad _ _)
  · rw [if_neg h0]
    have hd := totF_del nm hr
    unfold szG at hd
    cases hg : getG SFile.name nm l with
    | none => exact h.same _ (begin_bad _ _)
    | some f =>
      rw [hg] at hd
      simp only at hd
      have hf := h.fit
      exact ⟨h.put (by simp only; omega) (by simp) (begin_named (by simpa using h0)), begin_bad _ _, put_len _ _⟩
theorem Fit.remove (h : Fit most l) (hr : Rise SFile.name l) (bad : Nat) (nm : ByteArray) : Left most bad l (removeP bad l nm) := by
  unfold removeP
  by_cases h0 : (beginC bad nm).1 ≠ 0
  · rw [if_pos h0]; exact h.same _ (begin_bad _ _)
  · rw [if_neg h0]
    cases hg : getG SFile.name nm l with
    | none => exact h.same _ (begin_bad _ _)
    | some f => exact ⟨h.del hr nm, begin_bad _ _, Nat.le_succ_of_le (del_len _ _)⟩
theorem Fit.rename (h : Fit most l) (hr : Rise SFile.name l) (bad : Nat) (nm nt : ByteArray) : Left most bad l (renameP bad l nm nt) := by
  unfold renameP
  by_cases h0 : (beginC bad nm).1 ≠ 0
  · rw [if_pos h0]; exact h.same _ (begin_bad _ _)
  · rw [if_neg h0]
    by_cases h1 : namedP nt = false
    · rw [if_pos h1]; exact h.same _ (begin_bad _ _)
    · rw [if_neg h1]
      have hd := totF_del nm hr
      unfold szG at hd
      cases hg : getG SFile.name nm l with
      | none => exact h.same _ (begin_bad _ _)
      | some f =>
        rw [hg] at hd
        simp only at hd
        have hf := h.fit
        have hd2 := totF_del nt (delG_rise hr nm)
        have hfm := (getG_some hg).1
        exact ⟨(h.del hr nm).put (by simp only; omega) (h.each f hfm).1 (by simpa using h1), begin_bad _ _, by
          have h3 := put_len ⟨nt, f.data, f.sure⟩ (delG SFile.name nm l)
          have h4 := del_len nm l
          simp only; omega⟩
theorem Fit.append (h : Fit most l) (hr : Rise SFile.name l) (bad : Nat) (nm b : ByteArray) : Left most bad l (appendP most bad l nm b) := by
  unfold appendP
  by_cases h0 : (beginC bad nm).1 ≠ 0
  · rw [if_pos h0]; exact h.same _ (begin_bad _ _)
  · rw [if_neg h0]
    by_cases h1 : most < (totF l : Int) + b.size
    · rw [if_pos h1]; exact h.same _ (begin_bad _ _)
    · rw [if_neg h1]
      have hd := totF_del nm hr
      unfold szG at hd
      cases hg : getG SFile.name nm l with
      | none =>
        rw [hg] at hd
        simp only at hd
        exact ⟨h.put (by simp only; omega) (by simp) (begin_named (by simpa using h0)), begin_bad _ _, put_len _ _⟩
      | some f =>
        rw [hg] at hd
        simp only at hd
        have hsz : (f.data ++ b).size = f.data.size + b.size := ByteArray.size_append
        have hfm := (h.each f (getG_some hg).1).1
        exact ⟨h.put (by simp only; omega) (by simp only; omega) (begin_named (by simpa using h0)), begin_bad _ _, put_len _ _⟩
theorem crashF_size (keep : List Int) (j : Nat) {f : SFile} (h : f.sure ≤ f.data.size) : f.sure + moreC keep j f ≤ f.data.size := by
  unfold moreC
  cases keep[j]? with
  | none => simpa using h
  | some k => simp only; omega
theorem crashF_data (keep : List Int) (j : Nat) {f : SFile} (h : f.sure ≤ f.data.size) : (crashF keep j f).data.size = (crashF keep j f).sure ∧ f.sure ≤ (crashF keep j f).sure ∧ (crashF keep j f).sure ≤ f.data.size := by
  have := crashF_size keep j h
  unfold crashF
  simp only [ByteArray.size_extract]
  omega
theorem totF_idx : ∀ (l : List SFile) (g : Nat → SFile → SFile), (∀ i, ∀ f ∈ l, (g i f).data.size ≤ f.data.size) → totF (l.mapIdx g) ≤ totF l
  | [], _, _ => by simp
  | f :: l, g, h => by
    rw [List.mapIdx_cons, totF_cons, totF_cons]
    have h1 := h 0 f List.mem_cons_self
    have h2 := totF_idx l (fun i => g (i + 1)) fun i x hx => h (i + 1) x (List.mem_cons_of_mem _ hx)
    omega
theorem Fit.crash (h : Fit most l) (keep : List Int) : Fit most (crashP keep l) := by
  refine ⟨?_, fun x hx => ?_⟩
  · have := totF_idx l (crashF keep) fun i f hf => by have := crashF_data keep i (h.each f hf).1; omega
    have := h.fit
    unfold crashP; omega
  · obtain ⟨i, hi, rfl⟩ := List.getElem_of_mem hx
    have hi2 : i < l.length := by simpa [crashP] using hi
    have he : (crashP keep l)[i] = crashF keep i l[i] := List.getElem_mapIdx
    rw [he]
    have := h.each l[i] (List.getElem_mem hi2)
    exact ⟨by have := crashF_data keep i this.1; omega, this.2⟩
theorem crash_len (keep : List Int) (l : List SFile) : (crashP keep l).length = l.length := by unfold crashP; rw [List.length_mapIdx]

/-- an act of law11's, plainly -/
structure Op11 where
  kind : Nat
  a : ByteArray
  b : ByteArray
  s : ByteArray
  n : Int
  ka : Option Addr
  kn : Nat
  kc : Nat
  keep : List Int
end
end Go.Proofs.YtkmpdobojgiegaaGreatDoor

/-
  store: New, and a copy.
-/
namespace Go.Proofs.YtkmpdobojgiegaaGreatDoor
open Go.RowKit Go.Maps

section
variable {w w' : World} {F S : Nat → Prop} {s M bad : Nat} {most : Int} {L : List SRep}
/-- a store without files -/
theorem StoreAt.empty (w : World) (most : Int) (bad : Nat) : StoreAt ((w.alloc (.map #[] 0)).alloc (.cells #[.map (some w.heap.size), .int .i64 most, .int .i64 bad] 103)) (fun i => w.heap.size ≤ i) (w.heap.size + 1) most bad w.heap.size [] := by
  refine ⟨?_, ?_, by simp, Nat.le_refl _, fun r hr => (by cases hr), List.Pairwise.nil, List.Pairwise.nil⟩
  · have := Blk.new (w.alloc (.map #[] 0)) 103 #[.map (some w.heap.size), .int .i64 most, .int .i64 bad]
    rwa [show (w.alloc (.map #[] 0)).heap.size = w.heap.size + 1 by simp] at this
  · exact (World.ownsMap_made w Tryz.prog 9 ptrR).alloc _
set_option maxRecDepth 100000 in
theorem snew_any (w : World) (most : Int) : Calls Tryz.prog 8 #[.int .i64 most] w fun e w' =>
    ((1 ≤ most ∧ most ≤ 16777216 ∧ ∃ s M, e = .returned (.tuple #[.pointer (some ⟨s, 0, none⟩), .nilIface]) ∧ StoreAt w' (fun i => w.heap.size ≤ i) s most 0 M []) ∨
     (¬ (1 ≤ most ∧ most ≤ 16777216) ∧ ∃ v, e = .returned (.tuple #[.pointer none, v]) ∧ ErrV w' 2 v)) ∧ Keeps (fun _ => False) w w' := by
  by_cases h : 1 ≤ most ∧ most ≤ 16777216
  · obtain ⟨h1, h2⟩ := h
    have hmm := @run_makeMap Tryz.prog
    have hs := Lib.hid (StoreAt.empty w most 0)
    go_enter Tryz.func8, Tryz.ntmps8
    go_wp2_with fail
    go_ret2
    exact ⟨.inl ⟨h1, h2, _, _, rfl, hs.out⟩, ((Keeps.refl _ _).alloc _).alloc _⟩
  · have hn := Lib.hid h
    have hh : most < 1 ∨ 16777216 < most := by omega
    clear h
    rcases hh with hh | hh
    all_goals
      go_enter Tryz.func8, Tryz.ntmps8
      go_wp2_with fail
      refine (new_err _ 2 _ (by decide)).mono ?_
      rintro e w2 ⟨⟨a, rfl, hch⟩, k2⟩
      have HCH := Lib.hid hch
      have HK2 := Lib.hid k2
      clear hch k2
      go_wp2_with fail
      go_ret2
      exact ⟨.inr ⟨hn.out, _, rfl, .inr ⟨by decide, _, HCH.out⟩⟩, HK2.out⟩

end
end Go.Proofs.YtkmpdobojgiegaaGreatDoor

/-
  store: a copy is a store by itself.
-/
namespace Go.Proofs.YtkmpdobojgiegaaGreatDoor
open Go.RowKit Go.Maps

section
variable {w w' : World} {F S : Nat → Prop} {s M bad : Nat} {most : Int} {L : List SRep}
theorem StoreAt.below_ (h : StoreAt w F s most bad M L) : StoreAt w (fun i => F i ∧ i < w.heap.size) s most bad M L := h.shrink.mono fun _ hi => ⟨hi.1, hi.2.lt⟩
end
end Go.Proofs.YtkmpdobojgiegaaGreatDoor

/-
  store: on a store that nobody made.
-/
namespace Go.Proofs.YtkmpdobojgiegaaGreatDoor
open Go.RowKit Go.Maps

set_option maxRecDepth 100000 in
theorem append_nil (w : World) (nm b : ByteArray) : Calls Tryz.prog 198 #[.pointer none, .string nm, .string b] w fun e w' => (∃ v, e = .returned v ∧ ErrV w' 14 v) ∧ Keeps (fun _ => False) w w' := by
  have HB := Lib.hid (begin_nil w nm)
  go_enter Tryz.func198, Tryz.ntmps198
  go_wp2_with fail
  refine HB.out.mono ?_
  rintro e w1 ⟨⟨v, rfl, hev⟩, k1⟩
  obtain ⟨ty, x, rfl⟩ := hev.iface (by decide)
  have HE := Lib.hid hev
  have HK := Lib.hid k1
  clear hev k1
  go_wp2_with fail
  go_ret
  exact ⟨⟨_, rfl, HE.out⟩, HK.out⟩
end Go.Proofs.YtkmpdobojgiegaaGreatDoor

/-
  The document's files: rows of three cells; append of a part of another row.
-/
namespace Go.Proofs.YtkmpdobojgiegaaGreatDoor
open Go.RowKit Go.Maps

def docR (f : SFile) : List Value := [.string f.name, .string f.data, .int .i64 (f.sure : Nat)]
theorem docR_len (f : SFile) : (docR f).length = 3 := rfl
end Go.Proofs.YtkmpdobojgiegaaGreatDoor

/-
  The document's store (wheelhouseref11): place, Total, without.
-/
namespace Go.Proofs.YtkmpdobojgiegaaGreatDoor
open Go.RowKit Go.Maps

/-- the document's store, as a value -/
def docS (v : Value) (most bad : Int) : Value := .agg #[v, .int .i64 most, .int .i64 bad]
def docO (v : Value) (most bad : Int) : Obj := .cells #[v, .int .i64 most, .int .i64 bad] 43
def docF (f : SFile) : Value := .agg #[.string f.name, .string f.data, .int .i64 (f.sure : Nat)]
/-- a row that reads as these files -/
def DocL (w : World) (v : Value) (l : List SFile) : Prop := OwnS docR 3 w 0 118 v l

theorem getG_at {nm : ByteArray} : ∀ {l : List SFile} {i : Nat} {f : SFile}, (∀ j, j < i → ∀ x, l[j]? = some x → x.name ≠ nm) → l[i]? = some f → f.name = nm → getG SFile.name nm l = some f
  | [], _, _, _, h, _ => by simp at h
  | x :: l, 0, f, _, h, hn => by
    simp at h
    subst h
    simp [getG, hn]
  | x :: l, i + 1, f, hj, h, hn => by
    have hx := hj 0 (by omega) x rfl
    have := getG_at (l := l) (i := i) (fun j h x hx => hj (j + 1) (by omega) x (by simpa using hx)) (by simpa using h) hn
    simpa [getG, List.find?_cons, hx] using this
theorem getG_no {nm : ByteArray} {l : List SFile} (h : ∀ j, j < l.length → ∀ x, l[j]? = some x → x.name ≠ nm) : getG SFile.name nm l = none := by
  unfold getG
  rw [List.find?_eq_none]
  intro x hx
  obtain ⟨j, hj, rfl⟩ := List.mem_iff_getElem.1 hx
  simpa using h j hj _ (List.getElem?_eq_getElem hj)
theorem nm_eq {a b : ByteArray} (h : a = b) : (a.toList == b.toList) = true := by subst h; exact beq_self_eq_true _
theorem nm_ne {a b : ByteArray} (h : a ≠ b) : (a.toList == b.toList) = false := by
  rw [beq_eq_false_iff_ne]
  intro e
  rw [ByteArray.toList_eq, ByteArray.toList_eq] at e
  exact h (ba_ext e)
theorem DocL.keeps {w w' : World} {v : Value} {l : List SFile} (h : DocL w v l) (k : Keeps (fun _ => False) w w') : DocL w' v l := OwnS.keeps h k (fun _ _ _ _ => id)
theorem DocL.cells {w : World} {v : Value} {l : List SFile} (h : DocL w v l) : ∃ a c, v = .slice a l.length c ∧ ∀ i f, l[i]? = some f → ∃ g, a = some ⟨g, 0, none⟩ ∧ g < w.heap.size ∧ ∀ w', Keeps (fun _ => False) w w' → w'.cell? ⟨g, i * 3, none⟩ = some (.string f.name) ∧ w'.cell? ⟨g, i * 3 + 1, none⟩ = some (.string f.data) ∧ w'.cell? ⟨g, i * 3 + 2, none⟩ = some (.int .i64 (f.sure : Nat)) := by
  obtain ⟨a, c, hv, -, -, hne, hc⟩ := OwnS.shape h docR_len
  refine ⟨a, c, hv, fun i f hf => ?_⟩
  obtain ⟨g, rfl, -, hlt, -⟩ := hne (by have := (List.getElem?_eq_some_iff.1 hf).1; omega)
  exact ⟨g, rfl, hlt, fun w' k => ⟨(World.cell?_of_block (w := w) (k.block g hlt id)).trans (hc g rfl i f 0 _ hf rfl).1, (World.cell?_of_block (w := w) (k.block g hlt id)).trans (hc g rfl i f 1 _ hf rfl).1, (World.cell?_of_block (w := w) (k.block g hlt id)).trans (hc g rfl i f 2 _ hf rfl).1⟩⟩

set_option maxRecDepth 100000 in
set_option maxHeartbeats 1000000 in
theorem rplace_any (w : World) (v : Value) (most bad : Int) (l : List SFile) (nm : ByteArray) (h : DocL w v l) (hl : l.length ≤ 4294967296) :
    Calls Tryz.prog 122 #[docS v most bad, .string nm] w fun e w' => (∃ p : Int, e = .returned (.int .i64 p) ∧ ((p = -1 ∧ getG SFile.name nm l = none) ∨ ∃ (i : Nat) (f : SFile), p = i ∧ i < l.length ∧ l[i]? = some f ∧ getG SFile.name nm l = some f)) ∧ w' = w.alloc (docO v most bad) := by
  obtain ⟨a, c, rfl, hc⟩ := h.cells
  have HC := Lib.hid hc
  clear hc h
  unfold docS docO
  go_enter Tryz.func122, Tryz.ntmps122
  go_wp2_with fail
  go_loopw [5] (fun u5 wr => wr = w.alloc (.cells #[.slice a l.length c, .int .i64 most, .int .i64 bad] 43) ∧ ∃ i : Nat, u5 = .int .i64 i ∧ i ≤ l.length ∧ Hid (∀ j, j < i → ∀ x, l[j]? = some x → x.name ≠ nm)) (fun u5 _ => l.length - (intOf u5).toNat)
  case atStart => exact ⟨rfl, 0, rfl, Nat.zero_le _, Lib.hid fun j h => by omega⟩
  case round =>
    obtain ⟨rfl, i, rfl, hi, HI⟩ := hrel
    by_cases hlt : i < l.length
    · obtain ⟨f, hf⟩ : ∃ f, l[i]? = some f := ⟨_, List.getElem?_eq_getElem hlt⟩
      obtain ⟨g, rfl, hg, hcc⟩ := HC.out i f hf
      obtain ⟨c0, c1, c2⟩ := hcc _ ((Keeps.refl _ _).alloc (.cells #[.slice (some ⟨g, 0, none⟩) l.length c, .int .i64 most, .int .i64 bad] 43))
      have HF := Lib.hid hf
      clear hf hcc
      by_cases hn : f.name = nm
      · have HN := Lib.hid hn
        have he := nm_eq hn
        clear hn
        go_wp2_with fail
        go_ret
        exact ⟨⟨_, rfl, .inr ⟨i, f, rfl, hlt, HF.out, getG_at HI.out HF.out HN.out⟩⟩, rfl⟩
      · have HN := Lib.hid hn
        have he := nm_ne hn
        clear hn
        go_wp2_with fail
        go_roundw
        case rel => exact ⟨trivial, i + 1, by go_num, by omega, Lib.hid fun j hj x hx => by
          by_cases e : j = i
          · subst e
            have : f = x := Option.some.inj (HF.out.symm.trans hx)
            exact this ▸ HN.out
          · exact HI.out j (by omega) x hx⟩
        case measure => simp [intOf]; omega
    · obtain rfl : i = l.length := by omega
      go_wp2_with fail
      go_ret
      exact ⟨⟨_, rfl, .inl ⟨rfl, getG_no HI.out⟩⟩, rfl⟩

end Go.Proofs.YtkmpdobojgiegaaGreatDoor

/-
  The document's store (wheelhouseref11): with, Get, begin.
-/
namespace Go.Proofs.YtkmpdobojgiegaaGreatDoor
set_option linter.unusedSimpArgs false
open Go.RowKit Go.Maps

theorem DocL.form {w : World} {v : Value} {D : List SFile} (h : DocL w v D) : (v = .slice none 0 0 ∧ D = []) ∨ ∃ g c, v = .slice (some ⟨g, 0, none⟩) D.length c ∧ D.length ≤ c ∧ c ≤ maxLen := by
  rcases h.2 with ⟨h1, h2⟩ | ⟨g, cap, cur, h0, hg, hh, h1, h2, h3, h4⟩
  · exact .inl ⟨h1, List.eq_nil_of_length_eq_zero h2⟩
  · exact .inr ⟨g, cap, h0, h1, h2⟩
theorem DocL.drop {w : World} {g n c : Nat} {D : List SFile} (h : DocL w (.slice (some ⟨g, 0, none⟩) n c) D) {k : Nat} (hk : k < D.length) (c' : Nat) : SrcS docR 3 w (.slice (some ⟨g, k * 3, none⟩) (D.length - k) c') (D.drop k) := by
  obtain ⟨ad, ha, hs⟩ := OwnS.srcDrop h docR_len hk c'
  injection ha with ha
  subst ha
  have e0 : (⟨g, 0, none⟩ : Addr).add (k * 3) = ⟨g, k * 3, none⟩ := by by_cases h0 : k * 3 = 0 <;> simp [Addr.add, h0]
  rwa [e0] at hs

end Go.Proofs.YtkmpdobojgiegaaGreatDoor

/-
  The document's store (wheelhouseref11): Get, begin, Sync, Append, Rename, Remove.
-/
namespace Go.Proofs.YtkmpdobojgiegaaGreatDoor
open Go.RowKit Go.Maps
set_option linter.unusedSimpArgs false

def zeroFile : SFile := ⟨⟨#[]⟩, ⟨#[]⟩, 0⟩
set_option maxRecDepth 100000 in
set_option maxHeartbeats 1000000 in
theorem rget_any (w : World) (v : Value) (most bad : Int) (l : List SFile) (nm : ByteArray) (h : DocL w v l) (hl : l.length ≤ 4294967296) :
    Calls Tryz.prog 52 #[docS v most bad, .string nm] w fun e w' => (∃ f ok, e = .returned (.tuple #[docF f, .bool ok]) ∧ ((ok = true ∧ getG SFile.name nm l = some f) ∨ (ok = false ∧ f = zeroFile ∧ getG SFile.name nm l = none))) ∧ Keeps (fun _ => False) w w' := by
  have hp : ∀ W, Keeps (fun _ => False) w W → _ := fun W kW => rplace_any W v most bad l nm (h.keeps kW) hl
  obtain ⟨a, c, rfl, hc⟩ := h.cells
  have HC := Lib.hid hc
  have HP := Lib.hid hp
  clear hc h hp
  unfold docS docF zeroFile at *
  go_enter Tryz.func52, Tryz.ntmps52
  go_wp2_with fail
  refine (HP.out _ (by (repeat (first | (with_reducible assumption) | (with_reducible exact Keeps.refl _ _) | refine Keeps.drew ?_ | refine Keeps.drewN ?_ _ | refine Keeps.setCell ?_ (by simp) _ | refine Keeps.setRow ?_ (by simp) _ | refine Keeps.alloc ?_ _)))).mono ?_
  rintro e w2 ⟨⟨p, rfl, hpp⟩, hw2⟩
  have k2 : Keeps (fun _ => False) w w2 := by rw [hw2]; (repeat (first | (with_reducible assumption) | (with_reducible exact Keeps.refl _ _) | refine Keeps.drew ?_ | refine Keeps.drewN ?_ _ | refine Keeps.setCell ?_ (by simp) _ | refine Keeps.setRow ?_ (by simp) _ | refine Keeps.alloc ?_ _))
  have bx : Blk w2 w.heap.size 43 #[.slice a l.length c, .int .i64 most, .int .i64 bad] := by rw [hw2]; exact ((Blk.new w _ _).alloc _).alloc _
  have bz : Blk w2 (w.heap.size + 1) 118 #[.string ⟨#[]⟩, .string ⟨#[]⟩, .int .i64 0] := by rw [hw2]; have := (Blk.new (w.alloc (.cells #[.slice a l.length c, .int .i64 most, .int .i64 bad] 43)) 118 #[.string ⟨#[]⟩, .string ⟨#[]⟩, .int .i64 0]).alloc (docO (.slice a l.length c) most bad); simpa using this
  have HK2 := Lib.hid k2
  have HBZ := Lib.hid bz
  obtain ⟨x0, x1, x2⟩ := bx.cells3
  obtain ⟨z0, z1, z2⟩ := bz.all3
  clear hw2 k2 bx bz
  rcases hpp with ⟨rfl, hg⟩ | ⟨i, f, rfl, hi, hf, hg⟩
  · have HG := Lib.hid hg
    clear hg
    go_wp2_with fail
    try simp only [Exit.inBlock, Exit.then]
    refine ret_cell_tmp rfl (w.heap.size + 1) 118 _ _ rfl (((HBZ.out.set_ 0 _).set_ 1 _).set_ 2 _) Tryz.underlying118 rfl (by kernel_rfl) rfl ?_
    exact ⟨⟨⟨⟨#[]⟩, ⟨#[]⟩, 0⟩, false, rfl, .inr ⟨rfl, rfl, HG.out⟩⟩, ((HK2.out.setNew (by omega) _).setNew (by omega) _).setNew (by omega) _⟩
  · obtain ⟨g, rfl, hgl, hcc⟩ := HC.out i f hf
    have HG := Lib.hid hg
    obtain ⟨c0, c1, c2⟩ := hcc _ HK2.out
    clear hg hcc hf
    go_wp2_with fail
    try simp only [Exit.inBlock, Exit.then]
    refine ret_cell_tmp rfl (w.heap.size + 1) 118 _ _ rfl (((HBZ.out.set_ 0 _).set_ 1 _).set_ 2 _) Tryz.underlying118 rfl (by kernel_rfl) rfl ?_
    exact ⟨⟨f, true, rfl, .inl ⟨rfl, HG.out⟩⟩, ((HK2.out.setNew (by omega) _).setNew (by omega) _).setNew (by omega) _⟩

end Go.Proofs.YtkmpdobojgiegaaGreatDoor

/-
  wheelhouseref10.Same: whether two lists of texts are one; lists of texts that lie in a new block, or in a slice of the own.
-/
namespace Go.Proofs.YtkmpdobojgiegaaGreatDoor
open Go.RowKit

theorem take_snoc10 {l : List ByteArray} {i : Nat} {s : ByteArray} (h : l[i]? = some s) : l.take (i + 1) = l.take i ++ [s] := by rw [List.take_add_one, h]; rfl
theorem slat_at {w : World} {a : Option Addr} {n : Nat} {l : List ByteArray} (h : SlAt strR 1 w a n l) {i : Nat} {s : ByteArray} (hs : l[i]? = some s) : ∃ b off, a = some ⟨b, off, none⟩ ∧ w.cell? ⟨b, off + i, none⟩ = some (.string s) := by
  have hi : i < l.length := (List.getElem?_eq_some_iff.1 hs).1
  obtain ⟨b, off, ha, _, hc⟩ := h.2 (by rw [← h.1]; omega)
  exact ⟨b, off, ha, SlAt.str hc i s hs⟩
theorem slat_own {w : World} {B : Nat} {e : TypeId} {a : Option Addr} {n c : Nat} {l : List ByteArray} (h : OwnL w B e (.slice a n c) (l.map Value.string)) : n = l.length ∧ SlAt strR 1 w a l.length l := by
  obtain ⟨a1, c1, hv, _, _, h1, h2⟩ := h.shape
  injection hv with e1 e2 e3
  subst e1
  rw [List.length_map] at e2 h1
  refine ⟨e2, rfl, fun hn => ?_⟩
  obtain ⟨g, ha, _, hlt⟩ := h1 hn
  refine ⟨g, 0, ha, hlt, fun i x j v hx hv => ?_⟩
  match j, hv with
  | 0, hv =>
    simp [strR] at hv
    subst hv
    have := (h2 g ha i (.string x) (by rw [List.getElem?_map, hx]; rfl)).1
    simpa using this
  | j + 1, hv => simp [strR] at hv
end Go.Proofs.YtkmpdobojgiegaaGreatDoor

/-
  An append of many elements out of another own slice. No program in sight.
-/
namespace Go.Proofs.YtkmpdobojgiegaaGreatDoor
open Go.RowKit

section
variable {P : Program} {α : Type}
/-- append of many elements, which lie in a slice of their own -/
theorem wpList_append_many (R : α → List Value) (size : Nat) (hR : ∀ x, (R x).length = size) (hsz : 0 < size) (h1 : ∀ x, ∀ u ∈ R x, u.oneCell' = true) {w : World} {ops : Array Oper} {rest : List Oper} {o : Oper} {a : Act} {Q : Exit → Act → World → Prop} (hgd : o.guard = none) (s x : Operand) (t : TypeId)
    (ho : o.op = .call { callee := .builtin .append, args := #[s, x], argTypes := #[t, t] }) (B B2 : Nat) (e : TypeId) (z : Value) (bytes : Nat) (ht : P.underlying t = some (.slice e))
    (hi : (P.info? e).map (fun i => (i.zero, i.size, i.bytes)) = some (some z, size, bytes)) (hz : z.cells.size = size) (hb16 : bytes ≤ 4096)
    (v v2 : Value) (xs ys : List α) (hs : a.eval s = v) (hown : OwnS R size w B e v xs) (hx : a.eval x = v2) (hown2 : OwnS R size w B2 e v2 ys)
    (hlen : xs.length + ys.length ≤ 17179869184) (hbase : B ≤ w.heap.size)
    (h : ∀ v' w', OwnS R size w' B e v' (xs ++ ys) → Keeps (fun i => B ≤ i ∧ ∃ cs, Blk w i e cs) w w' → wpList P ops Q rest (a.put o.dst v') w') : wpList P ops Q (o :: rest) a w := by
  refine wpList_plain hgd fun K hK => ?_
  obtain ⟨i, hi0, hzi, hsi, hbi⟩ := info_parts hi
  obtain ⟨a2, c2, hv2, hle2, -, hne2, hcl2⟩ := hown2.shape hR
  subst hv2
  have hrun : ∃ v' w', (Builtin.append_ #[t, t] o.type #[v, .slice a2 ys.length c2]).run P w = .ok v' w' ∧ OwnS R size w' B e v' (xs ++ ys) ∧ Keeps (fun i => B ≤ i ∧ ∃ cs, Blk w i e cs) w w' := by
    cases ys with
    | nil =>
      obtain ⟨a1, c1, rfl, hle1, -, -, -⟩ := hown.shape hR
      refine ⟨.slice a1 xs.length c1, w, ?_, by simpa using hown, Keeps.refl _ _⟩
      cases a2 with
      | none => exact run_append_nothing w t t o.type e i ht hi0 a1 xs.length c1 hle1 _ (Src.ofNil w ht c2)
      | some ad => exact run_append_nothing w t t o.type e i ht hi0 a1 xs.length c1 hle1 _ (Src.ofSlice w ht ad 0 c2 [] (by simp) (fun j u hj => by simp at hj) (fun u hu => by cases hu))
    | cons y r =>
      obtain ⟨g, rfl, -, -, -⟩ := hne2 (by simp)
      obtain ⟨v', w', hrun, h2, h3, -⟩ := run_append_own (P := P) w B t o.type e i z size bytes ht hi0 hzi hsi hbi hz hsz v xs.length _ hown ⟨g, 0, none⟩ (y :: r).length c2 ((y :: r).map R).flatten (by rw [flat_len hR]) (by
        intro j u hj
        have hjl : j < (y :: r).length * size := by rw [← flat_len hR]; exact (List.getElem?_eq_some_iff.1 hj).1
        obtain ⟨q, hq⟩ : ∃ q, q = j / size := ⟨_, rfl⟩
        have hjq : j = q * size + j % size := by rw [hq, Nat.mul_comm]; exact (Nat.div_add_mod j size).symm
        have hql : q < (y :: r).length := by rw [hq]; exact Nat.div_lt_of_lt_mul (by rw [Nat.mul_comm]; exact hjl)
        obtain ⟨x0, hx0⟩ : ∃ x0, (y :: r)[q]? = some x0 := ⟨_, List.getElem?_eq_getElem hql⟩
        have hml : j % size < (R x0).length := by rw [hR]; exact Nat.mod_lt _ hsz
        obtain ⟨u0, hu0⟩ : ∃ u0, (R x0)[j % size]? = some u0 := ⟨_, List.getElem?_eq_getElem hml⟩
        have h5 := flat_get hR (y :: r) q x0 (j % size) u0 hx0 hu0
        rw [← hjq] at h5
        rw [h5] at hj
        injection hj with hj
        subst hj
        have h6 := (hcl2 g rfl q x0 (j % size) u0 hx0 hu0).1
        rw [← hjq] at h6
        rw [Addr.add_lit, Nat.zero_add]
        exact h6) (by
        intro u hu
        obtain ⟨l, hl, hul⟩ := List.mem_flatten.1 hu
        obtain ⟨x0, _, rfl⟩ := List.mem_map.1 hl
        exact h1 x0 u hul) (by unfold maxLen; omega) (by
        have := Nat.mul_le_mul (show xs.length + (y :: r).length ≤ 17179869184 by omega) hb16
        omega) hbase
      refine ⟨v', w', hrun, ?_, (Keeps.refl _ _).grown h3 (fun k hk _ => ⟨(hown.lt k hk).1, hown.ownBlk k hk⟩)⟩
      unfold OwnS
      rw [List.map_append, List.flatten_append, List.length_append]
      exact h2
  obtain ⟨v', w', hr, h2, h3⟩ := hrun
  unfold Oper.wp
  simp only [execOp, ho, resolve, invoke, builtin, Sem.run_bind, Sem.run_pure, Result.andThen_ok, List.map_toArray, List.map_cons, List.map_nil, hs, hx, hr]
  exact hK _ _ (h v' w' h2 h3)
end
end Go.Proofs.YtkmpdobojgiegaaGreatDoor

/-
  One element deleted out of a row: the cells behind it move up, and the last ones are cleared. No function of the program in sight.
-/
namespace Go.Proofs.YtkmpdobojgiegaaGreatDoor
open Go.RowKit

theorem Keeps.setCells {S : Nat → Prop} {a : World} (g : Nat) (vs : List Value) : ∀ (o : Nat) (b : World), Keeps S a b → (g < a.heap.size → S g) → Keeps S a (b.setCells g o vs) := by
  induction vs with
  | nil => intro o b h _; exact h
  | cons v r ih => intro o b h hg; exact ih (o + 1) _ (h.setCell (p := ⟨g, o, none⟩) hg v) hg
theorem splice_set {α : Type} (L : List α) (o : Nat) (v : α) (r : List α) (h : o + (v :: r).length ≤ L.length) : splice (L.set o v) (o + 1) r = splice L o (v :: r) := by
  rw [List.length_cons] at h
  apply List.ext_getElem?
  intro j
  rw [splice_get _ _ _ (by rw [List.length_set]; omega), splice_get _ _ _ (by rw [List.length_cons]; omega), List.length_cons]
  by_cases h0 : j = o
  · subst h0
    rw [if_neg (by omega), if_pos (by omega), List.getElem?_set_self (by omega), Nat.sub_self]
    rfl
  · by_cases h1 : o + 1 ≤ j ∧ j < o + 1 + r.length
    · rw [if_pos h1, if_pos (by omega), show j - o = (j - (o + 1)) + 1 by omega, List.getElem?_cons_succ]
    · rw [if_neg h1, if_neg (by omega), List.getElem?_set_ne (by omega)]
theorem Blk.setCells {g : Nat} {t : TypeId} (vs : List Value) : ∀ (o : Nat) (w : World) (L : List Value), Blk w g t L.toArray → o + vs.length ≤ L.length → Blk (w.setCells g o vs) g t (splice L o vs).toArray := by
  induction vs with
  | nil => intro o w L h _; rw [splice_nil]; exact h
  | cons v r ih =>
    intro o w L h hl
    have h1 := h.set_ o v
    rw [List.setIfInBounds_toArray] at h1
    have := ih (o + 1) _ (L.set o v) h1 (by rw [List.length_set]; rw [List.length_cons] at hl; omega)
    rwa [splice_set L o v r hl] at this
section
variable {P : Program}
/-- one element is cleared -/
theorem run_clear_one (w : World) (t e ty : TypeId) (z : Value) (ht : P.underlying t = some (.slice e)) (hv : ∀ w, (zeroValue e).run P w = .ok z w) (h1 : ∀ v ∈ z.cells.toList, v.oneCell' = true) (_hk : 0 < z.cells.size) (b o c : Nat)
    (hc : ∀ j, j < z.cells.size → (w.cell? ⟨b, o + j, none⟩).isSome = true) (hf : ∀ j, j < z.cells.size → w.frozen? ⟨b, o + j, none⟩ = false) :
    (Builtin.clear_ #[t] ty #[.slice (some ⟨b, o, none⟩) 1 c]).run P w = .ok (.tuple #[]) (w.setCells b o z.cells.toList) := by
  have hzc : (Builtin.zeroCells z.cells 1).toList = z.cells.toList := by
    simp [Builtin.zeroCells]
    apply List.ext_getElem
    · simp
    · intro i h1 h2
      simp at h1
      simp [Nat.mod_eq_of_lt h1, getElem!_pos z.cells i h1]
  have hst := run_storeCells_cells (P := P) b o z.cells.toList 0 w (by simpa using hc) (by simpa using hf) h1
  simp only [Nat.add_zero] at hst
  simp [Builtin.clear_, run_underlying ht, hv, hzc, hst]
end
end Go.Proofs.YtkmpdobojgiegaaGreatDoor

/-
  A console's settings as cells. No program in sight.
-/
namespace Go.Proofs.YtkmpdobojgiegaaGreatDoor
open Go.RowKit

def conR (x : Con) : List Value := [.string x.name, .int .i64 x.kind, .int .i64 x.lines, .int .i64 x.bytes, .int .i64 x.gens, .int .i64 x.size, .int .i64 x.base, .int .i64 x.cap, .int .i64 x.jitter, .string x.init]
end Go.Proofs.YtkmpdobojgiegaaGreatDoor

/-
  lex.quoted and lex.Put: a piece as text.
-/
namespace Go.Proofs.YtkmpdobojgiegaaGreatDoor
open Go.RowKit

end Go.Proofs.YtkmpdobojgiegaaGreatDoor

/-
  The document's pieces (wheelhouseref12): which bytes and texts may be words; a piece as text.
-/
namespace Go.Proofs.YtkmpdobojgiegaaGreatDoor
open Go.RowKit

theorem const_cell (w : World) (T : TypeId) (c : UInt8) (n : Int) (hn : n = c.toNat) : ∀ j v, [c][j]? = some v → (w.alloc (.cells #[.int .u8 n] T)).cell? ⟨w.heap.size, 0 + j, none⟩ = some (.int .u8 v.toNat) := by
  intro j v hj
  match j, hj with
  | 0, hj =>
    simp at hj; subst hj; subst hn
    exact (Blk.new w T _).cell 0
  | j + 1, hj => simp at hj
end Go.Proofs.YtkmpdobojgiegaaGreatDoor
