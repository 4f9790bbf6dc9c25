/-
  errors.As over a chain of Faults that ends in a Kind, at the two targets: what it answers and what it sets.
-/
import Derived.Test.YtemjbblehiaobaaDoorErrB
namespace Go.Proofs.YtemjbblehiaobaaDoor
open Go.RowKit Go.Extern.Stop Go.Stop Go.Extern

/-- the target's own variable: at its block, the first cell -/
theorem ety_lt {w : World} (h : Ety w) : 0 < w.heap.size := by
  rcases Nat.lt_or_ge 0 w.heap.size with h1 | h1
  · exact h1
  · unfold Ety at h; simp [World.cell?, Array.getElem?_eq_none h1] at h
theorem Ety.keeps {S : Nat → Prop} {w w' : World} (h : Ety w) (k : Keeps S w w') (hS : ¬ S 0) : Ety w' := by
  have hb := k.block _ (ety_lt h) hS
  unfold Ety at h ⊢
  rw [← h]
  simp [World.cell?, hb]

/-- errors.as at the Kind within -/
theorem as_k_in (c old : Int) (t b0 : Nat) (l : List (Int × ByteArray)) (v : Value) (w : World) (h : Chain w l c v)
    (hb0 : Blk w b0 tPKind #[.pointer (some ⟨t, 0, none⟩)]) (ht : Blk w t tKind #[.int .i64 old]) :
    Calls Tryd.prog 30 #[v, .iface tPKind (.pointer (some ⟨t, 0, none⟩)), vOf tPKind ⟨b0, 0, none⟩ 150, rt_ tKind] w fun e w' =>
      e = .returned (.bool true) ∧ Keeps (fun i => i = t) w w' ∧ Blk w' t tKind #[.int .i64 c] := by
  have h65 := @run_callFunc_extern Tryd.prog 43 _ ReflectliteType.typeOf Tryd.func43 (by kernel_rfl) (by kernel_rfl) (by kernel_rfl) (by kernel_rfl)
  have h97 := @run_callFunc_extern Tryd.prog 87 _ (ReflectliteType.relation "AssignableTo" ReflectliteType.assignableTo) Tryd.func87 (by kernel_rfl) (by kernel_rfl) (by kernel_rfl) (by kernel_rfl)
  have h69 := @run_callFunc_extern Tryd.prog 44 _ (ReflectliteValue.method (ReflectliteValue.valueError "reflectlite.Value.Elem" 0) ReflectliteValue.elem) Tryd.func44 (by kernel_rfl) (by kernel_rfl) (by kernel_rfl) (by kernel_rfl)
  have h58 := @run_callFunc_extern Tryd.prog 27 _ (fun args => ReflectliteValue.unpack (args.getD 0 (.tuple #[]))) Tryd.func27 (by kernel_rfl) (by kernel_rfl) (by kernel_rfl) (by kernel_rfl)
  have h70 := @run_callFunc_extern Tryd.prog 45 _ ReflectliteValue.set Tryd.func45 (by kernel_rfl) (by kernel_rfl) (by kernel_rfl) (by kernel_rfl)
  have a1 := Tryd.tK
  have a2 := Tryd.tPF
  have a3 := Tryd.aKK
  have a4 := Tryd.aFK
  have a5 := Tryd.mAssign
  have a6 := Tryd.vK
  have b1 := Tryd.noAsF
  have b3 := Tryd.unF
  have b6 := Tryd.mUnwrap
  go_enter Tryd.func30, Tryd.ntmps30
  go_wp2
  go_loopg [0] l.length (fun k u wx => w.alloc (.cells #[.pointer (some ⟨2, 53, none⟩), .pointer (some ⟨b0, 0, none⟩), .int .u64 150] 73) = wx ∧ ∃ l, k = l.length ∧ Chain w l c u)
  case atStart => exact ⟨rfl, l, rfl, h⟩
  case round =>
    obtain ⟨rfl, l, rfl, hc⟩ := hrel
    cases hc with
    | kind =>
      have el := Tryd.elPK ⟨b0, 0, none⟩ ⟨t, 0, none⟩ (w.alloc (.cells #[.pointer (some ⟨2, 53, none⟩), .pointer (some ⟨b0, 0, none⟩), .int .u64 150] 73)) ((hb0.alloc _).cell 0)
      have st := Tryd.setK ⟨t, 0, none⟩ ⟨w.heap.size + 1, 0, none⟩ c (.int .i64 old) ((w.alloc (.cells #[.pointer (some ⟨2, 53, none⟩), .pointer (some ⟨b0, 0, none⟩), .int .u64 150] 73)).alloc (.cells #[.int .i64 c] 51))
        (by simp)
        (((ht.alloc _).alloc _).cell 0) (((ht.alloc _).alloc _).frozen 0)
      go_wp2
      go_ret
      refine ⟨rfl, ?_, ?_⟩
      · exact (((Keeps.refl (fun i => i = t) w).alloc _).alloc _).setCell (fun _ => rfl) _
      · simpa using ((ht.alloc _).alloc _).set_ 0 (.int .i64 c)
    | layer a n s v l _ hb hc =>
      have hu := unwrap_ok a n s v _ (hb.alloc (.cells #[.pointer (some ⟨2, 53, none⟩), .pointer (some ⟨b0, 0, none⟩), .int .u64 150] 73))
      have hv := Lib.hid (⟨l, rfl, hc⟩ : ∃ l', l.length = l'.length ∧ Chain _ l' c v)
      cases hc with
      | kind =>
        go_wp2_with (go_at_call 80; refine hu.mono ?_; rintro _ _ ⟨rfl, rfl⟩)
        go_roundg 0
        case measure => simp
        case rel => exact ⟨rfl, hv⟩
      | layer b m q u l' =>
        go_wp2_with (go_at_call 80; refine hu.mono ?_; rintro _ _ ⟨rfl, rfl⟩)
        go_roundg (l'.length + 1)
        case measure => simp
        case rel => exact ⟨rfl, hv⟩

set_option maxHeartbeats 1000000 in
/-- errors.As at a target of the Kinds: it is found, whatever is around it -/
theorem as_kind (c old : Int) (t : Nat) (l : List (Int × ByteArray)) (v : Value) (w : World) (h : Chain w l c v) (hg : Ety w)
    (ht : Blk w t tKind #[.int .i64 old]) :
    Calls Tryd.prog 16 #[v, .iface tPKind (.pointer (some ⟨t, 0, none⟩))] w fun e w' =>
      e = .returned (.bool true) ∧ Keeps (fun i => i = t) w w' ∧ Blk w' t tKind #[.int .i64 c] := by
  have h58 := @run_callFunc_extern Tryd.prog 27 _ (fun args => ReflectliteValue.unpack (args.getD 0 (.tuple #[]))) Tryd.func27 (by kernel_rfl) (by kernel_rfl) (by kernel_rfl) (by kernel_rfl)
  have h59 := @run_callFunc_extern Tryd.prog 28 _ (ReflectliteValue.methodAny (ReflectliteValue.valueError "reflectlite.Value.Type" 0) (fun t _ _ _ => ReflectliteType.toType t)) Tryd.func28 (by kernel_rfl) (by kernel_rfl) (by kernel_rfl) (by kernel_rfl)
  have h60 := @run_callFunc_extern Tryd.prog 29 _ (ReflectliteValue.method (ReflectliteValue.valueError "reflectlite.Value.IsNil" 0) ReflectliteValue.isNil) Tryd.func29 (by kernel_rfl) (by kernel_rfl) (by kernel_rfl) (by kernel_rfl)
  have h89 := @run_callFunc_extern Tryd.prog 76 _ (ReflectliteType.abiMethod fun t => do pure (.int .u8 (← Rtype.kind t))) Tryd.func76 (by kernel_rfl) (by kernel_rfl) (by kernel_rfl) (by kernel_rfl)
  have h99 := @run_callFunc_extern Tryd.prog 89 _ (ReflectliteType.method ReflectliteType.elem) Tryd.func89 (by kernel_rfl) (by kernel_rfl) (by kernel_rfl) (by kernel_rfl)
  have h100 := @run_callFunc_extern Tryd.prog 90 _ (ReflectliteType.relation "Implements" ReflectliteType.implements_) Tryd.func90 (by kernel_rfl) (by kernel_rfl) (by kernel_rfl) (by kernel_rfl)
  have a1 := Tryd.vPK
  have a2 := Tryd.tyPK
  have a3 := Tryd.mKind
  have a4 := Tryd.kPK
  have a5 := Tryd.mElem
  have a6 := Tryd.ePK
  have a7 := Tryd.kK
  have a8 := Tryd.mImpl
  have a9 := Tryd.iK
  have n60 := Tryd.isNilPK ⟨w.heap.size, 0, none⟩ ⟨t, 0, none⟩ ((w.alloc (.cells #[.pointer (some ⟨t, 0, none⟩)] 53)).alloc (.cells #[.pointer (some ⟨2, 53, none⟩), .pointer (some ⟨w.heap.size, 0, none⟩), .int .u64 150] 73))
    (((Blk.new w 53 #[.pointer (some ⟨t, 0, none⟩)]).alloc _).cell 0)
  have hg2 : ((w.alloc (.cells #[.pointer (some ⟨t, 0, none⟩)] 53)).alloc (.cells #[.pointer (some ⟨2, 53, none⟩), .pointer (some ⟨w.heap.size, 0, none⟩), .int .u64 150] 73)).cell? ⟨0, 0, none⟩ = some (rt_ 25) :=
    hg.keeps (((Keeps.refl (fun _ => False) w).alloc _).alloc _) id
  have hin := as_k_in c old t w.heap.size l v _ (h.keeps (((Keeps.refl (fun _ => False) w).alloc (.cells #[.pointer (some ⟨t, 0, none⟩)] 53)).alloc (.cells #[.pointer (some ⟨2, 53, none⟩), .pointer (some ⟨w.heap.size, 0, none⟩), .int .u64 150] 73)) (fun _ _ _ => id))
    ((Blk.new w 53 #[.pointer (some ⟨t, 0, none⟩)]).alloc _) ((ht.alloc _).alloc _)
  have hin := Lib.hid hin
  obtain ⟨ty, x, rfl⟩ := h.form
  clear hg h ht
  go_enter Tryd.func16, Tryd.ntmps16
  go_wp2_with (go_at_call 30; refine hin.mono ?_; rintro _ w2 ⟨rfl, hk, hb⟩)
  go_ret
  exact ⟨rfl, (((Keeps.refl _ w).alloc _).alloc _).trans hk, hb⟩
end Go.Proofs.YtemjbblehiaobaaDoor
