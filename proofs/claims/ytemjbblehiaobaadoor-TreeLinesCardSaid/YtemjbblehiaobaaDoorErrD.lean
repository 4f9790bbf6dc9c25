/-
  errors.As over a chain of Faults that ends in a Kind, at a target of the Faults: the outermost Fault, or none.
-/
import Derived.Test.YtemjbblehiaobaaDoorErrC
namespace Go.Proofs.YtemjbblehiaobaaDoor
open Go.RowKit Go.Extern.Stop Go.Stop Go.Extern

/-- what errors.As sets at a target of the Faults -/
def AsF (w w' : World) (t : Nat) (old : Value) (v : Value) (e : Ending) : Prop :=
  (∀ a, v = .iface tPFault (.pointer (some a)) → e = .returned (.bool true) ∧ Blk w' t tPFault #[.pointer (some a)]) ∧
  (∀ c, v = .iface tKind (.int .i64 c) → e = .returned (.bool false) ∧ Blk w' t tPFault #[old]) ∧ Keeps (fun i => i = t) w w'

theorem as_f_in (c : Int) (old : Value) (t b0 : Nat) (l : List (Int × ByteArray)) (v : Value) (w : World) (h : Chain w l c v)
    (hb0 : Blk w b0 tPPFault #[.pointer (some ⟨t, 0, none⟩)]) (ht : Blk w t tPFault #[old]) :
    Calls Tryd.prog 30 #[v, .iface tPPFault (.pointer (some ⟨t, 0, none⟩)), vOf tPPFault ⟨b0, 0, none⟩ 150, rt_ tPFault] w fun e w' => AsF w w' t old v e := by
  have h65 := @run_callFunc_extern Tryd.prog 43 _ ReflectliteType.typeOf Tryd.func43 (by kernel_rfl) (by kernel_rfl) (by kernel_rfl) (by kernel_rfl)
  have h97 := @run_callFunc_extern Tryd.prog 87 _ (ReflectliteType.relation "AssignableTo" ReflectliteType.assignableTo) Tryd.func87 (by kernel_rfl) (by kernel_rfl) (by kernel_rfl) (by kernel_rfl)
  have h69 := @run_callFunc_extern Tryd.prog 44 _ (ReflectliteValue.method (ReflectliteValue.valueError "reflectlite.Value.Elem" 0) ReflectliteValue.elem) Tryd.func44 (by kernel_rfl) (by kernel_rfl) (by kernel_rfl) (by kernel_rfl)
  have h58 := @run_callFunc_extern Tryd.prog 27 _ (fun args => ReflectliteValue.unpack (args.getD 0 (.tuple #[]))) Tryd.func27 (by kernel_rfl) (by kernel_rfl) (by kernel_rfl) (by kernel_rfl)
  have h70 := @run_callFunc_extern Tryd.prog 45 _ ReflectliteValue.set Tryd.func45 (by kernel_rfl) (by kernel_rfl) (by kernel_rfl) (by kernel_rfl)
  have a1 := Tryd.tK
  have a2 := Tryd.tPF
  have a3 := Tryd.aFF
  have a4 := Tryd.aKF
  have a5 := Tryd.mAssign
  have a6 := Tryd.vPF
  have b1 := Tryd.noAsK
  have b3 := Tryd.noUnK
  have b4 := Tryd.noUnsK
  cases h with
  | kind =>
    go_enter Tryd.func30, Tryd.ntmps30
    go_wp2
    refine wp_loop_rounds 1 ?_
    rw [rounds_succ]
    go_wp2
    go_ret
    refine ⟨fun _ he => (by cases he), fun _ _ => ⟨rfl, ht.alloc _⟩, (Keeps.refl (fun i => i = t) w).alloc _⟩
  | layer a n s v l _ hb hc =>
    have el := Tryd.elPPF ⟨b0, 0, none⟩ ⟨t, 0, none⟩ (w.alloc (.cells #[.pointer (some ⟨2, 69, none⟩), .pointer (some ⟨b0, 0, none⟩), .int .u64 150] 73)) ((hb0.alloc _).cell 0)
    have st := Tryd.setF ⟨t, 0, none⟩ ⟨w.heap.size + 1, 0, none⟩ ⟨a, 0, none⟩ old ((w.alloc (.cells #[.pointer (some ⟨2, 69, none⟩), .pointer (some ⟨b0, 0, none⟩), .int .u64 150] 73)).alloc (.cells #[.pointer (some ⟨a, 0, none⟩)] 46))
      (by simp)
      (((ht.alloc _).alloc _).cell 0) (((ht.alloc _).alloc _).frozen 0)
    have ht2 := Lib.hid ht
    clear hc hb hb0 ht
    go_enter Tryd.func30, Tryd.ntmps30
    go_wp2
    refine wp_loop_rounds 1 ?_
    rw [rounds_succ]
    go_wp2
    go_ret
    refine ⟨fun _ he => ?_, fun _ he => (by cases he), (((Keeps.refl (fun i => i = t) w).alloc _).alloc _).setCell (fun _ => rfl) _⟩
    cases he
    exact ⟨rfl, by simpa using ((Blk.alloc ht2 _).alloc _).set_ 0 (.pointer (some ⟨a, 0, none⟩))⟩

set_option maxHeartbeats 1000000 in
/-- errors.As at a target of the Faults -/
theorem as_fault (c : Int) (old : Value) (t : Nat) (l : List (Int × ByteArray)) (v : Value) (w : World) (h : Chain w l c v) (hg : Ety w)
    (ht : Blk w t tPFault #[old]) :
    Calls Tryd.prog 16 #[v, .iface tPPFault (.pointer (some ⟨t, 0, none⟩))] w fun e w' => AsF w w' t old v e := by
  have h58 := @run_callFunc_extern Tryd.prog 27 _ (fun args => ReflectliteValue.unpack (args.getD 0 (.tuple #[]))) Tryd.func27 (by kernel_rfl) (by kernel_rfl) (by kernel_rfl) (by kernel_rfl)
  have h59 := @run_callFunc_extern Tryd.prog 28 _ (ReflectliteValue.methodAny (ReflectliteValue.valueError "reflectlite.Value.Type" 0) (fun t _ _ _ => ReflectliteType.toType t)) Tryd.func28 (by kernel_rfl) (by kernel_rfl) (by kernel_rfl) (by kernel_rfl)
  have h60 := @run_callFunc_extern Tryd.prog 29 _ (ReflectliteValue.method (ReflectliteValue.valueError "reflectlite.Value.IsNil" 0) ReflectliteValue.isNil) Tryd.func29 (by kernel_rfl) (by kernel_rfl) (by kernel_rfl) (by kernel_rfl)
  have h89 := @run_callFunc_extern Tryd.prog 76 _ (ReflectliteType.abiMethod fun t => do pure (.int .u8 (← Rtype.kind t))) Tryd.func76 (by kernel_rfl) (by kernel_rfl) (by kernel_rfl) (by kernel_rfl)
  have h99 := @run_callFunc_extern Tryd.prog 89 _ (ReflectliteType.method ReflectliteType.elem) Tryd.func89 (by kernel_rfl) (by kernel_rfl) (by kernel_rfl) (by kernel_rfl)
  have h100 := @run_callFunc_extern Tryd.prog 90 _ (ReflectliteType.relation "Implements" ReflectliteType.implements_) Tryd.func90 (by kernel_rfl) (by kernel_rfl) (by kernel_rfl) (by kernel_rfl)
  have a1 := Tryd.vPPF
  have a2 := Tryd.tyPPF
  have a3 := Tryd.mKind
  have a4 := Tryd.kPPF
  have a5 := Tryd.mElem
  have a6 := Tryd.ePPF
  have a7 := Tryd.kPF
  have a8 := Tryd.mImpl
  have a9 := Tryd.iPF
  have n60 := Tryd.isNilPPF ⟨w.heap.size, 0, none⟩ ⟨t, 0, none⟩ ((w.alloc (.cells #[.pointer (some ⟨t, 0, none⟩)] 69)).alloc (.cells #[.pointer (some ⟨2, 69, none⟩), .pointer (some ⟨w.heap.size, 0, none⟩), .int .u64 150] 73))
    (((Blk.new w 69 #[.pointer (some ⟨t, 0, none⟩)]).alloc _).cell 0)
  have hg2 : ((w.alloc (.cells #[.pointer (some ⟨t, 0, none⟩)] 69)).alloc (.cells #[.pointer (some ⟨2, 69, none⟩), .pointer (some ⟨w.heap.size, 0, none⟩), .int .u64 150] 73)).cell? ⟨0, 0, none⟩ = some (rt_ 25) :=
    hg.keeps (((Keeps.refl (fun _ => False) w).alloc _).alloc _) id
  have hin := as_f_in c old t w.heap.size l v _ (h.keeps (((Keeps.refl (fun _ => False) w).alloc (.cells #[.pointer (some ⟨t, 0, none⟩)] 69)).alloc (.cells #[.pointer (some ⟨2, 69, none⟩), .pointer (some ⟨w.heap.size, 0, none⟩), .int .u64 150] 73)) (fun _ _ _ => id))
    ((Blk.new w 69 #[.pointer (some ⟨t, 0, none⟩)]).alloc _) ((ht.alloc _).alloc _)
  have hin := Lib.hid hin
  have hf := Lib.hid h
  obtain ⟨ty, x, rfl⟩ := h.form
  clear hg h ht
  go_enter Tryd.func16, Tryd.ntmps16
  rcases hf with ⟨c⟩ | ⟨a, n, s, v, l, c, hb, hc⟩
  · go_wp2_with (go_at_call 30; refine hin.mono ?_; rintro e w2 ⟨_, h2, hk⟩; obtain ⟨rfl, hb⟩ := h2 _ rfl)
    go_ret
    exact ⟨fun _ he => (by cases he), fun _ _ => ⟨rfl, hb⟩, (((Keeps.refl _ w).alloc _).alloc _).trans hk⟩
  · clear hb hc
    go_wp2_with (go_at_call 30; refine hin.mono ?_; rintro e w2 ⟨h1, _, hk⟩; obtain ⟨rfl, hb⟩ := h1 _ rfl)
    go_ret
    refine ⟨fun _ he => ?_, fun _ he => (by cases he), (((Keeps.refl _ w).alloc _).alloc _).trans hk⟩
    cases he
    exact ⟨rfl, hb⟩
end Go.Proofs.YtemjbblehiaobaaDoor
