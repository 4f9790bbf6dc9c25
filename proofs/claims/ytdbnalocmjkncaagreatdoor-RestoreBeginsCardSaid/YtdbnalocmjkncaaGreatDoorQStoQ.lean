/-
  store: a copy is a store by itself.
-/
import Derived.Test.YtdbnalocmjkncaaGreatDoorQStoP
namespace Go.Proofs.YtdbnalocmjkncaaGreatDoor
open Go.RowKit Go.Maps

section
variable {w w' : World} {F S : Nat → Prop} {s M bad : Nat} {most : Int} {L : List SRep}
/-- one more file, of bytes that are its own -/
theorem StoreAt.adopt (h : StoreAt w F s most bad M L) (f : SFile) (v : Value) (hO : OwnQ w 5 v (u8Vs f.data.data.toList)) {B : Nat} (hB : ∀ r ∈ L, ∀ j, rowB r.v = some j → j < B) (hrow : ∀ i, rowB v = some i → F i ∧ B ≤ i) (hp : F w.heap.size) (hn : f.name.size ≤ maxLen) (hL : L.length ≤ 4294967296) (x : Int) (hx : x = f.sure) :
    ∃ w2, (Instr.mapUpdate 79 (.map (some M)) (.string f.name) (.pointer (some ⟨w.heap.size, 0, none⟩))).run Tryz.prog (w.alloc (.cells #[v, .int .i64 x] 84)) = .ok () w2 ∧
      StoreAt w2 F s most bad M (putG SRep.nm ⟨f, w.heap.size, v⟩ L) ∧ Keeps (fun i => i = M) (w.alloc (.cells #[v, .int .i64 x] 84)) w2 := by
  subst hx
  have k1 : Keeps (fun _ => False) w (w.alloc (.cells #[v, .int .i64 f.sure] 84)) := (Keeps.refl _ _).alloc _
  have h1 := h.keeps k1 (fun _ _ => id)
  have hap : ∀ a ∈ delG SRep.nm f.name L, Off ⟨f, w.heap.size, v⟩ a := fun a ha => by
    obtain ⟨ha, _⟩ := delG_mem.1 ha
    have hb := (h.each a ha).blk.lt
    refine ⟨fun e => ?_, fun i hi e => ?_⟩
    · have : w.heap.size = a.p := e
      omega
    · have h2 := (hrow i hi).2
      have h3 := hB a ha i e
      omega
  exact h1.put ⟨f, w.heap.size, v⟩ ⟨Blk.new w _ _, hO.keeps k1 (fun _ _ _ => id), hp, fun i hi => (hrow i hi).1⟩ hap hn (by unfold maxLen; omega)
theorem StoreAt.rowlt (h : StoreAt w F s most bad M L) : ∀ r ∈ L, ∀ i, rowB r.v = some i → i < w.heap.size := fun r hr i hi => by
  obtain ⟨cs, hb⟩ := (h.each r hr).own.row i hi
  exact hb.lt
theorem StoreAt.below_ (h : StoreAt w F s most bad M L) : StoreAt w (fun i => F i ∧ i < w.heap.size) s most bad M L := h.shrink.mono fun _ hi => ⟨hi.1, hi.2.lt⟩
theorem encStr_name (s : ByteArray) : Go.Proofs.encStr s.data.toList = .string s := rfl
theorem adopt_ {w w2 w3 : World} {s M bad : Nat} {most : Int} {L : List SRep} (h2 : StoreAt w2 (fun i => w.heap.size ≤ i ∧ i ≠ w.heap.size + 2) s most bad M L) (h : StoreAt w3 (fun i => w.heap.size ≤ i ∧ i ≠ w.heap.size + 2) s most bad M L) (kw : Keeps (fun _ => False) w2 w3) (hsz : w.heap.size + 3 ≤ w2.heap.size)
    (f : SFile) {v : Value} (hO : OwnQ w3 5 v (u8Vs f.data.data.toList)) {wc : World} (hrow : ∀ i, rowB v = some i → wc.heap.size ≤ i) (hwc : w2.heap.size ≤ wc.heap.size) (hn : f.name.size ≤ maxLen) (hL : L.length ≤ 4294967296) :
    ∃ w4, (Instr.mapUpdate 79 (.map (some M)) (.string f.name) (.pointer (some ⟨w3.heap.size, 0, none⟩))).run Tryz.prog (w3.alloc (.cells #[v, .int .i64 (f.sure : Nat)] 84)) = .ok () w4 ∧
      StoreAt w4 (fun i => w.heap.size ≤ i ∧ i ≠ w.heap.size + 2) s most bad M (putG SRep.nm ⟨f, w3.heap.size, v⟩ L) ∧ Keeps (fun i => i = M) (w3.alloc (.cells #[v, .int .i64 (f.sure : Nat)] 84)) w4 :=
  h.adopt f v hO (B := w2.heap.size) h2.rowlt (fun i hi => ⟨⟨by have := hrow i hi; omega, by have := hrow i hi; omega⟩, by have := hrow i hi; omega⟩) ⟨by have := kw.size; omega, by have := kw.size; omega⟩ hn hL _ rfl
theorem copy_end {w2 w3 w4 : World} {r0 n : Nat} {D : DataW Unit} {left : Lit → Bool} {cnt : Nat} (H : StoreAt w F s most bad M L) (hrg2 : w2.ranges Tryz.prog 9 ptrR M r0 n D left cnt) (HKK : Keeps (fun _ => False) w w2) (HKW : Keeps (fun _ => False) w2 w3) {o : Obj} (HK4 : Keeps (fun i => i = w.heap.size) (w3.alloc o) w4) (e0 : r0 = w.heap.size + 2) (hsz : w.heap.size + 3 ≤ w2.heap.size) :
    w4.ranges Tryz.prog 9 ptrR M r0 n D left cnt ∧ Keeps (fun _ => False) w w4 ∧ w.heap.size + 3 ≤ w4.heap.size := by
  have hM := H.map.lt
  have k3 : Keeps (fun _ => False) w2 (w3.alloc o) := HKW.alloc _
  have k4 : Keeps (fun i => i = w.heap.size) w2 w4 := Keeps.and_ k3.none_ HK4 (fun i _ h => h)
  refine ⟨ranges_keeps hrg2 k4 (by omega) (by omega), Keeps.and_ HKK k4 (fun i hi h => by omega), ?_⟩
  have := k4.size
  omega
end
end Go.Proofs.YtdbnalocmjkncaaGreatDoor
