/-
  Lower texts of this claim, joined.
-/
import Derived.WalkKit
import Derived.WalkSpells
import Derived.WalkLawsBesides
import Derived.BigQuiet
import Derived.Deep.QuietTactic
import Derived.Deep.RegionHeld3
import Derived.StillTailTactics
import Derived.Deep.DeepMust
import Derived.Deep.LoopGhost
import Derived.Laws.CopyOwn
import Derived.Lib.Hide
import Derived.Deep.AppendLies
import Derived.Test.YtkmpdobojgiegaaGreatDoorChecked
import Derived.ScopeJumps
import Derived.WalkMore
import Derived.Lib.OthersKept
/-
  Plain words for memory that all texts of this claim use: a result that only reads; blocks known whole; what a call may change. No program in sight.
-/
namespace Go.Proofs.YtkmpdobojgiegaaGreatDoor
open Go.RowKit

/-- a call that only reads: it hands back v, the world may have drawn -/
def Qt (v : Value) (w : World) : Ending → World → Prop := fun e w' => e = .returned v ∧ ∃ n, w' = w.drewN n

theorem Qt.of {v v' : Value} {w : World} {n : Nat} (h : v' = v) : Qt v w (.returned v') (w.drewN n) := ⟨by rw [h], n, rfl⟩
theorem Qt.of2 {v v' : Value} {w : World} {n m : Nat} (h : v' = v) : Qt v w (.returned v') ((w.drewN n).drewN m) := ⟨by rw [h], _, World.drewN_drewN _ _ _⟩
theorem int_eq {k : IntKind} {a b : Int} (h : a = b) : Value.int k a = .int k b := by rw [h]
theorem wrap_in {x : Int} (h : -4611686018427387904 ≤ x) (h' : x ≤ 4611686018427387904) : IntKind.i64.wrap x = x := IntWalk.i64_in _ (by omega)
theorem tmod_nat (a b : Nat) : ((a : Int)).tmod (b : Int) = ((a % b : Nat) : Int) := by
  rw [Int.tmod_eq_emod_of_nonneg (by omega)]; simp

/-- what a call may change: of the blocks that were there, those of S alone -/
structure Keeps (S : Nat → Prop) (w w' : World) : Prop where
  os : w'.os = w.os
  tape : w'.tape = w.tape
  output : w'.output = w.output
  size : w.heap.size ≤ w'.heap.size
  block : ∀ k, k < w.heap.size → ¬ S k → w'.heap[k]? = w.heap[k]?

section
variable {S T : Nat → Prop} {a b c w w' : World}
theorem Keeps.refl (S : Nat → Prop) (w : World) : Keeps S w w := ⟨rfl, rfl, rfl, Nat.le_refl _, fun _ _ _ => rfl⟩
theorem Keeps.trans (h : Keeps S a b) (k : Keeps S b c) : Keeps S a c :=
  ⟨k.os.trans h.os, k.tape.trans h.tape, k.output.trans h.output, Nat.le_trans h.size k.size, fun i hi hn => (k.block i (Nat.lt_of_lt_of_le hi h.size) hn).trans (h.block i hi hn)⟩
theorem Keeps.and_ (h : Keeps S a b) (k : Keeps T b c) (hT : ∀ i, i < a.heap.size → T i → S i) : Keeps S a c :=
  ⟨k.os.trans h.os, k.tape.trans h.tape, k.output.trans h.output, Nat.le_trans h.size k.size, fun i hi hn => (k.block i (Nat.lt_of_lt_of_le hi h.size) (fun ht => hn (hT i hi ht))).trans (h.block i hi hn)⟩
theorem Keeps.mono (h : Keeps S a b) (hs : ∀ k, k < a.heap.size → S k → T k) : Keeps T a b := ⟨h.os, h.tape, h.output, h.size, fun i hi hn => h.block i hi fun hS => hn (hs i hi hS)⟩
theorem Keeps.drewN (h : Keeps S a b) (n : Nat) : Keeps S a (b.drewN n) := ⟨h.os, h.tape, h.output, h.size, h.block⟩
theorem Keeps.drew (h : Keeps S a b) : Keeps S a b.drew := ⟨h.os, h.tape, h.output, h.size, h.block⟩
theorem Keeps.alloc (h : Keeps S a b) (o : Obj) : Keeps S a (b.alloc o) :=
  ⟨h.os, h.tape, h.output, Nat.le_trans h.size (by simp), fun i hi hn => (Below.heap_alloc b o i (Nat.lt_of_lt_of_le hi h.size)).trans (h.block i hi hn)⟩
theorem Keeps.setCell (h : Keeps S a b) {p : Addr} (hp : p.block < a.heap.size → S p.block) (u : Value) : Keeps S a (b.setCell p u) :=
  ⟨h.os, h.tape, h.output, by simpa [World.setCell] using h.size, fun i hi hn => (Below.heap_setCell b p u i (fun e => hn (by subst e; exact hp hi))).trans (h.block i hi hn)⟩
theorem Keeps.setRow (h : Keeps S a b) {g : Nat} (hp : g < a.heap.size → S g) (cs : Array Value) : Keeps S a (b.setRow g cs) :=
  ⟨h.os, h.tape, h.output, by simpa using h.size, fun i hi hn => by
    have hne : g ≠ i := fun e => hn (by subst e; exact hp hi)
    rw [← h.block i hi hn]
    simp [World.setRow, Array.getElem?_modify, hne]⟩
theorem Keeps.grown (h : Keeps S a b) {row : Option Nat} (hg : b.grownBy c row) (hr : ∀ k, row = some k → k < a.heap.size → S k) : Keeps S a c :=
  ⟨hg.os.trans h.os, hg.tape.trans h.tape, hg.output.trans h.output, Nat.le_trans h.size hg.size, fun i hi hn => (hg.block i (Nat.lt_of_lt_of_le hi h.size) (fun e => hn (hr i e.symm hi))).trans (h.block i hi hn)⟩
theorem Keeps.from_drewN {n : Nat} (h : Keeps S (a.drewN n) b) : Keeps S a b := ⟨h.os, h.tape, h.output, h.size, h.block⟩
theorem Keeps.from_drew (h : Keeps S a.drew b) : Keeps S a b := ⟨h.os, h.tape, h.output, h.size, h.block⟩
theorem Keeps.none_ (h : Keeps (fun _ => False) a b) : Keeps S a b := h.mono fun _ _ h => h.elim
theorem Keeps.below (h : Keeps S w w') (hS : ∀ k, k < w.heap.size → ¬ S k) : Below w.heap.size w w' := ⟨h.os, h.tape, h.output, h.size, fun k hk => h.block k hk (hS k hk)⟩
theorem Keeps.of_below (h : Below w.heap.size w w') : Keeps S w w' := ⟨h.os, h.tape, h.output, h.size, fun k hk _ => h.block k hk⟩
end

/-- a call that only reads, said by 'Keeps' -/
theorem Qt.k {P : Program} {f : FuncId} {args : Array Value} {w : World} {v : Value} (h : Calls P f args w (Qt v w)) : Calls P f args w fun e w' => e = .returned v ∧ Keeps (fun _ => False) w w' :=
  h.mono fun _ _ ⟨he, n, hn⟩ => ⟨he, by rw [hn]; exact (Keeps.refl _ _).drewN n⟩

/-- a block known whole, nothing of it frozen -/
def Blk (w : World) (g : Nat) (t : TypeId) (cs : Array Value) : Prop := w.heap[g]? = some (.cells cs t (0, 0))

section
variable {w w' : World} {g : Nat} {t : TypeId} {cs : Array Value}
theorem Blk.lt (h : Blk w g t cs) : g < w.heap.size := by
  rcases Nat.lt_or_ge g w.heap.size with hlt | hge
  · exact hlt
  · unfold Blk at h; rw [Array.getElem?_eq_none hge] at h; cases h
theorem Blk.cell (h : Blk w g t cs) (i : Nat) : w.cell? ⟨g, i, none⟩ = cs[i]? := cell_of_row w g i cs t (0, 0) h
theorem Blk.frozen (h : Blk w g t cs) (i : Nat) : w.frozen? ⟨g, i, none⟩ = false := by
  unfold Blk at h
  simp [World.frozen?, h]
theorem Blk.new (w : World) (t : TypeId) (cs : Array Value) : Blk (w.alloc (.cells cs t)) w.heap.size t cs := heap_alloc_new w _
theorem Blk.drew (h : Blk w g t cs) : Blk w.drew g t cs := h
theorem Blk.drewN (h : Blk w g t cs) (n : Nat) : Blk (w.drewN n) g t cs := h
theorem Blk.alloc (h : Blk w g t cs) (o : Obj) : Blk (w.alloc o) g t cs := (Below.heap_alloc w o g h.lt).trans h
theorem Blk.set_ (h : Blk w g t cs) (i : Nat) (u : Value) : Blk (w.setCell ⟨g, i, none⟩ u) g t (cs.setIfInBounds i u) := by
  unfold Blk at h ⊢
  simp [World.setCell, Array.getElem?_modify, h]
theorem Blk.far (h : Blk w g t cs) {p : Addr} (hp : g ≠ p.block) (u : Value) : Blk (w.setCell p u) g t cs := (Below.heap_setCell w p u g hp).trans h
theorem Blk.keeps {S : Nat → Prop} (h : Blk w g t cs) (hb : Keeps S w w') (hg : ¬ S g) : Blk w' g t cs := (hb.block g h.lt hg).trans h
theorem Blk.row (h : Blk w g t cs) (ds : Array Value) : Blk (w.setRow g ds) g t ds := by
  unfold Blk at h ⊢
  simp [World.setRow, Array.getElem?_modify, h]
theorem Blk.farRow (h : Blk w g t cs) {g' : Nat} (hp : g' ≠ g) (ds : Array Value) : Blk (w.setRow g' ds) g t cs := by
  unfold Blk at h ⊢
  simp [World.setRow, Array.getElem?_modify, h, hp]
theorem Blk.ne_ {g' : Nat} {t' : TypeId} {cs' : Array Value} (h : Blk w g t cs) (h' : Blk w g' t' cs') (hne : t ≠ t') : g ≠ g' := by
  rintro rfl
  unfold Blk at h h'
  rw [h] at h'
  injection h' with h'
  injection h' with _ ht
  exact hne ht
end

theorem drew_mk (w : World) : ({ heap := w.heap, tape := w.tape, drawn := w.drawn + 1, os := w.os, output := w.output } : World) = w.drew := rfl
/-- three cells of a block, as facts that the walk reads -/
theorem Blk.cells3 {w : World} {g : Nat} {t : TypeId} {a b c : Value} (h : Blk w g t #[a, b, c]) : w.cell? ⟨g, 0, none⟩ = some a ∧ w.cell? ⟨g, 1, none⟩ = some b ∧ w.cell? ⟨g, 2, none⟩ = some c := ⟨h.cell 0, h.cell 1, h.cell 2⟩
theorem Blk.all3 {w : World} {g : Nat} {t : TypeId} {a b c : Value} (h : Blk w g t #[a, b, c]) : (w.cell? ⟨g, 0, none⟩ = some a ∧ w.cell? ⟨g, 1, none⟩ = some b ∧ w.cell? ⟨g, 2, none⟩ = some c) ∧ w.frozen? ⟨g, 0, none⟩ = false ∧ w.frozen? ⟨g, 1, none⟩ = false ∧ w.frozen? ⟨g, 2, none⟩ = false :=
  ⟨h.cells3, h.frozen 0, h.frozen 1, h.frozen 2⟩
/-- w' is w with the block g filled anew by cs (kept behind a name) -/
def Rowed (w w' : World) (g : Nat) (cs : Array Value) : Prop := w' = w.setRow g cs
section
variable {w w' : World} {g : Nat} {t : TypeId} {cs ds : Array Value}
theorem Rowed.blk (h : Rowed w w' g ds) (hb : Blk w g t cs) : Blk w' g t ds := by rw [h]; exact hb.row ds
theorem Rowed.far (h : Rowed w w' g ds) {g' : Nat} (hb : Blk w g' t cs) (hne : g ≠ g') : Blk w' g' t cs := by rw [h]; exact hb.farRow hne ds
theorem Rowed.keeps {S : Nat → Prop} {a : World} (h : Rowed w w' g ds) (k : Keeps S a w) (hS : g < a.heap.size → S g) : Keeps S a w' := by rw [h]; exact k.setRow hS ds
end

/-- bytes as cells -/
def bv (l : List UInt8) : Array Value := (l.map fun c => Value.int .u8 c.toNat).toArray
theorem bv_size (l : List UInt8) : (bv l).size = l.length := by simp [bv]
theorem bv_get (l : List UInt8) (i : Nat) (h : i < l.length) : (bv l)[i]? = some (.int .u8 (l[i].toNat : Int)) := by simp [bv, h]
theorem bv_list (l : List UInt8) : (bv l).toList = l.map fun c => Value.int .u8 c.toNat := by simp [bv]

theorem ext_list (s : ByteArray) (n : Nat) : (s.extract n s.size).data.toList = s.data.toList.drop n := by
  have h : s.data.toList.length = s.size := by simp
  simp only [ByteArray.data_extract, Array.toList_extract, List.extract_eq_take_drop]
  exact List.take_of_length_le (by rw [List.length_drop, h]; omega)
theorem ext_size (s : ByteArray) (n : Nat) : (s.extract n s.size).size = s.size - n := by simp
theorem ba_ext {a b : ByteArray} (h : a.data.toList = b.data.toList) : a = b := by
  cases a; cases b; simp at h; rw [h]
theorem splice_get {α : Type} (L : List α) (o : Nat) (cs : List α) (h : o + cs.length ≤ L.length) (j : Nat) :
    (splice L o cs)[j]? = if o ≤ j ∧ j < o + cs.length then cs[j - o]? else L[j]? := by
  unfold splice
  rw [List.getElem?_append]
  simp only [List.length_take]
  by_cases h1 : j < o
  · rw [if_pos (by omega), if_neg (by omega), List.getElem?_take, if_pos h1]
  · rw [if_neg (by omega), List.getElem?_append]
    by_cases h2 : j < o + cs.length
    · rw [if_pos (by omega), if_pos (by omega)]; congr 1; omega
    · rw [if_neg (by omega), if_neg (by omega), List.getElem?_drop]; congr 1; omega
theorem splice_map {α β : Type} (f : α → β) (L : List α) (o : Nat) (cs : List α) : splice (L.map f) o (cs.map f) = (splice L o cs).map f := by
  unfold splice; simp
theorem splice_nil {α : Type} (L : List α) (o : Nat) : splice L o [] = L := by unfold splice; simp
theorem splice_len {α : Type} (L : List α) (o : Nat) (cs : List α) (h : o + cs.length ≤ L.length) : (splice L o cs).length = L.length := by simp [splice]; omega

section
variable {P : Program}
theorem firstCells_string (s : ByteArray) (n : Nat) (w : World) :
    (Builtin.firstCells 1 n (.string s)).run P w = .ok ((s.data.toList.take n).map fun c => Value.int .u8 c.toNat).toArray w := by
  have h : ((s.extract 0 n).data.map fun b => Value.int .u8 b.toNat) = ((s.data.toList.take n).map fun c => Value.int .u8 c.toNat).toArray := by
    apply Array.ext'
    simp
  show (pure _ : Sem (Array Value)).run P w = _
  rw [h]
  rfl

/-- copy into a row of bytes known whole: from a string -/
theorem run_copy_str (w : World) (dT sT ty elem : TypeId) (dp : Option Addr) (dLen dCap : Nat) (s : ByteArray) (g o : Nat) (L : List UInt8) (t : TypeId)
    (hu : P.underlying dT = some (.slice elem)) (hs : (P.info? elem).map (·.size) = some 1) (hg : Blk w g t (bv L))
    (hd : 0 < min s.size dLen → dp = some ⟨g, o, none⟩) (hfit : o + min s.size dLen ≤ L.length) :
    (Builtin.copy_ #[dT, sT] ty #[.slice dp dLen dCap, .string s]).run P w =
      .ok (.int .i64 (min s.size dLen : Nat)) (w.setRow g (bv (splice L o (s.data.toList.take (min s.size dLen))))) := by
  have hl : (s.data.toList.take (min s.size dLen)).length = min s.size dLen := by simp
  have hm : Nat.min s.size dLen = min s.size dLen := rfl
  cases hq : P.info? elem with
  | none => simp [hq] at hs
  | some i =>
    have hi : i.size = 1 := by simpa [hq] using hs
    by_cases h0 : min s.size dLen = 0
    · have he : w.setRow g (bv (splice L o [])) = w := by rw [splice_nil]; exact setRow_self w g _ t (0, 0) hg
      have hc := firstCells_string (P := P) s 0 w
      simp only [List.take_zero, List.map_nil] at hc
      rw [h0, List.take_zero, he]
      cases dp with
      | none => simp [Builtin.copy_, run_underlying hu, Builtin.lenOf, sizeOf, typeInfo, hq, hi, hm, h0, hc, goInt]
      | some a => simp [Builtin.copy_, run_underlying hu, Builtin.lenOf, sizeOf, typeInfo, hq, hi, hm, h0, hc, goInt, storeCells]
    · obtain rfl := hd (by omega)
      have hst := run_storeCells_at P g o t ((s.data.toList.take (min s.size dLen)).map fun c => Value.int .u8 c.toNat) 0 (bv L) w hg (by simp [bv_size]; omega) (by
        intro v hv; simp only [List.mem_map] at hv; obtain ⟨c, _, rfl⟩ := hv; rfl)
      have hrow : ((bv L).toList.take (o + 0) ++ (s.data.toList.take (min s.size dLen)).map (fun c => Value.int .u8 c.toNat) ++ (bv L).toList.drop (o + 0 + ((s.data.toList.take (min s.size dLen)).map fun c => Value.int .u8 c.toNat).length)).toArray
          = bv (splice L o (s.data.toList.take (min s.size dLen))) := by
        rw [bv_list]
        unfold bv
        rw [← splice_map]
        unfold splice
        simp
      rw [hrow] at hst
      rw [List.map_take] at hst
      simp [Builtin.copy_, run_underlying hu, Builtin.lenOf, sizeOf, typeInfo, hq, hi, hm, firstCells_string, goInt, hst]

/-- .. from a slice of bytes whose cells are known -/
theorem run_copy_sl (w : World) (dT sT ty elem : TypeId) (dp sp : Option Addr) (dLen dCap sLen sCap : Nat) (g o : Nat) (L cs : List UInt8) (t : TypeId)
    (hu : P.underlying dT = some (.slice elem)) (hs : (P.info? elem).map (·.size) = some 1) (hg : Blk w g t (bv L)) (hn : cs.length = min sLen dLen)
    (hd : 0 < cs.length → dp = some ⟨g, o, none⟩ ∧ ∃ ad, sp = some ad ∧ ∀ j c, cs[j]? = some c → w.cell? (ad.add j) = some (.int .u8 c.toNat)) (hfit : o + cs.length ≤ L.length) :
    (Builtin.copy_ #[dT, sT] ty #[.slice dp dLen dCap, .slice sp sLen sCap]).run P w =
      .ok (.int .i64 cs.length) (w.setRow g (bv (splice L o cs))) := by
  by_cases h0 : cs.length = 0
  · obtain rfl : cs = [] := List.eq_nil_of_length_eq_zero h0
    have he : w.setRow g (bv (splice L o [])) = w := by rw [splice_nil]; exact setRow_self w g _ t (0, 0) hg
    rw [he, run_copy_none (P := P) w dT sT ty elem dp sp dLen dCap sLen sCap hu hs (by simpa using hn.symm)]
    rfl
  · obtain ⟨rfl, ad, rfl, hc⟩ := hd (by omega)
    have := run_copy_row (P := P) w dT sT ty elem g o dLen dCap ad sLen sCap (bv L) t (cs.map fun c => Value.int .u8 c.toNat) hu hs hg (by simpa using hn) (by
      intro j v hv
      simp only [List.getElem?_map, Option.map_eq_some_iff] at hv
      obtain ⟨c, hc', rfl⟩ := hv
      exact hc j c hc') (by simpa [bv_size] using hfit) (by intro v hv; simp only [List.mem_map] at hv; obtain ⟨c, _, rfl⟩ := hv; rfl)
    rw [this]
    have hrow : ((bv L).toList.take o ++ cs.map (fun c => Value.int .u8 c.toNat) ++ (bv L).toList.drop (o + (cs.map fun c => Value.int .u8 c.toNat).length)).toArray = bv (splice L o cs) := by
      rw [bv_list]
      unfold bv
      rw [← splice_map]
      unfold splice
      simp
    rw [hrow]
    simp [goInt]

theorem wpList_copy_str {ops : Array Oper} {rest : List Oper} {o : Oper} {a : Act} {Q : Exit → Act → World → Prop} {w : World} (hgd : o.guard = none) (d x : Operand) (dT sT : TypeId)
    (ho : o.op = .call { callee := .builtin .copy, args := #[d, x], argTypes := #[dT, sT] }) (elem : TypeId) (hu : P.underlying dT = some (.slice elem)) (hsz : (P.info? elem).map (·.size) = some 1)
    (dp : Option Addr) (dLen dCap : Nat) (s : ByteArray) (hd : a.eval d = .slice dp dLen dCap) (hx : a.eval x = .string s) (g off : Nat) (L : List UInt8) (t : TypeId) (hg : Blk w g t (bv L))
    (hpos : 0 < min s.size dLen → dp = some ⟨g, off, none⟩) (hfit : off + min s.size dLen ≤ L.length)
    (h : ∀ w', Rowed w w' g (bv (splice L off (s.data.toList.take (min s.size dLen)))) → wpList P ops Q rest (a.put o.dst (.int .i64 (min s.size dLen : Nat))) w') : wpList P ops Q (o :: rest) a w := by
  refine wpList_plain hgd fun K hK => ?_
  have hrun := run_copy_str (P := P) w dT sT o.type elem dp dLen dCap s g off L t hu hsz hg hpos hfit
  unfold Oper.wp
  simp only [execOp, ho, resolve, invoke, builtin, Sem.run_bind, Sem.run_pure, Result.andThen_ok, List.map_toArray, List.map_cons, List.map_nil, hd, hx, hrun]
  exact hK _ _ (h _ rfl)

theorem wpList_copy_sl {ops : Array Oper} {rest : List Oper} {o : Oper} {a : Act} {Q : Exit → Act → World → Prop} {w : World} (hgd : o.guard = none) (d x : Operand) (dT sT : TypeId)
    (ho : o.op = .call { callee := .builtin .copy, args := #[d, x], argTypes := #[dT, sT] }) (elem : TypeId) (hu : P.underlying dT = some (.slice elem)) (hsz : (P.info? elem).map (·.size) = some 1)
    (dp sp : Option Addr) (dLen dCap sLen sCap : Nat) (hd : a.eval d = .slice dp dLen dCap) (hx : a.eval x = .slice sp sLen sCap) (g off : Nat) (L cs : List UInt8) (t : TypeId) (hg : Blk w g t (bv L))
    (hn : cs.length = min sLen dLen)
    (hpos : 0 < cs.length → dp = some ⟨g, off, none⟩ ∧ ∃ ad, sp = some ad ∧ ∀ j c, cs[j]? = some c → w.cell? (ad.add j) = some (.int .u8 c.toNat)) (hfit : off + cs.length ≤ L.length)
    (h : ∀ w', Rowed w w' g (bv (splice L off cs)) → wpList P ops Q rest (a.put o.dst (.int .i64 cs.length)) w') : wpList P ops Q (o :: rest) a w := by
  refine wpList_plain hgd fun K hK => ?_
  have hrun := run_copy_sl (P := P) w dT sT o.type elem dp sp dLen dCap sLen sCap g off L cs t hu hsz hg hn hpos hfit
  unfold Oper.wp
  simp only [execOp, ho, resolve, invoke, builtin, Sem.run_bind, Sem.run_pure, Result.andThen_ok, List.map_toArray, List.map_cons, List.map_nil, hd, hx, hrun]
  exact hK _ _ (h _ rfl)
end

theorem bv_at {w : World} {b : Nat} {t : TypeId} {arr : List UInt8} (h : Blk w b t (bv arr)) (f : Nat) (cs : List UInt8) (hc : ∀ j c, cs[j]? = some c → arr[f + j]? = some c) :
    ∀ j c, cs[j]? = some c → w.cell? ((⟨b, f, none⟩ : Addr).add j) = some (.int .u8 c.toNat) := by
  intro j c hj
  have h1 := hc j c hj
  have h2 := h.cell (f + j)
  have hlt := (List.getElem?_eq_some_iff.1 h1).1
  rw [bv_get _ _ hlt] at h2
  have e : arr[f + j] = c := (List.getElem?_eq_some_iff.1 h1).2
  rw [e] at h2
  by_cases h0 : j = 0
  · subst h0; simpa [Addr.add] using h2
  · simpa [Addr.add, h0] using h2
theorem bv_cell {w : World} {b : Nat} {t : TypeId} {arr : List UInt8} (h : Blk w b t (bv arr)) (j : Nat) (c : UInt8) (hj : arr[j]? = some c) : w.cell? ⟨b, j, none⟩ = some (.int .u8 c.toNat) := by
  have h2 := h.cell j
  have hlt := (List.getElem?_eq_some_iff.1 hj).1
  rw [bv_get _ _ hlt] at h2
  have e : arr[j] = c := (List.getElem?_eq_some_iff.1 hj).2
  rw [e] at h2
  exact h2

/-- a string out of a list of bytes -/
def str (l : List UInt8) : ByteArray := ⟨l.toArray⟩
theorem str_list (l : List UInt8) : (str l).data.toList = l := rfl
theorem str_size (l : List UInt8) : (str l).size = l.length := rfl
theorem str_of (s : ByteArray) : str s.data.toList = s := rfl
theorem str_inj {a b : List UInt8} : str a = str b ↔ a = b := ⟨fun h => by have := congrArg (fun s : ByteArray => s.data.toList) h; simpa [str] using this, fun h => by rw [h]⟩

theorem foldl_push (l : List UInt8) : ∀ (r : ByteArray), (l.map fun c => ((c.toNat : Nat) : Int)).foldl (fun r n => r.push (UInt8.ofNat n.toNat)) r = str (r.data.toList ++ l) := by
  induction l with
  | nil => intro r; simp [str]
  | cons c l ih =>
    intro r
    simp only [List.map_cons, List.foldl_cons]
    rw [ih]
    simp [str, ByteArray.push]

section
variable {P : Program}
theorem run_string_bytes (w : World) (src dst e : TypeId) (a : Addr) (n c : Nat) (cs : List UInt8) (hs : P.underlying src = some (.slice e)) (he : P.underlying e = some (.int .u8)) (hd : P.underlying dst = some .string)
    (hn : cs.length = n) (hc : ∀ j v, cs[j]? = some v → w.cell? (a.add j) = some (.int .u8 v.toNat)) :
    (convert src dst (.slice (some a) n c)).run P w = .ok (.string (str cs)) w := by
  rw [run_convert_bytes_string w src dst e _ n c hs he hd]
  have hl := run_loadCells_list (P := P) w a (cs.map fun c => Value.int .u8 c.toNat) (by
    intro j v hv
    simp only [List.getElem?_map, Option.map_eq_some_iff] at hv
    obtain ⟨c, hc', rfl⟩ := hv
    exact hc j c hc')
  rw [run_bytesToString w a n c (cs.map fun c => ((c.toNat : Nat) : Int)) (by rw [← hn]; simpa [List.map_map, Function.comp_def] using hl), foldl_push]
  rfl

/-- a new row of bytes -/
def Made (w w' : World) (t : TypeId) (cs : Array Value) : Prop := w' = w.alloc (.cells cs t)
theorem Made.blk {w w' : World} {t : TypeId} {cs : Array Value} (h : Made w w' t cs) : Blk w' w.heap.size t cs := by rw [h]; exact Blk.new w t cs
theorem Made.old {w w' : World} {t t' : TypeId} {cs ds : Array Value} {g : Nat} (h : Made w w' t cs) (hb : Blk w g t' ds) : Blk w' g t' ds := by rw [h]; exact hb.alloc _
theorem Made.keeps {w w' a : World} {t : TypeId} {cs : Array Value} {S : Nat → Prop} (h : Made w w' t cs) (k : Keeps S a w) : Keeps S a w' := by rw [h]; exact k.alloc _
theorem Made.size {w w' : World} {t : TypeId} {cs : Array Value} (h : Made w w' t cs) : w'.heap.size = w.heap.size + 1 := by rw [h]; simp

theorem made_zero (n : Nat) : madeCells (Value.int .u8 0).cells (n * 1) = bv (List.replicate n 0) := by
  apply Array.ext
  · simp [madeCells, bv]
  · intro i h1 h2
    simp [madeCells, bv, Value.cells, Nat.mod_one]

theorem wpList_make_bytes (w : World) {ops : Array Oper} {rest : List Oper} {o : Oper} {a : Act} {Q : Exit → Act → World → Prop}
    (hg : o.guard = none) (l c : Operand) (t : TypeId) (hop : o.op = Op.makeSlice t l c) (e : TypeId)
    (h1 : P.underlying t = some (.slice e)) (h2 : (P.info? e).map (fun i => (i.zero, i.size, i.bytes)) = some (some (.int .u8 0), 1, 1))
    (m n : Nat) (hl : a.eval l = .int .i64 m) (hc : a.eval c = .int .i64 n) (hmn : m ≤ n) (b2 : n ≤ 281474976710656)
    (hK : ∀ w', Made w w' e (bv (List.replicate n 0)) → wpList P ops Q rest (a.put o.dst (.slice (some ⟨w.heap.size, 0, none⟩) m n)) w') :
    wpList P ops Q (o :: rest) a w := by
  refine wpList_plain hg fun K hK' => ?_
  obtain ⟨i, hi, hz, hs, hb⟩ := info_parts h2
  have hrun := run_make (P := P) w t e i (.int .u8 0) h1 hi hz .i64 .i64 m n (by omega) (by omega) (by rw [hb]; omega) (by omega)
  rw [hs, Int.toNat_natCast, Int.toNat_natCast, made_zero] at hrun
  unfold Oper.wp
  simp only [execOp, hop, hl, hc, hrun, Sem.run_bind, Sem.run_pure, Result.andThen_ok]
  exact hK' _ _ (hK _ rfl)

theorem wpList_string_bytes (w : World) {ops : Array Oper} {rest : List Oper} {o : Oper} {a : Act} {Q : Exit → Act → World → Prop}
    (hg : o.guard = none) (x : Operand) (src dst : TypeId) (hop : o.op = Op.convert src dst x) (e : TypeId) (hs : P.underlying src = some (.slice e)) (he : P.underlying e = some (.int .u8)) (hd : P.underlying dst = some .string)
    (b off n c : Nat) (hx : a.eval x = .slice (some ⟨b, off, none⟩) n c) (cs : List UInt8) (hn : cs.length = n) (hc : ∀ j v, cs[j]? = some v → w.cell? ⟨b, off + j, none⟩ = some (.int .u8 v.toNat))
    (hK : wpList P ops Q rest (a.put o.dst (.string (str cs))) w) :
    wpList P ops Q (o :: rest) a w := by
  refine wpList_plain hg fun K hK' => ?_
  have hrun := run_string_bytes (P := P) w src dst e ⟨b, off, none⟩ n c cs hs he hd hn (fun j v hv => by
    have := hc j v hv
    by_cases h0 : j = 0
    · subst h0; simpa [Addr.add] using this
    · simpa [Addr.add, h0] using this)
  unfold Oper.wp
  simp only [execOp, hop, hx, hrun, Sem.run_bind, Sem.run_pure, Result.andThen_ok]
  exact hK' _ _ hK
end

/-- a return of a struct that lies in a block known whole, and of one value more -/
theorem ret_cell_tmp {P : Program} {fn : Func} {p u : Tmp} {ty : TypeId} (h : fn.results = #[.cell p ty, .tmp u]) {a : Act} {w : World} {R : Ending → World → Prop} (g : Nat) (t : TypeId) (cs : Array Value) (d : TypeDesc)
    (hp : a.tmps.getD p undef = .pointer (some ⟨g, 0, none⟩)) (hb : Blk w g t cs) (hu : P.underlying ty = some d) (hd : (match d with | .struct _ | .array _ _ => true | _ => false) = true)
    (hi : (P.info? ty).map (·.size) = some cs.size) (hdf : a.defers = []) (hR : R (.returned (.tuple #[.agg cs, a.tmps.getD u undef])) w) : bodyPost P fn R .ret a w := by
  refine bodyPost_ret (v := .tuple #[.agg cs, a.tmps.getD u undef]) ?_ hdf hR
  rw [results_cell_tmp h, hp]
  simp [asAddr, run_loadVar_row w g t ty cs (0, 0) d hb hu hd hi]
theorem ret_cell {P : Program} {fn : Func} {p : Tmp} {ty : TypeId} (h : fn.results = #[.cell p ty]) {a : Act} {w : World} {R : Ending → World → Prop} (g : Nat) (t : TypeId) (cs : Array Value) (d : TypeDesc)
    (hp : a.tmps.getD p undef = .pointer (some ⟨g, 0, none⟩)) (hb : Blk w g t cs) (hu : P.underlying ty = some d) (hd : (match d with | .struct _ | .array _ _ => true | _ => false) = true)
    (hi : (P.info? ty).map (·.size) = some cs.size) (hdf : a.defers = []) (hR : R (.returned (.agg cs)) w) : bodyPost P fn R .ret a w :=
  bodyPost_ret (results_cell_row h _ w g t cs (0, 0) d hp hb hu hd hi) hdf hR
theorem Blk.new2 (w : World) (o : Obj) (t : TypeId) (cs : Array Value) : Blk ((w.alloc o).alloc (.cells cs t)) (w.heap.size + 1) t cs := by
  have := Blk.new (w.alloc o) t cs
  rwa [World.size_alloc] at this
theorem Keeps.setNew {S : Nat → Prop} {a b : World} (h : Keeps S a b) {g i : Nat} (hg : a.heap.size ≤ g) (u : Value) : Keeps S a (b.setCell ⟨g, i, none⟩ u) := h.setCell (fun hh => by have : g < a.heap.size := hh; omega) u
end Go.Proofs.YtkmpdobojgiegaaGreatDoor

/-
  Break sequences, plainly: the steps of a text. No program in sight.
-/
namespace Go.Proofs.YtkmpdobojgiegaaGreatDoor
open Go.RowKit

/-- a step: its kind (1: bytes, 2: a wait, 3: a break), its bytes, its ticks -/
structure Stp where
  kind : Int
  s : List UInt8
  n : Int
def digN (c : UInt8) : Option Nat := if 48 ≤ c.toNat ∧ c.toNat ≤ 57 then some (c.toNat - 48) else none
def hexN (c : UInt8) : Option Nat := if 48 ≤ c.toNat ∧ c.toNat ≤ 57 then some (c.toNat - 48) else if 97 ≤ c.toNat ∧ c.toNat ≤ 102 then some (c.toNat - 87) else none
/-- two signs as a number -/
def two (b : Nat) (f : UInt8 → Option Nat) : List UInt8 → Option (Nat × List UInt8)
  | x :: y :: r => match f x, f y with
    | some a, some d => some (b * a + d, r)
    | _, _ => none
  | _ => none
/-- the step that a backslash begins, and how many bytes it has -/
def escP : List UInt8 → Option (Stp × Nat)
  | [] => none
  | d :: u =>
    if d.toNat = 92 then some (⟨1, [92], 0⟩, 2)
    else if d.toNat = 114 then some (⟨1, [13], 0⟩, 2)
    else if d.toNat = 110 then some (⟨1, [10], 0⟩, 2)
    else if d.toNat = 116 then some (⟨1, [9], 0⟩, 2)
    else if d.toNat = 100 then some (⟨2, [], 1⟩, 2)
    else if d.toNat = 122 then some (⟨3, [], 0⟩, 2)
    else if d.toNat = 119 then (match two 10 digN u with
      | some (n, _) => if 0 < n then some (⟨2, [], n⟩, 4) else none
      | none => none)
    else if d.toNat = 120 then (match two 16 hexN u with
      | some (n, _) => some (⟨1, [UInt8.ofNat n], 0⟩, 4)
      | none => none)
    else none
/-- the step with which a text begins, and how many bytes it has -/
def stepP : List UInt8 → Option (Stp × Nat)
  | [] => none
  | c :: t => if c.toNat = 92 then escP t else if c.toNat < 32 ∨ 126 < c.toNat then none else some (⟨1, [c], 0⟩, 1)
/-- a step behind others: joined to the last one, if they are of a kind that is joined -/
def pushP (l : List Stp) (x : Stp) : List Stp := match l.getLast? with
  | some y => if y.kind = x.kind ∧ x.kind < 3 then l.dropLast ++ [⟨y.kind, y.s ++ x.s, y.n + x.n⟩] else l ++ [x]
  | none => [x]
def stepsP : Nat → List Stp → List UInt8 → Option (List Stp)
  | 0, out, _ => some out
  | f + 1, out, l => if l = [] then some out else match stepP l with
    | none => none
    | some (x, n) => stepsP f (pushP out x) (l.drop n)
/-- a break sequence: its code, its steps -/
def brkP (l : List UInt8) : Int × List Stp := if 255 < l.length then (5, []) else match stepsP l.length [] l with
  | none => (3, [])
  | some out => (0, out)
end Go.Proofs.YtkmpdobojgiegaaGreatDoor

/-
  A slice that the call itself makes and appends to, as a list of one-cell values. No program in sight.
-/
namespace Go.Proofs.YtkmpdobojgiegaaGreatDoor
open Go.RowKit

/-- the slice value v, of element type e, owns the cells vs, in blocks from B on -/
def OwnL (w : World) (B : Nat) (e : TypeId) (v : Value) (vs : List Value) : Prop := w.ownsRow B e 1 v vs.length vs

theorem OwnL.none_ (w : World) (B : Nat) (e : TypeId) : OwnL w B e (.slice none 0 0) [] := World.ownsRow_nil w B e 1

theorem OwnL.keeps {w w' : World} {B : Nat} {e : TypeId} {v : Value} {vs : List Value} {S : Nat → Prop} (h : OwnL w B e v vs) (k : Keeps S w w') (hS : ∀ i, B ≤ i → i < w.heap.size → ¬ S i) : OwnL w' B e v vs := by
  refine ⟨h.1, ?_⟩
  rcases h.2 with h2 | ⟨g, cap, cur, hv, hg, hh, r⟩
  · exact .inl h2
  · have hlt : g < w.heap.size := by
      rcases Nat.lt_or_ge g w.heap.size with hlt | hge
      · exact hlt
      · rw [Array.getElem?_eq_none hge] at hh; cases hh
    exact .inr ⟨g, cap, cur, hv, hg, (k.block g hlt (hS g hg hlt)).trans hh, r⟩

/-- its shape, and its cells -/
theorem OwnL.shape {w : World} {B : Nat} {e : TypeId} {v : Value} {vs : List Value} (h : OwnL w B e v vs) :
    ∃ a cap, v = .slice a vs.length cap ∧ vs.length ≤ cap ∧ cap ≤ maxLen ∧ (0 < vs.length → ∃ g, a = some ⟨g, 0, none⟩ ∧ B ≤ g ∧ g < w.heap.size) ∧
      ∀ g, a = some ⟨g, 0, none⟩ → ∀ j u, vs[j]? = some u → w.cell? ⟨g, j, none⟩ = some u ∧ w.frozen? ⟨g, j, none⟩ = false := by
  rcases h.2 with ⟨rfl, h2⟩ | ⟨g, cap, cur, rfl, hg, hh, h1, h2, h3, h4⟩
  · refine ⟨none, 0, by rw [h2], by omega, by unfold maxLen; omega, fun h => by omega, fun g hg => by cases hg⟩
  · have hlt : g < w.heap.size := by
      rcases Nat.lt_or_ge g w.heap.size with hlt | hge
      · exact hlt
      · rw [Array.getElem?_eq_none hge] at hh; cases hh
    refine ⟨some ⟨g, 0, none⟩, cap, rfl, h1, h2, fun _ => ⟨g, rfl, hg, hlt⟩, fun g' hg' j u hu => ?_⟩
    injection hg' with hg'
    injection hg' with hg'
    subst hg'
    have hj : j < vs.length := (List.getElem?_eq_some_iff.1 hu).1
    refine ⟨?_, frozen_of_row w g j cur e hh⟩
    rw [cell_of_row w g j cur e (0, 0) hh, ← hu, ← h4, List.getElem?_take, if_pos (by omega)]
    simp

theorem OwnL.ownBlk {w : World} {B : Nat} {e : TypeId} {v : Value} {vs : List Value} (h : OwnL w B e v vs) : ∀ k, v.ownBlock = some k → ∃ cs, Blk w k e cs := by
  intro k hk
  rcases h.2 with ⟨rfl, h2⟩ | ⟨g, cap, cur, rfl, hg, hh, _⟩
  · simp [Value.ownBlock] at hk
  · simp [Value.ownBlock] at hk
    subst hk
    exact ⟨_, hh⟩

section
variable {P : Program}
theorem OwnL.made (w : World) (e : TypeId) (cs : Array Value) (cap : Nat) (hs : cs.size = cap) (hm : cap ≤ maxLen) : OwnL (w.alloc (.cells cs e)) w.heap.size e (.slice (some ⟨w.heap.size, 0, none⟩) 0 cap) [] :=
  World.ownsRow_made w cs cap (Nat.le_refl _) hm (by omega)
theorem OwnL.more {w : World} {B B' : Nat} {e : TypeId} {v : Value} {vs : List Value} (h : OwnL w B e v vs) (hB : B' ≤ B) : OwnL w B' e v vs := by
  refine ⟨h.1, ?_⟩
  rcases h.2 with h2 | ⟨g, cap, cur, hv, hg, r⟩
  · exact .inl h2
  · exact .inr ⟨g, cap, cur, hv, by omega, r⟩

/-- append of one value, the frame by types; one value, which lies in a block of its own -/
theorem wpList_append_onet {w : World} {ops : Array Oper} {rest : List Oper} {o : Oper} {a : Act} {Q : Exit → Act → World → Prop} (hgd : o.guard = none) (s x : Operand) (t : TypeId)
    (ho : o.op = .call { callee := .builtin .append, args := #[s, x], argTypes := #[t, t] }) (B : Nat) (e : TypeId) (z : Value) (bytes : Nat) (ht : P.underlying t = some (.slice e))
    (hi : (P.info? e).map (fun i => (i.zero, i.size, i.bytes)) = some (some z, 1, bytes)) (hz : z.cells.size = 1) (hb16 : bytes ≤ 4096)
    (v : Value) (vs : List Value) (hs : a.eval s = v) (hown : OwnL w B e v vs) (ad : Addr) (c : Nat) (u : Value) (hx : a.eval x = .slice (some ad) 1 c) (hu : w.cell? ad = some u) (h1 : u.oneCell' = true)
    (hlen : vs.length ≤ 17179869184) (hbase : B ≤ w.heap.size)
    (h : ∀ v' w', OwnL w' B e v' (vs ++ [u]) → Keeps (fun i => B ≤ i ∧ ∃ cs, Blk w i e cs) w w' → wpList P ops Q rest (a.put o.dst v') w') : wpList P ops Q (o :: rest) a w := by
  refine wpList_plain hgd fun K hK => ?_
  obtain ⟨i, hi0, hzi, hsi, hbi⟩ := info_parts hi
  obtain ⟨v', w', hrun, h2, h3, -⟩ := run_append_own (P := P) w B t o.type e i z 1 bytes ht hi0 hzi hsi hbi hz (by omega) v vs.length vs hown ad 1 c [u] rfl (by
    intro j y hj
    match j, hj with
    | 0, hj => simp at hj; subst hj; simpa [Addr.add] using hu
    | j + 1, hj => simp at hj) (by intro y hy; simp at hy; subst hy; exact h1) (by unfold maxLen; omega) (by
      have := Nat.mul_le_mul (show vs.length + 1 ≤ 17179869185 by omega) hb16
      omega) hbase
  unfold Oper.wp
  simp only [execOp, ho, resolve, invoke, builtin, Sem.run_bind, Sem.run_pure, Result.andThen_ok, List.map_toArray, List.map_cons, List.map_nil, hs, hx, hrun]
  refine hK _ _ (h v' w' (by unfold OwnL; simpa using h2) ((Keeps.refl _ _).grown h3 (fun k hk _ => ?_)))
  exact ⟨(hown.lt k hk).1, hown.ownBlk k hk⟩

/-- append of one value, which lies in a block of its own -/
theorem wpList_append_one {w : World} {ops : Array Oper} {rest : List Oper} {o : Oper} {a : Act} {Q : Exit → Act → World → Prop} (hgd : o.guard = none) (s x : Operand) (t : TypeId)
    (ho : o.op = .call { callee := .builtin .append, args := #[s, x], argTypes := #[t, t] }) (B : Nat) (e : TypeId) (z : Value) (bytes : Nat) (ht : P.underlying t = some (.slice e))
    (hi : (P.info? e).map (fun i => (i.zero, i.size, i.bytes)) = some (some z, 1, bytes)) (hz : z.cells.size = 1) (hb16 : bytes ≤ 4096)
    (v : Value) (vs : List Value) (hs : a.eval s = v) (hown : OwnL w B e v vs) (ad : Addr) (c : Nat) (u : Value) (hx : a.eval x = .slice (some ad) 1 c) (hu : w.cell? ad = some u) (h1 : u.oneCell' = true)
    (hlen : vs.length ≤ 17179869184) (hbase : B ≤ w.heap.size)
    (h : ∀ v' w', OwnL w' B e v' (vs ++ [u]) → Keeps (fun i => B ≤ i) w w' → wpList P ops Q rest (a.put o.dst v') w') : wpList P ops Q (o :: rest) a w :=
  wpList_append_onet hgd s x t ho B e z bytes ht hi hz hb16 v vs hs hown ad c u hx hu h1 hlen hbase fun v' w' ho k => h v' w' ho (k.mono fun _ _ h => h.1)

/-- make of an empty slice with room for c elements -/
theorem wpList_make_empty {w : World} {ops : Array Oper} {rest : List Oper} {o : Oper} {a : Act} {Q : Exit → Act → World → Prop}
    (hg : o.guard = none) (l c : Operand) (t : TypeId) (hop : o.op = Op.makeSlice t l c) (e : TypeId) (z : Value) (bytes : Nat)
    (h1 : P.underlying t = some (.slice e)) (h2 : (P.info? e).map (fun i => (i.zero, i.size, i.bytes)) = some (some z, 1, bytes)) (hb : bytes ≤ 4096)
    (C : Int) (kl : IntKind) (hl : a.eval l = .int kl 0) (hc : a.eval c = .int .i64 C) (h0 : 0 ≤ C) (b2 : C ≤ 17179869184)
    (hK : ∀ w', OwnL w' w.heap.size e (.slice (some ⟨w.heap.size, 0, none⟩) 0 C.toNat) [] → Keeps (fun _ => False) w w' → w'.heap.size = w.heap.size + 1 → wpList P ops Q rest (a.put o.dst (.slice (some ⟨w.heap.size, 0, none⟩) 0 C.toNat)) w') :
    wpList P ops Q (o :: rest) a w := by
  refine wpList_plain hg fun K hK' => ?_
  obtain ⟨i, hi, hzz, hs, hbb⟩ := info_parts h2
  have hmul : (i.bytes : Int) * C ≤ 281474976710656 := by
    rw [hbb]
    have h3 : (bytes : Int) * C ≤ (4096 : Int) * C := Int.mul_le_mul_of_nonneg_right (by omega) h0
    omega
  have hrun := run_make (P := P) w t e i z h1 hi hzz kl .i64 0 C (by omega) (by omega) hmul (by omega)
  rw [hs] at hrun
  unfold Oper.wp
  simp only [execOp, hop, hl, hc, hrun, Sem.run_bind, Sem.run_pure, Result.andThen_ok]
  refine hK' _ _ (hK _ (OwnL.made w e _ _ (by simp [madeCells]) (by unfold maxLen; omega)) ((Keeps.refl _ _).alloc _) (by simp))

/-- a string out of bytes that the call itself gathered -/
theorem wpList_string_own {w : World} {ops : Array Oper} {rest : List Oper} {o : Oper} {a : Act} {Q : Exit → Act → World → Prop}
    (hg : o.guard = none) (x : Operand) (src dst : TypeId) (hop : o.op = Op.convert src dst x) (e : TypeId) (hs : P.underlying src = some (.slice e)) (he : P.underlying e = some (.int .u8)) (hd : P.underlying dst = some .string)
    (B : Nat) (v : Value) (cs : List UInt8) (hx : a.eval x = v) (hown : OwnL w B e v (cs.map fun c => Value.int .u8 c.toNat))
    (hK : wpList P ops Q rest (a.put o.dst (.string (str cs))) w) :
    wpList P ops Q (o :: rest) a w := by
  refine wpList_plain hg fun K hK' => ?_
  obtain ⟨ad, cap, hv, h1, h2, h3, h4⟩ := hown.shape
  have hrun : (convert src dst v).run P w = .ok (.string (str cs)) w := by
    rw [hv]
    rcases Nat.eq_zero_or_pos cs.length with h0 | h0
    · obtain rfl : cs = [] := List.eq_nil_of_length_eq_zero h0
      rw [run_convert_bytes_string w src dst e _ _ cap hs he hd]
      cases ad with
      | none => rfl
      | some q => rfl
    · obtain ⟨g, rfl, hB, hlt⟩ := h3 (by simpa using h0)
      refine run_string_bytes w src dst e ⟨g, 0, none⟩ _ cap cs hs he hd (by simp) (fun j c hj => ?_)
      have := (h4 g rfl j (.int .u8 c.toNat) (by simp [hj])).1
      by_cases hz : j = 0
      · subst hz; simpa [Addr.add] using this
      · simpa [Addr.add, hz] using this
  unfold Oper.wp
  simp only [execOp, hop, hx, hrun, Sem.run_bind, Sem.run_pure, Result.andThen_ok]
  exact hK' _ _ hK
end
end Go.Proofs.YtkmpdobojgiegaaGreatDoor

/-
  A slice that the call itself makes and appends to, whose elements have several cells each. No program in sight.
-/
namespace Go.Proofs.YtkmpdobojgiegaaGreatDoor
open Go.RowKit

/-- the slice value v, of element type e (size cells each), owns the elements xs, in blocks from B on -/
def OwnS {α : Type} (R : α → List Value) (size : Nat) (w : World) (B : Nat) (e : TypeId) (v : Value) (xs : List α) : Prop := w.ownsRow B e size v xs.length (xs.map R).flatten

section
variable {α : Type} {R : α → List Value} {size : Nat} {w w' : World} {B : Nat} {e : TypeId} {v : Value} {xs : List α}
theorem OwnS.none_ : OwnS R size w B e (.slice none 0 0) [] := World.ownsRow_nil w B e size

theorem OwnS.ownBlk (h : OwnS R size w B e v xs) : ∀ k, v.ownBlock = some k → ∃ cs, Blk w k e cs := by
  intro k hk
  rcases h.2 with ⟨rfl, h2⟩ | ⟨g, cap, cur, rfl, hg, hh, _⟩
  · simp [Value.ownBlock] at hk
  · simp [Value.ownBlock] at hk
    subst hk
    exact ⟨_, hh⟩

theorem OwnS.moreS {B' : Nat} (h : OwnS R size w B e v xs) (hB : B' ≤ B) : OwnS R size w B' e v xs := by
  refine ⟨h.1, ?_⟩
  rcases h.2 with h2 | ⟨g, cap, cur, hv, hg, r⟩
  · exact .inl h2
  · exact .inr ⟨g, cap, cur, hv, by omega, r⟩
theorem OwnS.keeps {S : Nat → Prop} (h : OwnS R size w B e v xs) (k : Keeps S w w') (hS : ∀ i, B ≤ i → i < w.heap.size → (∃ cs, Blk w i e cs) → ¬ S i) : OwnS R size w' B e v xs := by
  refine ⟨h.1, ?_⟩
  rcases h.2 with h2 | ⟨g, cap, cur, hv, hg, hh, r⟩
  · exact .inl h2
  · have hlt : g < w.heap.size := by
      rcases Nat.lt_or_ge g w.heap.size with hlt | hge
      · exact hlt
      · rw [Array.getElem?_eq_none hge] at hh; cases hh
    exact .inr ⟨g, cap, cur, hv, hg, (k.block g hlt (hS g hg hlt ⟨_, hh⟩)).trans hh, r⟩

theorem flat_get (hR : ∀ x, (R x).length = size) (xs : List α) : ∀ (i : Nat) (x : α) (j : Nat) (u : Value), xs[i]? = some x → (R x)[j]? = some u → (xs.map R).flatten[i * size + j]? = some u := by
  induction xs with
  | nil => intro i x j u h; simp at h
  | cons y ys ih =>
    intro i x j u hx hu
    rw [List.map_cons, List.flatten_cons]
    cases i with
    | zero =>
      simp at hx; subst hx
      rw [Nat.zero_mul, Nat.zero_add, List.getElem?_append_left (List.getElem?_eq_some_iff.1 hu).1]; exact hu
    | succ i =>
      simp at hx
      have hj : j < size := by rw [← hR x]; exact (List.getElem?_eq_some_iff.1 hu).1
      rw [List.getElem?_append_right (by rw [hR, Nat.succ_mul]; omega), hR, show (i + 1) * size + j - size = i * size + j by rw [Nat.succ_mul]; omega]
      exact ih i x j u hx hu
theorem flat_len (hR : ∀ x, (R x).length = size) (xs : List α) : (xs.map R).flatten.length = xs.length * size := by
  induction xs with
  | nil => simp
  | cons y ys ih => rw [List.map_cons, List.flatten_cons, List.length_append, ih, hR, List.length_cons, Nat.succ_mul]; omega

/-- its shape, and its cells -/
theorem OwnS.shape (h : OwnS R size w B e v xs) (hR : ∀ x, (R x).length = size) :
    ∃ a cap, v = .slice a xs.length cap ∧ xs.length ≤ cap ∧ cap ≤ maxLen ∧ (0 < xs.length → ∃ g, a = some ⟨g, 0, none⟩ ∧ B ≤ g ∧ g < w.heap.size ∧ ∃ cs, Blk w g e cs) ∧
      ∀ g, a = some ⟨g, 0, none⟩ → ∀ (i : Nat) (x : α) (j : Nat) (u : Value), xs[i]? = some x → (R x)[j]? = some u → w.cell? ⟨g, i * size + j, none⟩ = some u ∧ w.frozen? ⟨g, i * size + j, none⟩ = false := by
  rcases h.2 with ⟨rfl, h2⟩ | ⟨g, cap, cur, rfl, hg, hh, h1, h2, h3, h4⟩
  · refine ⟨none, 0, by rw [h2], by omega, by unfold maxLen; omega, fun h => by omega, fun g hg => by cases hg⟩
  · have hlt : g < w.heap.size := by
      rcases Nat.lt_or_ge g w.heap.size with hlt | hge
      · exact hlt
      · rw [Array.getElem?_eq_none hge] at hh; cases hh
    refine ⟨some ⟨g, 0, none⟩, cap, rfl, h1, h2, fun _ => ⟨g, rfl, hg, hlt, _, hh⟩, fun g' hg' i x j u hx hu => ?_⟩
    injection hg' with hg'
    injection hg' with hg'
    subst hg'
    refine ⟨?_, frozen_of_row w g _ cur e hh⟩
    have hf := flat_get hR xs i x j u hx hu
    have hl : i * size + j < xs.length * size := by rw [← flat_len hR xs]; exact (List.getElem?_eq_some_iff.1 hf).1
    rw [cell_of_row w g _ cur e (0, 0) hh, ← hf, ← h4, List.getElem?_take, if_pos hl]
    simp
theorem OwnS.sl (h : OwnS R size w B e v xs) : ∃ a cap, v = .slice a xs.length cap := by
  rcases h.2 with ⟨rfl, h2⟩ | ⟨g, cap, cur, rfl, _⟩
  · exact ⟨none, 0, by rw [h2]⟩
  · exact ⟨_, _, rfl⟩
end

section
variable {P : Program} {α : Type}
/-- append of one element, which lies in a block of its own; the frame by types -/
theorem wpList_append_st (R : α → List Value) (size : Nat) (hR : ∀ x, (R x).length = size) (hsz : 0 < size) {w : World} {ops : Array Oper} {rest : List Oper} {o : Oper} {a : Act} {Q : Exit → Act → World → Prop} (hgd : o.guard = none) (s x : Operand) (t : TypeId)
    (ho : o.op = .call { callee := .builtin .append, args := #[s, x], argTypes := #[t, t] }) (B : Nat) (e : TypeId) (z : Value) (bytes : Nat) (ht : P.underlying t = some (.slice e))
    (hi : (P.info? e).map (fun i => (i.zero, i.size, i.bytes)) = some (some z, size, bytes)) (hz : z.cells.size = size) (hb16 : bytes ≤ 4096)
    (v : Value) (xs : List α) (hs : a.eval s = v) (hown : OwnS R size w B e v xs) (g c : Nat) (y : α) (hx : a.eval x = .slice (some ⟨g, 0, none⟩) 1 c) (hu : Blk w g e (R y).toArray) (h1 : ∀ u ∈ R y, u.oneCell' = true)
    (hlen : xs.length ≤ 17179869184) (hbase : B ≤ w.heap.size)
    (h : ∀ v' w', OwnS R size w' B e v' (xs ++ [y]) → Keeps (fun i => B ≤ i ∧ ∃ cs, Blk w i e cs) w w' → wpList P ops Q rest (a.put o.dst v') w') : wpList P ops Q (o :: rest) a w := by
  refine wpList_plain hgd fun K hK => ?_
  obtain ⟨i, hi0, hzi, hsi, hbi⟩ := info_parts hi
  obtain ⟨v', w', hrun, h2, h3, -⟩ := run_append_own (P := P) w B t o.type e i z size bytes ht hi0 hzi hsi hbi hz hsz v xs.length _ hown ⟨g, 0, none⟩ 1 c (R y) (by rw [hR]; simp) (by
    intro j u hj
    have := hu.cell j
    rw [List.getElem?_toArray, hj] at this
    by_cases h0 : j = 0
    · subst h0; simpa [Addr.add] using this
    · simpa [Addr.add, h0] using this) h1 (by unfold maxLen; omega) (by
      have := Nat.mul_le_mul (show xs.length + 1 ≤ 17179869185 by omega) hb16
      omega) hbase
  unfold Oper.wp
  simp only [execOp, ho, resolve, invoke, builtin, Sem.run_bind, Sem.run_pure, Result.andThen_ok, List.map_toArray, List.map_cons, List.map_nil, hs, hx, hrun]
  refine hK _ _ (h v' w' (by unfold OwnS; simpa using h2) ((Keeps.refl _ _).grown h3 (fun k hk _ => ⟨(hown.lt k hk).1, hown.ownBlk k hk⟩)))
end

section
variable {P : Program} {α : Type}
/-- append of one element, at the operation: the new value written out -/
theorem wp_append_st (R : α → List Value) (size : Nat) (hR : ∀ x, (R x).length = size) (hsz : 0 < size) {w : World} {o : Oper} {a : Act} {K : Act → World → Prop} {Q : Exit → Act → World → Prop} (s x : Operand) (t : TypeId)
    (ho : o.op = .call { callee := .builtin .append, args := #[s, x], argTypes := #[t, t] }) (B : Nat) (e : TypeId) (z : Value) (bytes : Nat) (ht : P.underlying t = some (.slice e))
    (hi : (P.info? e).map (fun i => (i.zero, i.size, i.bytes)) = some (some z, size, bytes)) (hz : z.cells.size = size) (hb16 : bytes ≤ 4096)
    (v : Value) (xs : List α) (hs : a.eval s = v) (hown : OwnS R size w B e v xs) (g c : Nat) (y : α) (hx : a.eval x = .slice (some ⟨g, 0, none⟩) 1 c) (hu : Blk w g e (R y).toArray) (h1 : ∀ u ∈ R y, u.oneCell' = true)
    (hlen : xs.length ≤ 17179869184) (hbase : B ≤ w.heap.size)
    (h : ∀ g' cap' w', OwnS R size w' B e (.slice (some ⟨g', 0, none⟩) (xs.length + 1) cap') (xs ++ [y]) → Keeps (fun i => v.ownBlock = some i) w w' → (v.ownBlock = some g' ∨ g' = w.heap.size) → K (a.put o.dst (.slice (some ⟨g', 0, none⟩) (xs.length + 1) cap')) w') : o.wp P a w K Q := by
  obtain ⟨i, hi0, hzi, hsi, hbi⟩ := info_parts hi
  refine wp_append_lies (P := P) w s x t ho B e i z size bytes ht hi0 hzi hsi hbi hz hsz v xs.length _ hs hown ⟨g, 0, none⟩ 1 c (R y) hx (by rw [hR]; simp) (by
    intro j u hj
    have := hu.cell j
    rw [List.getElem?_toArray, hj] at this
    by_cases h0 : j = 0
    · subst h0; simpa [Addr.add] using this
    · simpa [Addr.add, h0] using this) h1 (by omega) (by unfold maxLen; omega) (by
      have := Nat.mul_le_mul (show xs.length + 1 ≤ 17179869185 by omega) hb16
      omega) hbase _ rfl ?_
  intro g' cap' w' h2 h3 h4 _
  exact h g' cap' w' (by unfold OwnS; simpa using h2) ((Keeps.refl _ _).grown h3 (fun k hk _ => hk)) h4

/-- .. at a step of a region that draws its order -/
theorem step_append_st (R : α → List Value) (size : Nat) (hR : ∀ x, (R x).length = size) (hsz : 0 < size) {w : World} {ops : Array Oper} {o : Oper} {a : Act} {K : Act → World → Prop} {Q : Exit → Act → World → Prop} {E : Prop} (hgd : o.guard = none) (s x : Operand) (t : TypeId)
    (ho : o.op = .call { callee := .builtin .append, args := #[s, x], argTypes := #[t, t] }) (B : Nat) (e : TypeId) (z : Value) (bytes : Nat) (ht : P.underlying t = some (.slice e))
    (hi : (P.info? e).map (fun i => (i.zero, i.size, i.bytes)) = some (some z, size, bytes)) (hz : z.cells.size = size) (hb16 : bytes ≤ 4096)
    (v : Value) (xs : List α) (hs : a.eval s = v) (hown : OwnS R size w B e v xs) (g c : Nat) (y : α) (hx : a.eval x = .slice (some ⟨g, 0, none⟩) 1 c) (hu : Blk w g e (R y).toArray) (h1 : ∀ u ∈ R y, u.oneCell' = true)
    (hlen : xs.length ≤ 17179869184) (hbase : B ≤ w.heap.size)
    (h : ∀ g' cap' w', OwnS R size w' B e (.slice (some ⟨g', 0, none⟩) (xs.length + 1) cap') (xs ++ [y]) → Keeps (fun i => v.ownBlock = some i) w w' → (v.ownBlock = some g' ∨ g' = w.heap.size) → K (a.put o.dst (.slice (some ⟨g', 0, none⟩) (xs.length + 1) cap')) w') :
    if Region.wanted o (yielded ops a.tmps) = true then Oper.wp P o a w K Q else E := by
  have hw : Region.wanted o (yielded ops a.tmps) = true := by simp [Region.wanted, hgd]
  rw [if_pos hw]
  exact wp_append_st R size hR hsz s x t ho B e z bytes ht hi hz hb16 v xs hs hown g c y hx hu h1 hlen hbase h
end
end Go.Proofs.YtkmpdobojgiegaaGreatDoor

/-
  Own slices, the frame by types: bytes as values, an iterator's block, growth seen through a new block.
-/
namespace Go.Proofs.YtkmpdobojgiegaaGreatDoor
open Go.RowKit

/-- bytes as values -/
def u8Vs (l : List UInt8) : List Value := l.map fun c => Value.int .u8 c.toNat
theorem u8Vs_len (l : List UInt8) : (u8Vs l).length = l.length := by simp [u8Vs]
theorem OwnL.keepsT {w w' : World} {B : Nat} {e : TypeId} {v : Value} {vs : List Value} {S : Nat → Prop} (h : OwnL w B e v vs) (k : Keeps S w w') (hS : ∀ i, B ≤ i → (∃ cs, Blk w i e cs) → ¬ S i) : OwnL w' B e v vs := by
  refine ⟨h.1, ?_⟩
  rcases h.2 with h2 | ⟨g, cap, cur, hv, hg, hh, r⟩
  · exact .inl h2
  · have hlt : g < w.heap.size := by
      rcases Nat.lt_or_ge g w.heap.size with hlt | hge
      · exact hlt
      · rw [Array.getElem?_eq_none hge] at hh; cases hh
    exact .inr ⟨g, cap, cur, hv, hg, (k.block g hlt (hS g hg ⟨_, hh⟩)).trans hh, r⟩
theorem OwnL.sl' {w : World} {B : Nat} {e : TypeId} {v : Value} {vs : List Value} (h : OwnL w B e v vs) : ∃ a cap, v = .slice a vs.length cap := by
  obtain ⟨a, cap, hv, -⟩ := h.shape; exact ⟨a, cap, hv⟩
end Go.Proofs.YtkmpdobojgiegaaGreatDoor

/-
  The pieces of a text, as functions on lists of bytes. No program in sight.
-/
namespace Go.Proofs.YtkmpdobojgiegaaGreatDoor
open Go.RowKit

/-- a piece: its kind, what it says, its line -/
structure Pc where
  kind : Int
  text : ByteArray
  line : Int
end Go.Proofs.YtkmpdobojgiegaaGreatDoor

/-
  The statements of a text, plainly: what a text's pieces are as_ statements; a line of notes ahead makes all lines one more. No program in sight.
-/
namespace Go.Proofs.YtkmpdobojgiegaaGreatDoor
open Go.RowKit

/-- a statement: its key, its arguments, whether it has a block, the statements of that, its line -/
inductive Nd where
  | mk (key : ByteArray) (args : List ByteArray) (block : Bool) (list : List Nd) (line : Int)
/-! one line further on -/
mutual
/-- the same, but for lines -/
def sameN : Nd → Nd → Prop
  | .mk k a b l _, .mk k' a' b' l' _ => k = k' ∧ a = a' ∧ b = b' ∧ sameL l l'
def sameL : List Nd → List Nd → Prop
  | [], [] => True
  | x :: xs, y :: ys => sameN x y ∧ sameL xs ys
  | _, _ => False
end
end Go.Proofs.YtkmpdobojgiegaaGreatDoor

/-
  Numbers in decimal, as lists of bytes. No program in sight.
-/
namespace Go.Proofs.YtkmpdobojgiegaaGreatDoor
open Go.RowKit

/-- a digit's sign -/
def digc (n : Nat) : UInt8 := UInt8.ofNat (48 + n)
theorem digc_nat {n : Nat} (h : n < 10) : (digc n).toNat = 48 + n := by unfold digc; rw [UInt8.toNat_ofNat_of_lt' (by show 48 + n < 256; omega)]
/-- a number's digits -/
def decN (n : Nat) : List UInt8 := if n < 10 then [digc n] else decN (n / 10) ++ [digc (n % 10)]
theorem decN_small {n : Nat} (h : n < 10) : decN n = [digc n] := by rw [decN, if_pos h]
theorem decN_big {n : Nat} (h : 10 ≤ n) : decN n = decN (n / 10) ++ [digc (n % 10)] := by rw [decN, if_neg (by omega)]
/-- a number with its sign -/
def dec (n : Int) : List UInt8 := if n < 0 then 45 :: decN (-n).toNat else decN n.toNat
theorem dec_neg {n : Int} (h : n < 0) : dec n = 45 :: decN (-n).toNat := by rw [dec, if_pos h]
theorem dec_pos {n : Int} (h : 0 ≤ n) : dec n = decN n.toNat := by rw [dec, if_neg (by omega)]
theorem decN_pos (n : Nat) : 0 < (decN n).length := by rw [decN]; split <;> simp
theorem decN_len (n k : Nat) : n < 10 ^ (k + 1) → (decN n).length ≤ k + 1 := by
  induction k generalizing n with
  | zero => intro h; rw [decN_small (by simpa using h)]; simp
  | succ k ih =>
    intro h
    by_cases h1 : n < 10
    · rw [decN_small h1]; simp
    · rw [decN_big (by omega), List.length_append]
      have := ih (n / 10) (by rw [Nat.pow_succ] at h; omega)
      simp; omega
theorem decN_le {n : Nat} (h : n ≤ 9223372036854775808) : (decN n).length ≤ 19 := decN_len n 18 (by omega)
theorem dec_le {n : Int} (h1 : -9223372036854775808 ≤ n) (h2 : n ≤ 9223372036854775807) : (dec n).length ≤ 20 := by
  unfold dec; split
  · have := decN_le (n := (-n).toNat) (by omega); simp; omega
  · have := decN_le (n := n.toNat) (by omega); omega
/-- digits are digits -/
theorem decN_dig (n : Nat) : ∀ c ∈ decN n, 48 ≤ c.toNat ∧ c.toNat ≤ 57 := by
  induction n using Nat.strongRecOn with
  | _ n ih =>
    intro c hc
    by_cases h : n < 10
    · rw [decN_small h] at hc
      rw [List.mem_singleton] at hc; subst hc
      rw [digc_nat h]; omega
    · rw [decN_big (by omega)] at hc
      rcases List.mem_append.1 hc with hc | hc
      · exact ih (n / 10) (by omega) c hc
      · rw [List.mem_singleton] at hc; subst hc
        rw [digc_nat (by omega)]; omega
/-- the last digit put ahead of what was put: a round of the loop that fills a row from its end -/
theorem dec_round (N at_ : Nat) (L : List UInt8) (h1 : at_ ≤ L.length) (h0 : 0 < at_) :
    (L.set (at_ - 1) (digc (N % 10))).drop (at_ - 1) = digc (N % 10) :: L.drop at_ := by
  obtain ⟨k, rfl⟩ : ∃ k, at_ = k + 1 := ⟨at_ - 1, by omega⟩
  simp only [Nat.add_sub_cancel]
  rw [List.drop_eq_getElem_cons (by simp; omega)]
  simp [List.drop_set_of_lt]
theorem tmod_neg (N : Nat) : (-(N : Int)).tmod 10 = -((N % 10 : Nat) : Int) := by
  rw [Int.neg_tmod, Int.tmod_eq_emod_of_nonneg (by omega)]; simp
theorem tdiv_neg (N : Nat) : (-(N : Int)).tdiv 10 = -((N / 10 : Nat) : Int) := by
  rw [Int.neg_tdiv, Int.tdiv_eq_ediv_of_nonneg (by omega)]; simp
theorem bv_set (L : List UInt8) (i : Nat) (c : UInt8) : (bv L).setIfInBounds i (.int .u8 c.toNat) = bv (L.set i c) := by
  unfold bv
  apply Array.ext'
  simp [List.map_set]
end Go.Proofs.YtkmpdobojgiegaaGreatDoor

/-
  digit.small and digit.Put, and the document's Put: a number in decimal.
-/
namespace Go.Proofs.YtkmpdobojgiegaaGreatDoor
open Go.RowKit

/-- a scope with one label to which the run jumps back: what follows the label is walked once -/
theorem wp_scope_both {P : Program} {a : Act} {w : World} {Q : Exit → Act → World → Prop} {c rest : Code} (l : Nat) (J : Act → World → Prop) (μ : Act → World → Nat) (hf : findLabel c l = some (.seq .skip rest))
    (pass : ∀ a w, J a w → rest.wp P (Exit.jump l (fun a' w' => J a' w' ∧ μ a' w' < μ a w) Q) a w)
    (first : Hid (∀ a w, J a w → rest.wp P (Exit.jump l J Q) a w) → c.wp P (Exit.jump l J Q) a w) : (Code.scope c).wp P Q a w :=
  wp_scope_jumps l J μ hf (first fun a w h => wp_mono (pass a w h) fun e a' w' hq => by
    cases e <;> first | exact hq | exact ⟨hq.1, hq.2.1⟩) fun a w h => wp_seq (wp_skip (pass a w h))

theorem add_plain' (b off k : Nat) : (⟨b, off, none⟩ : Addr).add k = ⟨b, off + k, none⟩ := by
  unfold Addr.add
  split <;> simp_all
/-- a slice of an array of one-cell values, from l on -/
theorem arr_from (P : Program) (w : World) (t : TypeId) (g n : Nat) (l : Int) {e : TypeId} (hu : P.underlying t = some (.array n e)) (hs : (P.info? e).map (·.size) = some 1) (h0 : 0 ≤ l) (h1 : l < n) :
    (Instr.sliceAt t (.pointer (some ⟨g, 0, none⟩)) (some (.int .i64 l)) none none).run P w = .ok (.slice (some ⟨g, l.toNat, none⟩) (n - l.toNat) (n - l.toNat)) w := by
  have hl : P.arrayLen t = n := by simp [Program.arrayLen, hu]
  have he : P.elem t = e := by simp [Program.elem, hu]
  cases hq : P.info? e with
  | none => simp [hq] at hs
  | some i =>
    have hi : i.size = 1 := by simpa [hq] using hs
    rw [run_sliceAt_array_l w t ⟨g, 0, none⟩ (by rw [hl, he]; exact hu) .i64 l h0 (by rw [hl]; omega), he, hl]
    simp [sizeOf, typeInfo, hq, hi, slicedAt, add_plain']
    omega

theorem append_str' (a b : ByteArray) : (a ++ b).data.toList = a.data.toList ++ b.data.toList := by simp

def SmallJ (w : World) (g : Nat) (R : List UInt8) (a : Act) (w' : World) : Prop :=
  ∃ (N k : Nat) (L : List UInt8) (u0 u4 u1 u2 u5 u6 u7 u8 u9 u10 u11 u12 u13 u14 u15 u16 u17 u18 u19 : Value),
    a = ⟨#[u0, u1, u2, .pointer (some ⟨g, 0, none⟩), u4, u5, u6, u7, u8, u9, u10, u11, u12, u13, u14, u15, u16, u17, u18, u19], []⟩ ∧ u0 = .int .i64 (-(N : Int)) ∧ u4 = .int .i64 k ∧
    N ≤ 9223372036854775808 ∧ 1 ≤ k ∧ k ≤ 20 ∧ L.length = 20 ∧ N < 10 ^ k ∧ decN N ++ L.drop k = R ∧ Blk w' g 380 (bv L) ∧ Keeps (fun _ => False) w w' ∧ w.heap.size ≤ g
def SmallM (a : Act) (_w : World) : Nat := (intOf (a.tmps.getD 4 undef)).toNat

set_option maxRecDepth 100000 in
set_option maxHeartbeats 1000000 in
theorem small_any (w : World) (N : Nat) (hN : N ≤ 9223372036854775808) :
    Calls Tryz.prog 246 #[.int .i64 (-(N : Int))] w fun e w' => e = .returned (.string (str (decN N))) ∧ Keeps (fun _ => False) w w' := by
  go_enter Tryz.func246, Tryz.ntmps246
  go_wp2_with fail
  obtain ⟨g0, hg0⟩ : ∃ g0, g0 = w.heap.size := ⟨_, rfl⟩
  have HG := Lib.hid hg0
  clear hg0
  refine wp_scope_both 0 (SmallJ w g0 (decN N)) SmallM rfl ?pass ?first
  case pass =>
    rintro a w1 ⟨M, k, L, u0, u4, u1, u2, u5, u6, u7, u8, u9, u10, u11, u12, u13, u14, u15, u16, u17, u18, u19, rfl, rfl, rfl, hM, hk1, hk2, hL, hp, hR, hB, hK, hg⟩
    have hr := dec_round M k L (by omega) (by omega)
    have h1 := tmod_neg M
    have h2 := tdiv_neg M
    obtain ⟨c0, hc⟩ : ∃ c0, w1.cell? ⟨g0, k - 1, none⟩ = some c0 := ⟨_, bv_cell hB (k - 1) L[k - 1] (List.getElem?_eq_getElem (by omega))⟩
    have hf := hB.frozen (k - 1)
    have hp1 : 10 ^ k = 10 ^ (k - 1) * 10 := by rw [← Nat.pow_succ]; congr 1; omega
    have hB2 := hB.set_ (k - 1) (.int .u8 ((digc (M % 10)).toNat : Nat))
    rw [bv_set] at hB2
    have he : (((digc (M % 10)).toNat : Nat) : Int) = 48 + (M : Int) % 10 := by
      rw [digc_nat (by omega)]; omega
    rw [he] at hB2
    have hK2 := hK.setCell (p := ⟨g0, k - 1, none⟩) (fun h => absurd h (by show ¬ g0 < w.heap.size; omega)) (.int .u8 (48 + (M : Int) % 10))
    have hrest : (M / 10 ≠ 0) → 1 ≤ k - 1 ∧ M / 10 < 10 ^ (k - 1) ∧ decN (M / 10) ++ (L.set (k - 1) (digc (M % 10))).drop (k - 1) = decN N := fun h => by
      have h4 : M / 10 < 10 ^ (k - 1) := by omega
      refine ⟨?_, h4, ?_⟩
      · rcases Nat.eq_zero_or_pos (k - 1) with h5 | h5
        · rw [h5] at h4; simp at h4; omega
        · exact h5
      · rw [hr, ← hR, decN_big (n := M) (by omega)]; simp
    have hlast : M / 10 = 0 → (L.set (k - 1) (digc (M % 10))).drop (k - 1) = decN N := fun h => by
      rw [hr, ← hR, decN_small (n := M) (by omega)]; simp [Nat.mod_eq_of_lt (show M < 10 by omega)]
    have HR := Lib.hid hrest
    have HL := Lib.hid hlast
    have H20 : Hid ((L.set (k - 1) (digc (M % 10))).length = 20) := Lib.hid (by simp [hL])
    have HB := Lib.hid hB2
    clear hr hp1 hB2 he hrest hlast hp hR hL hB
    by_cases hz : M / 10 = 0
    · have ht : (-((M : Int) / 10) != 0) = false := by simp; omega
      have hs := fun W => arr_from Tryz.prog W 380 g0 20 (k - 1 : Int) Tryz.underlying380 (by kernel_rfl) (by omega) (by omega)
      rw [show ((k : Int) - 1).toNat = k - 1 by omega] at hs
      have hcs : ((L.set (k - 1) (digc (M % 10))).drop (k - 1)).length = 20 - (k - 1) := by rw [List.length_drop, H20.out]
      have hcs2 := bv_at HB.out (k - 1) ((L.set (k - 1) (digc (M % 10))).drop (k - 1)) (fun j c hj => by rw [List.getElem?_drop] at hj; exact hj)
      rw [HL.out hz] at hcs hcs2
      have HC := Lib.hid hcs
      have HC2 := Lib.hid hcs2
      clear hcs hcs2
      go_wp2_with (with_reducible show wpList _ _ _ (⟨some 19, _, _, _, _, _⟩ :: _) _ _; go_must (refine wpList_string_bytes _ rfl (.tmp 18) _ _ rfl 5 Tryz.underlying126 Tryz.underlying5 Tryz.underlying9 g0 (k - 1) (20 - (k - 1)) (20 - (k - 1)) rfl (decN N) HC.out (fun j v hj => by have := HC2.out j v hj; rw [add_plain'] at this; exact this) ?_))
      simp only [Exit.jump]
      go_ret
      exact ⟨rfl, hK2⟩
    · have ht : (-((M : Int) / 10) != 0) = true := by simp; omega
      go_wp2_with fail
      go_step3
      have hq := HR.out hz
      refine And.intro rfl (And.intro ⟨M / 10, k - 1, _, _, _, _, _, _, _, _, _, _, _, _, _, _, _, _, _, _, _, _, rfl, int_eq (by omega), int_eq (by omega), by omega, hq.1, by omega, H20.out, hq.2.1, hq.2.2, HB.out, hK2, hg⟩ ?_)
      simp [SmallM, intOf]
      omega
  case first =>
    intro hpass
    go_wp2_with fail
    obtain rfl := HG.out
    refine wp_label ?_
    rename_i hk
    refine hk _ _ (hpass.out _ _ ⟨N, 20, List.replicate 20 0, _, _, _, _, _, _, _, _, _, _, _, _, _, _, _, _, _, _, _, rfl, rfl, rfl, hN, by omega, by omega, by simp, by omega, by simp, ?_, (Keeps.refl _ _).alloc _, by omega⟩)
    exact Blk.new _ _ _

set_option maxRecDepth 100000 in
theorem put_any (w : World) (n : Int) (h1 : -9223372036854775808 ≤ n) (h2 : n ≤ 9223372036854775807) :
    Calls Tryz.prog 205 #[.int .i64 n] w fun e w' => e = .returned (.string (str (dec n))) ∧ Keeps (fun _ => False) w w' := by
  by_cases h : n < 0
  · obtain ⟨N, rfl⟩ : ∃ N : Nat, n = -(N : Int) := ⟨(-n).toNat, by omega⟩
    have hd := dec_neg h
    rw [show (- -(N : Int)).toNat = N by omega] at hd
    have HD := Lib.hid hd
    clear hd
    have hsz : ((str (decN N)).size : Int) ≤ 19 := by rw [str_size]; have := decN_le (n := N) (by omega); omega
    go_enter Tryz.func205, Tryz.ntmps205
    go_wp2_with (go_at_call 246; refine (small_any _ N (by omega)).mono ?_; rintro e w2 ⟨rfl, k2⟩)
    go_ret
    exact ⟨by rw [HD.out]; exact congrArg (fun s => Ending.returned (Value.string s)) (ba_ext (by rw [append_str', str_list, str_list]; rfl)), k2⟩
  · obtain ⟨N, rfl⟩ : ∃ N : Nat, n = (N : Int) := ⟨n.toNat, by omega⟩
    have hd := dec_pos (n := (N : Int)) (by omega)
    rw [Int.toNat_natCast] at hd
    have HD := Lib.hid hd
    clear hd
    go_enter Tryz.func205, Tryz.ntmps205
    go_wp2_with (go_at_call 246; refine (small_any _ N (by omega)).mono ?_; rintro e w2 ⟨rfl, k2⟩)
    go_ret
    exact ⟨by rw [HD.out]; rfl, k2⟩

theorem hex_at : ∀ n : Nat, n < 10 → ({ data := #[48, 49, 50, 51, 52, 53, 54, 55, 56, 57, 97, 98, 99, 100, 101, 102] } : ByteArray).extract n (n + 1) = str [digc n]
  | 0, _ => rfl | 1, _ => rfl | 2, _ => rfl | 3, _ => rfl | 4, _ => rfl | 5, _ => rfl | 6, _ => rfl | 7, _ => rfl | 8, _ => rfl | 9, _ => rfl
  | n + 10, h => by omega
/-- the document's digit -/
theorem rdigit_any (w : World) (n : Int) (h0 : 0 ≤ n) (h1 : n < 10) :
    Calls Tryz.prog 232 #[.int .i64 n] w fun e w' => e = .returned (.string (str [digc n.toNat])) ∧ Keeps (fun _ => False) w w' := by
  have hh := hex_at n.toNat (by omega)
  rw [show n.toNat + 1 = (n + 1).toNat by omega] at hh
  have HH := Lib.hid hh
  clear hh
  go_enter Tryz.func232, Tryz.ntmps232
  go_wp2
  go_ret
  exact ⟨congrArg (fun s => Ending.returned (Value.string s)) HH.out, Keeps.refl _ _⟩

theorem dec_last (n : Int) (h : n < -9 ∨ 9 < n) (r : Int) (hr : r = (n.tmod 10).natAbs) : dec n = dec (n.tdiv 10) ++ [digc r.toNat] := by
  rcases h with h | h
  · obtain ⟨N, rfl⟩ : ∃ N : Nat, n = -(N : Int) := ⟨(-n).toNat, by omega⟩
    rw [tmod_neg] at hr
    rw [tdiv_neg, dec_neg (by omega), dec_neg (by omega), show (-(-(N : Int))).toNat = N by omega, show (-(-((N / 10 : Nat) : Int))).toNat = N / 10 by omega, decN_big (by omega)]
    rw [show r.toNat = N % 10 by omega]; simp
  · obtain ⟨N, rfl⟩ : ∃ N : Nat, n = (N : Int) := ⟨n.toNat, by omega⟩
    rw [show ((10 : Int)) = ((10 : Nat) : Int) from rfl, tmod_nat] at hr
    rw [Int.tdiv_eq_ediv_of_nonneg (by omega), dec_pos (by omega), dec_pos (by omega), show ((N : Int)).toNat = N by omega, show ((N : Int) / 10).toNat = N / 10 by omega, decN_big (by omega)]
    rw [show r.toNat = N % 10 by omega]

set_option maxRecDepth 100000 in
/-- the document's Put -/
theorem rput_any : ∀ (k : Nat) (w : World) (n : Int), n.natAbs ≤ k → -9223372036854775808 ≤ n → n ≤ 9223372036854775807 →
    Calls Tryz.prog 175 #[.int .i64 n] w fun e w' => e = .returned (.string (str (dec n))) ∧ Keeps (fun _ => False) w w' := by
  intro k
  induction k with
  | zero =>
    intro w n hk h1 h2
    obtain rfl : n = 0 := by omega
    go_enter Tryz.func175, Tryz.ntmps175
    go_wp2_with (go_at_call 232; refine (rdigit_any _ _ (by omega) (by omega)).mono ?_; rintro e w2 ⟨rfl, k2⟩)
    go_ret
    exact ⟨congrArg (fun s => Ending.returned (Value.string s)) (ba_ext (by rw [dec_pos (by omega), decN_small (by omega)]; rfl)), k2⟩
  | succ k ih =>
    intro w n hk h1 h2
    by_cases ha : 0 ≤ n ∧ n < 10
    · obtain ⟨ha1, ha2⟩ := ha
      have hd := dec_pos ha1
      rw [decN_small (by omega)] at hd
      have HD := Lib.hid hd
      clear hd ih
      go_enter Tryz.func175, Tryz.ntmps175
      go_wp2_with (go_at_call 232; refine (rdigit_any _ _ (by omega) (by omega)).mono ?_; rintro e w2 ⟨rfl, k2⟩)
      go_ret
      exact ⟨by rw [HD.out]; rfl, k2⟩
    · by_cases hb : n < 0 ∧ -10 < n
      · obtain ⟨hb1, hb2⟩ := hb
        have hd := dec_neg hb1
        rw [decN_small (by omega)] at hd
        have HD := Lib.hid hd
        have hn0 : decide (0 ≤ n) = false := by simp; omega
        clear hd ih ha
        go_enter Tryz.func175, Tryz.ntmps175
        go_wp2_with (go_at_call 232; refine (rdigit_any _ _ (by omega) (by omega)).mono ?_; rintro e w2 ⟨rfl, k2⟩)
        go_ret
        exact ⟨by rw [HD.out]; exact congrArg (fun s => Ending.returned (Value.string s)) (ba_ext (by rw [append_str', str_list, str_list]; rfl)), k2⟩
      · have hc : n < -9 ∨ 9 < n := by omega
        have hd : ∀ r, r = ((n.tmod 10).natAbs : Int) → dec n = dec (n.tdiv 10) ++ [digc r.toNat] := fun r => dec_last n hc r
        have hq : (n.tdiv 10).natAbs ≤ k := by rw [Int.natAbs_tdiv]; show n.natAbs / 10 ≤ k; omega
        have hq1 : -9223372036854775808 ≤ n.tdiv 10 ∧ n.tdiv 10 ≤ 9223372036854775807 := by
          rcases hc with hc | hc
          · obtain ⟨N, rfl⟩ : ∃ N : Nat, n = -(N : Int) := ⟨(-n).toNat, by omega⟩
            rw [tdiv_neg]; omega
          · rw [Int.tdiv_eq_ediv_of_nonneg (by omega)]; omega
        have hm : -10 < n.tmod 10 ∧ n.tmod 10 < 10 := by
          rcases hc with hc | hc
          · obtain ⟨N, rfl⟩ : ∃ N : Nat, n = -(N : Int) := ⟨(-n).toNat, by omega⟩
            rw [tmod_neg]; omega
          · rw [Int.tmod_eq_emod_of_nonneg (by omega)]; omega
        obtain ⟨q, hqq⟩ : ∃ q, n.tdiv 10 = q := ⟨_, rfl⟩
        obtain ⟨m, hmm⟩ : ∃ m, n.tmod 10 = m := ⟨_, rfl⟩
        rw [hqq] at hd hq hq1
        rw [hmm] at hd hm
        obtain ⟨hq1, hq2⟩ := hq1
        obtain ⟨hm1, hm2⟩ := hm
        have HD := Lib.hid hd
        have HI := Lib.hid (ih · q hq hq1 hq2)
        have hsz : ((str (dec q)).size : Int) ≤ 20 := by rw [str_size]; have := dec_le hq1 hq2; omega
        have hX : (0 ≤ n ∧ n < 10) = False := eq_false ha
        have hY : (n < 0 ∧ -10 < n) = False := eq_false hb
        have g1 : (decide (0 ≤ n) && decide (n < 10)) = false := by simp; omega
        have g2 : (decide (n < 0) && decide (-10 < n)) = false := by simp; omega
        have e1 : n.tmod 10 = m := hmm
        have e2 : n.tdiv 10 = q := hqq
        clear hd ih hX hY hk hq
        have hone : ∀ x : Nat, (str [digc x]).size = 1 := fun _ => rfl
        go_enter Tryz.func175, Tryz.ntmps175
        go_wp2_with (first
          | (go_at_call 232; go_must (refine (rdigit_any _ _ (by omega) (by omega)).mono ?_; rintro e w3 ⟨rfl, k3⟩))
          | (go_at_call 175; go_must (refine (HI.out _).mono ?_; rintro e w2 ⟨rfl, k2⟩)))
        all_goals go_ret
        all_goals exact ⟨congrArg (fun s => Ending.returned (Value.string s)) (ba_ext (by rw [append_str', str_list, str_list, str_list]; exact (HD.out _ (by omega)).symm)), k2.trans k3⟩
end Go.Proofs.YtkmpdobojgiegaaGreatDoor

/-
  The number that a text tells in decimal: the document's Read, and digit.Read.
-/
namespace Go.Proofs.YtkmpdobojgiegaaGreatDoor
open Go.RowKit

def valI (l : List UInt8) : Int := l.foldl (fun n c => 10 * n + (c.toNat : Int) - 48) 0
theorem valI_snoc (l : List UInt8) (c : UInt8) : valI (l ++ [c]) = 10 * valI l + (c.toNat : Int) - 48 := by simp [valI]
theorem valI_take {l : List UInt8} {i : Nat} {c : UInt8} (h : l[i]? = some c) : valI (l.take (i + 1)) = 10 * valI (l.take i) + (c.toNat : Int) - 48 := by
  rw [List.take_add_one, h, Option.toList_some, valI_snoc]
theorem valI_bound : ∀ (n : Nat) (l : List UInt8), l.length = n → -(23 * (10 ^ n - 1) : Int) ≤ valI l ∧ valI l ≤ 23 * (10 ^ n - 1)
  | 0, l, h => by
    obtain rfl := List.eq_nil_of_length_eq_zero h
    simp [valI]
  | n + 1, l, h => by
    obtain ⟨m, c, rfl⟩ : ∃ m c, l = m ++ [c] := ⟨l.dropLast, l.getLast (by intro e; rw [e] at h; cases h), (List.dropLast_concat_getLast _).symm⟩
    have hm : m.length = n := by simpa using h
    have ih := valI_bound n m hm
    have hc := c.toNat_lt
    rw [valI_snoc]
    have e : (10 : Int) ^ (n + 1) = 10 * 10 ^ n := by rw [Int.pow_succ]; omega
    rw [e]
    omega
theorem valI_le {l : List UInt8} (h : l.length ≤ 14) : -2300000000000000 ≤ valI l ∧ valI l ≤ 2300000000000000 := by
  have hb := valI_bound l.length l rfl
  have hp : (10 : Int) ^ l.length ≤ 10 ^ 14 := by
    have h2 := Nat.pow_le_pow_right (show 0 < 10 by omega) h
    have e : ((10 ^ l.length : Nat) : Int) = (10 : Int) ^ l.length := by simp
    have e2 : ((10 ^ 14 : Nat) : Int) = (10 : Int) ^ 14 := by simp
    rw [← e, ← e2]
    exact_mod_cast h2
  have e3 : (10 : Int) ^ 14 = 100000000000000 := by decide
  omega
/-- does a text tell a tick, and as it is put -/
def tickB (l : List UInt8) : Bool := decide (0 ≤ valI (l.take 14)) && decide (valI (l.take 14) ≤ 1099511627776) && decide (dec (valI (l.take 14)) = l)
def tickV (l : List UInt8) : Value := if tickB l then .tuple #[.int .i64 (valI (l.take 14)), .int .i64 0] else .tuple #[.int .i64 0, .int .i64 3]
end Go.Proofs.YtkmpdobojgiegaaGreatDoor

/-
  Configurations, plainly: what statements say. No program in sight.
-/
namespace Go.Proofs.YtkmpdobojgiegaaGreatDoor
open Go.RowKit

structure Con where
  name : ByteArray
  kind : Int
  lines : Int
  bytes : Int
  gens : Int
  size : Int
  base : Int
  cap : Int
  jitter : Int
  init : ByteArray
deriving DecidableEq
structure Grp where
  name : ByteArray
  pats : List ByteArray
deriving DecidableEq
structure Usr where
  name : ByteArray
  pass : ByteArray
deriving DecidableEq
structure Acc where
  con : ByteArray
  user : ByteArray
  level : Int
deriving DecidableEq
structure Cf where
  cons : List Con
  grps : List Grp
  usrs : List Usr
  accs : List Acc
  brks : List ByteArray
def Cf.empty : Cf := ⟨[], [], [], [], List.replicate 10 ⟨#[]⟩⟩
/-! words -/
/-! settings -/
/-! statements -/
end Go.Proofs.YtkmpdobojgiegaaGreatDoor

/-
  lex: which bytes and texts may be words; a piece as text; the program's and the document's.
-/
namespace Go.Proofs.YtkmpdobojgiegaaGreatDoor
open Go.RowKit

theorem append_str (a b : ByteArray) : (a ++ b).data.toList = a.data.toList ++ b.data.toList := by simp
theorem ne_nil {s : ByteArray} (h : s.data.toList ≠ []) : s.toList.isEmpty = false := by
  rw [ByteArray.toList_eq]
  cases hh : s.data.toList with
  | nil => exact absurd hh h
  | cons x y => rfl

end Go.Proofs.YtkmpdobojgiegaaGreatDoor

/-
  Names and patterns: word.Is, word.Fits.
-/
namespace Go.Proofs.YtkmpdobojgiegaaGreatDoor
open Go.RowKit

theorem ba_get {s : ByteArray} {l : List UInt8} (h : l = s.data.toList) {k : Nat} {c : UInt8} (hc : l[k]? = some c) : ∀ hh, s[k]'hh = c := by
  intro hh
  subst h
  rw [← (List.getElem?_eq_some_iff.1 hc).2]; rfl
end Go.Proofs.YtkmpdobojgiegaaGreatDoor

/-
  Break sequences: digits, two digits' number, the step that a backslash begins.
-/
namespace Go.Proofs.YtkmpdobojgiegaaGreatDoor
open Go.RowKit

def hexV (c : UInt8) : Value := match hexN c with | some a => .tuple #[.int .u8 a, .bool true] | none => .tuple #[.int .u8 0, .bool false]
set_option maxRecDepth 100000 in
theorem worth_any (w : World) (c : UInt8) : Calls Tryz.prog 272 #[.int .u8 c.toNat] w fun e w' => e = .returned (hexV c) ∧ w' = w := by
  have hc := c.toNat_lt
  by_cases h1 : 48 ≤ c.toNat ∧ c.toNat ≤ 57
  · have HV : Hid (hexV c = .tuple #[.int .u8 ((c.toNat : Int) - 48), .bool true]) := Lib.hid (by unfold hexV hexN; rw [if_pos h1]; simp only; rw [Int.ofNat_sub h1.1]; rfl)
    have a1 : (48 : Int) ≤ c.toNat := by omega
    have a2 : (c.toNat : Int) ≤ 57 := by omega
    have hw : IntKind.u8.wrap ((c.toNat : Int) - 48) = (c.toNat : Int) - 48 := IntWalk.u8_in _ (by omega)
    clear h1
    go_enter Tryz.func272, Tryz.ntmps272
    go_wp2
    go_ret2
    exact ⟨by rw [HV.out]; rfl, rfl⟩
  · by_cases h2 : 97 ≤ c.toNat ∧ c.toNat ≤ 102
    · have HV : Hid (hexV c = .tuple #[.int .u8 ((c.toNat : Int) - 97 + 10), .bool true]) := Lib.hid (by
        unfold hexV hexN; rw [if_neg h1, if_pos h2]; simp only
        rw [show ((c.toNat - 87 : Nat) : Int) = (c.toNat : Int) - 97 + 10 by omega])
      have a1 : (97 : Int) ≤ c.toNat := by omega
      have a2 : (c.toNat : Int) ≤ 102 := by omega
      have a3 : (48 : Int) ≤ c.toNat := by omega
      have a4 : ¬ (c.toNat : Int) ≤ 57 := by omega
      have hw : IntKind.u8.wrap ((c.toNat : Int) - 97) = (c.toNat : Int) - 97 := IntWalk.u8_in _ (by omega)
      have hw2 : IntKind.u8.wrap ((c.toNat : Int) - 97 + 10) = (c.toNat : Int) - 97 + 10 := IntWalk.u8_in _ (by omega)
      clear h1 h2
      go_enter Tryz.func272, Tryz.ntmps272
      go_wp2
      go_ret2
      exact ⟨by rw [HV.out]; rfl, rfl⟩
    · have HV : Hid (hexV c = .tuple #[.int .u8 0, .bool false]) := Lib.hid (by unfold hexV hexN; rw [if_neg h1, if_neg h2])
      have e1 : (decide ((48 : Int) ≤ c.toNat) && decide ((c.toNat : Int) ≤ 57)) = false := by rw [Bool.and_eq_false_iff]; simp; omega
      have e2 : (decide ((97 : Int) ≤ c.toNat) && decide ((c.toNat : Int) ≤ 102)) = false := by rw [Bool.and_eq_false_iff]; simp; omega
      have HQ := Lib.hid (And.intro h1 h2)
      clear h1 h2
      go_enter Tryz.func272, Tryz.ntmps272
      go_wp2
      all_goals first | (go_ret2; exact ⟨by rw [HV.out]; rfl, rfl⟩) | (exfalso; have := HQ.out; omega)
def numV (l : List UInt8) : Value := match two 10 digN l with | some (n, _) => .tuple #[.int .i64 n, .bool (decide (0 < n))] | none => .tuple #[.int .i64 0, .bool false]
theorem digN_bad {c : UInt8} (h : digN c = none) : (c.toNat : Int) < 48 ∨ 57 < (c.toNat : Int) := by
  unfold digN at h
  split at h
  · cases h
  · omega
theorem digN_good {c : UInt8} {a : Nat} (h : digN c = some a) : 48 ≤ (c.toNat : Int) ∧ (c.toNat : Int) ≤ 57 ∧ (a : Int) = (c.toNat : Int) - 48 := by
  unfold digN at h
  split at h
  · injection h with h; omega
  · cases h
set_option maxRecDepth 100000 in
theorem bnum_any (w : World) (s : ByteArray) (hs : s.size ≤ 1073741824) : Calls Tryz.prog 249 #[.string s] w fun e w' => e = .returned (numV s.data.toList) ∧ Keeps (fun _ => False) w w' := by
  obtain ⟨l, hl⟩ : ∃ l, l = s.data.toList := ⟨_, rfl⟩
  have hlen : l.length = s.size := by rw [hl]; simp
  have HG := Lib.hid (fun (k : Nat) c (hc : l[k]? = some c) => ba_get hl hc)
  rw [← hl]
  clear hl
  by_cases hsm : s.size < 2
  · have HV : Hid (numV l = .tuple #[.int .i64 0, .bool false]) := Lib.hid (by
      unfold numV
      match l, hlen with
      | [], _ => rfl
      | [x], _ => rfl
      | x :: y :: r, h => simp only [List.length_cons] at h; omega)
    have h2 : (s.size : Int) < 2 := by omega
    clear hlen
    go_enter Tryz.func249, Tryz.ntmps249
    go_wp2
    go_ret2
    exact ⟨by rw [HV.out]; rfl, Keeps.refl _ _⟩
  · match l, hlen, HG with
    | [], h, _ => simp only [List.length_nil] at h; omega
    | [x], h, _ => simp only [List.length_cons, List.length_nil] at h; omega
    | x :: y :: r, h, HG =>
      have s0 := HG.out 0 x rfl
      have s1 := HG.out 1 y rfl
      have h2 : ¬ (s.size : Int) < 2 := by omega
      clear h HG
      cases hx : digN x with
      | none =>
        have HV : Hid (numV (x :: y :: r) = .tuple #[.int .i64 0, .bool false]) := Lib.hid (by unfold numV two; simp only [hx])
        have hb := digN_bad hx
        clear hx
        rcases hb with hb | hb
        · go_enter Tryz.func249, Tryz.ntmps249
          go_wp2
          go_ret2
          exact ⟨by rw [HV.out]; rfl, Keeps.refl _ _⟩
        · have hb2 : ¬ (x.toNat : Int) < 48 := by omega
          go_enter Tryz.func249, Tryz.ntmps249
          go_wp2
          go_ret2
          exact ⟨by rw [HV.out]; rfl, Keeps.refl _ _⟩
      | some a =>
        obtain ⟨a1, a2, a3⟩ := digN_good hx
        have b1 : ¬ (x.toNat : Int) < 48 := by omega
        have b2 : ¬ 57 < (x.toNat : Int) := by omega
        cases hy : digN y with
        | none =>
          have HV : Hid (numV (x :: y :: r) = .tuple #[.int .i64 0, .bool false]) := Lib.hid (by unfold numV two; simp only [hx, hy])
          have hb := digN_bad hy
          clear hx hy a3
          rcases hb with hb | hb
          · go_enter Tryz.func249, Tryz.ntmps249
            go_wp2
            go_ret2
            exact ⟨by rw [HV.out]; rfl, Keeps.refl _ _⟩
          · have hb2 : ¬ (y.toNat : Int) < 48 := by omega
            go_enter Tryz.func249, Tryz.ntmps249
            go_wp2
            go_ret2
            exact ⟨by rw [HV.out]; rfl, Keeps.refl _ _⟩
        | some d =>
          obtain ⟨c1, c2, c3⟩ := digN_good hy
          have d1 : ¬ (y.toNat : Int) < 48 := by omega
          have d2 : ¬ 57 < (y.toNat : Int) := by omega
          have w1 : IntKind.u8.wrap ((x.toNat : Int) - 48) = (x.toNat : Int) - 48 := IntWalk.u8_in _ (by omega)
          have w2 : IntKind.u8.wrap ((y.toNat : Int) - 48) = (y.toNat : Int) - 48 := IntWalk.u8_in _ (by omega)
          have w3 : IntKind.i64.wrap ((x.toNat : Int) - 48) = (x.toNat : Int) - 48 := IntWalk.i64_in _ (by omega)
          have w4 : IntKind.i64.wrap ((y.toNat : Int) - 48) = (y.toNat : Int) - 48 := IntWalk.i64_in _ (by omega)
          have w5 : IntKind.i64.wrap (10 * ((x.toNat : Int) - 48)) = 10 * ((x.toNat : Int) - 48) := IntWalk.i64_in _ (by omega)
          have w6 : IntKind.i64.wrap (10 * ((x.toNat : Int) - 48) + ((y.toNat : Int) - 48)) = 10 * ((x.toNat : Int) - 48) + ((y.toNat : Int) - 48) := IntWalk.i64_in _ (by omega)
          have HV : Hid (numV (x :: y :: r) = .tuple #[.int .i64 (10 * ((x.toNat : Int) - 48) + ((y.toNat : Int) - 48)), .bool (decide (0 < 10 * ((x.toNat : Int) - 48) + ((y.toNat : Int) - 48)))]) := Lib.hid (by
            unfold numV two; simp only [hx, hy]
            have e : ((10 * a + d : Nat) : Int) = 10 * ((x.toNat : Int) - 48) + ((y.toNat : Int) - 48) := by omega
            have e2 : decide (0 < 10 * a + d) = decide (0 < 10 * ((x.toNat : Int) - 48) + ((y.toNat : Int) - 48)) := by rw [Bool.eq_iff_iff]; simp only [decide_eq_true_eq]; omega
            rw [e, e2])
          clear hx hy a3 c3
          go_enter Tryz.func249, Tryz.ntmps249
          go_wp2
          go_region
          all_goals
            go_wp2
            go_ret2
            exact ⟨by rw [HV.out]; rfl, (Keeps.refl _ _).drew⟩
def rhexV (l : List UInt8) : Value := match l with
  | [x, y] => (match hexN x, hexN y with | some a, some d => .tuple #[.int .u8 (16 * a + d : Nat), .int .i64 0] | _, _ => .tuple #[.int .u8 0, .int .i64 3])
  | _ => .tuple #[.int .u8 0, .int .i64 3]
theorem hexN_lt {c : UInt8} {a : Nat} (h : hexN c = some a) : a < 16 := by
  unfold hexN at h
  split at h
  · injection h with h; omega
  · split at h
    · injection h with h; omega
    · cases h
theorem hex_or_fin : ∀ a d : Fin 16, bits .or .u8 ((a.val : Int) * 16) (d.val : Int) = ((16 * a.val + d.val : Nat) : Int) := by decide
theorem hex_or (a d : Nat) (ha : a < 16) (hd : d < 16) : bits .or .u8 ((a : Int) * 16) (d : Int) = ((16 * a + d : Nat) : Int) := hex_or_fin ⟨a, ha⟩ ⟨d, hd⟩
set_option maxRecDepth 100000 in
theorem rhex_any (w : World) (s : ByteArray) (_hs : s.size ≤ 1073741824) : Calls Tryz.prog 250 #[.string s] w fun e w' => e = .returned (rhexV s.data.toList) ∧ w' = w := by
  obtain ⟨l, hl⟩ : ∃ l, l = s.data.toList := ⟨_, rfl⟩
  have hlen : l.length = s.size := by rw [hl]; simp
  have HG := Lib.hid (fun (k : Nat) c (hc : l[k]? = some c) => ba_get hl hc)
  rw [← hl]
  clear hl
  by_cases hsm : s.size = 2
  · match l, hlen, HG with
    | [x, y], _, HG =>
      have s0 := HG.out 0 x rfl
      have s1 := HG.out 1 y rfl
      have W1 := Lib.hid (fun W => worth_any W x)
      have W2 := Lib.hid (fun W => worth_any W y)
      have h2 : ((s.size : Int) != 2) = false := by rw [bne_eq_false_iff_eq]; omega
      unfold hexV at W1 W2
      clear HG hlen
      cases hx : hexN x with
      | none =>
        have HV2 : Hid (rhexV [x, y] = .tuple #[.int .u8 0, .int .i64 3]) := Lib.hid (by unfold rhexV; simp only [hx])
        rw [hx] at W1
        cases hy : hexN y
        all_goals
          rw [hy] at W2
          clear hx hy
          go_enter Tryz.func250, Tryz.ntmps250
          go_wp2_with fail
          refine (W1.out _).mono ?_
          rintro e w2 ⟨rfl, rfl⟩
          go_wp2_with fail
          refine (W2.out _).mono ?_
          rintro e w3 ⟨rfl, rfl⟩
          go_wp2_with fail
          go_ret2
          exact ⟨by rw [HV2.out]; rfl, rfl⟩
      | some a =>
        rw [hx] at W1
        cases hy : hexN y with
        | none =>
          have HV2 : Hid (rhexV [x, y] = .tuple #[.int .u8 0, .int .i64 3]) := Lib.hid (by unfold rhexV; simp only [hx, hy])
          rw [hy] at W2
          clear hx hy
          go_enter Tryz.func250, Tryz.ntmps250
          go_wp2_with fail
          refine (W1.out _).mono ?_
          rintro e w2 ⟨rfl, rfl⟩
          go_wp2_with fail
          refine (W2.out _).mono ?_
          rintro e w3 ⟨rfl, rfl⟩
          go_wp2_with fail
          go_ret2
          exact ⟨by rw [HV2.out]; rfl, rfl⟩
        | some d =>
          have ha := hexN_lt hx
          have hd := hexN_lt hy
          have HV2 : Hid (rhexV [x, y] = .tuple #[.int .u8 (16 * a + d : Nat), .int .i64 0]) := Lib.hid (by unfold rhexV; simp only [hx, hy])
          rw [hy] at W2
          clear hx hy
          go_enter Tryz.func250, Tryz.ntmps250
          go_wp2_with fail
          refine (W1.out _).mono ?_
          rintro e w2 ⟨rfl, rfl⟩
          go_wp2_with fail
          refine (W2.out _).mono ?_
          rintro e w3 ⟨rfl, rfl⟩
          go_wp2_with fail
          go_ret2
          refine ⟨?_, rfl⟩
          rw [HV2.out, ← hex_or a d ha hd]
          rfl
    | [], h, _ => simp only [List.length_nil] at h; omega
    | [x], h, _ => simp only [List.length_cons, List.length_nil] at h; omega
    | x :: y :: z :: r, h, _ => simp only [List.length_cons] at h; omega
  · have HV : Hid (rhexV l = .tuple #[.int .u8 0, .int .i64 3]) := Lib.hid (by
      match l, hlen with
      | [], _ => rfl
      | [x], _ => rfl
      | [x, y], h => simp only [List.length_cons, List.length_nil] at h; omega
      | x :: y :: z :: r, _ => rfl)
    have h2 : ((s.size : Int) != 2) = true := by rw [bne_iff_ne]; omega
    clear hlen
    go_enter Tryz.func250, Tryz.ntmps250
    go_wp2
    go_ret2
    exact ⟨by rw [HV.out]; rfl, rfl⟩
end Go.Proofs.YtkmpdobojgiegaaGreatDoor

/-
  Break sequences: the step that a backslash begins; the step with which a text begins.
-/
namespace Go.Proofs.YtkmpdobojgiegaaGreatDoor
open Go.RowKit

def stpV (x : Stp) : Value := if x.kind = 1 then .iface 312 (.string (str x.s)) else if x.kind = 2 then .iface 314 (.int .i64 x.n) else .iface 347 (.agg #[])
def stepV (o : Option (Stp × Nat)) : Value := match o with | some (x, n) => .tuple #[stpV x, .int .i64 n] | none => .tuple #[.nilIface, .int .i64 0]
theorem ba_len {s : ByteArray} {u : List UInt8} (h : s.data.toList = u) : s.size = u.length := by rw [← h]; simp
theorem rhex_ext (W : World) (s : ByteArray) (u : List UInt8) (hu : s.data.toList = u) (n : Nat) (hs : s.size ≤ 1073741824) : Calls Tryz.prog 250 #[.string (s.extract 0 n)] W fun e w' => e = .returned (rhexV (u.take n)) ∧ w' = W := by
  have h := rhex_any W (s.extract 0 n) (by rw [ByteArray.size_extract]; omega)
  rw [ByteArray.data_extract, Array.toList_extract, List.extract_eq_take_drop, hu] at h
  simpa using h
def xP (u : List UInt8) : Option (Stp × Nat) := match two 16 hexN u with
  | some (n, _) => some (⟨1, [UInt8.ofNat n], 0⟩, 4)
  | none => none
theorem rhexV_short : ∀ u : List UInt8, u.length < 2 → rhexV u = .tuple #[.int .u8 0, .int .i64 3]
  | [], _ => rfl
  | [_], _ => rfl
  | x :: y :: r, h => by simp only [List.length_cons] at h; omega
theorem xP_short : ∀ u : List UInt8, u.length < 2 → xP u = none
  | [], _ => rfl
  | [_], _ => rfl
  | x :: y :: r, h => by simp only [List.length_cons] at h; omega
theorem two_cons : ∀ u : List UInt8, ¬ u.length < 2 → ∃ a b r, u = a :: b :: r
  | [], h => by simp at h
  | [_], h => by simp at h
  | a :: b :: r, _ => ⟨a, b, r, rfl⟩
set_option maxRecDepth 100000 in
set_option maxHeartbeats 1000000 in
theorem escaped_x (w : World) (s : ByteArray) (c : UInt8) (u : List UInt8) (hst : s.data.toList = c :: 120 :: u) (hs : s.size ≤ 1073741824) : Calls Tryz.prog 214 #[.string s] w fun e w' => e = .returned (stepV (xP u)) ∧ Keeps (fun _ => False) w w' := by
  obtain ⟨l, hl⟩ : ∃ l, l = s.data.toList := ⟨_, rfl⟩
  have hlen : l.length = s.size := by rw [hl]; simp
  have HG := Lib.hid (fun (k : Nat) c (hc : l[k]? = some c) => ba_get hl hc)
  have hlc : l = c :: 120 :: u := by rw [hl, hst]
  have hsz : s.size = u.length + 2 := by rw [← hlen, hlc]; rfl
  have h2 : ¬ (s.size : Int) < 2 := by omega
  have s1 := HG.out 1 120 (by rw [hlc]; rfl)
  have hrl : (s.extract 2 s.size).data.toList = u := by rw [ByteArray.data_extract, Array.toList_extract, List.extract_eq_take_drop, hst]; simp [hsz]
  have hes := ba_len hrl
  have hex : ∀ W n, Calls Tryz.prog 250 #[.string ((s.extract 2 s.size).extract 0 n)] W fun e w' => e = .returned (rhexV (u.take n)) ∧ w' = W := fun W n => rhex_ext W _ u hrl n (by omega)
  clear hl hlen hlc hst HG hrl
  by_cases hul : u.length < 2
  · have HX : Hid (∀ W, Calls Tryz.prog 250 #[.string ((s.extract 2 s.size).extract 0 u.length)] W fun e w' => e = .returned (.tuple #[.int .u8 0, .int .i64 3]) ∧ w' = W) := Lib.hid (fun W => by
      have h := hex W u.length
      have e := rhexV_short u hul
      rw [List.take_length, e] at h
      exact h)
    have HV : Hid (stepV (xP u) = .tuple #[.nilIface, .int .i64 0]) := Lib.hid (by rw [xP_short u hul]; rfl)
    have hmin : (u.length : Int) < 2 := by omega
    clear hex hul hsz
    go_enter Tryz.func214, Tryz.ntmps214
    go_wp2_with fail
    refine (HX.out _).mono ?_
    rintro e w2 ⟨rfl, rfl⟩
    go_wp2
    go_ret2
    exact ⟨by rw [HV.out]; rfl, Keeps.refl _ _⟩
  · obtain ⟨a, b, r, hu⟩ := two_cons u hul
    have HX := Lib.hid (fun W => hex W 2)
    have hmin : ¬ (u.length : Int) < 2 := by omega
    have hmin2 : (2 : Int) ≤ u.length := by omega
    obtain ⟨V, hV⟩ : ∃ V, V = stepV (xP u) := ⟨_, rfl⟩
    rw [← hV]
    obtain ⟨Q, hQ⟩ : ∃ Q, Q = rhexV (u.take 2) := ⟨_, rfl⟩
    rw [← hQ] at HX
    rw [hu] at hV hQ
    simp only [List.take_succ_cons, List.take_zero] at hQ
    have HV := Lib.hid hV
    have HQ := Lib.hid hQ
    clear hsz hex hV hQ hu hul
    cases ha : hexN a with
    | none =>
      have hv : V = .tuple #[.nilIface, .int .i64 0] := by rw [HV.out]; unfold xP two; simp only [ha]; rfl
      have hq : Q = .tuple #[.int .u8 0, .int .i64 3] := by rw [HQ.out]; unfold rhexV; simp only [ha]
      rw [hq] at HX
      have HV2 := Lib.hid hv
      clear ha hv hq HQ HV
      go_enter Tryz.func214, Tryz.ntmps214
      go_wp2_with fail
      refine (HX.out _).mono ?_
      rintro e w2 ⟨rfl, rfl⟩
      go_wp2
      go_ret2
      exact ⟨by rw [HV2.out]; rfl, Keeps.refl _ _⟩
    | some x =>
      cases hb : hexN b with
      | none =>
        have hv : V = .tuple #[.nilIface, .int .i64 0] := by rw [HV.out]; unfold xP two; simp only [ha, hb]; rfl
        have hq : Q = .tuple #[.int .u8 0, .int .i64 3] := by rw [HQ.out]; unfold rhexV; simp only [ha, hb]
        rw [hq] at HX
        have HV2 := Lib.hid hv
        clear ha hb hv hq HQ HV
        go_enter Tryz.func214, Tryz.ntmps214
        go_wp2_with fail
        refine (HX.out _).mono ?_
        rintro e w2 ⟨rfl, rfl⟩
        go_wp2
        go_ret2
        exact ⟨by rw [HV2.out]; rfl, Keeps.refl _ _⟩
      | some y =>
        have h16 := hexN_lt ha
        have h16b := hexN_lt hb
        have hv : V = .tuple #[.iface 312 (.string (str [UInt8.ofNat (16 * x + y)])), .int .i64 4] := by rw [HV.out]; unfold xP two; simp only [ha, hb]; rfl
        have hq : Q = .tuple #[.int .u8 (16 * x + y : Nat), .int .i64 0] := by rw [HQ.out]; unfold rhexV; simp only [ha, hb]
        rw [hq] at HX
        have HV2 := Lib.hid hv
        obtain ⟨m, hm⟩ : ∃ m, m = 16 * x + y := ⟨_, rfl⟩
        rw [← hm] at HX HV2
        have hmn : m < 256 := by omega
        have htn : (UInt8.ofNat m).toNat = m := by simp; omega
        have HTN := Lib.hid htn
        clear ha hb hv hq HQ HV hm h16 h16b htn
        go_enter Tryz.func214, Tryz.ntmps214
        go_wp2_with fail
        refine (HX.out _).mono ?_
        rintro e w2 ⟨rfl, rfl⟩
        go_wp2_with (with_reducible show wpList _ _ _ (⟨some 60, _, _, _, _, _⟩ :: _) _ _; go_must (refine wpList_string_bytes _ rfl (.tmp 59) 126 312 rfl 5 Tryz.underlying126 (by kernel_rfl) (by kernel_rfl) w2.heap.size 0 1 1 rfl [UInt8.ofNat m] rfl ?_ ?_))
        · intro j v hv
          have hj : j < 1 := (List.getElem?_eq_some_iff.1 hv).1
          obtain rfl : j = 0 := by omega
          have hv2 : UInt8.ofNat m = v := by simpa using hv
          rw [← hv2, HTN.out]
          exact (Blk.new w2 5 #[.int .u8 (m : Int)]).cell 0
        · go_wp2_with fail
          go_ret2
          exact ⟨by rw [HV2.out]; rfl, (Keeps.refl _ _).alloc _⟩
set_option maxRecDepth 100000 in
set_option maxHeartbeats 1000000 in
theorem escaped_any (w : World) (s : ByteArray) (c : UInt8) (t : List UInt8) (hst : s.data.toList = c :: t) (hs : s.size ≤ 1073741824) : Calls Tryz.prog 214 #[.string s] w fun e w' => e = .returned (stepV (escP t)) ∧ Keeps (fun _ => False) w w' := by
  obtain ⟨l, hl⟩ : ∃ l, l = s.data.toList := ⟨_, rfl⟩
  have hlen : l.length = s.size := by rw [hl]; simp
  have HG := Lib.hid (fun (k : Nat) c (hc : l[k]? = some c) => ba_get hl hc)
  have hlc : l = c :: t := by rw [hl, hst]
  cases t with
  | nil =>
    have h2 : (s.size : Int) < 2 := Int.ofNat_lt.2 (by rw [← hlen, hlc]; exact Nat.lt_succ_self 1)
    have HV : Hid (stepV (escP []) = .tuple #[.nilIface, .int .i64 0]) := Lib.hid rfl
    clear hl hlen hlc hst
    go_enter Tryz.func214, Tryz.ntmps214
    go_wp2
    go_ret2
    exact ⟨by rw [HV.out]; rfl, Keeps.refl _ _⟩
  | cons d u =>
    have hsz : s.size = u.length + 2 := by rw [← hlen, hlc]; rfl
    have h2 : ¬ (s.size : Int) < 2 := by omega
    have s1 := HG.out 1 d (by rw [hlc]; rfl)
    have HRL : Hid ((s.extract 2 s.size).data.toList = u) := Lib.hid (by rw [ByteArray.data_extract, Array.toList_extract, List.extract_eq_take_drop, hst]; simp [hsz])
    have HSZ := Lib.hid hsz
    have HST := Lib.hid hst
    have HES := Lib.hid (ba_len HRL.out)
    have hdl : (d.toNat : Int) ≤ 255 := by have := d.toNat_lt; omega
    obtain ⟨O, hO⟩ : ∃ O, O = escP (d :: u) := ⟨_, rfl⟩
    rw [← hO]
    rw [escP] at hO
    clear hl hlen hlc hst HG hsz
    by_cases h92 : d.toNat = 92
    · rw [if_pos h92] at hO
      have HV : Hid (stepV O = .tuple #[.iface 312 (.string ⟨#[92]⟩), .int .i64 2]) := Lib.hid (by rw [hO]; rfl)
      obtain rfl : d = 92 := UInt8.toNat_inj.1 (by simpa using h92)
      clear hO h92
      go_enter Tryz.func214, Tryz.ntmps214
      go_wp2
      go_ret2
      exact ⟨by rw [HV.out]; rfl, Keeps.refl _ _⟩
    · rw [if_neg h92] at hO
      by_cases h114 : d.toNat = 114
      · rw [if_pos h114] at hO
        have HV : Hid (stepV O = .tuple #[.iface 312 (.string ⟨#[13]⟩), .int .i64 2]) := Lib.hid (by rw [hO]; rfl)
        obtain rfl : d = 114 := UInt8.toNat_inj.1 (by simpa using h114)
        clear hO h114
        go_enter Tryz.func214, Tryz.ntmps214
        go_wp2
        go_ret2
        exact ⟨by rw [HV.out]; rfl, Keeps.refl _ _⟩
      · rw [if_neg h114] at hO
        by_cases h110 : d.toNat = 110
        · rw [if_pos h110] at hO
          have HV : Hid (stepV O = .tuple #[.iface 312 (.string ⟨#[10]⟩), .int .i64 2]) := Lib.hid (by rw [hO]; rfl)
          obtain rfl : d = 110 := UInt8.toNat_inj.1 (by simpa using h110)
          clear hO h110
          go_enter Tryz.func214, Tryz.ntmps214
          go_wp2
          go_ret2
          exact ⟨by rw [HV.out]; rfl, Keeps.refl _ _⟩
        · rw [if_neg h110] at hO
          by_cases h116 : d.toNat = 116
          · rw [if_pos h116] at hO
            have HV : Hid (stepV O = .tuple #[.iface 312 (.string ⟨#[9]⟩), .int .i64 2]) := Lib.hid (by rw [hO]; rfl)
            obtain rfl : d = 116 := UInt8.toNat_inj.1 (by simpa using h116)
            clear hO h116
            go_enter Tryz.func214, Tryz.ntmps214
            go_wp2
            go_ret2
            exact ⟨by rw [HV.out]; rfl, Keeps.refl _ _⟩
          · rw [if_neg h116] at hO
            by_cases h100 : d.toNat = 100
            · rw [if_pos h100] at hO
              have HV : Hid (stepV O = .tuple #[.iface 314 (.int .i64 1), .int .i64 2]) := Lib.hid (by rw [hO]; rfl)
              obtain rfl : d = 100 := UInt8.toNat_inj.1 (by simpa using h100)
              clear hO h100
              go_enter Tryz.func214, Tryz.ntmps214
              go_wp2
              go_ret2
              exact ⟨by rw [HV.out]; rfl, Keeps.refl _ _⟩
            · rw [if_neg h100] at hO
              by_cases h122 : d.toNat = 122
              · rw [if_pos h122] at hO
                have HV : Hid (stepV O = .tuple #[.iface 347 (.agg #[]), .int .i64 2]) := Lib.hid (by rw [hO]; rfl)
                obtain rfl : d = 122 := UInt8.toNat_inj.1 (by simpa using h122)
                clear hO h122
                go_enter Tryz.func214, Tryz.ntmps214
                go_wp2
                go_ret2
                exact ⟨by rw [HV.out]; rfl, Keeps.refl _ _⟩
              · rw [if_neg h122] at hO
                by_cases h119 : d.toNat = 119
                · rw [if_pos h119] at hO
                  have hB := fun W => bnum_any W (s.extract 2 s.size) (by have := HSZ.out; have := HES.out; omega)
                  rw [HRL.out] at hB
                  unfold numV at hB
                  have HB := Lib.hid hB
                  obtain rfl : d = 119 := UInt8.toNat_inj.1 (by simpa using h119)
                  clear h119 hB
                  cases hq : two 10 digN u with
                  | none =>
                    rw [hq] at hO HB
                    have HV : Hid (stepV O = .tuple #[.nilIface, .int .i64 0]) := Lib.hid (by rw [hO]; rfl)
                    clear hO hq
                    go_enter Tryz.func214, Tryz.ntmps214
                    go_wp2_with fail
                    refine (HB.out _).mono ?_
                    rintro e w2 ⟨rfl, k2⟩
                    go_wp2
                    go_ret2
                    exact ⟨by rw [HV.out]; rfl, k2⟩
                  | some p =>
                    obtain ⟨n, r⟩ := p
                    rw [hq] at hO HB
                    simp only at hO HB
                    clear hq
                    by_cases h0 : 0 < n
                    · rw [if_pos h0] at hO
                      have HV : Hid (stepV O = .tuple #[.iface 314 (.int .i64 n), .int .i64 4]) := Lib.hid (by rw [hO]; rfl)
                      rw [decide_eq_true h0] at HB
                      clear hO h0
                      go_enter Tryz.func214, Tryz.ntmps214
                      go_wp2_with fail
                      refine (HB.out _).mono ?_
                      rintro e w2 ⟨rfl, k2⟩
                      go_wp2
                      go_ret2
                      exact ⟨by rw [HV.out]; rfl, k2⟩
                    · rw [if_neg h0] at hO
                      have HV : Hid (stepV O = .tuple #[.nilIface, .int .i64 0]) := Lib.hid (by rw [hO]; rfl)
                      rw [decide_eq_false h0] at HB
                      clear hO h0
                      go_enter Tryz.func214, Tryz.ntmps214
                      go_wp2_with fail
                      refine (HB.out _).mono ?_
                      rintro e w2 ⟨rfl, k2⟩
                      go_wp2
                      go_ret2
                      exact ⟨by rw [HV.out]; rfl, k2⟩
                · rw [if_neg h119] at hO
                  by_cases h120 : d.toNat = 120
                  · rw [if_pos h120] at hO
                    obtain rfl : d = 120 := UInt8.toNat_inj.1 (by simpa using h120)
                    clear h120
                    rw [hO]
                    exact escaped_x w s c u HST.out hs
                  · rw [if_neg h120] at hO
                    have HV : Hid (stepV O = .tuple #[.nilIface, .int .i64 0]) := Lib.hid (by rw [hO]; rfl)
                    have b92 : ((d.toNat : Int) == 92) = false := by rw [beq_eq_false_iff_ne]; omega
                    have b114 : ((d.toNat : Int) == 114) = false := by rw [beq_eq_false_iff_ne]; omega
                    have b110 : ((d.toNat : Int) == 110) = false := by rw [beq_eq_false_iff_ne]; omega
                    have b116 : ((d.toNat : Int) == 116) = false := by rw [beq_eq_false_iff_ne]; omega
                    have b100 : ((d.toNat : Int) == 100) = false := by rw [beq_eq_false_iff_ne]; omega
                    have b122 : ((d.toNat : Int) == 122) = false := by rw [beq_eq_false_iff_ne]; omega
                    have b119 : ((d.toNat : Int) == 119) = false := by rw [beq_eq_false_iff_ne]; omega
                    have b120 : ((d.toNat : Int) == 120) = false := by rw [beq_eq_false_iff_ne]; omega
                    clear hO h92 h114 h110 h116 h100 h122 h119 h120
                    go_enter Tryz.func214, Tryz.ntmps214
                    go_wp2
                    go_ret2
                    exact ⟨by rw [HV.out]; rfl, Keeps.refl _ _⟩
set_option maxRecDepth 100000 in
theorem bone_any (w : World) (s : ByteArray) (c : UInt8) (t : List UInt8) (hst : s.data.toList = c :: t) (hs : s.size ≤ 1073741824) : Calls Tryz.prog 164 #[.string s] w fun e w' => e = .returned (stepV (stepP (c :: t))) ∧ Keeps (fun _ => False) w w' := by
  obtain ⟨l, hl⟩ : ∃ l, l = s.data.toList := ⟨_, rfl⟩
  have HG := Lib.hid (fun (k : Nat) c (hc : l[k]? = some c) => ba_get hl hc)
  have hlc : l = c :: t := by rw [hl, hst]
  have hln := ba_len hst
  rw [List.length_cons] at hln
  have h1 : 1 ≤ s.size := by omega
  have s0 := HG.out 0 c (by rw [hlc]; rfl)
  have HX : Hid ((s.extract 0 1) = str [c]) := Lib.hid (ba_ext (by rw [ByteArray.data_extract, Array.toList_extract, List.extract_eq_take_drop, hst]; rfl))
  have HES := Lib.hid (escaped_any w s c t hst hs)
  have hcl : (c.toNat : Int) ≤ 255 := by have := c.toNat_lt; omega
  obtain ⟨O, hO⟩ : ∃ O, O = stepP (c :: t) := ⟨_, rfl⟩
  rw [← hO]
  rw [stepP] at hO
  clear hl hlc HG hst hln
  by_cases h92 : c.toNat = 92
  · rw [if_pos h92] at hO
    have HO := Lib.hid hO
    obtain rfl : c = 92 := UInt8.toNat_inj.1 (by simpa using h92)
    obtain ⟨v0, v1, hv⟩ : ∃ v0 v1, stepV (escP t) = .tuple #[v0, v1] := by
      unfold stepV
      cases escP t with
      | none => exact ⟨_, _, rfl⟩
      | some p => exact ⟨_, _, rfl⟩
    rw [hv] at HES
    have HV := Lib.hid hv
    clear h92 hO hv
    go_enter Tryz.func164, Tryz.ntmps164
    go_wp2_with fail
    refine HES.out.mono ?_
    rintro e w2 ⟨rfl, k2⟩
    go_wp2
    go_ret2
    exact ⟨by rw [HO.out, HV.out]; rfl, k2⟩
  · rw [if_neg h92] at hO
    have b92 : ((c.toNat : Int) == 92) = false := by rw [beq_eq_false_iff_ne]; omega
    by_cases hlo : c.toNat < 32
    · rw [if_pos (.inl hlo)] at hO
      have HO := Lib.hid hO
      have hl2 : (c.toNat : Int) < 32 := by omega
      clear hO hlo h92 HES
      go_enter Tryz.func164, Tryz.ntmps164
      go_wp2
      go_ret2
      exact ⟨by rw [HO.out]; rfl, Keeps.refl _ _⟩
    · by_cases hhi : 126 < c.toNat
      · rw [if_pos (.inr hhi)] at hO
        have HO := Lib.hid hO
        have hl2 : ¬ (c.toNat : Int) < 32 := by omega
        have hl3 : 126 < (c.toNat : Int) := by omega
        clear hO hlo h92 HES
        go_enter Tryz.func164, Tryz.ntmps164
        go_wp2
        go_ret2
        exact ⟨by rw [HO.out]; rfl, Keeps.refl _ _⟩
      · rw [if_neg (by omega)] at hO
        have HO := Lib.hid hO
        have hl2 : ¬ (c.toNat : Int) < 32 := by omega
        have hl3 : ¬ 126 < (c.toNat : Int) := by omega
        clear hO hlo h92 hhi HES
        go_enter Tryz.func164, Tryz.ntmps164
        go_wp2
        go_ret2
        exact ⟨by rw [HO.out]; show _ = Ending.returned (.tuple #[.iface 312 (.string (str [c])), .int .i64 1]); rw [← HX.out]; rfl, Keeps.refl _ _⟩
/-- a step behind another one, if they are joined -/
def joinV (a b : Stp) : Value := if a.kind = b.kind ∧ b.kind < 3 then .tuple #[stpV ⟨a.kind, a.s ++ b.s, a.n + b.n⟩, .bool true] else .tuple #[.nilIface, .bool false]
/-- a step as it is read -/
def StpOk (x : Stp) : Prop := (x.kind = 1 ∧ x.n = 0) ∨ (x.kind = 2 ∧ x.s = []) ∨ (x.kind = 3 ∧ x.s = [] ∧ x.n = 0)
end Go.Proofs.YtkmpdobojgiegaaGreatDoor

/-
  brk.Read.
-/
namespace Go.Proofs.YtkmpdobojgiegaaGreatDoor
open Go.RowKit

theorem ta_send_yes (v : Value) (xT : TypeId) (w : World) : (Instr.typeAssert (.iface 312 v) xT 312 true).run Tryz.prog w = .ok (.tuple #[v, .bool true]) w := by
  simp [Instr.typeAssert, run_underlying Tryz.underlying312]
theorem ta_wait_yes (v : Value) (xT : TypeId) (w : World) : (Instr.typeAssert (.iface 314 v) xT 314 true).run Tryz.prog w = .ok (.tuple #[v, .bool true]) w := by
  simp [Instr.typeAssert, run_underlying Tryz.underlying314]
theorem ta_send_no {t : TypeId} (ht : t ≠ 312) (v : Value) (xT : TypeId) (w : World) : (Instr.typeAssert (.iface t v) xT 312 true).run Tryz.prog w = .ok (.tuple #[.string ⟨#[]⟩, .bool false]) w := by
  obtain ⟨i, hi, hz, -, -⟩ := info_parts (show (Tryz.prog.info? 312).map (fun i => (i.zero, i.size, i.bytes)) = some (some (.string ⟨#[]⟩), 1, 16) by kernel_rfl)
  simp [Instr.typeAssert, run_underlying Tryz.underlying312, zeroValue, typeInfo, hi, hz, ht]
theorem ta_wait_no {t : TypeId} (ht : t ≠ 314) (v : Value) (xT : TypeId) (w : World) : (Instr.typeAssert (.iface t v) xT 314 true).run Tryz.prog w = .ok (.tuple #[.int .i64 0, .bool false]) w := by
  obtain ⟨i, hi, hz, -, -⟩ := info_parts (show (Tryz.prog.info? 314).map (fun i => (i.zero, i.size, i.bytes)) = some (some (.int .i64 0), 1, 8) by kernel_rfl)
  simp [Instr.typeAssert, run_underlying Tryz.underlying314, zeroValue, typeInfo, hi, hz, ht]
theorem mOpS (v : Value) (w : World) : (Go.method 520 312 v "wheelhouse/brk.op").run Tryz.prog w = .ok (316, v) w := by kernel_rfl
theorem mOpW (v : Value) (w : World) : (Go.method 520 314 v "wheelhouse/brk.op").run Tryz.prog w = .ok (317, v) w := by kernel_rfl
theorem mOpB (v : Value) (w : World) : (Go.method 520 347 v "wheelhouse/brk.op").run Tryz.prog w = .ok (321, v) w := by kernel_rfl
/-- a step's kind, bytes, ticks in memory -/
def stpR (x : Stp) : List Value := [.int .i64 x.kind, .string (str x.s), .int .i64 x.n]
theorem stpR_len (x : Stp) : (stpR x).length = 3 := rfl
theorem stpR_one (x : Stp) : ∀ u ∈ stpR x, u.oneCell' = true := by
  intro u hu; simp [stpR] at hu; rcases hu with rfl | rfl | rfl <;> rfl
theorem ops_any (w : World) (s : List UInt8) : Calls Tryz.prog 316 #[.string (str s)] w fun e w' => e = .returned (.agg #[.int .i64 1, .string (str s), .int .i64 0]) ∧ Keeps (fun _ => False) w w' := by
  go_enter Tryz.func316, Tryz.ntmps316
  go_wp2_with fail
  refine ret_cell rfl w.heap.size 272 _ _ rfl (Blk.new _ _ _) Tryz.underlying272 rfl (by kernel_rfl) rfl ?_
  exact ⟨rfl, (Keeps.refl _ _).alloc _⟩
theorem opw_any (w : World) (n : Int) : Calls Tryz.prog 317 #[.int .i64 n] w fun e w' => e = .returned (.agg #[.int .i64 2, .string ⟨#[]⟩, .int .i64 n]) ∧ Keeps (fun _ => False) w w' := by
  go_enter Tryz.func317, Tryz.ntmps317
  go_wp2_with fail
  refine ret_cell rfl w.heap.size 272 _ _ rfl (Blk.new _ _ _) Tryz.underlying272 rfl (by kernel_rfl) rfl ?_
  exact ⟨rfl, (Keeps.refl _ _).alloc _⟩
theorem opb_any (w : World) : Calls Tryz.prog 321 #[.agg #[]] w fun e w' => e = .returned (.agg #[.int .i64 3, .string ⟨#[]⟩, .int .i64 0]) ∧ Keeps (fun _ => False) w w' := by
  go_enter Tryz.func321, Tryz.ntmps321
  go_wp2_with fail
  refine ret_cell rfl (w.heap.size + 1) 272 _ _ rfl (Blk.new2 _ _ _ _) Tryz.underlying272 rfl (by kernel_rfl) rfl ?_
  exact ⟨rfl, ((Keeps.refl _ _).alloc _).alloc _⟩
theorem str_cat (a b : List UInt8) : str a ++ str b = str (a ++ b) := ba_ext (by rw [append_str, str_list, str_list, str_list])
set_option maxRecDepth 100000 in
theorem join_any (w : World) (a b : Stp) (ha : StpOk a) (hb : StpOk b) (hs : a.s.length + b.s.length ≤ 1000000) (hn : 0 ≤ a.n ∧ a.n ≤ 1000000 ∧ 0 ≤ b.n ∧ b.n ≤ 1000000) : Calls Tryz.prog 165 #[stpV a, stpV b] w fun e w' => e = .returned (joinV a b) ∧ Keeps (fun _ => False) w w' := by
  obtain ⟨ak, as_, an⟩ := a
  obtain ⟨bk, bs, bn⟩ := b
  simp only at hs hn
  obtain ⟨h1, h2, h3, h4⟩ := hn
  have t1 := ta_send_yes
  have t2 := ta_wait_yes
  have t3 := fun (v : Value) (xT : TypeId) (w : World) => ta_send_no (t := 314) (by decide) v xT w
  have t4 := fun (v : Value) (xT : TypeId) (w : World) => ta_send_no (t := 347) (by decide) v xT w
  have t5 := fun (v : Value) (xT : TypeId) (w : World) => ta_wait_no (t := 312) (by decide) v xT w
  have t6 := fun (v : Value) (xT : TypeId) (w : World) => ta_wait_no (t := 347) (by decide) v xT w
  have hz1 : (str as_).size ≤ 1000000 := by rw [str_size]; omega
  have hz2 : (str bs).size ≤ 1000000 := by rw [str_size]; omega
  have hw : IntKind.i64.wrap (an + bn) = an + bn := IntWalk.i64_in _ (by omega)
  have ka : ak = 1 ∨ ak = 2 ∨ ak = 3 := by rcases ha with h | h | h <;> simp only at h <;> omega
  have kb : bk = 1 ∨ bk = 2 ∨ bk = 3 := by rcases hb with h | h | h <;> simp only at h <;> omega
  have HA := Lib.hid ha
  have HB := Lib.hid hb
  clear ha hb hs h1 h2 h3 h4
  rcases ka with rfl | rfl | rfl <;> rcases kb with rfl | rfl | rfl
  all_goals
    simp only [stpV, if_pos, show ((2 : Int) = 1) = False by simp, show ((3 : Int) = 1) = False by simp, show ((3 : Int) = 2) = False by simp, if_false]
    go_enter Tryz.func165, Tryz.ntmps165
    go_wp2
    go_ret2
  all_goals refine ⟨?_, Keeps.refl _ _⟩
  all_goals first
    | rfl
    | (show Ending.returned (.tuple #[.iface 312 (.string (str as_ ++ str bs)), .bool true]) = Ending.returned (.tuple #[.iface 312 (.string (str (as_ ++ bs))), .bool true]); rw [str_cat])
theorem OwnL.setC {w : World} {B : Nat} {e : TypeId} {g n c : Nat} {vs : List Value} (h : OwnL w B e (.slice (some ⟨g, 0, none⟩) n c) vs) (j : Nat) (u : Value) : OwnL (w.setCell ⟨g, j, none⟩ u) B e (.slice (some ⟨g, 0, none⟩) n c) (vs.set j u) := by
  rcases h.2 with ⟨h2, _⟩ | ⟨g', cap, cur, hv, hg, hh, r1, r2, r3, r4⟩
  · cases h2
  · injection hv with e1 e2 e3
    injection e1 with e1
    injection e1 with e1
    subst e1 e2 e3
    refine ⟨by simp, .inr ⟨g, c, cur.setIfInBounds j u, by simp, hg, ?_, by simpa using r1, r2, by simpa using r3, ?_⟩⟩
    · have := (show Blk w g e cur from hh).set_ j u
      exact this
    · rw [List.length_set, Array.toList_setIfInBounds, List.take_set, r4]
theorem two_fine {b : Nat} {f : UInt8 → Option Nat} {M : Nat} (hf : ∀ c a, f c = some a → a ≤ M) : ∀ {u : List UInt8} {n : Nat} {r : List UInt8}, two b f u = some (n, r) → 2 ≤ u.length ∧ n ≤ b * M + M
  | [], n, r, h => by cases h
  | [_], n, r, h => by cases h
  | x :: y :: t, n, r, h => by
    unfold two at h
    simp only at h
    cases hx : f x with
    | none => simp only [hx] at h; cases h
    | some a =>
      cases hy : f y with
      | none => simp only [hx, hy] at h; cases h
      | some d =>
        simp only [hx, hy] at h
        injection h with h
        injection h with h1 h2
        have := hf x a hx
        have := hf y d hy
        have := Nat.mul_le_mul_left b (hf x a hx)
        rw [List.length_cons, List.length_cons]
        omega
theorem digN_le (c : UInt8) (a : Nat) (h : digN c = some a) : a ≤ 9 := by have := digN_good h; omega
theorem hexN_le (c : UInt8) (a : Nat) (h : hexN c = some a) : a ≤ 15 := by have := hexN_lt h; omega
/-- what a step takes -/
theorem escP_fine {t : List UInt8} {x : Stp} {n : Nat} (h : escP t = some (x, n)) : 1 ≤ n ∧ n ≤ t.length + 1 ∧ x.s.length ≤ 1 ∧ 0 ≤ x.n ∧ x.n ≤ 99 ∧ StpOk x := by
  cases t with
  | nil => cases h
  | cons d u =>
    rw [escP] at h
    rw [List.length_cons]
    repeat' (split at h)
    all_goals first
      | (injection h with h; injection h with h1 h2; subst h1 h2; simp [StpOk]; done)
      | (injection h with h; injection h with h1 h2; subst h1 h2; simp [StpOk]; omega)
      | (cases h; done)
      | skip
    · rename_i hq _
      have := two_fine digN_le hq
      injection h with h; injection h with h1 h2; subst h1 h2
      simp [StpOk]; omega
    · rename_i hq
      have := two_fine hexN_le hq
      injection h with h; injection h with h1 h2; subst h1 h2
      simp [StpOk]; omega
theorem stepP_fine {l : List UInt8} {x : Stp} {n : Nat} (h : stepP l = some (x, n)) : 1 ≤ n ∧ n ≤ l.length ∧ x.s.length ≤ 1 ∧ 0 ≤ x.n ∧ x.n ≤ 99 ∧ StpOk x := by
  cases l with
  | nil => cases h
  | cons c t =>
    rw [stepP] at h
    rw [List.length_cons]
    split at h
    · exact escP_fine h
    · split at h
      · cases h
      · injection h with h; injection h with h1 h2; subst h1 h2
        simp [StpOk]
/-- steps so far, of a text of which so much is left -/
def OutOk (out : List Stp) (left : Nat) : Prop := out.length + left ≤ 255 ∧ ∀ x ∈ out, x.s.length + left ≤ 255 ∧ 0 ≤ x.n ∧ x.n + 99 * left ≤ 25245 ∧ StpOk x
theorem pushP_join {out : List Stp} {y x : Stp} (h : y.kind = x.kind ∧ x.kind < 3) : pushP (out ++ [y]) x = out ++ [⟨y.kind, y.s ++ x.s, y.n + x.n⟩] := by
  unfold pushP
  rw [show (out ++ [y]).getLast? = some y by simp]
  simp only
  rw [if_pos h, List.dropLast_concat]
theorem pushP_new {out : List Stp} {y x : Stp} (h : ¬ (y.kind = x.kind ∧ x.kind < 3)) : pushP (out ++ [y]) x = out ++ [y] ++ [x] := by
  unfold pushP
  rw [show (out ++ [y]).getLast? = some y by simp]
  simp only
  rw [if_neg h]
theorem OutOk.push {out : List Stp} {x : Stp} {left n : Nat} (h : OutOk out left) (h1 : 1 ≤ n ∧ n ≤ left ∧ x.s.length ≤ 1 ∧ 0 ≤ x.n ∧ x.n ≤ 99 ∧ StpOk x) : OutOk (pushP out x) (left - n) := by
  obtain ⟨hl, ha⟩ := h
  obtain ⟨g1, g2, g3, g4, g5, g6⟩ := h1
  have old : ∀ z ∈ out, z.s.length + (left - n) ≤ 255 ∧ 0 ≤ z.n ∧ z.n + 99 * (left - n : Nat) ≤ 25245 ∧ StpOk z := fun z hz => by
    obtain ⟨a1, a2, a3, a4⟩ := ha z hz
    exact ⟨by omega, a2, by omega, a4⟩
  have new_ : x.s.length + (left - n) ≤ 255 ∧ 0 ≤ x.n ∧ x.n + 99 * (left - n : Nat) ≤ 25245 ∧ StpOk x := ⟨by omega, g4, by omega, g6⟩
  rcases List.eq_nil_or_concat out with rfl | ⟨o, y, rfl⟩
  · refine ⟨by simp [pushP]; omega, fun z hz => ?_⟩
    simp [pushP] at hz
    subst hz
    exact new_
  · rw [List.concat_eq_append] at *
    rw [List.length_append] at hl
    simp only [List.length_cons, List.length_nil] at hl
    by_cases hj : y.kind = x.kind ∧ x.kind < 3
    · rw [pushP_join hj]
      refine ⟨by rw [List.length_append]; simp only [List.length_cons, List.length_nil]; omega, fun z hz => ?_⟩
      rcases List.mem_append.1 hz with hz | hz
      · exact old z (List.mem_append.2 (.inl hz))
      · rw [List.mem_singleton] at hz
        subst hz
        obtain ⟨a1, a2, a3, a4⟩ := ha y (List.mem_append.2 (.inr (List.mem_singleton.2 rfl)))
        refine ⟨by simp only [List.length_append]; omega, by simp only; omega, by simp only; omega, ?_⟩
        unfold StpOk at a4 g6 ⊢
        simp only
        rcases a4 with ⟨p1, p2⟩ | ⟨p1, p2⟩ | ⟨p1, p2, p3⟩
        · left; rcases g6 with ⟨q1, q2⟩ | ⟨q1, q2⟩ | ⟨q1, q2, q3⟩ <;> omega
        · right; left
          rcases g6 with ⟨q1, q2⟩ | ⟨q1, q2⟩ | ⟨q1, q2, q3⟩
          · omega
          · exact ⟨p1, by rw [p2, q2]; rfl⟩
          · omega
        · omega
    · rw [pushP_new hj]
      refine ⟨by simp only [List.length_append, List.length_cons, List.length_nil]; omega, fun z hz => ?_⟩
      rcases List.mem_append.1 hz with hz | hz
      · exact old z hz
      · rw [List.mem_singleton] at hz
        subst hz
        exact new_
end Go.Proofs.YtkmpdobojgiegaaGreatDoor

/-
  brk.Read.
-/
namespace Go.Proofs.YtkmpdobojgiegaaGreatDoor
open Go.RowKit

/-- what Read hands back: the steps, or the code -/
def BrkPost (O : Int × List Stp) (w : World) (e : Ending) (w' : World) : Prop :=
  (∃ v, e = .returned (.tuple #[v, .int .i64 O.1]) ∧ OwnS stpR 3 w' w.heap.size 272 v O.2) ∧ Keeps (fun _ => False) w w'
theorem sp_cell {out : List Stp} {j : Nat} {x : Stp} (h : out[j]? = some x) : (out.map stpV)[j]? = some (stpV x) := by rw [List.getElem?_map, h]; rfl
theorem set_last (l : List Value) (a b : Value) (n : Nat) (h : n = l.length) : (l ++ [a]).set n b = l ++ [b] := by subst h; simp
theorem stpV_form (x : Stp) : ∃ ty v, stpV x = .iface ty v := by unfold stpV; split; exact ⟨_, _, rfl⟩; split <;> exact ⟨_, _, rfl⟩
theorem dropx (s : ByteArray) (l : List UInt8) (h : s.data.toList = l) (n : Nat) : s.extract n s.size = str (l.drop n) := ba_ext (by
  rw [ByteArray.data_extract, Array.toList_extract, List.extract_eq_take_drop, h, str_list]
  rw [List.take_of_length_le (by rw [List.length_drop, ba_len h]; exact Nat.le_refl _)])
theorem stepsP_cons (f : Nat) (out : List Stp) (c : UInt8) (t : List UInt8) : stepsP (f + 1) out (c :: t) = match stepP (c :: t) with | none => none | some (x, n) => stepsP f (pushP out x) ((c :: t).drop n) := by
  rw [stepsP, if_neg (by simp)]
  try (cases stepP (c :: t) <;> rfl)
def brkOut (R : Option (List Stp)) : Int × List Stp := match R with | none => (3, []) | some out => (0, out)
theorem stepsP_nil (f : Nat) (out : List Stp) : stepsP f out [] = some out := by
  cases f with
  | zero => rfl
  | succ f => rw [stepsP, if_pos rfl]
set_option maxRecDepth 100000 in
set_option maxHeartbeats 1000000 in
theorem bread_any (w : World) (s : ByteArray) (hs : s.size ≤ 1073741824) : Calls Tryz.prog 109 #[.string s] w fun e w' => BrkPost (brkP s.data.toList) w e w' := by
  obtain ⟨l, hl⟩ : ∃ l, l = s.data.toList := ⟨_, rfl⟩
  have hln : s.size = l.length := ba_len hl.symm
  rw [← hl]
  obtain rfl : s = str l := ba_ext (by rw [str_list, hl])
  obtain ⟨O, hO⟩ : ∃ O, O = brkP l := ⟨_, rfl⟩
  rw [← hO]
  clear hl hln
  rw [str_size] at hs
  by_cases hbig : 255 < l.length
  · have HO : Hid (O = (5, [])) := Lib.hid (by rw [hO]; unfold brkP; rw [if_pos hbig])
    have hb2 : 255 < ((str l).size : Int) := by rw [str_size]; omega
    clear hO hbig
    go_enter Tryz.func109, Tryz.ntmps109
    go_wp2
    go_ret2
    exact ⟨⟨_, by rw [HO.out]; rfl, by rw [HO.out]; exact OwnS.none_⟩, Keeps.refl _ _⟩
  · have hb2 : ¬ 255 < ((str l).size : Int) := by rw [str_size]; omega
    obtain ⟨R, hR⟩ : ∃ R, R = stepsP l.length [] l := ⟨_, rfl⟩
    have HO : Hid (O = brkOut R) := Lib.hid (by rw [hO, hR]; unfold brkP; rw [if_neg hbig]; cases stepsP l.length [] l <;> rfl)
    have HR := Lib.hid hR
    have hll : l.length ≤ 255 := by omega
    clear hO hR hbig
    go_enter Tryz.func109, Tryz.ntmps109
    go_wp2_with fail
    go_loopg [0, 4] l.length (fun k u0 u4 wr => ∃ (rs : List UInt8) (out : List Stp) (f : Nat), k = rs.length ∧ u0 = .string (str rs) ∧ rs.length ≤ f ∧ Hid (OwnL wr w.heap.size 266 u4 (out.map stpV) ∧ OutOk out rs.length ∧ stepsP f out rs = R ∧ Keeps (fun _ => False) w wr))
    case atStart => exact ⟨l, [], l.length, rfl, rfl, Nat.le_refl _, Lib.hid ⟨OwnL.none_ _ _ _, ⟨by simp; omega, by simp⟩, HR.out.symm, Keeps.refl _ _⟩⟩
    case round =>
      obtain ⟨rs, out, f, rfl, rfl, hf, HI⟩ := hrel
      obtain ⟨hOw, hok, hst, hK⟩ := HI.out
      obtain ⟨av, cv, rfl⟩ := hOw.sl'
      rw [List.length_map] at hOw
      have hol : out.length ≤ 255 := by have := hok.1; omega
      have HOW := Lib.hid hOw
      have HOK := Lib.hid hok
      have HST := Lib.hid hst
      have HK := Lib.hid hK
      have hszr := hK.size
      simp only [List.length_map]
      clear HI hOw hok hst hK
      cases rs with
      | nil =>
        have hnil : (str ([] : List UInt8)) = ⟨#[]⟩ := rfl
        have HRE : Hid (R = some out) := Lib.hid (by rw [← HST.out, stepsP_nil])
        have HO2 : Hid (O = (0, out)) := Lib.hid (by rw [HO.out, HRE.out]; rfl)
        rw [hnil]
        clear hnil
        go_wp2_with fail
        go_loopw [10, 54] (fun u10 u54 wq => ∃ i : Nat, i ≤ out.length ∧ u54 = .int .i64 i ∧ Hid (OwnS stpR 3 wq w.heap.size 272 u10 (out.take i) ∧ OwnL wq w.heap.size 266 (.slice av out.length cv) (out.map stpV) ∧ Keeps (fun _ => False) w wq)) (fun _ u54 _ => out.length - (intOf u54).toNat)
        case atStart => exact ⟨0, Nat.zero_le _, rfl, Lib.hid ⟨by rw [List.take_zero]; exact OwnS.none_, HOW.out, HK.out⟩⟩
        case round =>
          obtain ⟨i, hi, rfl, HI⟩ := hrel
          obtain ⟨h1, h2, h3⟩ := HI.out
          have htl : (out.take i).length = i := by rw [List.length_take]; omega
          have hsl := h1.sl
          rw [htl] at hsl
          obtain ⟨av2, cv2, rfl⟩ := hsl
          have HT := Lib.hid htl
          have H1 := Lib.hid h1
          have H2 := Lib.hid h2
          have H3 := Lib.hid h3
          have hszq := h3.size
          clear HI h1 htl
          by_cases hlt : i < out.length
          · obtain ⟨x, hx⟩ : ∃ x, out[i]? = some x := ⟨_, List.getElem?_eq_getElem hlt⟩
            obtain ⟨a2, c2, hv2, -, -, hg, hcell⟩ := h2.shape
            rw [List.length_map] at hv2 hg
            injection hv2 with e1 _ e3
            subst e1 e3
            obtain ⟨g, rfl, hg1, hg2⟩ := hg (by omega)
            obtain ⟨y0, -⟩ := hcell g rfl i _ (sp_cell hx)
            have hxo := (HOK.out.2 x (List.mem_of_getElem? hx)).2.2.2
            have HTN : Hid (out.take (i + 1) = out.take i ++ [x]) := Lib.hid (by rw [List.take_add_one, hx]; rfl)
            have m1 := mOpS
            have m2 := mOpW
            have m3 := mOpB
            obtain ⟨xk, xs, xn⟩ := x
            clear hx hcell h2 h3
            unfold StpOk at hxo
            simp only at hxo
            rcases hxo with ⟨rfl, rfl⟩ | ⟨rfl, rfl⟩ | ⟨rfl, rfl, rfl⟩
            · simp only [stpV, if_true] at y0
              go_wp2_with fail
              refine (ops_any wr xs).mono ?_
              rintro e w3 ⟨rfl, k3⟩
              have HO1 := Lib.hid (OwnS.keeps H1.out k3 (fun _ _ _ _ => id))
              have HO2L := Lib.hid (H2.out.keeps k3 (fun _ _ _ => id))
              have HK3 := Lib.hid (H3.out.trans k3)
              have hs3 := k3.size
              clear k3
              go_wp2_with (with_reducible show wpList _ _ _ (⟨some 62, _, _, _, _, _⟩ :: _) _ _; go_must (refine wpList_append_st stpR 3 stpR_len (by decide) rfl (.tmp 58) (.tmp 61) 34 rfl w.heap.size 272 (.agg #[.int .i64 0, .string ⟨#[]⟩, .int .i64 0]) 32 Tryz.underlying34 (by kernel_rfl) rfl (by omega) (.slice av2 i cv2) (out.take i) rfl (OwnS.keeps (S := fun _ => False) HO1.out ((Keeps.refl _ _).alloc _) (fun _ _ _ _ => id)) w3.heap.size 1 ⟨1, xs, 0⟩ rfl (Blk.new _ _ _) (stpR_one _) (by rw [HT.out]; omega) (by simp; omega) ?_; intro v7 w7 O7 k7; have HO7 := Lib.hid O7; have HK7 := Lib.hid k7; clear O7 k7))
              go_roundw
              case rel => exact ⟨i + 1, by omega, by go_num, Lib.hid ⟨by rw [HTN.out]; exact HO7.out, OwnL.keepsT (HO2L.out.keeps ((Keeps.refl _ _).alloc (.cells #[.int .i64 1, .string (str xs), .int .i64 0] 272)) (fun _ _ _ => id)) HK7.out (fun j _ ⟨_, hb⟩ e => by obtain ⟨_, _, hb2⟩ := e; exact Blk.ne_ hb hb2 (by decide) rfl), (HK3.out.alloc (.cells #[.int .i64 1, .string (str xs), .int .i64 0] 272)).and_ HK7.out (fun j hj e => by have := e.1; omega)⟩⟩
              case measure => simp [intOf] <;> omega
            · simp only [stpV, show ((2 : Int) = 1) = False by simp, if_false, if_true] at y0
              go_wp2_with fail
              refine (opw_any wr xn).mono ?_
              rintro e w3 ⟨rfl, k3⟩
              have HO1 := Lib.hid (OwnS.keeps H1.out k3 (fun _ _ _ _ => id))
              have HO2L := Lib.hid (H2.out.keeps k3 (fun _ _ _ => id))
              have HK3 := Lib.hid (H3.out.trans k3)
              have hs3 := k3.size
              clear k3
              go_wp2_with (with_reducible show wpList _ _ _ (⟨some 62, _, _, _, _, _⟩ :: _) _ _; go_must (refine wpList_append_st stpR 3 stpR_len (by decide) rfl (.tmp 58) (.tmp 61) 34 rfl w.heap.size 272 (.agg #[.int .i64 0, .string ⟨#[]⟩, .int .i64 0]) 32 Tryz.underlying34 (by kernel_rfl) rfl (by omega) (.slice av2 i cv2) (out.take i) rfl (OwnS.keeps (S := fun _ => False) HO1.out ((Keeps.refl _ _).alloc _) (fun _ _ _ _ => id)) w3.heap.size 1 ⟨2, [], xn⟩ rfl (Blk.new _ _ _) (stpR_one _) (by rw [HT.out]; omega) (by simp; omega) ?_; intro v7 w7 O7 k7; have HO7 := Lib.hid O7; have HK7 := Lib.hid k7; clear O7 k7))
              go_roundw
              case rel => exact ⟨i + 1, by omega, by go_num, Lib.hid ⟨by rw [HTN.out]; exact HO7.out, OwnL.keepsT (HO2L.out.keeps ((Keeps.refl _ _).alloc (.cells #[.int .i64 2, .string ⟨#[]⟩, .int .i64 xn] 272)) (fun _ _ _ => id)) HK7.out (fun j _ ⟨_, hb⟩ e => by obtain ⟨_, _, hb2⟩ := e; exact Blk.ne_ hb hb2 (by decide) rfl), (HK3.out.alloc (.cells #[.int .i64 2, .string ⟨#[]⟩, .int .i64 xn] 272)).and_ HK7.out (fun j hj e => by have := e.1; omega)⟩⟩
              case measure => simp [intOf] <;> omega
            · simp only [stpV, show ((3 : Int) = 1) = False by simp, show ((3 : Int) = 2) = False by simp, if_false] at y0
              go_wp2_with fail
              refine (opb_any wr).mono ?_
              rintro e w3 ⟨rfl, k3⟩
              have HO1 := Lib.hid (OwnS.keeps H1.out k3 (fun _ _ _ _ => id))
              have HO2L := Lib.hid (H2.out.keeps k3 (fun _ _ _ => id))
              have HK3 := Lib.hid (H3.out.trans k3)
              have hs3 := k3.size
              clear k3
              go_wp2_with (with_reducible show wpList _ _ _ (⟨some 62, _, _, _, _, _⟩ :: _) _ _; go_must (refine wpList_append_st stpR 3 stpR_len (by decide) rfl (.tmp 58) (.tmp 61) 34 rfl w.heap.size 272 (.agg #[.int .i64 0, .string ⟨#[]⟩, .int .i64 0]) 32 Tryz.underlying34 (by kernel_rfl) rfl (by omega) (.slice av2 i cv2) (out.take i) rfl (OwnS.keeps (S := fun _ => False) HO1.out ((Keeps.refl _ _).alloc _) (fun _ _ _ _ => id)) w3.heap.size 1 ⟨3, [], 0⟩ rfl (Blk.new _ _ _) (stpR_one _) (by rw [HT.out]; omega) (by simp; omega) ?_; intro v7 w7 O7 k7; have HO7 := Lib.hid O7; have HK7 := Lib.hid k7; clear O7 k7))
              go_roundw
              case rel => exact ⟨i + 1, by omega, by go_num, Lib.hid ⟨by rw [HTN.out]; exact HO7.out, OwnL.keepsT (HO2L.out.keeps ((Keeps.refl _ _).alloc (.cells #[.int .i64 3, .string ⟨#[]⟩, .int .i64 0] 272)) (fun _ _ _ => id)) HK7.out (fun j _ ⟨_, hb⟩ e => by obtain ⟨_, _, hb2⟩ := e; exact Blk.ne_ hb hb2 (by decide) rfl), (HK3.out.alloc (.cells #[.int .i64 3, .string ⟨#[]⟩, .int .i64 0] 272)).and_ HK7.out (fun j hj e => by have := e.1; omega)⟩⟩
              case measure => simp [intOf] <;> omega
          · have hie : i = out.length := by omega
            subst hie
            have h1 := H1.out
            rw [List.take_of_length_le (Nat.le_refl _)] at h1
            have H1e := Lib.hid h1
            clear h1 h2 h3
            go_wp2_with fail
            go_ret2
            exact ⟨⟨_, by rw [HO2.out]; rfl, by rw [HO2.out]; exact H1e.out⟩, H3.out⟩
      | cons c t =>
        have hne : (str (c :: t)).toList.isEmpty = false := ne_nil (by rw [str_list]; simp)
        have hon := fun W => bone_any W (str (c :: t)) c t (str_list _) (by have := HOK.out.1; rw [str_size]; omega)
        have HON := Lib.hid hon
        clear hon
        go_wp2_with fail
        refine (HON.out _).mono ?_
        rintro e w2 ⟨rfl, k2⟩
        have HK2 := Lib.hid (HK.out.trans k2)
        have HOW2 := Lib.hid (HOW.out.keeps k2 (fun _ _ _ => id))
        have hs2 := k2.size
        clear k2
        cases hq : stepP (c :: t) with
        | none =>
          have HO2 : Hid (O = (3, [])) := Lib.hid (by
            have := HST.out
            obtain ⟨f', rfl⟩ : ∃ f', f = f' + 1 := ⟨f - 1, by rw [List.length_cons] at hf; omega⟩
            rw [stepsP_cons, hq] at this
            rw [HO.out, ← this]; rfl)
          clear hq
          unfold stepV
          simp only
          go_wp2_with fail
          go_ret2
          exact ⟨⟨_, by rw [HO2.out]; rfl, by rw [HO2.out]; exact OwnS.none_⟩, HK2.out⟩
        | some p =>
          obtain ⟨x, n⟩ := p
          have hfx := stepP_fine hq
          have hsz := HOK.out.1
          simp only [List.length_cons] at hfx hsz hf
          have HST2 : Hid (∃ f', (t.length + 1 - n) ≤ f' ∧ stepsP f' (pushP out x) ((c :: t).drop n) = R) := Lib.hid (by
            have := HST.out
            obtain ⟨f', rfl⟩ : ∃ f', f = f' + 1 := ⟨f - 1, by omega⟩
            rw [stepsP_cons, hq] at this
            exact ⟨f', by omega, this⟩)
          have HOKN := Lib.hid (HOK.out.push (x := x) (n := n) (by rw [List.length_cons]; exact hfx))
          have HDX : Hid ((str (c :: t)).extract n (str (c :: t)).size = str ((c :: t).drop n)) := Lib.hid (dropx _ _ (str_list _) n)
          have hn1 := hfx.1
          have hn2 : (n : Int) ≤ ((str (c :: t)).size : Int) := by rw [str_size, List.length_cons]; omega
          have hn0 : ((n : Int) == 0) = false := by rw [beq_eq_false_iff_ne]; omega
          have HFX := Lib.hid hfx.2.2
          have hnl := hfx.2.1
          clear hq hfx
          rw [show stepV (some (x, n)) = .tuple #[stpV x, .int .i64 n] from rfl]
          obtain ⟨ty, vx, hvx⟩ := stpV_form x
          have HVX := Lib.hid hvx
          rw [hvx]
          clear hvx
          rcases List.eq_nil_or_concat out with hout | ⟨o, y, hout⟩
          · have HPN : Hid (pushP out x = out ++ [x]) := Lib.hid (by rw [hout]; rfl)
            have hz : out.length = 0 := by rw [hout]; rfl
            have hzb : ¬ (0 : Int) < out.length := by omega
            obtain ⟨wZ, hwZ⟩ : ∃ wZ, wZ = w2 := ⟨_, rfl⟩
            have KZ := Lib.hid HK2.out
            rw [← hwZ] at KZ HOW2 ⊢
            have hszZ : w2.heap.size ≤ wZ.heap.size := by rw [hwZ]; exact Nat.le_refl _
            clear hout hz hwZ
            go_wp2_with (with_reducible show wpList _ _ _ (⟨some 51, _, _, _, _, _⟩ :: _) _ _; go_must (refine wpList_append_onet rfl (.tmp 48) (.tmp 50) 264 rfl w.heap.size 266 .nilIface 16 Tryz.underlying264 (by kernel_rfl) rfl (by omega) (.slice av out.length cv) (out.map stpV) rfl (OwnL.keeps (S := fun _ => False) HOW2.out ((Keeps.refl _ _).alloc _) (fun _ _ _ => id)) ⟨wZ.heap.size, 0, none⟩ 1 (.iface ty vx) rfl (by go_simp) rfl (by rw [List.length_map]; omega) (by simp; omega) ?_; intro v7 w7 O7 k7; have HO7 := Lib.hid O7; have HK7 := Lib.hid k7; clear O7 k7))
            go_roundg (t.length + 1 - n)
            case rel =>
              obtain ⟨f', hf', hst'⟩ := HST2.out
              have hlen : ((c :: t).drop n).length = t.length + 1 - n := by rw [List.length_drop, List.length_cons]
              exact ⟨(c :: t).drop n, out ++ [x], f', hlen.symm, by rw [HDX.out], by rw [hlen]; exact hf', Lib.hid ⟨by rw [List.map_append, List.map_cons, List.map_nil, HVX.out]; exact HO7.out, by have := HOKN.out; rw [HPN.out] at this; rw [hlen]; exact this, by rw [← HPN.out]; exact hst', (KZ.out.alloc (.cells #[.iface ty vx] 266)).and_ HK7.out (fun i hi e => by have := e.1; omega)⟩⟩
            all_goals first | omega | (simp only [List.length_cons]; omega)
          · rw [List.concat_eq_append] at hout
            have hlo : out.length = o.length + 1 := by rw [hout]; simp
            obtain ⟨a2, c2, hv2, -, -, hg, hcell⟩ := HOW2.out.shape
            rw [List.length_map] at hv2 hg
            injection hv2 with e1 _ e3
            subst e1 e3
            obtain ⟨g, rfl, hg1, hg2⟩ := hg (by omega)
            have hy : out[o.length]? = some y := by rw [hout]; simp
            obtain ⟨ty2, vy, hvy⟩ := stpV_form y
            have hcy := hcell g rfl o.length _ (sp_cell hy)
            rw [hvy] at hcy
            obtain ⟨y0, yf⟩ := hcy
            have hym := HOK.out.2 y (List.mem_of_getElem? hy)
            have HJ : Hid (Calls Tryz.prog 165 #[.iface ty2 vy, .iface ty vx] w2 fun e w' => e = .returned (joinV y x) ∧ Keeps (fun _ => False) w2 w') := Lib.hid (by
              have := join_any w2 y x hym.2.2.2 HFX.out.2.2.2 (by have := HFX.out.1; have := hym.1; omega) (by have := HFX.out; have := hym; omega)
              rw [hvy, HVX.out] at this
              exact this)
            have HVY := Lib.hid hvy
            have hpos : (0 : Int) < out.length := by omega
            have hwr : IntKind.i64.wrap ((out.length : Int) - 1) = (o.length : Int) := by rw [hlo]; rw [show ((o.length + 1 : Nat) : Int) - 1 = o.length by omega]; exact IntWalk.i64_in _ (by omega)
            have HLO := Lib.hid hlo
            have HOUT := Lib.hid hout
            have hob : (o.length : Int) < out.length := by omega
            have hon : o.length < out.length := by omega
            clear hcell hy hvy hym hlo hout
            go_wp2_with fail
            refine HJ.out.mono ?_
            rintro e w3 ⟨rfl, k3⟩
            have y0 := (World.cell?_of_block (w := w2) (k3.block g hg2 id)).trans y0
            have yf3 := (HOW2.out.keeps k3 (fun _ _ _ => id))
            have HK3 := Lib.hid (HK2.out.trans k3)
            have HOW3 := Lib.hid yf3
            obtain ⟨a3, c3, hv3, -, -, -, hcell3⟩ := yf3.shape
            have e1 : (some ⟨g, 0, none⟩ : Option Addr) = a3 := by injection hv3
            clear hv3
            have hyy : out[o.length]? = some y := by rw [HOUT.out]; simp
            obtain ⟨-, yf3⟩ := hcell3 g e1.symm o.length _ (sp_cell hyy)
            have hs3 := k3.size
            clear k3 e1 hcell3 hyy yf
            by_cases hj : y.kind = x.kind ∧ x.kind < 3
            · have HJV : Hid (joinV y x = .tuple #[stpV ⟨y.kind, y.s ++ x.s, y.n + x.n⟩, .bool true]) := Lib.hid (by unfold joinV; rw [if_pos hj])
              have HPJ : Hid (pushP out x = o ++ [⟨y.kind, y.s ++ x.s, y.n + x.n⟩]) := Lib.hid (by rw [HOUT.out]; exact pushP_join hj)
              rw [HJV.out]
              obtain ⟨ty4, vz, hvz⟩ := stpV_form ⟨y.kind, y.s ++ x.s, y.n + x.n⟩
              rw [hvz]
              have HVZ := Lib.hid hvz
              clear hj hvz
              go_wp2_with fail
              go_roundg (t.length + 1 - n)
              case rel =>
                obtain ⟨f', hf', hst'⟩ := HST2.out
                have hlen : ((c :: t).drop n).length = t.length + 1 - n := by rw [List.length_drop, List.length_cons]
                have hset := OwnL.setC HOW3.out o.length (.iface ty4 vz)
                have hse : (out.map stpV).set o.length (.iface ty4 vz) = (o ++ [(⟨y.kind, y.s ++ x.s, y.n + x.n⟩ : Stp)]).map stpV := by rw [HOUT.out, List.map_append, List.map_append, List.map_cons, List.map_nil, List.map_cons, List.map_nil, set_last _ _ _ _ (by rw [List.length_map]), HVZ.out]
                rw [hse] at hset
                exact ⟨(c :: t).drop n, o ++ [⟨y.kind, y.s ++ x.s, y.n + x.n⟩], f', hlen.symm, by rw [HDX.out], by rw [hlen]; exact hf', Lib.hid ⟨hset, by have := HOKN.out; rw [HPJ.out] at this; rw [hlen]; exact this, by rw [← HPJ.out]; exact hst', HK3.out.setCell (p := ⟨g, o.length, none⟩) (fun h => absurd (show g < w.heap.size from h) (by omega)) _⟩⟩
              all_goals first | omega | (simp only [List.length_cons]; omega)
            · have HJV : Hid (joinV y x = .tuple #[.nilIface, .bool false]) := Lib.hid (by unfold joinV; rw [if_neg hj])
              have HPN : Hid (pushP out x = out ++ [x]) := Lib.hid (by rw [HOUT.out]; exact pushP_new hj)
              rw [HJV.out]
              obtain ⟨wZ, hwZ⟩ : ∃ wZ, wZ = w3 := ⟨_, rfl⟩
              have KZ := Lib.hid HK3.out
              rw [← hwZ] at KZ HOW3 ⊢
              have hszZ : w2.heap.size ≤ wZ.heap.size := by rw [hwZ]; exact hs3
              clear hj hwZ hs3 y0 yf3
              go_wp2_with (with_reducible show wpList _ _ _ (⟨some 51, _, _, _, _, _⟩ :: _) _ _; go_must (refine wpList_append_onet rfl (.tmp 48) (.tmp 50) 264 rfl w.heap.size 266 .nilIface 16 Tryz.underlying264 (by kernel_rfl) rfl (by omega) (.slice (some ⟨g, 0, none⟩) out.length cv) (out.map stpV) rfl (OwnL.keeps (S := fun _ => False) HOW3.out ((Keeps.refl _ _).alloc _) (fun _ _ _ => id)) ⟨wZ.heap.size, 0, none⟩ 1 (.iface ty vx) rfl (by go_simp) rfl (by rw [List.length_map]; omega) (by simp; omega) ?_; intro v7 w7 O7 k7; have HO7 := Lib.hid O7; have HK7 := Lib.hid k7; clear O7 k7))
              go_roundg (t.length + 1 - n)
              case rel =>
                obtain ⟨f', hf', hst'⟩ := HST2.out
                have hlen : ((c :: t).drop n).length = t.length + 1 - n := by rw [List.length_drop, List.length_cons]
                exact ⟨(c :: t).drop n, out ++ [x], f', hlen.symm, by rw [HDX.out], by rw [hlen]; exact hf', Lib.hid ⟨by rw [List.map_append, List.map_cons, List.map_nil, HVX.out]; exact HO7.out, by have := HOKN.out; rw [HPN.out] at this; rw [hlen]; exact this, by rw [← HPN.out]; exact hst', (KZ.out.alloc (.cells #[.iface ty vx] 266)).and_ HK7.out (fun i hi e => by have := e.1; omega)⟩⟩
              all_goals first | omega | (simp only [List.length_cons]; omega)
end Go.Proofs.YtkmpdobojgiegaaGreatDoor

/-
  The ring's readers: what Made, Len, Room, Gone and At of package ring hand back, for a ring that New made and for one that nobody made.
-/
namespace Go.Proofs.YtkmpdobojgiegaaGreatDoor
open Go.RowKit

/-- a ring's memory: its struct at block g, its bytes arr at block b, the first one at place f; t is what is there, gone is how many went -/
structure RingAt (w : World) (g b m f : Nat) (arr t : List UInt8) (gone : Nat) : Prop where
  top : Blk w g 245 #[.slice (some ⟨b, 0, none⟩) m m, .int .i64 f, .int .i64 t.length, .int .i64 gone]
  row : Blk w b 5 (bv arr)
  len : arr.length = m
  pos : 0 < m
  small : m ≤ 1048576
  first : f < m
  fits : t.length ≤ m
  text : ∀ i, i < t.length → arr[(f + i) % m]? = t[i]?

theorem made_yes (w : World) (g b m f : Nat) (arr t : List UInt8) (gone : Nat) (h : RingAt w g b m f arr t gone) :
    Calls Tryz.prog 189 #[.pointer (some ⟨g, 0, none⟩)] w (Qt (.bool true) w) := by
  have c0 := h.top.cell 0
  simp at c0
  have hp : 0 < m := h.pos
  go_enter Tryz.func189, Tryz.ntmps189
  go_wp2
  all_goals go_ret
  exact ⟨rfl, 0, rfl⟩

theorem len_yes (w : World) (g b m f : Nat) (arr t : List UInt8) (gone : Nat) (h : RingAt w g b m f arr t gone) :
    Calls Tryz.prog 142 #[.pointer (some ⟨g, 0, none⟩)] w (Qt (.int .i64 t.length) w) := by
  have c2 := h.top.cell 2
  simp at c2
  go_enter Tryz.func142, Tryz.ntmps142
  go_wp2_with (go_at_call 189; refine (made_yes _ _ _ _ _ _ _ _ h).mono ?_; rintro e w' ⟨rfl, n, rfl⟩)
  go_ret
  exact ⟨rfl, _, rfl⟩

theorem room_yes (w : World) (g b m f : Nat) (arr t : List UInt8) (gone : Nat) (h : RingAt w g b m f arr t gone) :
    Calls Tryz.prog 190 #[.pointer (some ⟨g, 0, none⟩)] w (Qt (.int .i64 ((m : Int) - t.length)) w) := by
  have c0 := h.top.cell 0
  have c2 := h.top.cell 2
  simp at c0 c2
  have h1 := h.small
  have h2 := h.fits
  go_enter Tryz.func190, Tryz.ntmps190
  go_wp2_with (go_at_call 189; refine (made_yes _ _ _ _ _ _ _ _ h).mono ?_; rintro e w' ⟨rfl, n, rfl⟩)
  go_quiet (fail)
  go_wp2
  go_ret
  exact Qt.of2 rfl

theorem held_any_ringa (w : World) (g b m f : Nat) (arr t : List UInt8) (gone : Nat) (k : Int) (h : RingAt w g b m f arr t gone) :
    Calls Tryz.prog 252 #[.pointer (some ⟨g, 0, none⟩), .int .i64 k] w (Qt (.int .i64 (min k.toNat t.length : Nat)) w) := by
  go_enter Tryz.func252, Tryz.ntmps252
  go_wp2_with (go_at_call 142; refine (len_yes _ _ _ _ _ _ _ _ h).mono ?_; rintro e w' ⟨rfl, n, rfl⟩)
  all_goals go_ret
  all_goals exact Qt.of (int_eq (by omega))

theorem at_nat (w : World) (g b m f : Nat) (arr t : List UInt8) (gone : Nat) (k : Nat) (h : RingAt w g b m f arr t gone) (hk : k < t.length) :
    Calls Tryz.prog 72 #[.pointer (some ⟨g, 0, none⟩), .int .i64 k] w (Qt (.tuple #[.int .u8 (t[k].toNat : Int), .bool true]) w) := by
  have c0 := h.top.cell 0
  have c1 := h.top.cell 1
  simp at c0 c1
  have h1 := h.small
  have h2 := h.fits
  have h3 := h.first
  have hlt := Nat.mod_lt (f + k) h.pos
  have hb := h.row.cell ((f + k) % m)
  rw [bv_get _ _ (by rw [h.len]; exact hlt)] at hb
  have ht := h.text k hk
  rw [List.getElem?_eq_getElem (by rw [h.len]; exact hlt), List.getElem?_eq_getElem hk] at ht
  injection ht with ht
  rw [ht] at hb
  clear ht
  have e0 : ((f : Int) + k) % m = ((f + k) % m : Nat) := by simp
  have e1 : 0 ≤ ((f : Int) + k) % m := by omega
  have e2 : ((f : Int) + k) % m < m := by omega
  have e4 : (((f : Int) + k) % m).toNat = (f + k) % m := by omega
  clear e0
  go_enter Tryz.func72, Tryz.ntmps72
  go_wp2_with (go_at_call 142; refine (len_yes _ _ _ _ _ _ _ _ h).mono ?_; rintro e w' ⟨rfl, n, rfl⟩)
  go_quiet (fail)
  go_wp2
  go_ret2
  exact Qt.of2 rfl

theorem at_in (w : World) (g b m f : Nat) (arr t : List UInt8) (gone : Nat) (k : Int) (c : UInt8) (h : RingAt w g b m f arr t gone) (h0 : 0 ≤ k) (hc : t[k.toNat]? = some c) :
    Calls Tryz.prog 72 #[.pointer (some ⟨g, 0, none⟩), .int .i64 k] w (Qt (.tuple #[.int .u8 (c.toNat : Int), .bool true]) w) := by
  obtain ⟨n, rfl⟩ := Int.eq_ofNat_of_zero_le h0
  obtain ⟨hlt, rfl⟩ := List.getElem?_eq_some_iff.1 hc
  exact at_nat w g b m f arr t gone n h hlt
end Go.Proofs.YtkmpdobojgiegaaGreatDoor

/-
  The ring's inner writers: what put, skip and peek of its room do to its memory.
-/
namespace Go.Proofs.YtkmpdobojgiegaaGreatDoor
open Go.RowKit

set_option maxRecDepth 100000 in
theorem mod_two (f i m : Nat) (hf : f < m) (hi : i ≤ m) : (f + i) % m = if f + i < m then f + i else f + i - m := by
  by_cases h : f + i < m
  · rw [if_pos h, Nat.mod_eq_of_lt h]
  · rw [if_neg h, Nat.mod_eq_sub_mod (by omega), Nat.mod_eq_of_lt (by omega)]

set_option maxRecDepth 100000 in
/-- what put leaves: the bytes behind those that are there -/
theorem put_text (m f : Nat) (arr t s : List UInt8) (hlen : arr.length = m) (hf : f < m) (hfit : t.length + s.length ≤ m)
    (ht : ∀ i, i < t.length → arr[(f + i) % m]? = t[i]?) :
    ∀ i, i < (t ++ s).length →
      (splice (splice arr ((f + t.length) % m) (s.take (min s.length (m - (f + t.length) % m)))) 0 (s.drop (min s.length (m - (f + t.length) % m))))[(f + i) % m]? = (t ++ s)[i]? := by
  intro i hi
  simp only [List.length_append] at hi
  have ha := mod_two f t.length m hf (by omega)
  have hb := mod_two f i m hf (by omega)
  generalize (f + t.length) % m = at_ at *
  generalize hj : (f + i) % m = j at *
  have h1 : at_ < m := by split at ha <;> omega
  have h2 : j < m := by split at hb <;> omega
  generalize hn : min s.length (m - at_) = n
  have hl1 : (s.take n).length = n := by simp; omega
  have hl2 : (s.drop n).length = s.length - n := by simp
  have hg1 : at_ + (s.take n).length ≤ arr.length := by rw [hl1, hlen]; omega
  have hg2 : 0 + (s.drop n).length ≤ (splice arr at_ (s.take n)).length := by rw [splice_len _ _ _ hg1, hl2, hlen]; omega
  rw [splice_get _ _ _ hg2, splice_get _ _ _ hg1, hl1, hl2]
  by_cases hit : i < t.length
  · rw [List.getElem?_append_left hit, ← ht i hit, hj]
    rw [if_neg (by split at ha <;> split at hb <;> omega), if_neg (by split at ha <;> split at hb <;> omega)]
  · rw [List.getElem?_append_right (by omega)]
    by_cases hc : 0 ≤ j ∧ j < 0 + (s.length - n)
    · rw [if_pos hc, List.getElem?_drop]
      congr 1
      split at ha <;> split at hb <;> omega
    · rw [if_neg hc, if_pos (by split at ha <;> split at hb <;> omega), List.getElem?_take, if_pos (by split at ha <;> split at hb <;> omega)]
      congr 1
      split at ha <;> split at hb <;> omega

set_option maxRecDepth 100000 in
theorem skip_nat (w : World) (g b m f : Nat) (arr t : List UInt8) (gone k : Nat) (h : RingAt w g b m f arr t gone) (hk : k ≤ t.length) :
    Calls Tryz.prog 191 #[.pointer (some ⟨g, 0, none⟩), .int .i64 k] w fun e w' => e = .returned (.tuple #[]) ∧ Keeps (· = g) w w' ∧ RingAt w' g b m ((f + k) % m) arr (t.drop k) gone := by
  have c0 := h.top.cell 0
  have c1 := h.top.cell 1
  have c2 := h.top.cell 2
  have f1 := h.top.frozen 1
  have f2 := h.top.frozen 2
  simp at c0 c1 c2
  have h1 := h.small
  have h2 := h.fits
  have h3 := h.first
  have hm := h.pos
  go_enter Tryz.func191, Tryz.ntmps191
  go_wp2
  go_region
  go_wp2
  go_end0
  have hgb : g ≠ b := h.top.ne_ h.row (by decide)
  refine ⟨rfl, by (repeat (first | (with_reducible assumption) | (with_reducible exact Keeps.refl _ _) | refine Keeps.drew ?_ | refine Keeps.drewN ?_ _ | refine Keeps.setCell ?_ (by simp) _ | refine Keeps.setRow ?_ (by simp) _ | refine Keeps.alloc ?_ _)), ?_, ?_, h.len, h.pos, h.small, Nat.mod_lt _ h.pos, ?_, ?_⟩
  · have := ((h.top.set_ 1 (.int .i64 (((f + k) % m : Nat) : Int))).set_ 2 (.int .i64 (((t.drop k).length : Nat) : Int))).drew
    have e : (((t.drop k).length : Nat) : Int) = (t.length : Int) - k := by simp; omega
    rw [e] at this ⊢
    simpa using this
  · exact ((h.row.far (p := ⟨g, 1, none⟩) (by simpa using hgb.symm) _).far (p := ⟨g, 2, none⟩) (by simpa using hgb.symm) _).drew
  · simp; omega
  · intro i hi
    simp only [List.length_drop] at hi
    rw [List.getElem?_drop, ← h.text (k + i) (by omega), Nat.mod_add_mod, Nat.add_assoc]

set_option maxRecDepth 100000 in
theorem put_any_ringb (w : World) (g b m f : Nat) (arr t : List UInt8) (gone : Nat) (s : ByteArray) (h : RingAt w g b m f arr t gone) (hk : t.length + s.size ≤ m) :
    Calls Tryz.prog 192 #[.pointer (some ⟨g, 0, none⟩), .string s] w fun e w' => e = .returned (.tuple #[]) ∧ Keeps (fun k => k = g ∨ k = b) w w' ∧ ∃ arr', RingAt w' g b m f arr' (t ++ s.data.toList) gone := by
  have hgb : g ≠ b := h.top.ne_ h.row (by decide)
  have c0 := h.top.cell 0
  have c1 := h.top.cell 1
  have c2 := h.top.cell 2
  have f1 := h.top.frozen 1
  have f2 := h.top.frozen 2
  simp at c0 c1 c2
  have h1 := h.small
  have h2 := h.fits
  have h3 := h.first
  have hm := h.pos
  have hsl : s.data.toList.length = s.size := by simp
  have e0 : ((f : Int) + t.length) % m = ((f + t.length) % m : Nat) := by simp
  obtain ⟨q, hq⟩ : ∃ q, q = (f + t.length) % m := ⟨_, rfl⟩
  have hqm : q < m := by rw [hq]; exact Nat.mod_lt _ hm
  rw [← hq] at e0
  have hT := put_text m f arr t s.data.toList h.len h.first (by rw [hsl]; omega) h.text
  rw [hsl, ← hq] at hT
  generalize hn : min s.size (m - q) = n at *
  have hn1 : n ≤ s.size := by omega
  have hn2 : n ≤ m - q := by omega
  have Hn := Lib.hid hn
  clear hn
  generalize hl : s.data.toList = l at *
  have Hl := Lib.hid hl
  have Hz := Lib.hid hsl
  clear hl hsl
  have HT := Lib.hid hT
  clear hT hq
  go_enter Tryz.func192, Tryz.ntmps192
  go_wp2
  go_region
  go_wp2_with (with_reducible show wpList _ _ _ (⟨some 28, _, _, _, _, _⟩ :: _) _ _; refine wpList_copy_str rfl (.tmp 26) (.tmp 27) 126 9 rfl 5 Tryz.underlying126 (by kernel_rfl) _ _ _ s rfl rfl b q arr 5 h.row.drew (fun _ => rfl) (by rw [h.len]; omega) ?_; rw [Hn.out, Hl.out]; intro w2 r2; clear c0 c1 c2 f1 f2 e0; have T2 := r2.far h.top.drew hgb.symm; have R2 := r2.blk h.row.drew; have K2 := r2.keeps (Keeps.refl (fun k => k = g ∨ k = b) w).drew (fun _ => .inr rfl); clear r2; have c0 := T2.cell 0; have c2 := T2.cell 2; have f2 := T2.frozen 2; simp at c0 c2)
  have hl2 : (splice arr q (List.take n l)).length = m := by rw [splice_len _ _ _ (by rw [h.len]; simp; omega), h.len]
  generalize splice arr q (List.take n l) = arr2 at *
  go_still_tail 7, (by kernel_rfl)
  rw [drew_mk]
  go_wp2_with (with_reducible show wpList _ _ _ (⟨some 36, _, _, _, _, _⟩ :: _) _ _; go_must (refine wpList_copy_str rfl (.tmp 32) (.tmp 35) 126 9 rfl 5 Tryz.underlying126 (by kernel_rfl) _ _ _ (s.extract n s.size) rfl rfl b 0 arr2 5 R2.drew (fun _ => rfl) (by rw [ext_size]; omega) ?_; rw [ext_list, ext_size, Hl.out, show min (s.size - n) m = l.length - n from by rw [Hz.out]; omega, List.take_of_length_le (by simp)]; intro w3 r3; clear c0 c2 f2; have T3 := r3.far (w := w2.drew) T2.drew hgb.symm; have R3 := r3.blk (w := w2.drew) R2.drew; have K3 := r3.keeps (w := w2.drew) K2.drew (fun _ => .inr rfl); clear r3; have c0 := T3.cell 0; have c2 := T3.cell 2; have f2 := T3.frozen 2; simp at c0 c2))
  go_end0
  refine ⟨rfl, by revert K3; exact fun K3 => K3.setCell (fun _ => .inl rfl) _, splice arr2 0 (List.drop n l), ?_, ?_, ?_, h.pos, h.small, h.first, ?_, HT.out⟩
  · have := T3.set_ 2 (.int .i64 (((t ++ l).length : Nat) : Int))
    rw [List.length_append, Hz.out] at this ⊢
    simpa using this
  · exact R3.far (p := ⟨g, 2, none⟩) (by simpa using hgb.symm) _
  · rw [splice_len _ _ _ (by simp [Hz.out]; omega), hl2]
  · rw [List.length_append, Hz.out]; omega

theorem peek_text (m f n : Nat) (arr t : List UInt8) (hlen : arr.length = m) (hf : f < m) (hfit : t.length ≤ m) (hn : n ≤ t.length)
    (ht : ∀ i, i < t.length → arr[(f + i) % m]? = t[i]?) :
    splice (splice (List.replicate n 0) 0 ((arr.drop f).take (min n (m - f)))) (min n (m - f)) (arr.take (n - min n (m - f))) = t.take n := by
  generalize hk : min n (m - f) = k
  have hl1 : ((arr.drop f).take k).length = k := by simp; omega
  have hl2 : (arr.take (n - k)).length = n - k := by simp; omega
  have hg1 : 0 + ((arr.drop f).take k).length ≤ (List.replicate n (0 : UInt8)).length := by rw [hl1]; simp; omega
  have hg2 : k + (arr.take (n - k)).length ≤ (splice (List.replicate n (0 : UInt8)) 0 ((arr.drop f).take k)).length := by rw [splice_len _ _ _ hg1, hl2]; simp; omega
  apply List.ext_getElem?
  intro i
  rw [splice_get _ _ _ hg2, splice_get _ _ _ hg1, hl1, hl2]
  by_cases hi : i < n
  · have hb := mod_two f i m hf (by omega)
    have hr : (t.take n)[i]? = arr[(f + i) % m]? := by rw [List.getElem?_take, if_pos hi, ← ht i (by omega)]
    rw [hr]
    by_cases hc : k ≤ i
    · rw [if_pos ⟨hc, by omega⟩, List.getElem?_take, if_pos (by omega)]
      congr 1
      split at hb <;> omega
    · rw [if_neg (by omega), if_pos (by omega), List.getElem?_take, if_pos (by omega), List.getElem?_drop]
      congr 1
      split at hb <;> omega
  · rw [if_neg (by omega), if_neg (by omega), List.getElem?_eq_none (by simp; omega), List.getElem?_eq_none (by simp; omega)]

set_option maxRecDepth 100000 in
theorem peek_nat (w : World) (g b m f : Nat) (arr t : List UInt8) (gone n : Nat) (h : RingAt w g b m f arr t gone) (hn : n ≤ t.length) :
    Calls Tryz.prog 256 #[.pointer (some ⟨g, 0, none⟩), .int .i64 n] w fun e w' => e = .returned (.string (str (t.take n))) ∧ Keeps (fun _ => False) w w' := by
  have c0 := h.top.cell 0
  have c1 := h.top.cell 1
  simp at c0 c1
  have h1 := h.small
  have h2 := h.fits
  have h3 := h.first
  have hm := h.pos
  have h4 : f ≤ m := by omega
  have h5 : ¬ m = f := by omega
  have hP := peek_text m f n arr t h.len h.first h.fits hn h.text
  generalize hk : min n (m - f) = k at *
  have hk1 : k ≤ n := by omega
  have hk2 : k ≤ m - f := by omega
  have Hk := Lib.hid hk
  have hk3 := Lib.hid (show k = n ∨ (k < n ∧ k = m - f) from by omega)
  have hal := h.len
  obtain ⟨cs1, hc1⟩ : ∃ cs1, cs1 = (arr.drop f).take k := ⟨_, rfl⟩
  obtain ⟨cs2, hc2⟩ : ∃ cs2, cs2 = arr.take (n - k) := ⟨_, rfl⟩
  have l1 : cs1.length = k := by rw [hc1]; simp; omega
  have l2 : cs2.length = n - k := by rw [hc2]; simp; omega
  have g1 := Lib.hid (show ∀ j c, cs1[j]? = some c → arr[f + j]? = some c from fun j c hj => by
    rw [hc1, List.getElem?_take] at hj; split at hj
    · simpa [List.getElem?_drop] using hj
    · simp at hj)
  have g2 := Lib.hid (show ∀ j c, cs2[j]? = some c → arr[0 + j]? = some c from fun j c hj => by
    rw [hc2, List.getElem?_take] at hj; split at hj
    · simpa using hj
    · simp at hj)
  rw [← hc1, ← hc2] at hP
  have HP := Lib.hid hP
  clear hk hP hc1 hc2
  have gl := h.top.lt
  have bl := h.row.lt
  go_enter Tryz.func256, Tryz.ntmps256
  go_wp2_with (with_reducible show wpList _ _ _ (⟨some 8, _, _, _, _, _⟩ :: _) _ _; go_must (refine wpList_make_bytes _ rfl (.tmp 7) (.tmp 7) 126 rfl 5 Tryz.underlying126 (by kernel_rfl) n n rfl rfl (Nat.le_refl _) (by omega) ?_; intro w2 m2; clear c0 c1; have T2 := m2.old h.top; have A2 := m2.old h.row; have O2 := m2.blk; have K2 := m2.keeps (Keeps.refl (fun _ => False) w); clear m2; have c0 := T2.cell 0; have c1 := T2.cell 1; simp at c0 c1))
  go_still_tail 10, (by kernel_rfl)
  rw [drew_mk]
  go_wp2_with (with_reducible show wpList _ _ _ (⟨some 19, _, _, _, _, _⟩ :: _) _ _; go_must (refine wpList_copy_sl rfl (.tmp 9) (.tmp 18) 126 126 rfl 5 Tryz.underlying126 (by kernel_rfl) _ _ _ _ _ _ rfl rfl w.heap.size 0 (List.replicate n 0) cs1 5 O2.drew (by have := Hk.out; omega) (fun _ => ⟨rfl, ⟨b, f, none⟩, rfl, bv_at A2.drew f cs1 g1.out⟩) (by simp; omega) ?_; intro w3 r3; clear c0 c1; have T3 := r3.far T2.drew (by omega); have A3 := r3.far A2.drew (by omega); have O3 := r3.blk O2.drew; have K3 := r3.keeps K2.drew (fun h => by omega); clear r3; have c0 := T3.cell 0; simp at c0))
  generalize hz : splice (List.replicate n 0) 0 cs1 = z at *
  have lz : z.length = n := by rw [← hz, splice_len _ _ _ (by simp; omega)]; simp
  clear hz
  rcases hk3.out with rfl | ⟨hk4, -⟩
  · go_still_tail 7, (by kernel_rfl)
    rw [drew_mk]
    go_wp2_with (first | (with_reducible show wpList _ _ _ (⟨some 27, _, _, _, _, _⟩ :: _) _ _; go_must (refine wpList_copy_sl rfl (.tmp 22) (.tmp 26) 126 126 rfl 5 Tryz.underlying126 (by kernel_rfl) _ _ _ _ _ _ rfl rfl w.heap.size k z cs2 5 O3.drew (by omega) (fun h => by omega) (by omega) ?_; intro w4 r4; clear c0; have O4 := r4.blk O3.drew; have K4 := r4.keeps K3.drew (fun h => by omega); rw [HP.out] at O4; clear r4)) | (with_reducible show wpList _ _ _ (⟨some 29, _, _, _, _, _⟩ :: _) _ _; go_must (refine wpList_string_bytes _ rfl (.tmp 28) 126 9 rfl 5 Tryz.underlying126 Tryz.underlying5 Tryz.underlying9 w.heap.size 0 _ _ rfl (t.take k) (by simp; omega) (fun j c hj => by rw [Nat.zero_add]; exact bv_cell O4 j c hj) ?_)))
    go_ret
    exact ⟨rfl, K4⟩
  · have hk5 : ¬ n = k := by omega
    go_still_tail 7, (by kernel_rfl)
    rw [drew_mk]
    go_wp2_with (first | (with_reducible show wpList _ _ _ (⟨some 27, _, _, _, _, _⟩ :: _) _ _; go_must (refine wpList_copy_sl rfl (.tmp 22) (.tmp 26) 126 126 rfl 5 Tryz.underlying126 (by kernel_rfl) _ _ _ _ _ _ rfl rfl w.heap.size k z cs2 5 O3.drew (by omega) (fun _ => ⟨rfl, ⟨b, 0, none⟩, rfl, bv_at A3.drew 0 cs2 g2.out⟩) (by omega) ?_; intro w4 r4; clear c0; have O4 := r4.blk O3.drew; have K4 := r4.keeps K3.drew (fun h => by omega); rw [HP.out] at O4; clear r4)) | (with_reducible show wpList _ _ _ (⟨some 29, _, _, _, _, _⟩ :: _) _ _; go_must (refine wpList_string_bytes _ rfl (.tmp 28) 126 9 rfl 5 Tryz.underlying126 Tryz.underlying5 Tryz.underlying9 w.heap.size 0 _ _ rfl (t.take n) (by simp; omega) (fun j c hj => by rw [Nat.zero_add]; exact bv_cell O4 j c hj) ?_)))
    go_ret
    exact ⟨rfl, K4⟩

theorem skip_any_ringb (w : World) (g b m f : Nat) (arr t : List UInt8) (gone : Nat) (k : Int) (h : RingAt w g b m f arr t gone) (h0 : 0 ≤ k) (hk : k ≤ t.length) :
    Calls Tryz.prog 191 #[.pointer (some ⟨g, 0, none⟩), .int .i64 k] w fun e w' => e = .returned (.tuple #[]) ∧ Keeps (· = g) w w' ∧ RingAt w' g b m ((f + k.toNat) % m) arr (t.drop k.toNat) gone := by
  obtain ⟨n, rfl⟩ := Int.eq_ofNat_of_zero_le h0
  exact skip_nat w g b m f arr t gone n h (by omega)
theorem peek_any (w : World) (g b m f : Nat) (arr t : List UInt8) (gone : Nat) (n : Int) (h : RingAt w g b m f arr t gone) (h0 : 0 ≤ n) (hn : n ≤ t.length) :
    Calls Tryz.prog 256 #[.pointer (some ⟨g, 0, none⟩), .int .i64 n] w fun e w' => e = .returned (.string (str (t.take n.toNat))) ∧ Keeps (fun _ => False) w w' := by
  obtain ⟨k, rfl⟩ := Int.eq_ofNat_of_zero_le h0
  exact peek_nat w g b m f arr t gone k h (by omega)
end Go.Proofs.YtkmpdobojgiegaaGreatDoor

/-
  The ring's exported calls: New, Put, Force, Peek, Drop, Take, Text, for a ring that New made and for one that nobody made.
-/
namespace Go.Proofs.YtkmpdobojgiegaaGreatDoor
open Go.RowKit

/-- block g is a ring for m bytes; t is what is there, gone is how many went; its bytes lie in block b -/
def IsRing (w : World) (g b m : Nat) (t : List UInt8) (gone : Nat) : Prop := ∃ f arr, RingAt w g b m f arr t gone

theorem RingAt.keeps {w w' : World} {g b m f : Nat} {arr t : List UInt8} {gone : Nat} {S : Nat → Prop} (h : RingAt w g b m f arr t gone) (k : Keeps S w w') (h1 : ¬ S g) (h2 : ¬ S b) : RingAt w' g b m f arr t gone :=
  ⟨h.top.keeps k h1, h.row.keeps k h2, h.len, h.pos, h.small, h.first, h.fits, h.text⟩
theorem RingAt.drewN {w : World} {g b m f : Nat} {arr t : List UInt8} {gone : Nat} (h : RingAt w g b m f arr t gone) (n : Nat) : RingAt (w.drewN n) g b m f arr t gone := h.keeps ((Keeps.refl (fun _ => False) w).drewN n) id id
theorem RingAt.drew {w : World} {g b m f : Nat} {arr t : List UInt8} {gone : Nat} (h : RingAt w g b m f arr t gone) : RingAt w.drew g b m f arr t gone := h.drewN 1
theorem IsRing.keeps {w w' : World} {g b m : Nat} {t : List UInt8} {gone : Nat} {S : Nat → Prop} (h : IsRing w g b m t gone) (k : Keeps S w w') (h1 : ¬ S g) (h2 : ¬ S b) : IsRing w' g b m t gone := by
  obtain ⟨f, arr, h⟩ := h
  exact ⟨f, arr, h.keeps k h1 h2⟩
theorem IsRing.drewN {w : World} {g b m : Nat} {t : List UInt8} {gone : Nat} (h : IsRing w g b m t gone) (n : Nat) : IsRing (w.drewN n) g b m t gone := by
  obtain ⟨f, arr, h⟩ := h
  exact ⟨f, arr, h.keeps ((Keeps.refl (fun _ => False) w).drewN n) id id⟩
theorem IsRing.lt {w : World} {g b m : Nat} {t : List UInt8} {gone : Nat} (h : IsRing w g b m t gone) : g < w.heap.size ∧ b < w.heap.size := by
  obtain ⟨f, arr, h⟩ := h
  exact ⟨h.top.lt, h.row.lt⟩
theorem IsRing.fits {w : World} {g b m : Nat} {t : List UInt8} {gone : Nat} (h : IsRing w g b m t gone) : t.length ≤ m ∧ 0 < m ∧ m ≤ 1048576 := by
  obtain ⟨f, arr, h⟩ := h
  exact ⟨h.fits, h.pos, h.small⟩

theorem new_ok (w : World) (k : Nat) (h1 : 1 ≤ k) (h2 : k ≤ 1048576) : Calls Tryz.prog 112 #[.int .i64 k] w fun e w' =>
    ∃ g b, e = .returned (.tuple #[.pointer (some ⟨g, 0, none⟩), .int .i64 0]) ∧ w.heap.size ≤ g ∧ w.heap.size ≤ b ∧ Keeps (fun _ => False) w w' ∧ IsRing w' g b k [] 0 := by
  go_enter Tryz.func112, Tryz.ntmps112
  go_wp2_with (with_reducible show wpList _ _ _ (⟨some 11, _, _, _, _, _⟩ :: _) _ _; go_must (refine wpList_make_bytes _ rfl (.tmp 10) (.tmp 10) 126 rfl 5 Tryz.underlying126 (by kernel_rfl) k k rfl rfl (Nat.le_refl _) (by omega) ?_; intro w2 m2; have O2 := m2.blk; have s2 := m2.size; have K2 := m2.keeps (Keeps.refl (fun _ => False) w); clear m2; have S2 := Lib.hid s2; clear s2))
  go_ret2
  refine ⟨w2.heap.size, w.heap.size, rfl, by rw [S2.out]; omega, Nat.le_refl _, K2.alloc _, 0, List.replicate k 0, Blk.new _ _ _, O2.alloc _, by simp, by omega, h2, by omega, by simp, ?_⟩
  intro i hi
  simp at hi

section
variable (w : World) (g b m : Nat) (t : List UInt8) (gone : Nat)

theorem force_end {w w1 w2 : World} {g b m f n : Nat} {arr t2 T : List UInt8} {gone lost : Nat} {x y : Int} (k1 : Keeps (· = g) (w.drewN n) w1) (k2 : Keeps (fun k => k = g ∨ k = b) w1.drew w2) (r2 : RingAt w2 g b m f arr t2 gone)
    (hx : x = lost) (hy : y = gone + lost) (hT : t2 = T) :
    Ending.returned (.int .i64 x) = .returned (.int .i64 (lost : Nat)) ∧ Keeps (fun k => k = g ∨ k = b) w (w2.setCell ⟨g, 3, none⟩ (.int .i64 y)) ∧ IsRing (w2.setCell ⟨g, 3, none⟩ (.int .i64 y)) g b m T (gone + lost) := by
  have hgb : g ≠ b := r2.top.ne_ r2.row (by decide)
  subst hT
  refine ⟨by rw [hx], ?_, f, arr, ?_, r2.row.far (p := ⟨g, 3, none⟩) (by simpa using hgb.symm) _, r2.len, r2.pos, r2.small, r2.first, r2.fits, r2.text⟩
  · exact ((k1.from_drewN.mono fun k _ h => .inl h).trans k2.from_drew).setCell (fun _ => .inl rfl) _
  · have := r2.top.set_ 3 (.int .i64 ((gone + lost : Nat) : Int))
    rw [hy]
    simpa using this

theorem drop_two (t s : List UInt8) (a b : Nat) (h : a = t.length ∨ b = 0) (h' : a ≤ t.length) : t.drop a ++ s.drop b = (t ++ s).drop (a + b) := by
  rw [List.drop_append]
  rcases h with rfl | rfl
  · rw [List.drop_length, List.drop_eq_nil_of_le (show t.length ≤ t.length + b from by omega)]
    congr 2; omega
  · rw [Nat.add_zero, show a - t.length = 0 by omega]

theorem force_any (s : ByteArray) (h : IsRing w g b m t gone) (hs : s.size ≤ maxLen) (hg : gone + s.size ≤ 4611686018427387904) :
    Calls Tryz.prog 132 #[.pointer (some ⟨g, 0, none⟩), .string s] w fun e w' => e = .returned (.int .i64 (t.length + s.size - m : Nat)) ∧ Keeps (fun k => k = g ∨ k = b) w w' ∧
      IsRing w' g b m ((t ++ s.data.toList).drop (t.length + s.size - m)) (gone + (t.length + s.size - m)) := by
  obtain ⟨f, arr, h⟩ := h
  unfold maxLen at hs
  have h1 := h.small
  have h2 := h.fits
  have h0 := h.pos
  have c2 := h.top.cell 2
  simp at c2
  have hgb : g ≠ b := h.top.ne_ h.row (by decide)
  have hsl : s.data.toList.length = s.size := by simp
  have hw0 : IntKind.i64.wrap 0 = 0 := by decide
  rcases (show t.length + s.size ≤ m ∨ (m < t.length + s.size ∧ s.size ≤ m) ∨ m < s.size from by omega) with hc | hc | hc
  · go_enter Tryz.func132, Tryz.ntmps132
    go_wp2_with (first | (go_at_call 189; refine (made_yes _ _ _ _ _ _ _ _ h).mono ?_; rintro e w' ⟨rfl, n, rfl⟩) | (go_at_call 190; refine (room_yes _ _ _ _ _ _ _ _ (h.drewN _)).mono ?_; rintro e w' ⟨rfl, n', rfl⟩) | (go_at_call 191; go_must (refine (skip_any_ringb _ _ _ _ _ _ _ _ _ (h.drewN _) (by omega) (by omega)).mono ?_; rintro e w1 ⟨rfl, k1, r1⟩)))
    go_region_with (go_at_call 192; go_must (refine (put_any_ringb _ _ _ _ _ _ _ _ _ r1.drew (by simp; omega)).mono ?_; rintro e w2 ⟨rfl, k2, arr2, r2⟩; have c3 := r2.top.cell 3; have hf := r2.top.frozen 3; simp at c3))
    go_wp2
    go_ret
    exact force_end k1 k2 r2 (by omega) (by omega) (by
      first | rw [ext_list] | rw [← List.drop_zero (l := s.data.toList)]
      refine (drop_two _ _ _ _ (by omega) (by omega)).trans ?_
      first | rfl | (rw [List.drop_zero]; congr 1; omega) | (congr 1; omega))
  · go_enter Tryz.func132, Tryz.ntmps132
    go_wp2_with (first | (go_at_call 189; refine (made_yes _ _ _ _ _ _ _ _ h).mono ?_; rintro e w' ⟨rfl, n, rfl⟩) | (go_at_call 190; refine (room_yes _ _ _ _ _ _ _ _ (h.drewN _)).mono ?_; rintro e w' ⟨rfl, n', rfl⟩) | (go_at_call 191; go_must (refine (skip_any_ringb _ _ _ _ _ _ _ _ _ (h.drewN _) (by omega) (by omega)).mono ?_; rintro e w1 ⟨rfl, k1, r1⟩)))
    go_region_with (go_at_call 192; go_must (refine (put_any_ringb _ _ _ _ _ _ _ _ _ r1.drew (by simp; omega)).mono ?_; rintro e w2 ⟨rfl, k2, arr2, r2⟩; have c3 := r2.top.cell 3; have hf := r2.top.frozen 3; simp at c3))
    go_wp2
    go_ret
    exact force_end k1 k2 r2 (by omega) (by omega) (by
      first | rw [ext_list] | rw [← List.drop_zero (l := s.data.toList)]
      refine (drop_two _ _ _ _ (by omega) (by omega)).trans ?_
      first | rfl | (rw [List.drop_zero]; congr 1; omega) | (congr 1; omega))
  · have w3 : IntKind.i64.wrap ((s.size : Int) - ((m : Int) - t.length) - t.length) = (s.size : Int) - ((m : Int) - t.length) - t.length := wrap_in (by omega) (by omega)
    have w4 : 0 ≤ (s.size : Int) - ((m : Int) - t.length) - t.length := by omega
    have w5 : (s.size : Int) - ((m : Int) - t.length) - t.length ≤ s.size := by omega
    have w6 : ((s.size : Int) - ((m : Int) - t.length) - t.length).toNat = s.size - m := by omega
    go_enter Tryz.func132, Tryz.ntmps132
    go_wp2_with (first | (go_at_call 189; refine (made_yes _ _ _ _ _ _ _ _ h).mono ?_; rintro e w' ⟨rfl, n, rfl⟩) | (go_at_call 190; refine (room_yes _ _ _ _ _ _ _ _ (h.drewN _)).mono ?_; rintro e w' ⟨rfl, n', rfl⟩) | (go_at_call 191; go_must (refine (skip_any_ringb _ _ _ _ _ _ _ _ _ (h.drewN _) (by omega) (by omega)).mono ?_; rintro e w1 ⟨rfl, k1, r1⟩)))
    go_region_with (go_at_call 192; go_must (refine (put_any_ringb _ _ _ _ _ _ _ _ _ r1.drew (by simp; omega)).mono ?_; rintro e w2 ⟨rfl, k2, arr2, r2⟩; have c3 := r2.top.cell 3; have hf := r2.top.frozen 3; simp at c3))
    go_wp2
    go_ret
    exact force_end k1 k2 r2 (by omega) (by omega) (by
      first | rw [ext_list] | rw [← List.drop_zero (l := s.data.toList)]
      refine (drop_two _ _ _ _ (by omega) (by omega)).trans ?_
      first | rfl | (rw [List.drop_zero]; congr 1; omega) | (congr 1; omega))

theorem ipeek_any (k : Int) (h : IsRing w g b m t gone) :
    Calls Tryz.prog 228 #[.pointer (some ⟨g, 0, none⟩), .int .i64 k] w fun e w' => e = .returned (.string (str (t.take k.toNat))) ∧ Keeps (fun _ => False) w w' := by
  obtain ⟨f, arr, h⟩ := h
  have ht : t.take (min k.toNat t.length) = t.take k.toNat := by
    rw [← List.take_take, List.take_length]
  by_cases hc : min k.toNat t.length = 0
  · have hb : (((min k.toNat t.length : Nat) : Int) == 0) = true := by rw [hc]; rfl
    rw [← ht, hc]
    clear hc ht
    go_enter Tryz.func228, Tryz.ntmps228
    go_wp2_with (first | (go_at_call 252; refine (held_any_ringa _ _ _ _ _ _ _ _ _ h).mono ?_; rintro e w' ⟨rfl, n, rfl⟩))
    go_ret
    exact ⟨rfl, (Keeps.refl _ _).drewN _⟩
  · have hb : (((min k.toNat t.length : Nat) : Int) == 0) = false := by rw [beq_eq_false_iff_ne]; omega
    rw [← ht]
    clear hc ht
    go_enter Tryz.func228, Tryz.ntmps228
    go_wp2_with (first | (go_at_call 252; refine (held_any_ringa _ _ _ _ _ _ _ _ _ h).mono ?_; rintro e w' ⟨rfl, n, rfl⟩) | (go_at_call 256; go_must (refine (peek_any _ _ _ _ _ _ _ _ _ (h.drewN _) (by omega) (by omega)).mono ?_; rintro e w2 ⟨rfl, k2⟩)))
    go_ret
    exact ⟨rfl, k2.from_drewN⟩
end
end Go.Proofs.YtkmpdobojgiegaaGreatDoor

/-
  The ring's exported calls, second part: Drop, Take, Text, At, and all of them for a ring that nobody made.
-/
namespace Go.Proofs.YtkmpdobojgiegaaGreatDoor
open Go.RowKit
section
variable (w : World) (g b m : Nat) (t : List UInt8) (gone : Nat)

theorem idrop_any (k : Int) (h : IsRing w g b m t gone) (hg : gone + t.length ≤ 4611686018427387904) :
    Calls Tryz.prog 218 #[.pointer (some ⟨g, 0, none⟩), .int .i64 k] w fun e w' => e = .returned (.int .i64 (min k.toNat t.length : Nat)) ∧ Keeps (fun k => k = g ∨ k = b) w w' ∧ IsRing w' g b m (t.drop k.toNat) (gone + min k.toNat t.length) := by
  obtain ⟨f, arr, h⟩ := h
  have ht : t.drop (min k.toNat t.length) = t.drop k.toNat := by
    by_cases hc : k.toNat ≤ t.length
    · congr 1; omega
    · rw [List.drop_eq_nil_of_le (by omega), List.drop_eq_nil_of_le (by omega)]
  rw [← ht]
  clear ht
  generalize hq : min k.toNat t.length = q at *
  have hq2 : q ≤ t.length := by omega
  have Hq := Lib.hid hq
  clear hq
  by_cases hc : q = 0
  · subst hc
    go_enter Tryz.func218, Tryz.ntmps218
    go_wp2_with (first | (go_at_call 252; go_must (refine (held_any_ringa _ _ _ _ _ _ _ _ _ h).mono ?_; rw [Hq.out]; rintro e w' ⟨rfl, n, rfl⟩)))
    go_ret
    exact ⟨rfl, (Keeps.refl _ _).drewN _, f, arr, h.drewN _⟩
  · have hp : 0 < q := by omega
    clear hc
    go_enter Tryz.func218, Tryz.ntmps218
    go_wp2_with (first | (go_at_call 252; go_must (refine (held_any_ringa _ _ _ _ _ _ _ _ _ h).mono ?_; rw [Hq.out]; rintro e w' ⟨rfl, n, rfl⟩)) | (go_at_call 191; go_must (refine (skip_any_ringb _ _ _ _ _ _ _ _ _ (h.drewN _) (by omega) (by omega)).mono ?_; rintro e w1 ⟨rfl, k1, r1⟩; have c3 := r1.top.cell 3; have hf := r1.top.frozen 3; simp at c3)))
    go_ret
    refine ⟨rfl, (k1.from_drewN.mono fun k _ h => .inl h).setCell (fun _ => .inl rfl) _, _, arr, ?_, ?_, r1.len, r1.pos, r1.small, r1.first, r1.fits, r1.text⟩
    · have := r1.top.set_ 3 (.int .i64 ((gone + q : Nat) : Int))
      simpa using this
    · exact r1.row.far (p := ⟨g, 3, none⟩) (by have := r1.top.ne_ r1.row (by decide); simpa using this.symm) _

theorem itext_any (h : IsRing w g b m t gone) :
    Calls Tryz.prog 173 #[.pointer (some ⟨g, 0, none⟩)] w fun e w' => e = .returned (.string (str t)) ∧ Keeps (fun _ => False) w w' := by
  have h' := h
  obtain ⟨f, arr, h⟩ := h
  go_enter Tryz.func173, Tryz.ntmps173
  go_wp2_with (first | (go_at_call 142; go_must (refine (len_yes _ _ _ _ _ _ _ _ h).mono ?_; rintro e w' ⟨rfl, n, rfl⟩)) | (go_at_call 228; go_must (refine (ipeek_any _ _ _ _ _ _ _ (h'.drewN _)).mono ?_; rintro e w1 ⟨rfl, k1⟩)))
  go_ret
  refine ⟨?_, k1.from_drewN⟩
  simp

theorem iat_in (k : Int) (c : UInt8) (h : IsRing w g b m t gone) (h0 : 0 ≤ k) (hc : t[k.toNat]? = some c) : Calls Tryz.prog 72 #[.pointer (some ⟨g, 0, none⟩), .int .i64 k] w (Qt (.tuple #[.int .u8 (c.toNat : Int), .bool true]) w) := by
  obtain ⟨f, arr, h⟩ := h
  exact at_in w g b m f arr t gone k c h h0 hc
theorem ilen_any (h : IsRing w g b m t gone) : Calls Tryz.prog 142 #[.pointer (some ⟨g, 0, none⟩)] w (Qt (.int .i64 t.length) w) := by
  obtain ⟨f, arr, h⟩ := h
  exact len_yes w g b m f arr t gone h
end

section
variable (w : World)
end
end Go.Proofs.YtkmpdobojgiegaaGreatDoor

/-
  The last lines of a text, plainly: the longest end of it that has no more bytes and no more lines than may be. No program in sight.
-/
namespace Go.Proofs.YtkmpdobojgiegaaGreatDoor

/-- how many lines there are -/
def manyT : List UInt8 → Nat
  | [] => 0
  | [_] => 1
  | c :: d :: t => (if c = 10 then 1 else 0) + manyT (d :: t)
def fitB (b n : Nat) (l : List UInt8) : Bool := decide (l.length ≤ b) && decide (manyT l ≤ n)
/-- the longest end that fits -/
def tailP (b n : Nat) : List UInt8 → List UInt8
  | [] => []
  | c :: t => if fitB b n (c :: t) then c :: t else tailP b n t
theorem manyP_pos : ∀ {l : List UInt8}, l ≠ [] → 1 ≤ manyT l
  | [], h => absurd rfl h
  | [_], _ => Nat.le_refl _
  | c :: d :: t, _ => by
    have := manyP_pos (l := d :: t) (by simp)
    show 1 ≤ (if c = 10 then 1 else 0) + manyT (d :: t)
    omega
theorem manyP_cons (c : UInt8) {t : List UInt8} (h : t ≠ []) : manyT (c :: t) = (if c = 10 then 1 else 0) + manyT t := by
  cases t with
  | nil => exact absurd rfl h
  | cons d t => rfl
theorem manyP_step (c : UInt8) (t : List UInt8) : manyT t ≤ manyT (c :: t) := by
  cases t with
  | nil => exact Nat.zero_le _
  | cons d t => rw [manyP_cons c (by simp)]; omega
theorem manyP_app : ∀ (a s : List UInt8), manyT a ≤ manyT (a ++ s)
  | [], _ => Nat.zero_le _
  | [c], s => by
    show 1 ≤ _
    exact manyP_pos (by simp)
  | c :: d :: t, s => by
    have := manyP_app (d :: t) s
    rw [List.cons_append, manyP_cons c (by simp), manyP_cons c (by simp)]
    omega
theorem manyP_drop (l : List UInt8) : ∀ (k : Nat), manyT (l.drop k) ≤ manyT l := by
  induction l with
  | nil => intro k; simp
  | cons c t ih =>
    intro k
    cases k with
    | zero => simp
    | succ k => exact Nat.le_trans (ih k) (manyP_step c t)
theorem fit_app {b n : Nat} {a s : List UInt8} (h : fitB b n (a ++ s) = true) : fitB b n a = true := by
  unfold fitB at h ⊢
  simp only [Bool.and_eq_true, decide_eq_true_eq, List.length_append] at h ⊢
  have := manyP_app a s
  omega
/-- what comes behind a text's end, and then the end: that of it all -/
theorem tail_app (b n : Nat) (s : List UInt8) : ∀ a : List UInt8, tailP b n (tailP b n a ++ s) = tailP b n (a ++ s)
  | [] => rfl
  | c :: t => by
    by_cases h : fitB b n (c :: t) = true
    · have e : tailP b n (c :: t) = c :: t := by unfold tailP; rw [if_pos h]
      rw [e]
    · have e : tailP b n (c :: t) = tailP b n t := by rw [tailP, if_neg h]
      have e2 : tailP b n (c :: t ++ s) = tailP b n (t ++ s) := by
        rw [List.cons_append, tailP, if_neg (fun hh => h (fit_app (a := c :: t) (by rw [List.cons_append]; exact hh)))]
      rw [e, e2]
      exact tail_app b n s t
/-- what is longer than may be does not matter -/
theorem tail_drop (b n : Nat) : ∀ (l : List UInt8) (k : Nat), k + b ≤ l.length → tailP b n (l.drop k) = tailP b n l
  | l, 0, _ => by simp
  | [], k + 1, _ => by simp
  | c :: t, k + 1, h => by
    rw [List.length_cons] at h
    rw [List.drop_succ_cons, tail_drop b n t k (by omega), tailP.eq_2, if_neg]
    unfold fitB
    rw [decide_eq_false (by rw [List.length_cons]; omega)]
    simp
theorem tail_at (b n : Nat) : ∀ (l : List UInt8) (i : Nat), i ≤ l.length → fitB b n (l.drop i) = true → (∀ j, j < i → fitB b n (l.drop j) = false) → tailP b n l = l.drop i
  | [], i, _, _, _ => by simp [tailP]
  | c :: t, 0, _, h, _ => by
    rw [List.drop_zero] at h ⊢
    rw [tailP, if_pos h]
  | c :: t, i + 1, hi, h, hj => by
    have h0 := hj 0 (by omega)
    rw [List.drop_zero] at h0
    rw [tailP, if_neg (by rw [h0]; simp), List.drop_succ_cons]
    exact tail_at b n t i (by simpa using hi) (by simpa using h) (fun j hj' => by have := hj (j + 1) (by omega); simpa using this)
/-- where the last n lines begin -/
structure Begins (l : List UInt8) (n i : Nat) : Prop where
  le : i ≤ l.length
  has : manyT (l.drop i) ≤ n
  first : ∀ j, j < i → n < manyT (l.drop j)
theorem Begins.tail {l : List UInt8} {n i b : Nat} (h : Begins l n i) (hb : l.length ≤ b) : tailP b n l = l.drop i := by
  refine tail_at b n l i h.le ?_ fun j hj => ?_
  · unfold fitB
    rw [decide_eq_true (by rw [List.length_drop]; omega), decide_eq_true h.has]; rfl
  · unfold fitB
    rw [decide_eq_false (p := manyT (l.drop j) ≤ n) (by have := h.first j hj; omega)]
    simp
theorem drop_cons {l : List UInt8} {i : Nat} {c : UInt8} (h : l[i]? = some c) : l.drop i = c :: l.drop (i + 1) := by
  have hi := (List.getElem?_eq_some_iff.1 h).1
  rw [← (List.getElem?_eq_some_iff.1 h).2, List.drop_eq_getElem_cons hi]
/-- ahead of a line: the line feed of the one before -/
theorem many_feed {l : List UInt8} {i : Nat} {c : UInt8} (h : l[i]? = some c) (hc : c = 10 ∨ i + 1 = l.length) : manyT (l.drop i) = 1 + manyT (l.drop (i + 1)) := by
  rw [drop_cons h]
  by_cases he : l.drop (i + 1) = []
  · rw [he]; rfl
  · rw [manyP_cons c he]
    rcases hc with rfl | hc
    · simp
    · exact absurd (List.drop_eq_nil_of_le (by omega)) he
theorem many_same {l : List UInt8} {i : Nat} {c : UInt8} (h : l[i]? = some c) (hc : c ≠ 10) (hi : i + 1 < l.length) : manyT (l.drop i) = manyT (l.drop (i + 1)) := by
  rw [drop_cons h, manyP_cons c (by
    intro e
    have h1 : (l.drop (i + 1)).length = 0 := by rw [e]; rfl
    rw [List.length_drop] at h1
    omega), if_neg hc]
  omega
/-- no line is left to go back, or nothing is: there they begin -/
theorem begins_end {l : List UInt8} {n k i : Nat} (hn : 1 ≤ n) (hi : i ≤ l.length) (hm : manyT (l.drop i) + k = n) (hs : i = l.length ∨ i = 0 ∨ l[i - 1]? = some 10) (he : k = 0 ∨ i = 0) : Begins l n i := by
  refine ⟨hi, by omega, fun j hj => ?_⟩
  have hk : k = 0 := by omega
  have hne : i ≠ l.length := by
    rintro rfl
    rw [List.drop_length] at hm
    have : manyT [] = 0 := rfl
    omega
  have h10 : l[i - 1]? = some 10 := by
    rcases hs with hs | hs | hs
    · exact absurd hs hne
    · omega
    · exact hs
  have h1 := many_feed h10 (.inl rfl)
  rw [show i - 1 + 1 = i by omega] at h1
  have h2 : manyT (l.drop (i - 1)) ≤ manyT (l.drop j) := by
    have := manyP_drop (l.drop j) (i - 1 - j)
    rwa [List.drop_drop, show j + (i - 1 - j) = i - 1 by omega] at this
  omega
theorem manyP_zero : manyT [] = 0 := rfl
theorem manyP_snoc (c : UInt8) : ∀ (a : List UInt8), a ≠ [] → manyT (a ++ [c]) = manyT a + (if a.getLast? = some 10 then 1 else 0)
  | [], h => absurd rfl h
  | [d], _ => by
    show manyT [d, c] = _
    rw [manyP_cons d (by simp)]
    by_cases hd : d = 10
    · simp [hd, manyT]
    · simp [hd, manyT]
  | d :: e :: t, _ => by
    have ih := manyP_snoc c (e :: t) (by simp)
    have e1 : manyT (d :: e :: t ++ [c]) = (if d = 10 then 1 else 0) + manyT (e :: t ++ [c]) := manyP_cons d (by simp)
    have e2 : manyT (d :: e :: t) = (if d = 10 then 1 else 0) + manyT (e :: t) := manyP_cons d (by simp)
    have e3 : (d :: e :: t).getLast? = (e :: t).getLast? := List.getLast?_cons_cons
    rw [e1, ih, e2, e3]
    omega
theorem many_take {l : List UInt8} {i : Nat} (hi : i < l.length) : manyT (l.take (i + 1)) = manyT (l.take i) + (if i = 0 ∨ l[i - 1]? = some 10 then 1 else 0) := by
  obtain ⟨c, hc⟩ : ∃ c, l[i]? = some c := ⟨_, List.getElem?_eq_getElem hi⟩
  rw [List.take_add_one, hc, Option.toList_some]
  rcases Nat.eq_zero_or_pos i with h0 | h0
  · subst h0
    simp [manyT]
  · have hne : l.take i ≠ [] := by
      intro e
      have h1 : (l.take i).length = 0 := by rw [e]; rfl
      rw [List.length_take] at h1
      omega
    rw [manyP_snoc c _ hne]
    congr 1
    have hgl : (l.take i).getLast? = l[i - 1]? := by
      rw [List.getLast?_eq_getElem?, List.length_take, List.getElem?_take, if_pos (by omega)]
      congr 1
      omega
    rw [hgl]
    by_cases h10 : l[i - 1]? = some 10
    · rw [if_pos h10, if_pos (.inr h10)]
    · rw [if_neg h10, if_neg (by rintro (h | h); exact absurd h (by omega); exact h10 h)]
end Go.Proofs.YtkmpdobojgiegaaGreatDoor

/-
  tail: where the last lines begin; a tail that is fed; the document's answer on it.
-/
namespace Go.Proofs.YtkmpdobojgiegaaGreatDoor
open Go.RowKit

set_option maxRecDepth 100000 in
set_option maxHeartbeats 1000000 in
theorem tbegin_any (w : World) (s : ByteArray) (n : Nat) (hn : 1 ≤ n) (hn2 : n ≤ 4611686018427387904) (hs : s.size ≤ 4611686018427387904) : Calls Tryz.prog 219 #[.string s, .int .i64 n] w fun e w' => (∃ i : Nat, e = .returned (.int .i64 i) ∧ Begins s.data.toList n i) ∧ w' = w := by
  have hlen : s.data.toList.length = s.size := by simp
  obtain ⟨l, hl⟩ : ∃ l, l = s.data.toList := ⟨_, rfl⟩
  rw [← hl] at hlen ⊢
  have hget : ∀ (k : Nat) c, l[k]? = some c → ∀ h, s[k]'h = c := by
    intro k c hc h
    rw [hl] at hc
    rw [← (List.getElem?_eq_some_iff.1 hc).2]; rfl
  have HN := Lib.hid hlen
  have HG := Lib.hid hget
  clear hl hlen hget
  go_enter Tryz.func219, Tryz.ntmps219
  go_wp2_with fail
  go_step3
  go_wp2_with fail
  go_step3
  go_wp2_with fail
  go_loopw [1, 5] (fun u1 u5 wr => w = wr ∧ ∃ k i : Nat, u1 = .int .i64 k ∧ u5 = .int .i64 i ∧ k ≤ n ∧ i ≤ s.size ∧ Hid (manyT (l.drop i) + k = n ∧ (i = l.length ∨ i = 0 ∨ l[i - 1]? = some 10))) (fun u1 _ _ => (intOf u1).toNat)
  case atStart => exact ⟨rfl, n, s.size, rfl, rfl, Nat.le_refl _, Nat.le_refl _, Lib.hid ⟨by rw [List.drop_eq_nil_of_le (by rw [HN.out]; exact Nat.le_refl _), manyP_zero]; omega, .inl HN.out.symm⟩⟩
  case round =>
    obtain ⟨rfl, k, i, rfl, rfl, hk, hi, HI⟩ := hrel
    by_cases hoff : k = 0 ∨ i = 0
    · have hb := begins_end hn (by rw [HN.out]; exact hi) HI.out.1 HI.out.2 hoff
      have HB := Lib.hid hb
      have hoff2 : ¬ (0 : Int) < k ∨ ((0 : Int) < k ∧ ¬ (0 : Int) < i) := by omega
      clear hb hoff
      rcases hoff2 with ho | ⟨ho, ho2⟩
      all_goals
        go_wp2_with fail
        (try rw [Exit.noGoto_ret])
        go_ret
        exact ⟨⟨i, rfl, HB.out⟩, rfl⟩
    · have ho1 : (0 : Int) < k := by omega
      have ho2 : (0 : Int) < i := by omega
      have hi1 : 1 ≤ i := by omega
      clear hoff
      obtain ⟨c0, hc0⟩ : ∃ c, l[i - 1]? = some c := ⟨_, List.getElem?_eq_getElem (by rw [HN.out]; omega)⟩
      have hm0 : manyT (l.drop (i - 1)) = 1 + manyT (l.drop i) := by
        have h1 := many_feed hc0 (by
          rcases HI.out.2 with h | h | h
          · right; omega
          · omega
          · rw [hc0] at h; exact .inl (Option.some.inj h))
        rwa [show i - 1 + 1 = i by omega] at h1
      have hi2 : ((i : Int) - 1) = ((i - 1 : Nat) : Int) := by omega
      have HM0 := Lib.hid hm0
      have HII := Lib.hid hi1
      have HI2 := Lib.hid hi2
      clear hc0 hm0 hi1 hi2
      go_wp2_with fail
      go_loopw [5] (fun u5 wx => w = wx ∧ ∃ j : Nat, u5 = .int .i64 j ∧ j < i ∧ Hid (manyT (l.drop j) = 1 + manyT (l.drop i))) (fun u5 _ => (intOf u5).toNat)
      case atStart => exact ⟨rfl, i - 1, by rw [HI2.out], by have := HII.out; omega, Lib.hid HM0.out⟩
      case round =>
        obtain ⟨rfl, j, rfl, hj, HJ⟩ := hrel
        by_cases hj0 : j = 0
        · subst hj0
          go_wp2_with fail
          exact ⟨⟨trivial, k - 1, 0, by go_num, rfl, by omega, by omega, by have := HJ.out; have := HI.out.1; omega, .inr (.inl rfl)⟩, by simp [intOf]; omega⟩
        · obtain ⟨c, hc⟩ : ∃ c, l[j - 1]? = some c := ⟨_, List.getElem?_eq_getElem (by rw [HN.out]; omega)⟩
          have hsc := HG.out (j - 1) c hc
          have hj1 : (0 : Int) < j := by omega
          have hj2 : ((j : Int) - 1).toNat = j - 1 := by omega
          by_cases h10 : c = 10
          · subst h10
            have HC := Lib.hid hc
            clear hc
            go_wp2_with fail
            exact ⟨⟨trivial, k - 1, j, by go_num, rfl, by omega, by omega, by have := HJ.out; have := HI.out.1; omega, .inr (.inr HC.out)⟩, by simp [intOf]; omega⟩
          · have hst := many_same hc h10 (by rw [HN.out]; omega)
            rw [show j - 1 + 1 = j by omega] at hst
            have HST := Lib.hid hst
            have b10 : ((c.toNat : Int) == 10) = false := by rw [beq_eq_false_iff_ne]; intro e; exact h10 (UInt8.toNat_inj.1 (by show c.toNat = 10; omega))
            clear hc hst
            go_wp2_with fail
            exact ⟨⟨trivial, j - 1, by go_num, by omega, by rw [HST.out]; exact HJ.out⟩, by simp [intOf]; omega⟩
end Go.Proofs.YtkmpdobojgiegaaGreatDoor

/-
  tail: a tail that is fed, and what it tells.
-/
namespace Go.Proofs.YtkmpdobojgiegaaGreatDoor
open Go.RowKit

/-- a tail at t, its ring at g and b, for m bytes and so many lines; T is what is there, came how many bytes came -/
structure TailAt (w : World) (t g b m lines : Nat) (T : List UInt8) (came : Nat) : Prop where
  top : Blk w t 284 #[.int .i64 lines, .pointer (some ⟨g, 0, none⟩), .int .i64 came]
  ring : ∃ gone, IsRing w g b m T gone ∧ gone + T.length = came
  ln : 1 ≤ lines ∧ lines ≤ 1024
section
variable {w w' : World} {t g b m lines came : Nat} {T : List UInt8}
theorem TailAt.keeps {S : Nat → Prop} (h : TailAt w t g b m lines T came) (k : Keeps S w w') (h1 : ¬ S t) (h2 : ¬ S g) (h3 : ¬ S b) : TailAt w' t g b m lines T came := by
  obtain ⟨gone, hr, he⟩ := h.ring
  exact ⟨h.top.keeps k h1, ⟨gone, hr.keeps k h2 h3, he⟩, h.ln⟩
theorem TailAt.same (h : TailAt w t g b m lines T came) (k : Keeps (fun _ => False) w w') : TailAt w' t g b m lines T came := h.keeps k id id id
theorem TailAt.ne (h : TailAt w t g b m lines T came) : t ≠ g ∧ t ≠ b := by
  obtain ⟨gone, ⟨f, arr, hr⟩, -⟩ := h.ring
  exact ⟨h.top.ne_ hr.top (by decide), h.top.ne_ hr.row (by decide)⟩
theorem TailAt.fits (h : TailAt w t g b m lines T came) : T.length ≤ m ∧ 0 < m ∧ m ≤ 1048576 := by
  obtain ⟨gone, hr, -⟩ := h.ring
  exact hr.fits
set_option maxRecDepth 100000 in
theorem tmade (h : TailAt w t g b m lines T came) : Calls Tryz.prog 172 #[.pointer (some ⟨t, 0, none⟩)] w fun e w' => e = .returned (.bool true) ∧ w' = w := by
  obtain ⟨c0, c1, c2⟩ := h.top.cells3
  clear h
  go_enter Tryz.func172, Tryz.ntmps172
  go_wp2_with fail
  go_ret
  exact ⟨rfl, rfl⟩
set_option maxRecDepth 100000 in
theorem tnew_bad (w : World) (lines bytes : Int) (h : lines < 1 ∨ (¬ lines < 1 ∧ (1024 < lines ∨ (¬ 1024 < lines ∧ (bytes < 1 ∨ (¬ bytes < 1 ∧ 65536 < bytes)))))) : Calls Tryz.prog 168 #[.int .i64 lines, .int .i64 bytes] w fun e w' => e = .returned (.tuple #[.pointer none, .int .i64 2]) ∧ w' = w := by
  rcases h with h | ⟨h0, h | ⟨h1, h | ⟨h2, h⟩⟩⟩
  all_goals
    go_enter Tryz.func168, Tryz.ntmps168
    go_wp2_with fail
    go_ret2
    exact ⟨rfl, rfl⟩
set_option maxRecDepth 100000 in
theorem tnew_ok (w : World) (lines m : Nat) (hl : 1 ≤ lines ∧ lines ≤ 1024) (hm : 1 ≤ m ∧ m ≤ 65536) : Calls Tryz.prog 168 #[.int .i64 lines, .int .i64 m] w fun e w' =>
    (∃ t g b, e = .returned (.tuple #[.pointer (some ⟨t, 0, none⟩), .int .i64 0]) ∧ w.heap.size ≤ t ∧ w.heap.size ≤ g ∧ w.heap.size ≤ b ∧ TailAt w' t g b m lines [] 0) ∧ Keeps (fun _ => False) w w' := by
  have HN := Lib.hid (new_ok w m hm.1 (by omega))
  have HLN := Lib.hid hl
  have a1 : ¬ (lines : Int) < 1 := by omega
  have a2 : ¬ (1024 : Int) < lines := by omega
  have a3 : ¬ (m : Int) < 1 := by omega
  have a4 : ¬ (65536 : Int) < m := by omega
  clear hl hm
  go_enter Tryz.func168, Tryz.ntmps168
  go_wp2_with fail
  refine HN.out.mono ?_
  rintro e w2 ⟨g, b, rfl, hg, hb, k2, hr⟩
  have HR := Lib.hid hr
  have HK := Lib.hid k2
  have hz := k2.size
  clear hr k2
  go_wp2_with fail
  go_ret2
  refine ⟨⟨w2.heap.size, g, b, rfl, hz, hg, hb, Blk.new w2 _ _, ⟨0, HR.out.keeps (S := fun _ => False) ((Keeps.refl _ _).alloc _) id id, rfl⟩, HLN.out⟩, HK.out.alloc _⟩
set_option maxRecDepth 100000 in
theorem ttext (h : TailAt w t g b m lines T came) : Calls Tryz.prog 117 #[.pointer (some ⟨t, 0, none⟩)] w fun e w' => e = .returned (.string (str T)) ∧ Keeps (fun _ => False) w w' := by
  have HM := Lib.hid (tmade h)
  obtain ⟨c0, c1, c2⟩ := h.top.cells3
  obtain ⟨gone, hr, -⟩ := h.ring
  have HT := Lib.hid (itext_any w g b m T gone hr)
  clear h hr
  go_enter Tryz.func117, Tryz.ntmps117
  go_wp2_with fail
  refine HM.out.mono ?_
  rintro e w2 ⟨rfl, hw⟩
  obtain rfl : w = w2 := hw.symm
  go_wp2_with fail
  refine HT.out.mono ?_
  rintro e w2 ⟨rfl, k2⟩
  have HK := Lib.hid k2
  clear k2
  go_wp2_with fail
  go_ret
  exact ⟨rfl, HK.out⟩
set_option maxRecDepth 100000 in
set_option maxHeartbeats 1000000 in
theorem tfeed (h : TailAt w t g b m lines T came) (s : ByteArray) (hs : s.size ≤ 1073741824) (hc : came ≤ 1099511627776) : Calls Tryz.prog 169 #[.pointer (some ⟨t, 0, none⟩), .string s] w fun e w' =>
    e = .returned (.tuple #[]) ∧ TailAt w' t g b m lines (tailP m lines (T ++ s.data.toList)) (came + s.size) ∧ Keeps (fun i => i = t ∨ i = g ∨ i = b) w w' := by
  have H := Lib.hid h
  have HM := Lib.hid (tmade h)
  obtain ⟨⟨c0, c1, c2⟩, f0, f1, f2⟩ := h.top.all3
  obtain ⟨gone, hr, hgc⟩ := h.ring
  obtain ⟨hne1, hne2⟩ := h.ne
  obtain ⟨hft1, hft2, hft3⟩ := h.fits
  obtain ⟨hl1, hl2⟩ := h.ln
  have hsl : s.data.toList.length = s.size := by simp
  obtain ⟨w1, hw1⟩ : ∃ w1, w1 = w.setCell ⟨t, 2, none⟩ (.int .i64 ((came : Int) + s.size)) := ⟨_, rfl⟩
  have k1 : Keeps (fun i => i = t) w w1 := by rw [hw1]; exact (Keeps.refl (fun i => i = t) w).setCell (p := ⟨t, 2, none⟩) (fun _ => rfl) _
  have HT1 := Lib.hid (show Blk w1 t 284 #[.int .i64 lines, .pointer (some ⟨g, 0, none⟩), .int .i64 ((came : Int) + s.size)] by rw [hw1]; exact h.top.set_ 2 _)
  have HR1 := Lib.hid (hr.keeps k1 (fun e => hne1 e.symm) (fun e => hne2 e.symm))
  have HFO := Lib.hid (force_any w1 g b m T gone s HR1.out (by unfold maxLen; omega) (by omega))
  obtain ⟨d, hd⟩ : ∃ d, d = T.length + s.size - m := ⟨_, rfl⟩
  obtain ⟨U, hU⟩ : ∃ U, U = (T ++ s.data.toList).drop d := ⟨_, rfl⟩
  rw [← hd, ← hU] at HFO
  have hUl : U.length ≤ m := by rw [hU, List.length_drop, List.length_append, hsl]; omega
  have hUt : tailP m lines U = tailP m lines (T ++ s.data.toList) := by
    rcases Nat.eq_zero_or_pos d with h0 | h0
    · rw [hU, h0, List.drop_zero]
    · rw [hU]; exact tail_drop m lines _ d (by rw [List.length_append, hsl]; omega)
  have hUc : gone + d + U.length = came + s.size := by rw [hU, List.length_drop, List.length_append, hsl]; omega
  have HUT := Lib.hid hUt
  have HUC := Lib.hid hUc
  have HK1 := Lib.hid k1
  have HW1 := Lib.hid hw1
  have HNE := Lib.hid (show t ≠ g ∧ t ≠ b from ⟨hne1, hne2⟩)
  have hww : IntKind.i64.wrap ((came : Int) + s.size) = (came : Int) + s.size := wrap_in (by omega) (by omega)
  clear h hr hgc hft1 hft2 hd hU hUt hUc k1 hsl hne1 hne2
  go_enter Tryz.func169, Tryz.ntmps169
  go_wp2_with fail
  refine HM.out.mono ?_
  rintro e w2 ⟨rfl, hw⟩
  obtain rfl : w = w2 := hw.symm
  obtain ⟨x0, x1, x2⟩ := HT1.out.cells3
  rw [hw1] at x0 x1 x2
  go_wp2_with fail
  rw [← hw1]
  refine HFO.out.mono ?_
  rintro e w3 ⟨rfl, k3, hr3⟩
  have HT3 := Lib.hid (HT1.out.keeps k3 (fun e => e.elim HNE.out.1 HNE.out.2))
  have HR3 := Lib.hid hr3
  have HK3 := Lib.hid k3
  have HTX := Lib.hid (fun W (kk : Keeps (fun _ => False) w3 W) => itext_any W g b m U _ (HR3.out.keeps kk id id))
  have hUb : U.length ≤ 1048576 := Nat.le_trans hUl hft3
  have HBE := Lib.hid (fun W => tbegin_any W (str U) lines hl1 (by omega) (by rw [str_size]; omega))
  have HDR := Lib.hid (fun W (k : Int) (kk : Keeps (fun _ => False) w3 W) => idrop_any W g b m U _ k (HR3.out.keeps kk id id) (by have := HUC.out; omega))
  clear c0 c1 c2 f0 f1 f2 x0 x1 x2 hw1 k3 hr3
  obtain ⟨c0, c1, c2⟩ := HT3.out.cells3
  go_wp2_with fail
  go_region_held3 (fun w4 => w4.cell? ⟨t, 0, none⟩ = some (.int .i64 lines) ∧ w4.cell? ⟨t, 1, none⟩ = some (.pointer (some ⟨g, 0, none⟩)))
    ((first | exact ⟨c0, c1⟩ | exact ⟨d0, d1⟩ | exact ⟨e0, e1⟩))
    (first
      | (go_at_call 173; refine (HTX.out _ ((Keeps.refl _ _).drew)).mono ?_; rintro e w5 ⟨rfl, k5⟩; have k5 : Keeps (fun _ => False) w3 w5 := k5.from_drew; obtain ⟨d0, d1, -⟩ := (HT3.out.keeps k5 id).cells3; have HK5 := Lib.hid k5; clear k5)
      | (go_at_call 219; refine (HBE.out _).mono ?_; rintro e w6 ⟨⟨i, rfl, hbi⟩, hw6⟩; obtain rfl : w5 = w6 := hw6.symm; have HBI := Lib.hid hbi; clear hbi hw6)
      | (go_at_call 218; refine (HDR.out _ _ HK5.out).mono ?_; rintro e w7 ⟨rfl, k7, hr7⟩; obtain ⟨e0, e1, -⟩ := ((HT3.out.keeps HK5.out id).keeps k7 (fun e => e.elim HNE.out.1 HNE.out.2)).cells3; have HK7 := Lib.hid k7; have HR7 := Lib.hid hr7; clear k7 hr7))
  go_wp2_with fail
  go_end0
  have hti := HBI.out.tail hUl
  rw [str_list] at hti
  have hr7 := HR7.out
  rw [Int.toNat_natCast, ← hti, HUT.out] at hr7
  have hbl := HBI.out.le
  have hdl : (U.drop i).length = U.length - i := List.length_drop
  rw [← hti, HUT.out] at hdl
  refine ⟨rfl, ⟨?_, ⟨_, hr7, ?_⟩, ⟨hl1, hl2⟩⟩, ?_⟩
  · exact (HT3.out.keeps HK5.out id).keeps HK7.out (fun e => e.elim HNE.out.1 HNE.out.2)
  · have := HUC.out
    rw [hdl]
    omega
  · have a1 : Keeps (fun i => i = t ∨ i = g ∨ i = b) w w1 := HK1.out.mono fun _ _ h => .inl h
    exact ((a1.and_ HK3.out (fun _ _ h => .inr h)).and_ HK5.out (fun _ _ h => h.elim)).and_ HK7.out (fun _ _ h => .inr h)
end
end Go.Proofs.YtkmpdobojgiegaaGreatDoor
