/-
  Lower texts of this claim, joined.
-/
import Derived.WalkKit
import Derived.WalkSpells
import Derived.WalkLawsBesides
import Derived.BigQuiet
import Derived.Deep.QuietTactic
import Derived.Deep.RegionHeld3
import Derived.StillTailTactics
import Derived.Deep.DeepMust
import Derived.Deep.LoopGhost
import Derived.Laws.CopyOwn
import Derived.Lib.Hide
import Derived.Test.YtdbnalocmjkncaaGreatDoorChecked
/-
  Plain words for memory that all texts of this claim use: a result that only reads; blocks known whole; what a call may change. No program in sight.
-/
namespace Go.Proofs.YtdbnalocmjkncaaGreatDoor
open Go.RowKit

/-- a call that only reads: it hands back v, the world may have drawn -/
def Qt (v : Value) (w : World) : Ending → World → Prop := fun e w' => e = .returned v ∧ ∃ n, w' = w.drewN n

theorem Qt.quiet {P : Program} {f : FuncId} {args : Array Value} {w : World} {n : Nat} {v : Value}
    (h : Calls P f args (w.drewN n) (Qt v (w.drewN n))) : Calls P f args (w.drewN n) fun e w'' => e = .returned v ∧ ∃ m, w'' = w.drewN m :=
  h.mono fun _ _ ⟨he, m, hm⟩ => ⟨he, n + m, by rw [hm, World.drewN_drewN]⟩

theorem Qt.of {v v' : Value} {w : World} {n : Nat} (h : v' = v) : Qt v w (.returned v') (w.drewN n) := ⟨by rw [h], n, rfl⟩
theorem Qt.of2 {v v' : Value} {w : World} {n m : Nat} (h : v' = v) : Qt v w (.returned v') ((w.drewN n).drewN m) := ⟨by rw [h], _, World.drewN_drewN _ _ _⟩
theorem Qt.of0 {v v' : Value} {w : World} (h : v' = v) : Qt v w (.returned v') w := ⟨by rw [h], 0, rfl⟩
theorem int_eq {k : IntKind} {a b : Int} (h : a = b) : Value.int k a = .int k b := by rw [h]
theorem wrap_in {x : Int} (h : -4611686018427387904 ≤ x) (h' : x ≤ 4611686018427387904) : IntKind.i64.wrap x = x := IntWalk.i64_in _ (by omega)
theorem tmod_nat (a b : Nat) : ((a : Int)).tmod (b : Int) = ((a % b : Nat) : Int) := by
  rw [Int.tmod_eq_emod_of_nonneg (by omega)]; simp

/-- what a call may change: of the blocks that were there, those of S alone -/
structure Keeps (S : Nat → Prop) (w w' : World) : Prop where
  os : w'.os = w.os
  tape : w'.tape = w.tape
  output : w'.output = w.output
  size : w.heap.size ≤ w'.heap.size
  block : ∀ k, k < w.heap.size → ¬ S k → w'.heap[k]? = w.heap[k]?

section
variable {S T : Nat → Prop} {a b c w w' : World}
theorem Keeps.refl (S : Nat → Prop) (w : World) : Keeps S w w := ⟨rfl, rfl, rfl, Nat.le_refl _, fun _ _ _ => rfl⟩
theorem Keeps.trans (h : Keeps S a b) (k : Keeps S b c) : Keeps S a c :=
  ⟨k.os.trans h.os, k.tape.trans h.tape, k.output.trans h.output, Nat.le_trans h.size k.size, fun i hi hn => (k.block i (Nat.lt_of_lt_of_le hi h.size) hn).trans (h.block i hi hn)⟩
theorem Keeps.and_ (h : Keeps S a b) (k : Keeps T b c) (hT : ∀ i, i < a.heap.size → T i → S i) : Keeps S a c :=
  ⟨k.os.trans h.os, k.tape.trans h.tape, k.output.trans h.output, Nat.le_trans h.size k.size, fun i hi hn => (k.block i (Nat.lt_of_lt_of_le hi h.size) (fun ht => hn (hT i hi ht))).trans (h.block i hi hn)⟩
theorem Keeps.mono (h : Keeps S a b) (hs : ∀ k, k < a.heap.size → S k → T k) : Keeps T a b := ⟨h.os, h.tape, h.output, h.size, fun i hi hn => h.block i hi fun hS => hn (hs i hi hS)⟩
theorem Keeps.drewN (h : Keeps S a b) (n : Nat) : Keeps S a (b.drewN n) := ⟨h.os, h.tape, h.output, h.size, h.block⟩
theorem Keeps.drew (h : Keeps S a b) : Keeps S a b.drew := ⟨h.os, h.tape, h.output, h.size, h.block⟩
theorem Keeps.alloc (h : Keeps S a b) (o : Obj) : Keeps S a (b.alloc o) :=
  ⟨h.os, h.tape, h.output, Nat.le_trans h.size (by simp), fun i hi hn => (Below.heap_alloc b o i (Nat.lt_of_lt_of_le hi h.size)).trans (h.block i hi hn)⟩
theorem Keeps.setCell (h : Keeps S a b) {p : Addr} (hp : p.block < a.heap.size → S p.block) (u : Value) : Keeps S a (b.setCell p u) :=
  ⟨h.os, h.tape, h.output, by simpa [World.setCell] using h.size, fun i hi hn => (Below.heap_setCell b p u i (fun e => hn (by subst e; exact hp hi))).trans (h.block i hi hn)⟩
theorem Keeps.setRow (h : Keeps S a b) {g : Nat} (hp : g < a.heap.size → S g) (cs : Array Value) : Keeps S a (b.setRow g cs) :=
  ⟨h.os, h.tape, h.output, by simpa using h.size, fun i hi hn => by
    have hne : g ≠ i := fun e => hn (by subst e; exact hp hi)
    rw [← h.block i hi hn]
    simp [World.setRow, Array.getElem?_modify, hne]⟩
theorem Keeps.grown (h : Keeps S a b) {row : Option Nat} (hg : b.grownBy c row) (hr : ∀ k, row = some k → k < a.heap.size → S k) : Keeps S a c :=
  ⟨hg.os.trans h.os, hg.tape.trans h.tape, hg.output.trans h.output, Nat.le_trans h.size hg.size, fun i hi hn => (hg.block i (Nat.lt_of_lt_of_le hi h.size) (fun e => hn (hr i e.symm hi))).trans (h.block i hi hn)⟩
theorem Keeps.from_drewN {n : Nat} (h : Keeps S (a.drewN n) b) : Keeps S a b := ⟨h.os, h.tape, h.output, h.size, h.block⟩
theorem Keeps.from_drew (h : Keeps S a.drew b) : Keeps S a b := ⟨h.os, h.tape, h.output, h.size, h.block⟩
theorem Keeps.none_ (h : Keeps (fun _ => False) a b) : Keeps S a b := h.mono fun _ _ h => h.elim
theorem Keeps.below (h : Keeps S w w') (hS : ∀ k, k < w.heap.size → ¬ S k) : Below w.heap.size w w' := ⟨h.os, h.tape, h.output, h.size, fun k hk => h.block k hk (hS k hk)⟩
theorem Keeps.of_below (h : Below w.heap.size w w') : Keeps S w w' := ⟨h.os, h.tape, h.output, h.size, fun k hk _ => h.block k hk⟩
end

/-- a call that only reads, said by 'Keeps' -/
theorem Qt.k {P : Program} {f : FuncId} {args : Array Value} {w : World} {v : Value} (h : Calls P f args w (Qt v w)) : Calls P f args w fun e w' => e = .returned v ∧ Keeps (fun _ => False) w w' :=
  h.mono fun _ _ ⟨he, n, hn⟩ => ⟨he, by rw [hn]; exact (Keeps.refl _ _).drewN n⟩

/-- a block known whole, nothing of it frozen -/
def Blk (w : World) (g : Nat) (t : TypeId) (cs : Array Value) : Prop := w.heap[g]? = some (.cells cs t (0, 0))

section
variable {w w' : World} {g : Nat} {t : TypeId} {cs : Array Value}
theorem Blk.lt (h : Blk w g t cs) : g < w.heap.size := by
  rcases Nat.lt_or_ge g w.heap.size with hlt | hge
  · exact hlt
  · unfold Blk at h; rw [Array.getElem?_eq_none hge] at h; cases h
theorem Blk.cell (h : Blk w g t cs) (i : Nat) : w.cell? ⟨g, i, none⟩ = cs[i]? := cell_of_row w g i cs t (0, 0) h
theorem Blk.frozen (h : Blk w g t cs) (i : Nat) : w.frozen? ⟨g, i, none⟩ = false := by
  unfold Blk at h
  simp [World.frozen?, h]
theorem Blk.new (w : World) (t : TypeId) (cs : Array Value) : Blk (w.alloc (.cells cs t)) w.heap.size t cs := heap_alloc_new w _
theorem Blk.drew (h : Blk w g t cs) : Blk w.drew g t cs := h
theorem Blk.drewN (h : Blk w g t cs) (n : Nat) : Blk (w.drewN n) g t cs := h
theorem Blk.alloc (h : Blk w g t cs) (o : Obj) : Blk (w.alloc o) g t cs := (Below.heap_alloc w o g h.lt).trans h
theorem Blk.set_ (h : Blk w g t cs) (i : Nat) (u : Value) : Blk (w.setCell ⟨g, i, none⟩ u) g t (cs.setIfInBounds i u) := by
  unfold Blk at h ⊢
  simp [World.setCell, Array.getElem?_modify, h]
theorem Blk.far (h : Blk w g t cs) {p : Addr} (hp : g ≠ p.block) (u : Value) : Blk (w.setCell p u) g t cs := (Below.heap_setCell w p u g hp).trans h
theorem Blk.keeps {S : Nat → Prop} (h : Blk w g t cs) (hb : Keeps S w w') (hg : ¬ S g) : Blk w' g t cs := (hb.block g h.lt hg).trans h
theorem Blk.row (h : Blk w g t cs) (ds : Array Value) : Blk (w.setRow g ds) g t ds := by
  unfold Blk at h ⊢
  simp [World.setRow, Array.getElem?_modify, h]
theorem Blk.farRow (h : Blk w g t cs) {g' : Nat} (hp : g' ≠ g) (ds : Array Value) : Blk (w.setRow g' ds) g t cs := by
  unfold Blk at h ⊢
  simp [World.setRow, Array.getElem?_modify, h, hp]
theorem Blk.ne_ {g' : Nat} {t' : TypeId} {cs' : Array Value} (h : Blk w g t cs) (h' : Blk w g' t' cs') (hne : t ≠ t') : g ≠ g' := by
  rintro rfl
  unfold Blk at h h'
  rw [h] at h'
  injection h' with h'
  injection h' with _ ht
  exact hne ht
end

theorem drew_mk (w : World) : ({ heap := w.heap, tape := w.tape, drawn := w.drawn + 1, os := w.os, output := w.output } : World) = w.drew := rfl
/-- three cells of a block, as facts that the walk reads -/
theorem Blk.cells3 {w : World} {g : Nat} {t : TypeId} {a b c : Value} (h : Blk w g t #[a, b, c]) : w.cell? ⟨g, 0, none⟩ = some a ∧ w.cell? ⟨g, 1, none⟩ = some b ∧ w.cell? ⟨g, 2, none⟩ = some c := ⟨h.cell 0, h.cell 1, h.cell 2⟩
theorem Blk.all3 {w : World} {g : Nat} {t : TypeId} {a b c : Value} (h : Blk w g t #[a, b, c]) : (w.cell? ⟨g, 0, none⟩ = some a ∧ w.cell? ⟨g, 1, none⟩ = some b ∧ w.cell? ⟨g, 2, none⟩ = some c) ∧ w.frozen? ⟨g, 0, none⟩ = false ∧ w.frozen? ⟨g, 1, none⟩ = false ∧ w.frozen? ⟨g, 2, none⟩ = false :=
  ⟨h.cells3, h.frozen 0, h.frozen 1, h.frozen 2⟩
/-- w' is w with the block g filled anew by cs (kept behind a name) -/
def Rowed (w w' : World) (g : Nat) (cs : Array Value) : Prop := w' = w.setRow g cs
section
variable {w w' : World} {g : Nat} {t : TypeId} {cs ds : Array Value}
theorem Rowed.blk (h : Rowed w w' g ds) (hb : Blk w g t cs) : Blk w' g t ds := by rw [h]; exact hb.row ds
theorem Rowed.far (h : Rowed w w' g ds) {g' : Nat} (hb : Blk w g' t cs) (hne : g ≠ g') : Blk w' g' t cs := by rw [h]; exact hb.farRow hne ds
theorem Rowed.keeps {S : Nat → Prop} {a : World} (h : Rowed w w' g ds) (k : Keeps S a w) (hS : g < a.heap.size → S g) : Keeps S a w' := by rw [h]; exact k.setRow hS ds
end

/-- bytes as cells -/
def bv (l : List UInt8) : Array Value := (l.map fun c => Value.int .u8 c.toNat).toArray
theorem bv_size (l : List UInt8) : (bv l).size = l.length := by simp [bv]
theorem bv_get (l : List UInt8) (i : Nat) (h : i < l.length) : (bv l)[i]? = some (.int .u8 (l[i].toNat : Int)) := by simp [bv, h]
theorem bv_list (l : List UInt8) : (bv l).toList = l.map fun c => Value.int .u8 c.toNat := by simp [bv]

theorem ext_list (s : ByteArray) (n : Nat) : (s.extract n s.size).data.toList = s.data.toList.drop n := by
  have h : s.data.toList.length = s.size := by simp
  simp only [ByteArray.data_extract, Array.toList_extract, List.extract_eq_take_drop]
  exact List.take_of_length_le (by rw [List.length_drop, h]; omega)
theorem ext_size (s : ByteArray) (n : Nat) : (s.extract n s.size).size = s.size - n := by simp
theorem ba_ext {a b : ByteArray} (h : a.data.toList = b.data.toList) : a = b := by
  cases a; cases b; simp at h; rw [h]
theorem ext_ext (a : ByteArray) (g m : Nat) (h : g + m ≤ a.size) : (a.extract g a.size).extract 0 m = a.extract g (g + m) := by
  apply ba_ext
  simp only [ByteArray.data_extract, Array.toList_extract, List.extract_eq_take_drop]
  have : a.data.toList.length = a.size := by simp
  rw [List.drop_zero, Nat.sub_zero, List.take_take]
  congr 1
  omega
theorem splice_get {α : Type} (L : List α) (o : Nat) (cs : List α) (h : o + cs.length ≤ L.length) (j : Nat) :
    (splice L o cs)[j]? = if o ≤ j ∧ j < o + cs.length then cs[j - o]? else L[j]? := by
  unfold splice
  rw [List.getElem?_append]
  simp only [List.length_take]
  by_cases h1 : j < o
  · rw [if_pos (by omega), if_neg (by omega), List.getElem?_take, if_pos h1]
  · rw [if_neg (by omega), List.getElem?_append]
    by_cases h2 : j < o + cs.length
    · rw [if_pos (by omega), if_pos (by omega)]; congr 1; omega
    · rw [if_neg (by omega), if_neg (by omega), List.getElem?_drop]; congr 1; omega
theorem splice_map {α β : Type} (f : α → β) (L : List α) (o : Nat) (cs : List α) : splice (L.map f) o (cs.map f) = (splice L o cs).map f := by
  unfold splice; simp
theorem splice_nil {α : Type} (L : List α) (o : Nat) : splice L o [] = L := by unfold splice; simp
theorem splice_len {α : Type} (L : List α) (o : Nat) (cs : List α) (h : o + cs.length ≤ L.length) : (splice L o cs).length = L.length := by simp [splice]; omega

section
variable {P : Program}
theorem firstCells_string (s : ByteArray) (n : Nat) (w : World) :
    (Builtin.firstCells 1 n (.string s)).run P w = .ok ((s.data.toList.take n).map fun c => Value.int .u8 c.toNat).toArray w := by
  have h : ((s.extract 0 n).data.map fun b => Value.int .u8 b.toNat) = ((s.data.toList.take n).map fun c => Value.int .u8 c.toNat).toArray := by
    apply Array.ext'
    simp
  show (pure _ : Sem (Array Value)).run P w = _
  rw [h]
  rfl

/-- copy into a row of bytes known whole: from a string -/
theorem run_copy_str (w : World) (dT sT ty elem : TypeId) (dp : Option Addr) (dLen dCap : Nat) (s : ByteArray) (g o : Nat) (L : List UInt8) (t : TypeId)
    (hu : P.underlying dT = some (.slice elem)) (hs : (P.info? elem).map (·.size) = some 1) (hg : Blk w g t (bv L))
    (hd : 0 < min s.size dLen → dp = some ⟨g, o, none⟩) (hfit : o + min s.size dLen ≤ L.length) :
    (Builtin.copy_ #[dT, sT] ty #[.slice dp dLen dCap, .string s]).run P w =
      .ok (.int .i64 (min s.size dLen : Nat)) (w.setRow g (bv (splice L o (s.data.toList.take (min s.size dLen))))) := by
  have hl : (s.data.toList.take (min s.size dLen)).length = min s.size dLen := by simp
  have hm : Nat.min s.size dLen = min s.size dLen := rfl
  cases hq : P.info? elem with
  | none => simp [hq] at hs
  | some i =>
    have hi : i.size = 1 := by simpa [hq] using hs
    by_cases h0 : min s.size dLen = 0
    · have he : w.setRow g (bv (splice L o [])) = w := by rw [splice_nil]; exact setRow_self w g _ t (0, 0) hg
      have hc := firstCells_string (P := P) s 0 w
      simp only [List.take_zero, List.map_nil] at hc
      rw [h0, List.take_zero, he]
      cases dp with
      | none => simp [Builtin.copy_, run_underlying hu, Builtin.lenOf, sizeOf, typeInfo, hq, hi, hm, h0, hc, goInt]
      | some a => simp [Builtin.copy_, run_underlying hu, Builtin.lenOf, sizeOf, typeInfo, hq, hi, hm, h0, hc, goInt, storeCells]
    · obtain rfl := hd (by omega)
      have hst := run_storeCells_at P g o t ((s.data.toList.take (min s.size dLen)).map fun c => Value.int .u8 c.toNat) 0 (bv L) w hg (by simp [bv_size]; omega) (by
        intro v hv; simp only [List.mem_map] at hv; obtain ⟨c, _, rfl⟩ := hv; rfl)
      have hrow : ((bv L).toList.take (o + 0) ++ (s.data.toList.take (min s.size dLen)).map (fun c => Value.int .u8 c.toNat) ++ (bv L).toList.drop (o + 0 + ((s.data.toList.take (min s.size dLen)).map fun c => Value.int .u8 c.toNat).length)).toArray
          = bv (splice L o (s.data.toList.take (min s.size dLen))) := by
        rw [bv_list]
        unfold bv
        rw [← splice_map]
        unfold splice
        simp
      rw [hrow] at hst
      rw [List.map_take] at hst
      simp [Builtin.copy_, run_underlying hu, Builtin.lenOf, sizeOf, typeInfo, hq, hi, hm, firstCells_string, goInt, hst]

/-- .. from a slice of bytes whose cells are known -/
theorem run_copy_sl (w : World) (dT sT ty elem : TypeId) (dp sp : Option Addr) (dLen dCap sLen sCap : Nat) (g o : Nat) (L cs : List UInt8) (t : TypeId)
    (hu : P.underlying dT = some (.slice elem)) (hs : (P.info? elem).map (·.size) = some 1) (hg : Blk w g t (bv L)) (hn : cs.length = min sLen dLen)
    (hd : 0 < cs.length → dp = some ⟨g, o, none⟩ ∧ ∃ ad, sp = some ad ∧ ∀ j c, cs[j]? = some c → w.cell? (ad.add j) = some (.int .u8 c.toNat)) (hfit : o + cs.length ≤ L.length) :
    (Builtin.copy_ #[dT, sT] ty #[.slice dp dLen dCap, .slice sp sLen sCap]).run P w =
      .ok (.int .i64 cs.length) (w.setRow g (bv (splice L o cs))) := by
  by_cases h0 : cs.length = 0
  · obtain rfl : cs = [] := List.eq_nil_of_length_eq_zero h0
    have he : w.setRow g (bv (splice L o [])) = w := by rw [splice_nil]; exact setRow_self w g _ t (0, 0) hg
    rw [he, run_copy_none (P := P) w dT sT ty elem dp sp dLen dCap sLen sCap hu hs (by simpa using hn.symm)]
    rfl
  · obtain ⟨rfl, ad, rfl, hc⟩ := hd (by omega)
    have := run_copy_row (P := P) w dT sT ty elem g o dLen dCap ad sLen sCap (bv L) t (cs.map fun c => Value.int .u8 c.toNat) hu hs hg (by simpa using hn) (by
      intro j v hv
      simp only [List.getElem?_map, Option.map_eq_some_iff] at hv
      obtain ⟨c, hc', rfl⟩ := hv
      exact hc j c hc') (by simpa [bv_size] using hfit) (by intro v hv; simp only [List.mem_map] at hv; obtain ⟨c, _, rfl⟩ := hv; rfl)
    rw [this]
    have hrow : ((bv L).toList.take o ++ cs.map (fun c => Value.int .u8 c.toNat) ++ (bv L).toList.drop (o + (cs.map fun c => Value.int .u8 c.toNat).length)).toArray = bv (splice L o cs) := by
      rw [bv_list]
      unfold bv
      rw [← splice_map]
      unfold splice
      simp
    rw [hrow]
    simp [goInt]

theorem wpList_copy_str {ops : Array Oper} {rest : List Oper} {o : Oper} {a : Act} {Q : Exit → Act → World → Prop} {w : World} (hgd : o.guard = none) (d x : Operand) (dT sT : TypeId)
    (ho : o.op = .call { callee := .builtin .copy, args := #[d, x], argTypes := #[dT, sT] }) (elem : TypeId) (hu : P.underlying dT = some (.slice elem)) (hsz : (P.info? elem).map (·.size) = some 1)
    (dp : Option Addr) (dLen dCap : Nat) (s : ByteArray) (hd : a.eval d = .slice dp dLen dCap) (hx : a.eval x = .string s) (g off : Nat) (L : List UInt8) (t : TypeId) (hg : Blk w g t (bv L))
    (hpos : 0 < min s.size dLen → dp = some ⟨g, off, none⟩) (hfit : off + min s.size dLen ≤ L.length)
    (h : ∀ w', Rowed w w' g (bv (splice L off (s.data.toList.take (min s.size dLen)))) → wpList P ops Q rest (a.put o.dst (.int .i64 (min s.size dLen : Nat))) w') : wpList P ops Q (o :: rest) a w := by
  refine wpList_plain hgd fun K hK => ?_
  have hrun := run_copy_str (P := P) w dT sT o.type elem dp dLen dCap s g off L t hu hsz hg hpos hfit
  unfold Oper.wp
  simp only [execOp, ho, resolve, invoke, builtin, Sem.run_bind, Sem.run_pure, Result.andThen_ok, List.map_toArray, List.map_cons, List.map_nil, hd, hx, hrun]
  exact hK _ _ (h _ rfl)

theorem wpList_copy_sl {ops : Array Oper} {rest : List Oper} {o : Oper} {a : Act} {Q : Exit → Act → World → Prop} {w : World} (hgd : o.guard = none) (d x : Operand) (dT sT : TypeId)
    (ho : o.op = .call { callee := .builtin .copy, args := #[d, x], argTypes := #[dT, sT] }) (elem : TypeId) (hu : P.underlying dT = some (.slice elem)) (hsz : (P.info? elem).map (·.size) = some 1)
    (dp sp : Option Addr) (dLen dCap sLen sCap : Nat) (hd : a.eval d = .slice dp dLen dCap) (hx : a.eval x = .slice sp sLen sCap) (g off : Nat) (L cs : List UInt8) (t : TypeId) (hg : Blk w g t (bv L))
    (hn : cs.length = min sLen dLen)
    (hpos : 0 < cs.length → dp = some ⟨g, off, none⟩ ∧ ∃ ad, sp = some ad ∧ ∀ j c, cs[j]? = some c → w.cell? (ad.add j) = some (.int .u8 c.toNat)) (hfit : off + cs.length ≤ L.length)
    (h : ∀ w', Rowed w w' g (bv (splice L off cs)) → wpList P ops Q rest (a.put o.dst (.int .i64 cs.length)) w') : wpList P ops Q (o :: rest) a w := by
  refine wpList_plain hgd fun K hK => ?_
  have hrun := run_copy_sl (P := P) w dT sT o.type elem dp sp dLen dCap sLen sCap g off L cs t hu hsz hg hn hpos hfit
  unfold Oper.wp
  simp only [execOp, ho, resolve, invoke, builtin, Sem.run_bind, Sem.run_pure, Result.andThen_ok, List.map_toArray, List.map_cons, List.map_nil, hd, hx, hrun]
  exact hK _ _ (h _ rfl)
end

theorem bv_at {w : World} {b : Nat} {t : TypeId} {arr : List UInt8} (h : Blk w b t (bv arr)) (f : Nat) (cs : List UInt8) (hc : ∀ j c, cs[j]? = some c → arr[f + j]? = some c) :
    ∀ j c, cs[j]? = some c → w.cell? ((⟨b, f, none⟩ : Addr).add j) = some (.int .u8 c.toNat) := by
  intro j c hj
  have h1 := hc j c hj
  have h2 := h.cell (f + j)
  have hlt := (List.getElem?_eq_some_iff.1 h1).1
  rw [bv_get _ _ hlt] at h2
  have e : arr[f + j] = c := (List.getElem?_eq_some_iff.1 h1).2
  rw [e] at h2
  by_cases h0 : j = 0
  · subst h0; simpa [Addr.add] using h2
  · simpa [Addr.add, h0] using h2
theorem bv_cell {w : World} {b : Nat} {t : TypeId} {arr : List UInt8} (h : Blk w b t (bv arr)) (j : Nat) (c : UInt8) (hj : arr[j]? = some c) : w.cell? ⟨b, j, none⟩ = some (.int .u8 c.toNat) := by
  have h2 := h.cell j
  have hlt := (List.getElem?_eq_some_iff.1 hj).1
  rw [bv_get _ _ hlt] at h2
  have e : arr[j] = c := (List.getElem?_eq_some_iff.1 hj).2
  rw [e] at h2
  exact h2

/-- a string out of a list of bytes -/
def str (l : List UInt8) : ByteArray := ⟨l.toArray⟩
theorem str_list (l : List UInt8) : (str l).data.toList = l := rfl
theorem str_size (l : List UInt8) : (str l).size = l.length := rfl
theorem str_of (s : ByteArray) : str s.data.toList = s := rfl
theorem str_inj {a b : List UInt8} : str a = str b ↔ a = b := ⟨fun h => by have := congrArg (fun s : ByteArray => s.data.toList) h; simpa [str] using this, fun h => by rw [h]⟩

theorem foldl_push (l : List UInt8) : ∀ (r : ByteArray), (l.map fun c => ((c.toNat : Nat) : Int)).foldl (fun r n => r.push (UInt8.ofNat n.toNat)) r = str (r.data.toList ++ l) := by
  induction l with
  | nil => intro r; simp [str]
  | cons c l ih =>
    intro r
    simp only [List.map_cons, List.foldl_cons]
    rw [ih]
    simp [str, ByteArray.push]

section
variable {P : Program}
theorem run_string_bytes (w : World) (src dst e : TypeId) (a : Addr) (n c : Nat) (cs : List UInt8) (hs : P.underlying src = some (.slice e)) (he : P.underlying e = some (.int .u8)) (hd : P.underlying dst = some .string)
    (hn : cs.length = n) (hc : ∀ j v, cs[j]? = some v → w.cell? (a.add j) = some (.int .u8 v.toNat)) :
    (convert src dst (.slice (some a) n c)).run P w = .ok (.string (str cs)) w := by
  rw [run_convert_bytes_string w src dst e _ n c hs he hd]
  have hl := run_loadCells_list (P := P) w a (cs.map fun c => Value.int .u8 c.toNat) (by
    intro j v hv
    simp only [List.getElem?_map, Option.map_eq_some_iff] at hv
    obtain ⟨c, hc', rfl⟩ := hv
    exact hc j c hc')
  rw [run_bytesToString w a n c (cs.map fun c => ((c.toNat : Nat) : Int)) (by rw [← hn]; simpa [List.map_map, Function.comp_def] using hl), foldl_push]
  rfl

/-- a new row of bytes -/
def Made (w w' : World) (t : TypeId) (cs : Array Value) : Prop := w' = w.alloc (.cells cs t)
theorem Made.blk {w w' : World} {t : TypeId} {cs : Array Value} (h : Made w w' t cs) : Blk w' w.heap.size t cs := by rw [h]; exact Blk.new w t cs
theorem Made.old {w w' : World} {t t' : TypeId} {cs ds : Array Value} {g : Nat} (h : Made w w' t cs) (hb : Blk w g t' ds) : Blk w' g t' ds := by rw [h]; exact hb.alloc _
theorem Made.keeps {w w' a : World} {t : TypeId} {cs : Array Value} {S : Nat → Prop} (h : Made w w' t cs) (k : Keeps S a w) : Keeps S a w' := by rw [h]; exact k.alloc _
theorem Made.size {w w' : World} {t : TypeId} {cs : Array Value} (h : Made w w' t cs) : w'.heap.size = w.heap.size + 1 := by rw [h]; simp

theorem made_zero (n : Nat) : madeCells (Value.int .u8 0).cells (n * 1) = bv (List.replicate n 0) := by
  apply Array.ext
  · simp [madeCells, bv]
  · intro i h1 h2
    simp [madeCells, bv, Value.cells, Nat.mod_one]

theorem wpList_make_bytes (w : World) {ops : Array Oper} {rest : List Oper} {o : Oper} {a : Act} {Q : Exit → Act → World → Prop}
    (hg : o.guard = none) (l c : Operand) (t : TypeId) (hop : o.op = Op.makeSlice t l c) (e : TypeId)
    (h1 : P.underlying t = some (.slice e)) (h2 : (P.info? e).map (fun i => (i.zero, i.size, i.bytes)) = some (some (.int .u8 0), 1, 1))
    (m n : Nat) (hl : a.eval l = .int .i64 m) (hc : a.eval c = .int .i64 n) (hmn : m ≤ n) (b2 : n ≤ 281474976710656)
    (hK : ∀ w', Made w w' e (bv (List.replicate n 0)) → wpList P ops Q rest (a.put o.dst (.slice (some ⟨w.heap.size, 0, none⟩) m n)) w') :
    wpList P ops Q (o :: rest) a w := by
  refine wpList_plain hg fun K hK' => ?_
  obtain ⟨i, hi, hz, hs, hb⟩ := info_parts h2
  have hrun := run_make (P := P) w t e i (.int .u8 0) h1 hi hz .i64 .i64 m n (by omega) (by omega) (by rw [hb]; omega) (by omega)
  rw [hs, Int.toNat_natCast, Int.toNat_natCast, made_zero] at hrun
  unfold Oper.wp
  simp only [execOp, hop, hl, hc, hrun, Sem.run_bind, Sem.run_pure, Result.andThen_ok]
  exact hK' _ _ (hK _ rfl)

theorem wpList_string_bytes (w : World) {ops : Array Oper} {rest : List Oper} {o : Oper} {a : Act} {Q : Exit → Act → World → Prop}
    (hg : o.guard = none) (x : Operand) (src dst : TypeId) (hop : o.op = Op.convert src dst x) (e : TypeId) (hs : P.underlying src = some (.slice e)) (he : P.underlying e = some (.int .u8)) (hd : P.underlying dst = some .string)
    (b off n c : Nat) (hx : a.eval x = .slice (some ⟨b, off, none⟩) n c) (cs : List UInt8) (hn : cs.length = n) (hc : ∀ j v, cs[j]? = some v → w.cell? ⟨b, off + j, none⟩ = some (.int .u8 v.toNat))
    (hK : wpList P ops Q rest (a.put o.dst (.string (str cs))) w) :
    wpList P ops Q (o :: rest) a w := by
  refine wpList_plain hg fun K hK' => ?_
  have hrun := run_string_bytes (P := P) w src dst e ⟨b, off, none⟩ n c cs hs he hd hn (fun j v hv => by
    have := hc j v hv
    by_cases h0 : j = 0
    · subst h0; simpa [Addr.add] using this
    · simpa [Addr.add, h0] using this)
  unfold Oper.wp
  simp only [execOp, hop, hx, hrun, Sem.run_bind, Sem.run_pure, Result.andThen_ok]
  exact hK' _ _ hK
end

/-- a return of a struct that lies in a block known whole, and of one value more -/
theorem ret_cell_tmp {P : Program} {fn : Func} {p u : Tmp} {ty : TypeId} (h : fn.results = #[.cell p ty, .tmp u]) {a : Act} {w : World} {R : Ending → World → Prop} (g : Nat) (t : TypeId) (cs : Array Value) (d : TypeDesc)
    (hp : a.tmps.getD p undef = .pointer (some ⟨g, 0, none⟩)) (hb : Blk w g t cs) (hu : P.underlying ty = some d) (hd : (match d with | .struct _ | .array _ _ => true | _ => false) = true)
    (hi : (P.info? ty).map (·.size) = some cs.size) (hdf : a.defers = []) (hR : R (.returned (.tuple #[.agg cs, a.tmps.getD u undef])) w) : bodyPost P fn R .ret a w := by
  refine bodyPost_ret (v := .tuple #[.agg cs, a.tmps.getD u undef]) ?_ hdf hR
  rw [results_cell_tmp h, hp]
  simp [asAddr, run_loadVar_row w g t ty cs (0, 0) d hb hu hd hi]
theorem ret_cell {P : Program} {fn : Func} {p : Tmp} {ty : TypeId} (h : fn.results = #[.cell p ty]) {a : Act} {w : World} {R : Ending → World → Prop} (g : Nat) (t : TypeId) (cs : Array Value) (d : TypeDesc)
    (hp : a.tmps.getD p undef = .pointer (some ⟨g, 0, none⟩)) (hb : Blk w g t cs) (hu : P.underlying ty = some d) (hd : (match d with | .struct _ | .array _ _ => true | _ => false) = true)
    (hi : (P.info? ty).map (·.size) = some cs.size) (hdf : a.defers = []) (hR : R (.returned (.agg cs)) w) : bodyPost P fn R .ret a w :=
  bodyPost_ret (results_cell_row h _ w g t cs (0, 0) d hp hb hu hd hi) hdf hR
theorem Blk.new2 (w : World) (o : Obj) (t : TypeId) (cs : Array Value) : Blk ((w.alloc o).alloc (.cells cs t)) (w.heap.size + 1) t cs := by
  have := Blk.new (w.alloc o) t cs
  rwa [World.size_alloc] at this
theorem Keeps.setNew {S : Nat → Prop} {a b : World} (h : Keeps S a b) {g i : Nat} (hg : a.heap.size ≤ g) (u : Value) : Keeps S a (b.setCell ⟨g, i, none⟩ u) := h.setCell (fun hh => by have : g < a.heap.size := hh; omega) u
end Go.Proofs.YtdbnalocmjkncaaGreatDoor

/-
  The last lines of a text, plainly: the longest end of it that has no more bytes and no more lines than may be. No program in sight.
-/
namespace Go.Proofs.YtdbnalocmjkncaaGreatDoor

/-- how many lines there are -/
def manyP : List UInt8 → Nat
  | [] => 0
  | [_] => 1
  | c :: d :: t => (if c = 10 then 1 else 0) + manyP (d :: t)
def fitB (b n : Nat) (l : List UInt8) : Bool := decide (l.length ≤ b) && decide (manyP l ≤ n)
/-- the longest end that fits -/
def tailP (b n : Nat) : List UInt8 → List UInt8
  | [] => []
  | c :: t => if fitB b n (c :: t) then c :: t else tailP b n t
theorem manyP_pos : ∀ {l : List UInt8}, l ≠ [] → 1 ≤ manyP l
  | [], h => absurd rfl h
  | [_], _ => Nat.le_refl _
  | c :: d :: t, _ => by
    have := manyP_pos (l := d :: t) (by simp)
    show 1 ≤ (if c = 10 then 1 else 0) + manyP (d :: t)
    omega
theorem manyP_cons (c : UInt8) {t : List UInt8} (h : t ≠ []) : manyP (c :: t) = (if c = 10 then 1 else 0) + manyP t := by
  cases t with
  | nil => exact absurd rfl h
  | cons d t => rfl
theorem manyP_step (c : UInt8) (t : List UInt8) : manyP t ≤ manyP (c :: t) := by
  cases t with
  | nil => exact Nat.zero_le _
  | cons d t => rw [manyP_cons c (by simp)]; omega
theorem manyP_app : ∀ (a s : List UInt8), manyP a ≤ manyP (a ++ s)
  | [], _ => Nat.zero_le _
  | [c], s => by
    show 1 ≤ _
    exact manyP_pos (by simp)
  | c :: d :: t, s => by
    have := manyP_app (d :: t) s
    rw [List.cons_append, manyP_cons c (by simp), manyP_cons c (by simp)]
    omega
theorem manyP_drop (l : List UInt8) : ∀ (k : Nat), manyP (l.drop k) ≤ manyP l := by
  induction l with
  | nil => intro k; simp
  | cons c t ih =>
    intro k
    cases k with
    | zero => simp
    | succ k => exact Nat.le_trans (ih k) (manyP_step c t)
theorem fit_app {b n : Nat} {a s : List UInt8} (h : fitB b n (a ++ s) = true) : fitB b n a = true := by
  unfold fitB at h ⊢
  simp only [Bool.and_eq_true, decide_eq_true_eq, List.length_append] at h ⊢
  have := manyP_app a s
  omega
/-- what comes behind a text's end, and then the end: that of it all -/
theorem tail_app (b n : Nat) (s : List UInt8) : ∀ a : List UInt8, tailP b n (tailP b n a ++ s) = tailP b n (a ++ s)
  | [] => rfl
  | c :: t => by
    by_cases h : fitB b n (c :: t) = true
    · have e : tailP b n (c :: t) = c :: t := by unfold tailP; rw [if_pos h]
      rw [e]
    · have e : tailP b n (c :: t) = tailP b n t := by rw [tailP, if_neg h]
      have e2 : tailP b n (c :: t ++ s) = tailP b n (t ++ s) := by
        rw [List.cons_append, tailP, if_neg (fun hh => h (fit_app (a := c :: t) (by rw [List.cons_append]; exact hh)))]
      rw [e, e2]
      exact tail_app b n s t
/-- what is longer than may be does not matter -/
theorem tail_drop (b n : Nat) : ∀ (l : List UInt8) (k : Nat), k + b ≤ l.length → tailP b n (l.drop k) = tailP b n l
  | l, 0, _ => by simp
  | [], k + 1, _ => by simp
  | c :: t, k + 1, h => by
    rw [List.length_cons] at h
    rw [List.drop_succ_cons, tail_drop b n t k (by omega), tailP.eq_2, if_neg]
    unfold fitB
    rw [decide_eq_false (by rw [List.length_cons]; omega)]
    simp
theorem tail_at (b n : Nat) : ∀ (l : List UInt8) (i : Nat), i ≤ l.length → fitB b n (l.drop i) = true → (∀ j, j < i → fitB b n (l.drop j) = false) → tailP b n l = l.drop i
  | [], i, _, _, _ => by simp [tailP]
  | c :: t, 0, _, h, _ => by
    rw [List.drop_zero] at h ⊢
    rw [tailP, if_pos h]
  | c :: t, i + 1, hi, h, hj => by
    have h0 := hj 0 (by omega)
    rw [List.drop_zero] at h0
    rw [tailP, if_neg (by rw [h0]; simp), List.drop_succ_cons]
    exact tail_at b n t i (by simpa using hi) (by simpa using h) (fun j hj' => by have := hj (j + 1) (by omega); simpa using this)
/-- where the last n lines begin -/
structure Begins (l : List UInt8) (n i : Nat) : Prop where
  le : i ≤ l.length
  has : manyP (l.drop i) ≤ n
  first : ∀ j, j < i → n < manyP (l.drop j)
theorem Begins.tail {l : List UInt8} {n i b : Nat} (h : Begins l n i) (hb : l.length ≤ b) : tailP b n l = l.drop i := by
  refine tail_at b n l i h.le ?_ fun j hj => ?_
  · unfold fitB
    rw [decide_eq_true (by rw [List.length_drop]; omega), decide_eq_true h.has]; rfl
  · unfold fitB
    rw [decide_eq_false (p := manyP (l.drop j) ≤ n) (by have := h.first j hj; omega)]
    simp
theorem drop_cons {l : List UInt8} {i : Nat} {c : UInt8} (h : l[i]? = some c) : l.drop i = c :: l.drop (i + 1) := by
  have hi := (List.getElem?_eq_some_iff.1 h).1
  rw [← (List.getElem?_eq_some_iff.1 h).2, List.drop_eq_getElem_cons hi]
/-- ahead of a line: the line feed of the one before -/
theorem many_feed {l : List UInt8} {i : Nat} {c : UInt8} (h : l[i]? = some c) (hc : c = 10 ∨ i + 1 = l.length) : manyP (l.drop i) = 1 + manyP (l.drop (i + 1)) := by
  rw [drop_cons h]
  by_cases he : l.drop (i + 1) = []
  · rw [he]; rfl
  · rw [manyP_cons c he]
    rcases hc with rfl | hc
    · simp
    · exact absurd (List.drop_eq_nil_of_le (by omega)) he
theorem many_same {l : List UInt8} {i : Nat} {c : UInt8} (h : l[i]? = some c) (hc : c ≠ 10) (hi : i + 1 < l.length) : manyP (l.drop i) = manyP (l.drop (i + 1)) := by
  rw [drop_cons h, manyP_cons c (by
    intro e
    have h1 : (l.drop (i + 1)).length = 0 := by rw [e]; rfl
    rw [List.length_drop] at h1
    omega), if_neg hc]
  omega
/-- no line is left to go back, or nothing is: there they begin -/
theorem begins_end {l : List UInt8} {n k i : Nat} (hn : 1 ≤ n) (hi : i ≤ l.length) (hm : manyP (l.drop i) + k = n) (hs : i = l.length ∨ i = 0 ∨ l[i - 1]? = some 10) (he : k = 0 ∨ i = 0) : Begins l n i := by
  refine ⟨hi, by omega, fun j hj => ?_⟩
  have hk : k = 0 := by omega
  have hne : i ≠ l.length := by
    rintro rfl
    rw [List.drop_length] at hm
    have : manyP [] = 0 := rfl
    omega
  have h10 : l[i - 1]? = some 10 := by
    rcases hs with hs | hs | hs
    · exact absurd hs hne
    · omega
    · exact hs
  have h1 := many_feed h10 (.inl rfl)
  rw [show i - 1 + 1 = i by omega] at h1
  have h2 : manyP (l.drop (i - 1)) ≤ manyP (l.drop j) := by
    have := manyP_drop (l.drop j) (i - 1 - j)
    rwa [List.drop_drop, show j + (i - 1 - j) = i - 1 by omega] at this
  omega
theorem manyP_zero : manyP [] = 0 := rfl
theorem manyP_snoc (c : UInt8) : ∀ (a : List UInt8), a ≠ [] → manyP (a ++ [c]) = manyP a + (if a.getLast? = some 10 then 1 else 0)
  | [], h => absurd rfl h
  | [d], _ => by
    show manyP [d, c] = _
    rw [manyP_cons d (by simp)]
    by_cases hd : d = 10
    · simp [hd, manyP]
    · simp [hd, manyP]
  | d :: e :: t, _ => by
    have ih := manyP_snoc c (e :: t) (by simp)
    have e1 : manyP (d :: e :: t ++ [c]) = (if d = 10 then 1 else 0) + manyP (e :: t ++ [c]) := manyP_cons d (by simp)
    have e2 : manyP (d :: e :: t) = (if d = 10 then 1 else 0) + manyP (e :: t) := manyP_cons d (by simp)
    have e3 : (d :: e :: t).getLast? = (e :: t).getLast? := List.getLast?_cons_cons
    rw [e1, ih, e2, e3]
    omega
theorem many_take {l : List UInt8} {i : Nat} (hi : i < l.length) : manyP (l.take (i + 1)) = manyP (l.take i) + (if i = 0 ∨ l[i - 1]? = some 10 then 1 else 0) := by
  obtain ⟨c, hc⟩ : ∃ c, l[i]? = some c := ⟨_, List.getElem?_eq_getElem hi⟩
  rw [List.take_add_one, hc, Option.toList_some]
  rcases Nat.eq_zero_or_pos i with h0 | h0
  · subst h0
    simp [manyP]
  · have hne : l.take i ≠ [] := by
      intro e
      have h1 : (l.take i).length = 0 := by rw [e]; rfl
      rw [List.length_take] at h1
      omega
    rw [manyP_snoc c _ hne]
    congr 1
    have hgl : (l.take i).getLast? = l[i - 1]? := by
      rw [List.getLast?_eq_getElem?, List.length_take, List.getElem?_take, if_pos (by omega)]
      congr 1
      omega
    rw [hgl]
    by_cases h10 : l[i - 1]? = some 10
    · rw [if_pos h10, if_pos (.inr h10)]
    · rw [if_neg h10, if_neg (by rintro (h | h); exact absurd h (by omega); exact h10 h)]
end Go.Proofs.YtdbnalocmjkncaaGreatDoor

/-
  The ring's readers: what Made, Len, Room, Gone and At of package ring hand back, for a ring that New made and for one that nobody made.
-/
namespace Go.Proofs.YtdbnalocmjkncaaGreatDoor
open Go.RowKit

/-- a ring's memory: its struct at block g, its bytes arr at block b, the first one at place f; t is what is there, gone is how many went -/
structure RingAt (w : World) (g b m f : Nat) (arr t : List UInt8) (gone : Nat) : Prop where
  top : Blk w g 286 #[.slice (some ⟨b, 0, none⟩) m m, .int .i64 f, .int .i64 t.length, .int .i64 gone]
  row : Blk w b 5 (bv arr)
  len : arr.length = m
  pos : 0 < m
  small : m ≤ 1048576
  first : f < m
  fits : t.length ≤ m
  text : ∀ i, i < t.length → arr[(f + i) % m]? = t[i]?

theorem made_yes (w : World) (g b m f : Nat) (arr t : List UInt8) (gone : Nat) (h : RingAt w g b m f arr t gone) :
    Calls Tryz.prog 197 #[.pointer (some ⟨g, 0, none⟩)] w (Qt (.bool true) w) := by
  have c0 := h.top.cell 0
  simp at c0
  have hp : 0 < m := h.pos
  go_enter Tryz.func197, Tryz.ntmps197
  go_wp2
  all_goals go_ret
  exact ⟨rfl, 0, rfl⟩

theorem made_nil_ringa (w : World) :
    Calls Tryz.prog 197 #[.pointer none] w (Qt (.bool false) w) := by
  go_enter Tryz.func197, Tryz.ntmps197
  go_wp2
  all_goals go_ret
  exact ⟨rfl, 0, rfl⟩

theorem len_yes (w : World) (g b m f : Nat) (arr t : List UInt8) (gone : Nat) (h : RingAt w g b m f arr t gone) :
    Calls Tryz.prog 160 #[.pointer (some ⟨g, 0, none⟩)] w (Qt (.int .i64 t.length) w) := by
  have c2 := h.top.cell 2
  simp at c2
  go_enter Tryz.func160, Tryz.ntmps160
  go_wp2_with (go_at_call 197; refine (made_yes _ _ _ _ _ _ _ _ h).mono ?_; rintro e w' ⟨rfl, n, rfl⟩)
  go_ret
  exact ⟨rfl, _, rfl⟩

theorem len_nil (w : World) : Calls Tryz.prog 160 #[.pointer none] w (Qt (.int .i64 0) w) := by
  go_enter Tryz.func160, Tryz.ntmps160
  go_wp2_with (go_at_call 197; refine (made_nil_ringa _).mono ?_; rintro e w' ⟨rfl, n, rfl⟩)
  go_ret
  exact ⟨rfl, _, rfl⟩

theorem room_nil (w : World) : Calls Tryz.prog 198 #[.pointer none] w (Qt (.int .i64 0) w) := by
  go_enter Tryz.func198, Tryz.ntmps198
  go_wp2_with (go_at_call 197; refine (made_nil_ringa _).mono ?_; rintro e w' ⟨rfl, n, rfl⟩)
  go_ret
  exact ⟨rfl, _, rfl⟩

theorem room_yes (w : World) (g b m f : Nat) (arr t : List UInt8) (gone : Nat) (h : RingAt w g b m f arr t gone) :
    Calls Tryz.prog 198 #[.pointer (some ⟨g, 0, none⟩)] w (Qt (.int .i64 ((m : Int) - t.length)) w) := by
  have c0 := h.top.cell 0
  have c2 := h.top.cell 2
  simp at c0 c2
  have h1 := h.small
  have h2 := h.fits
  go_enter Tryz.func198, Tryz.ntmps198
  go_wp2_with (go_at_call 197; refine (made_yes _ _ _ _ _ _ _ _ h).mono ?_; rintro e w' ⟨rfl, n, rfl⟩)
  go_quiet (fail)
  go_wp2
  go_ret
  exact Qt.of2 rfl

theorem held_any_ringa (w : World) (g b m f : Nat) (arr t : List UInt8) (gone : Nat) (k : Int) (h : RingAt w g b m f arr t gone) :
    Calls Tryz.prog 201 #[.pointer (some ⟨g, 0, none⟩), .int .i64 k] w (Qt (.int .i64 (min k.toNat t.length : Nat)) w) := by
  go_enter Tryz.func201, Tryz.ntmps201
  go_wp2_with (go_at_call 160; refine (len_yes _ _ _ _ _ _ _ _ h).mono ?_; rintro e w' ⟨rfl, n, rfl⟩)
  all_goals go_ret
  all_goals exact Qt.of (int_eq (by omega))

theorem held_nil (w : World) (k : Int) :
    Calls Tryz.prog 201 #[.pointer none, .int .i64 k] w (Qt (.int .i64 0) w) := by
  go_enter Tryz.func201, Tryz.ntmps201
  go_wp2_with (go_at_call 160; refine (len_nil _).mono ?_; rintro e w' ⟨rfl, n, rfl⟩)
  all_goals go_ret
  all_goals exact Qt.of rfl

end Go.Proofs.YtdbnalocmjkncaaGreatDoor

/-
  The ring's inner writers: what put, skip and peek of its room do to its memory.
-/
namespace Go.Proofs.YtdbnalocmjkncaaGreatDoor
open Go.RowKit

set_option maxRecDepth 100000 in
theorem mod_two (f i m : Nat) (hf : f < m) (hi : i ≤ m) : (f + i) % m = if f + i < m then f + i else f + i - m := by
  by_cases h : f + i < m
  · rw [if_pos h, Nat.mod_eq_of_lt h]
  · rw [if_neg h, Nat.mod_eq_sub_mod (by omega), Nat.mod_eq_of_lt (by omega)]

set_option maxRecDepth 100000 in
/-- what put leaves: the bytes behind those that are there -/
theorem put_text (m f : Nat) (arr t s : List UInt8) (hlen : arr.length = m) (hf : f < m) (hfit : t.length + s.length ≤ m)
    (ht : ∀ i, i < t.length → arr[(f + i) % m]? = t[i]?) :
    ∀ i, i < (t ++ s).length →
      (splice (splice arr ((f + t.length) % m) (s.take (min s.length (m - (f + t.length) % m)))) 0 (s.drop (min s.length (m - (f + t.length) % m))))[(f + i) % m]? = (t ++ s)[i]? := by
  intro i hi
  simp only [List.length_append] at hi
  have ha := mod_two f t.length m hf (by omega)
  have hb := mod_two f i m hf (by omega)
  generalize (f + t.length) % m = at_ at *
  generalize hj : (f + i) % m = j at *
  have h1 : at_ < m := by split at ha <;> omega
  have h2 : j < m := by split at hb <;> omega
  generalize hn : min s.length (m - at_) = n
  have hl1 : (s.take n).length = n := by simp; omega
  have hl2 : (s.drop n).length = s.length - n := by simp
  have hg1 : at_ + (s.take n).length ≤ arr.length := by rw [hl1, hlen]; omega
  have hg2 : 0 + (s.drop n).length ≤ (splice arr at_ (s.take n)).length := by rw [splice_len _ _ _ hg1, hl2, hlen]; omega
  rw [splice_get _ _ _ hg2, splice_get _ _ _ hg1, hl1, hl2]
  by_cases hit : i < t.length
  · rw [List.getElem?_append_left hit, ← ht i hit, hj]
    rw [if_neg (by split at ha <;> split at hb <;> omega), if_neg (by split at ha <;> split at hb <;> omega)]
  · rw [List.getElem?_append_right (by omega)]
    by_cases hc : 0 ≤ j ∧ j < 0 + (s.length - n)
    · rw [if_pos hc, List.getElem?_drop]
      congr 1
      split at ha <;> split at hb <;> omega
    · rw [if_neg hc, if_pos (by split at ha <;> split at hb <;> omega), List.getElem?_take, if_pos (by split at ha <;> split at hb <;> omega)]
      congr 1
      split at ha <;> split at hb <;> omega

set_option maxRecDepth 100000 in
theorem skip_nat (w : World) (g b m f : Nat) (arr t : List UInt8) (gone k : Nat) (h : RingAt w g b m f arr t gone) (hk : k ≤ t.length) :
    Calls Tryz.prog 199 #[.pointer (some ⟨g, 0, none⟩), .int .i64 k] w fun e w' => e = .returned (.tuple #[]) ∧ Keeps (· = g) w w' ∧ RingAt w' g b m ((f + k) % m) arr (t.drop k) gone := by
  have c0 := h.top.cell 0
  have c1 := h.top.cell 1
  have c2 := h.top.cell 2
  have f1 := h.top.frozen 1
  have f2 := h.top.frozen 2
  simp at c0 c1 c2
  have h1 := h.small
  have h2 := h.fits
  have h3 := h.first
  have hm := h.pos
  go_enter Tryz.func199, Tryz.ntmps199
  go_wp2
  go_region
  go_wp2
  go_end0
  have hgb : g ≠ b := h.top.ne_ h.row (by decide)
  refine ⟨rfl, by (repeat (first | (with_reducible assumption) | (with_reducible exact Keeps.refl _ _) | refine Keeps.drew ?_ | refine Keeps.drewN ?_ _ | refine Keeps.setCell ?_ (by simp) _ | refine Keeps.setRow ?_ (by simp) _ | refine Keeps.alloc ?_ _)), ?_, ?_, h.len, h.pos, h.small, Nat.mod_lt _ h.pos, ?_, ?_⟩
  · have := ((h.top.set_ 1 (.int .i64 (((f + k) % m : Nat) : Int))).set_ 2 (.int .i64 (((t.drop k).length : Nat) : Int))).drew
    have e : (((t.drop k).length : Nat) : Int) = (t.length : Int) - k := by simp; omega
    rw [e] at this ⊢
    simpa using this
  · exact ((h.row.far (p := ⟨g, 1, none⟩) (by simpa using hgb.symm) _).far (p := ⟨g, 2, none⟩) (by simpa using hgb.symm) _).drew
  · simp; omega
  · intro i hi
    simp only [List.length_drop] at hi
    rw [List.getElem?_drop, ← h.text (k + i) (by omega), Nat.mod_add_mod, Nat.add_assoc]

set_option maxRecDepth 100000 in
theorem put_any_ringb (w : World) (g b m f : Nat) (arr t : List UInt8) (gone : Nat) (s : ByteArray) (h : RingAt w g b m f arr t gone) (hk : t.length + s.size ≤ m) :
    Calls Tryz.prog 200 #[.pointer (some ⟨g, 0, none⟩), .string s] w fun e w' => e = .returned (.tuple #[]) ∧ Keeps (fun k => k = g ∨ k = b) w w' ∧ ∃ arr', RingAt w' g b m f arr' (t ++ s.data.toList) gone := by
  have hgb : g ≠ b := h.top.ne_ h.row (by decide)
  have c0 := h.top.cell 0
  have c1 := h.top.cell 1
  have c2 := h.top.cell 2
  have f1 := h.top.frozen 1
  have f2 := h.top.frozen 2
  simp at c0 c1 c2
  have h1 := h.small
  have h2 := h.fits
  have h3 := h.first
  have hm := h.pos
  have hsl : s.data.toList.length = s.size := by simp
  have e0 : ((f : Int) + t.length) % m = ((f + t.length) % m : Nat) := by simp
  obtain ⟨q, hq⟩ : ∃ q, q = (f + t.length) % m := ⟨_, rfl⟩
  have hqm : q < m := by rw [hq]; exact Nat.mod_lt _ hm
  rw [← hq] at e0
  have hT := put_text m f arr t s.data.toList h.len h.first (by rw [hsl]; omega) h.text
  rw [hsl, ← hq] at hT
  generalize hn : min s.size (m - q) = n at *
  have hn1 : n ≤ s.size := by omega
  have hn2 : n ≤ m - q := by omega
  have Hn := Lib.hid hn
  clear hn
  generalize hl : s.data.toList = l at *
  have Hl := Lib.hid hl
  have Hz := Lib.hid hsl
  clear hl hsl
  have HT := Lib.hid hT
  clear hT hq
  go_enter Tryz.func200, Tryz.ntmps200
  go_wp2
  go_region
  go_wp2_with (with_reducible show wpList _ _ _ (⟨some 28, _, _, _, _, _⟩ :: _) _ _; refine wpList_copy_str rfl (.tmp 26) (.tmp 27) 82 9 rfl 5 Tryz.underlying82 (by kernel_rfl) _ _ _ s rfl rfl b q arr 5 h.row.drew (fun _ => rfl) (by rw [h.len]; omega) ?_; rw [Hn.out, Hl.out]; intro w2 r2; clear c0 c1 c2 f1 f2 e0; have T2 := r2.far h.top.drew hgb.symm; have R2 := r2.blk h.row.drew; have K2 := r2.keeps (Keeps.refl (fun k => k = g ∨ k = b) w).drew (fun _ => .inr rfl); clear r2; have c0 := T2.cell 0; have c2 := T2.cell 2; have f2 := T2.frozen 2; simp at c0 c2)
  have hl2 : (splice arr q (List.take n l)).length = m := by rw [splice_len _ _ _ (by rw [h.len]; simp; omega), h.len]
  generalize splice arr q (List.take n l) = arr2 at *
  go_still_tail 7, (by kernel_rfl)
  rw [drew_mk]
  go_wp2_with (with_reducible show wpList _ _ _ (⟨some 36, _, _, _, _, _⟩ :: _) _ _; go_must (refine wpList_copy_str rfl (.tmp 32) (.tmp 35) 82 9 rfl 5 Tryz.underlying82 (by kernel_rfl) _ _ _ (s.extract n s.size) rfl rfl b 0 arr2 5 R2.drew (fun _ => rfl) (by rw [ext_size]; omega) ?_; rw [ext_list, ext_size, Hl.out, show min (s.size - n) m = l.length - n from by rw [Hz.out]; omega, List.take_of_length_le (by simp)]; intro w3 r3; clear c0 c2 f2; have T3 := r3.far (w := w2.drew) T2.drew hgb.symm; have R3 := r3.blk (w := w2.drew) R2.drew; have K3 := r3.keeps (w := w2.drew) K2.drew (fun _ => .inr rfl); clear r3; have c0 := T3.cell 0; have c2 := T3.cell 2; have f2 := T3.frozen 2; simp at c0 c2))
  go_end0
  refine ⟨rfl, by revert K3; exact fun K3 => K3.setCell (fun _ => .inl rfl) _, splice arr2 0 (List.drop n l), ?_, ?_, ?_, h.pos, h.small, h.first, ?_, HT.out⟩
  · have := T3.set_ 2 (.int .i64 (((t ++ l).length : Nat) : Int))
    rw [List.length_append, Hz.out] at this ⊢
    simpa using this
  · exact R3.far (p := ⟨g, 2, none⟩) (by simpa using hgb.symm) _
  · rw [splice_len _ _ _ (by simp [Hz.out]; omega), hl2]
  · rw [List.length_append, Hz.out]; omega

theorem peek_text (m f n : Nat) (arr t : List UInt8) (hlen : arr.length = m) (hf : f < m) (hfit : t.length ≤ m) (hn : n ≤ t.length)
    (ht : ∀ i, i < t.length → arr[(f + i) % m]? = t[i]?) :
    splice (splice (List.replicate n 0) 0 ((arr.drop f).take (min n (m - f)))) (min n (m - f)) (arr.take (n - min n (m - f))) = t.take n := by
  generalize hk : min n (m - f) = k
  have hl1 : ((arr.drop f).take k).length = k := by simp; omega
  have hl2 : (arr.take (n - k)).length = n - k := by simp; omega
  have hg1 : 0 + ((arr.drop f).take k).length ≤ (List.replicate n (0 : UInt8)).length := by rw [hl1]; simp; omega
  have hg2 : k + (arr.take (n - k)).length ≤ (splice (List.replicate n (0 : UInt8)) 0 ((arr.drop f).take k)).length := by rw [splice_len _ _ _ hg1, hl2]; simp; omega
  apply List.ext_getElem?
  intro i
  rw [splice_get _ _ _ hg2, splice_get _ _ _ hg1, hl1, hl2]
  by_cases hi : i < n
  · have hb := mod_two f i m hf (by omega)
    have hr : (t.take n)[i]? = arr[(f + i) % m]? := by rw [List.getElem?_take, if_pos hi, ← ht i (by omega)]
    rw [hr]
    by_cases hc : k ≤ i
    · rw [if_pos ⟨hc, by omega⟩, List.getElem?_take, if_pos (by omega)]
      congr 1
      split at hb <;> omega
    · rw [if_neg (by omega), if_pos (by omega), List.getElem?_take, if_pos (by omega), List.getElem?_drop]
      congr 1
      split at hb <;> omega
  · rw [if_neg (by omega), if_neg (by omega), List.getElem?_eq_none (by simp; omega), List.getElem?_eq_none (by simp; omega)]

set_option maxRecDepth 100000 in
theorem peek_nat (w : World) (g b m f : Nat) (arr t : List UInt8) (gone n : Nat) (h : RingAt w g b m f arr t gone) (hn : n ≤ t.length) :
    Calls Tryz.prog 202 #[.pointer (some ⟨g, 0, none⟩), .int .i64 n] w fun e w' => e = .returned (.string (str (t.take n))) ∧ Keeps (fun _ => False) w w' := by
  have c0 := h.top.cell 0
  have c1 := h.top.cell 1
  simp at c0 c1
  have h1 := h.small
  have h2 := h.fits
  have h3 := h.first
  have hm := h.pos
  have h4 : f ≤ m := by omega
  have h5 : ¬ m = f := by omega
  have hP := peek_text m f n arr t h.len h.first h.fits hn h.text
  generalize hk : min n (m - f) = k at *
  have hk1 : k ≤ n := by omega
  have hk2 : k ≤ m - f := by omega
  have Hk := Lib.hid hk
  have hk3 := Lib.hid (show k = n ∨ (k < n ∧ k = m - f) from by omega)
  have hal := h.len
  obtain ⟨cs1, hc1⟩ : ∃ cs1, cs1 = (arr.drop f).take k := ⟨_, rfl⟩
  obtain ⟨cs2, hc2⟩ : ∃ cs2, cs2 = arr.take (n - k) := ⟨_, rfl⟩
  have l1 : cs1.length = k := by rw [hc1]; simp; omega
  have l2 : cs2.length = n - k := by rw [hc2]; simp; omega
  have g1 := Lib.hid (show ∀ j c, cs1[j]? = some c → arr[f + j]? = some c from fun j c hj => by
    rw [hc1, List.getElem?_take] at hj; split at hj
    · simpa [List.getElem?_drop] using hj
    · simp at hj)
  have g2 := Lib.hid (show ∀ j c, cs2[j]? = some c → arr[0 + j]? = some c from fun j c hj => by
    rw [hc2, List.getElem?_take] at hj; split at hj
    · simpa using hj
    · simp at hj)
  rw [← hc1, ← hc2] at hP
  have HP := Lib.hid hP
  clear hk hP hc1 hc2
  have gl := h.top.lt
  have bl := h.row.lt
  go_enter Tryz.func202, Tryz.ntmps202
  go_wp2_with (with_reducible show wpList _ _ _ (⟨some 8, _, _, _, _, _⟩ :: _) _ _; go_must (refine wpList_make_bytes _ rfl (.tmp 7) (.tmp 7) 82 rfl 5 Tryz.underlying82 (by kernel_rfl) n n rfl rfl (Nat.le_refl _) (by omega) ?_; intro w2 m2; clear c0 c1; have T2 := m2.old h.top; have A2 := m2.old h.row; have O2 := m2.blk; have K2 := m2.keeps (Keeps.refl (fun _ => False) w); clear m2; have c0 := T2.cell 0; have c1 := T2.cell 1; simp at c0 c1))
  go_still_tail 10, (by kernel_rfl)
  rw [drew_mk]
  go_wp2_with (with_reducible show wpList _ _ _ (⟨some 19, _, _, _, _, _⟩ :: _) _ _; go_must (refine wpList_copy_sl rfl (.tmp 9) (.tmp 18) 82 82 rfl 5 Tryz.underlying82 (by kernel_rfl) _ _ _ _ _ _ rfl rfl w.heap.size 0 (List.replicate n 0) cs1 5 O2.drew (by have := Hk.out; omega) (fun _ => ⟨rfl, ⟨b, f, none⟩, rfl, bv_at A2.drew f cs1 g1.out⟩) (by simp; omega) ?_; intro w3 r3; clear c0 c1; have T3 := r3.far T2.drew (by omega); have A3 := r3.far A2.drew (by omega); have O3 := r3.blk O2.drew; have K3 := r3.keeps K2.drew (fun h => by omega); clear r3; have c0 := T3.cell 0; simp at c0))
  generalize hz : splice (List.replicate n 0) 0 cs1 = z at *
  have lz : z.length = n := by rw [← hz, splice_len _ _ _ (by simp; omega)]; simp
  clear hz
  rcases hk3.out with rfl | ⟨hk4, -⟩
  · go_still_tail 7, (by kernel_rfl)
    rw [drew_mk]
    go_wp2_with (first | (with_reducible show wpList _ _ _ (⟨some 27, _, _, _, _, _⟩ :: _) _ _; go_must (refine wpList_copy_sl rfl (.tmp 22) (.tmp 26) 82 82 rfl 5 Tryz.underlying82 (by kernel_rfl) _ _ _ _ _ _ rfl rfl w.heap.size k z cs2 5 O3.drew (by omega) (fun h => by omega) (by omega) ?_; intro w4 r4; clear c0; have O4 := r4.blk O3.drew; have K4 := r4.keeps K3.drew (fun h => by omega); rw [HP.out] at O4; clear r4)) | (with_reducible show wpList _ _ _ (⟨some 29, _, _, _, _, _⟩ :: _) _ _; go_must (refine wpList_string_bytes _ rfl (.tmp 28) 82 9 rfl 5 Tryz.underlying82 Tryz.underlying5 Tryz.underlying9 w.heap.size 0 _ _ rfl (t.take k) (by simp; omega) (fun j c hj => by rw [Nat.zero_add]; exact bv_cell O4 j c hj) ?_)))
    go_ret
    exact ⟨rfl, K4⟩
  · have hk5 : ¬ n = k := by omega
    go_still_tail 7, (by kernel_rfl)
    rw [drew_mk]
    go_wp2_with (first | (with_reducible show wpList _ _ _ (⟨some 27, _, _, _, _, _⟩ :: _) _ _; go_must (refine wpList_copy_sl rfl (.tmp 22) (.tmp 26) 82 82 rfl 5 Tryz.underlying82 (by kernel_rfl) _ _ _ _ _ _ rfl rfl w.heap.size k z cs2 5 O3.drew (by omega) (fun _ => ⟨rfl, ⟨b, 0, none⟩, rfl, bv_at A3.drew 0 cs2 g2.out⟩) (by omega) ?_; intro w4 r4; clear c0; have O4 := r4.blk O3.drew; have K4 := r4.keeps K3.drew (fun h => by omega); rw [HP.out] at O4; clear r4)) | (with_reducible show wpList _ _ _ (⟨some 29, _, _, _, _, _⟩ :: _) _ _; go_must (refine wpList_string_bytes _ rfl (.tmp 28) 82 9 rfl 5 Tryz.underlying82 Tryz.underlying5 Tryz.underlying9 w.heap.size 0 _ _ rfl (t.take n) (by simp; omega) (fun j c hj => by rw [Nat.zero_add]; exact bv_cell O4 j c hj) ?_)))
    go_ret
    exact ⟨rfl, K4⟩

theorem skip_any_ringb (w : World) (g b m f : Nat) (arr t : List UInt8) (gone : Nat) (k : Int) (h : RingAt w g b m f arr t gone) (h0 : 0 ≤ k) (hk : k ≤ t.length) :
    Calls Tryz.prog 199 #[.pointer (some ⟨g, 0, none⟩), .int .i64 k] w fun e w' => e = .returned (.tuple #[]) ∧ Keeps (· = g) w w' ∧ RingAt w' g b m ((f + k.toNat) % m) arr (t.drop k.toNat) gone := by
  obtain ⟨n, rfl⟩ := Int.eq_ofNat_of_zero_le h0
  exact skip_nat w g b m f arr t gone n h (by omega)
theorem peek_any (w : World) (g b m f : Nat) (arr t : List UInt8) (gone : Nat) (n : Int) (h : RingAt w g b m f arr t gone) (h0 : 0 ≤ n) (hn : n ≤ t.length) :
    Calls Tryz.prog 202 #[.pointer (some ⟨g, 0, none⟩), .int .i64 n] w fun e w' => e = .returned (.string (str (t.take n.toNat))) ∧ Keeps (fun _ => False) w w' := by
  obtain ⟨k, rfl⟩ := Int.eq_ofNat_of_zero_le h0
  exact peek_nat w g b m f arr t gone k h (by omega)
end Go.Proofs.YtdbnalocmjkncaaGreatDoor

/-
  The ring's exported calls: New, Put, Force, Peek, Drop, Take, Text, for a ring that New made and for one that nobody made.
-/
namespace Go.Proofs.YtdbnalocmjkncaaGreatDoor
open Go.RowKit

/-- block g is a ring for m bytes; t is what is there, gone is how many went; its bytes lie in block b -/
def IsRing (w : World) (g b m : Nat) (t : List UInt8) (gone : Nat) : Prop := ∃ f arr, RingAt w g b m f arr t gone

theorem RingAt.keeps {w w' : World} {g b m f : Nat} {arr t : List UInt8} {gone : Nat} {S : Nat → Prop} (h : RingAt w g b m f arr t gone) (k : Keeps S w w') (h1 : ¬ S g) (h2 : ¬ S b) : RingAt w' g b m f arr t gone :=
  ⟨h.top.keeps k h1, h.row.keeps k h2, h.len, h.pos, h.small, h.first, h.fits, h.text⟩
theorem RingAt.drewN {w : World} {g b m f : Nat} {arr t : List UInt8} {gone : Nat} (h : RingAt w g b m f arr t gone) (n : Nat) : RingAt (w.drewN n) g b m f arr t gone := h.keeps ((Keeps.refl (fun _ => False) w).drewN n) id id
theorem RingAt.drew {w : World} {g b m f : Nat} {arr t : List UInt8} {gone : Nat} (h : RingAt w g b m f arr t gone) : RingAt w.drew g b m f arr t gone := h.drewN 1
theorem IsRing.keeps {w w' : World} {g b m : Nat} {t : List UInt8} {gone : Nat} {S : Nat → Prop} (h : IsRing w g b m t gone) (k : Keeps S w w') (h1 : ¬ S g) (h2 : ¬ S b) : IsRing w' g b m t gone := by
  obtain ⟨f, arr, h⟩ := h
  exact ⟨f, arr, h.keeps k h1 h2⟩
theorem IsRing.drewN {w : World} {g b m : Nat} {t : List UInt8} {gone : Nat} (h : IsRing w g b m t gone) (n : Nat) : IsRing (w.drewN n) g b m t gone := by
  obtain ⟨f, arr, h⟩ := h
  exact ⟨f, arr, h.keeps ((Keeps.refl (fun _ => False) w).drewN n) id id⟩
theorem IsRing.lt {w : World} {g b m : Nat} {t : List UInt8} {gone : Nat} (h : IsRing w g b m t gone) : g < w.heap.size ∧ b < w.heap.size := by
  obtain ⟨f, arr, h⟩ := h
  exact ⟨h.top.lt, h.row.lt⟩
theorem IsRing.fits {w : World} {g b m : Nat} {t : List UInt8} {gone : Nat} (h : IsRing w g b m t gone) : t.length ≤ m ∧ 0 < m ∧ m ≤ 1048576 := by
  obtain ⟨f, arr, h⟩ := h
  exact ⟨h.fits, h.pos, h.small⟩

theorem new_bad (w : World) (k : Int) (hk : k < 1 ∨ 1048576 < k) : Calls Tryz.prog 155 #[.int .i64 k] w (Qt (.tuple #[.pointer none, .int .i64 2]) w) := by
  rcases hk with hk | hk
  · go_enter Tryz.func155, Tryz.ntmps155
    go_wp2
    go_ret2
    exact Qt.of0 rfl
  · go_enter Tryz.func155, Tryz.ntmps155
    go_wp2
    go_ret2
    exact Qt.of0 rfl

theorem new_ok (w : World) (k : Nat) (h1 : 1 ≤ k) (h2 : k ≤ 1048576) : Calls Tryz.prog 155 #[.int .i64 k] w fun e w' =>
    ∃ g b, e = .returned (.tuple #[.pointer (some ⟨g, 0, none⟩), .int .i64 0]) ∧ w.heap.size ≤ g ∧ w.heap.size ≤ b ∧ Keeps (fun _ => False) w w' ∧ IsRing w' g b k [] 0 := by
  go_enter Tryz.func155, Tryz.ntmps155
  go_wp2_with (with_reducible show wpList _ _ _ (⟨some 11, _, _, _, _, _⟩ :: _) _ _; go_must (refine wpList_make_bytes _ rfl (.tmp 10) (.tmp 10) 82 rfl 5 Tryz.underlying82 (by kernel_rfl) k k rfl rfl (Nat.le_refl _) (by omega) ?_; intro w2 m2; have O2 := m2.blk; have s2 := m2.size; have K2 := m2.keeps (Keeps.refl (fun _ => False) w); clear m2; have S2 := Lib.hid s2; clear s2))
  go_ret2
  refine ⟨w2.heap.size, w.heap.size, rfl, by rw [S2.out]; omega, Nat.le_refl _, K2.alloc _, 0, List.replicate k 0, Blk.new _ _ _, O2.alloc _, by simp, by omega, h2, by omega, by simp, ?_⟩
  intro i hi
  simp at hi

section
variable (w : World) (g b m : Nat) (t : List UInt8) (gone : Nat)

theorem force_end {w w1 w2 : World} {g b m f n : Nat} {arr t2 T : List UInt8} {gone lost : Nat} {x y : Int} (k1 : Keeps (· = g) (w.drewN n) w1) (k2 : Keeps (fun k => k = g ∨ k = b) w1.drew w2) (r2 : RingAt w2 g b m f arr t2 gone)
    (hx : x = lost) (hy : y = gone + lost) (hT : t2 = T) :
    Ending.returned (.int .i64 x) = .returned (.int .i64 (lost : Nat)) ∧ Keeps (fun k => k = g ∨ k = b) w (w2.setCell ⟨g, 3, none⟩ (.int .i64 y)) ∧ IsRing (w2.setCell ⟨g, 3, none⟩ (.int .i64 y)) g b m T (gone + lost) := by
  have hgb : g ≠ b := r2.top.ne_ r2.row (by decide)
  subst hT
  refine ⟨by rw [hx], ?_, f, arr, ?_, r2.row.far (p := ⟨g, 3, none⟩) (by simpa using hgb.symm) _, r2.len, r2.pos, r2.small, r2.first, r2.fits, r2.text⟩
  · exact ((k1.from_drewN.mono fun k _ h => .inl h).trans k2.from_drew).setCell (fun _ => .inl rfl) _
  · have := r2.top.set_ 3 (.int .i64 ((gone + lost : Nat) : Int))
    rw [hy]
    simpa using this

theorem drop_two (t s : List UInt8) (a b : Nat) (h : a = t.length ∨ b = 0) (h' : a ≤ t.length) : t.drop a ++ s.drop b = (t ++ s).drop (a + b) := by
  rw [List.drop_append]
  rcases h with rfl | rfl
  · rw [List.drop_length, List.drop_eq_nil_of_le (show t.length ≤ t.length + b from by omega)]
    congr 2; omega
  · rw [Nat.add_zero, show a - t.length = 0 by omega]

theorem force_any (s : ByteArray) (h : IsRing w g b m t gone) (hs : s.size ≤ maxLen) (hg : gone + s.size ≤ 4611686018427387904) :
    Calls Tryz.prog 156 #[.pointer (some ⟨g, 0, none⟩), .string s] w fun e w' => e = .returned (.int .i64 (t.length + s.size - m : Nat)) ∧ Keeps (fun k => k = g ∨ k = b) w w' ∧
      IsRing w' g b m ((t ++ s.data.toList).drop (t.length + s.size - m)) (gone + (t.length + s.size - m)) := by
  obtain ⟨f, arr, h⟩ := h
  unfold maxLen at hs
  have h1 := h.small
  have h2 := h.fits
  have h0 := h.pos
  have c2 := h.top.cell 2
  simp at c2
  have hgb : g ≠ b := h.top.ne_ h.row (by decide)
  have hsl : s.data.toList.length = s.size := by simp
  have hw0 : IntKind.i64.wrap 0 = 0 := by decide
  rcases (show t.length + s.size ≤ m ∨ (m < t.length + s.size ∧ s.size ≤ m) ∨ m < s.size from by omega) with hc | hc | hc
  · go_enter Tryz.func156, Tryz.ntmps156
    go_wp2_with (first | (go_at_call 197; refine (made_yes _ _ _ _ _ _ _ _ h).mono ?_; rintro e w' ⟨rfl, n, rfl⟩) | (go_at_call 198; refine (room_yes _ _ _ _ _ _ _ _ (h.drewN _)).mono ?_; rintro e w' ⟨rfl, n', rfl⟩) | (go_at_call 199; go_must (refine (skip_any_ringb _ _ _ _ _ _ _ _ _ (h.drewN _) (by omega) (by omega)).mono ?_; rintro e w1 ⟨rfl, k1, r1⟩)))
    go_region_with (go_at_call 200; go_must (refine (put_any_ringb _ _ _ _ _ _ _ _ _ r1.drew (by simp; omega)).mono ?_; rintro e w2 ⟨rfl, k2, arr2, r2⟩; have c3 := r2.top.cell 3; have hf := r2.top.frozen 3; simp at c3))
    go_wp2
    go_ret
    exact force_end k1 k2 r2 (by omega) (by omega) (by
      first | rw [ext_list] | rw [← List.drop_zero (l := s.data.toList)]
      refine (drop_two _ _ _ _ (by omega) (by omega)).trans ?_
      first | rfl | (rw [List.drop_zero]; congr 1; omega) | (congr 1; omega))
  · go_enter Tryz.func156, Tryz.ntmps156
    go_wp2_with (first | (go_at_call 197; refine (made_yes _ _ _ _ _ _ _ _ h).mono ?_; rintro e w' ⟨rfl, n, rfl⟩) | (go_at_call 198; refine (room_yes _ _ _ _ _ _ _ _ (h.drewN _)).mono ?_; rintro e w' ⟨rfl, n', rfl⟩) | (go_at_call 199; go_must (refine (skip_any_ringb _ _ _ _ _ _ _ _ _ (h.drewN _) (by omega) (by omega)).mono ?_; rintro e w1 ⟨rfl, k1, r1⟩)))
    go_region_with (go_at_call 200; go_must (refine (put_any_ringb _ _ _ _ _ _ _ _ _ r1.drew (by simp; omega)).mono ?_; rintro e w2 ⟨rfl, k2, arr2, r2⟩; have c3 := r2.top.cell 3; have hf := r2.top.frozen 3; simp at c3))
    go_wp2
    go_ret
    exact force_end k1 k2 r2 (by omega) (by omega) (by
      first | rw [ext_list] | rw [← List.drop_zero (l := s.data.toList)]
      refine (drop_two _ _ _ _ (by omega) (by omega)).trans ?_
      first | rfl | (rw [List.drop_zero]; congr 1; omega) | (congr 1; omega))
  · have w3 : IntKind.i64.wrap ((s.size : Int) - ((m : Int) - t.length) - t.length) = (s.size : Int) - ((m : Int) - t.length) - t.length := wrap_in (by omega) (by omega)
    have w4 : 0 ≤ (s.size : Int) - ((m : Int) - t.length) - t.length := by omega
    have w5 : (s.size : Int) - ((m : Int) - t.length) - t.length ≤ s.size := by omega
    have w6 : ((s.size : Int) - ((m : Int) - t.length) - t.length).toNat = s.size - m := by omega
    go_enter Tryz.func156, Tryz.ntmps156
    go_wp2_with (first | (go_at_call 197; refine (made_yes _ _ _ _ _ _ _ _ h).mono ?_; rintro e w' ⟨rfl, n, rfl⟩) | (go_at_call 198; refine (room_yes _ _ _ _ _ _ _ _ (h.drewN _)).mono ?_; rintro e w' ⟨rfl, n', rfl⟩) | (go_at_call 199; go_must (refine (skip_any_ringb _ _ _ _ _ _ _ _ _ (h.drewN _) (by omega) (by omega)).mono ?_; rintro e w1 ⟨rfl, k1, r1⟩)))
    go_region_with (go_at_call 200; go_must (refine (put_any_ringb _ _ _ _ _ _ _ _ _ r1.drew (by simp; omega)).mono ?_; rintro e w2 ⟨rfl, k2, arr2, r2⟩; have c3 := r2.top.cell 3; have hf := r2.top.frozen 3; simp at c3))
    go_wp2
    go_ret
    exact force_end k1 k2 r2 (by omega) (by omega) (by
      first | rw [ext_list] | rw [← List.drop_zero (l := s.data.toList)]
      refine (drop_two _ _ _ _ (by omega) (by omega)).trans ?_
      first | rfl | (rw [List.drop_zero]; congr 1; omega) | (congr 1; omega))

theorem ipeek_any (k : Int) (h : IsRing w g b m t gone) :
    Calls Tryz.prog 159 #[.pointer (some ⟨g, 0, none⟩), .int .i64 k] w fun e w' => e = .returned (.string (str (t.take k.toNat))) ∧ Keeps (fun _ => False) w w' := by
  obtain ⟨f, arr, h⟩ := h
  have ht : t.take (min k.toNat t.length) = t.take k.toNat := by
    rw [← List.take_take, List.take_length]
  by_cases hc : min k.toNat t.length = 0
  · have hb : (((min k.toNat t.length : Nat) : Int) == 0) = true := by rw [hc]; rfl
    rw [← ht, hc]
    clear hc ht
    go_enter Tryz.func159, Tryz.ntmps159
    go_wp2_with (first | (go_at_call 201; refine (held_any_ringa _ _ _ _ _ _ _ _ _ h).mono ?_; rintro e w' ⟨rfl, n, rfl⟩))
    go_ret
    exact ⟨rfl, (Keeps.refl _ _).drewN _⟩
  · have hb : (((min k.toNat t.length : Nat) : Int) == 0) = false := by rw [beq_eq_false_iff_ne]; omega
    rw [← ht]
    clear hc ht
    go_enter Tryz.func159, Tryz.ntmps159
    go_wp2_with (first | (go_at_call 201; refine (held_any_ringa _ _ _ _ _ _ _ _ _ h).mono ?_; rintro e w' ⟨rfl, n, rfl⟩) | (go_at_call 202; go_must (refine (peek_any _ _ _ _ _ _ _ _ _ (h.drewN _) (by omega) (by omega)).mono ?_; rintro e w2 ⟨rfl, k2⟩)))
    go_ret
    exact ⟨rfl, k2.from_drewN⟩
end
end Go.Proofs.YtdbnalocmjkncaaGreatDoor

/-
  The ring's exported calls, second part: Drop, Take, Text, At, and all of them for a ring that nobody made.
-/
namespace Go.Proofs.YtdbnalocmjkncaaGreatDoor
open Go.RowKit
section
variable (w : World) (g b m : Nat) (t : List UInt8) (gone : Nat)

theorem idrop_any (k : Int) (h : IsRing w g b m t gone) (hg : gone + t.length ≤ 4611686018427387904) :
    Calls Tryz.prog 157 #[.pointer (some ⟨g, 0, none⟩), .int .i64 k] w fun e w' => e = .returned (.int .i64 (min k.toNat t.length : Nat)) ∧ Keeps (fun k => k = g ∨ k = b) w w' ∧ IsRing w' g b m (t.drop k.toNat) (gone + min k.toNat t.length) := by
  obtain ⟨f, arr, h⟩ := h
  have ht : t.drop (min k.toNat t.length) = t.drop k.toNat := by
    by_cases hc : k.toNat ≤ t.length
    · congr 1; omega
    · rw [List.drop_eq_nil_of_le (by omega), List.drop_eq_nil_of_le (by omega)]
  rw [← ht]
  clear ht
  generalize hq : min k.toNat t.length = q at *
  have hq2 : q ≤ t.length := by omega
  have Hq := Lib.hid hq
  clear hq
  by_cases hc : q = 0
  · subst hc
    go_enter Tryz.func157, Tryz.ntmps157
    go_wp2_with (first | (go_at_call 201; go_must (refine (held_any_ringa _ _ _ _ _ _ _ _ _ h).mono ?_; rw [Hq.out]; rintro e w' ⟨rfl, n, rfl⟩)))
    go_ret
    exact ⟨rfl, (Keeps.refl _ _).drewN _, f, arr, h.drewN _⟩
  · have hp : 0 < q := by omega
    clear hc
    go_enter Tryz.func157, Tryz.ntmps157
    go_wp2_with (first | (go_at_call 201; go_must (refine (held_any_ringa _ _ _ _ _ _ _ _ _ h).mono ?_; rw [Hq.out]; rintro e w' ⟨rfl, n, rfl⟩)) | (go_at_call 199; go_must (refine (skip_any_ringb _ _ _ _ _ _ _ _ _ (h.drewN _) (by omega) (by omega)).mono ?_; rintro e w1 ⟨rfl, k1, r1⟩; have c3 := r1.top.cell 3; have hf := r1.top.frozen 3; simp at c3)))
    go_ret
    refine ⟨rfl, (k1.from_drewN.mono fun k _ h => .inl h).setCell (fun _ => .inl rfl) _, _, arr, ?_, ?_, r1.len, r1.pos, r1.small, r1.first, r1.fits, r1.text⟩
    · have := r1.top.set_ 3 (.int .i64 ((gone + q : Nat) : Int))
      simpa using this
    · exact r1.row.far (p := ⟨g, 3, none⟩) (by have := r1.top.ne_ r1.row (by decide); simpa using this.symm) _

theorem itext_any (h : IsRing w g b m t gone) :
    Calls Tryz.prog 99 #[.pointer (some ⟨g, 0, none⟩)] w fun e w' => e = .returned (.string (str t)) ∧ Keeps (fun _ => False) w w' := by
  have h' := h
  obtain ⟨f, arr, h⟩ := h
  go_enter Tryz.func99, Tryz.ntmps99
  go_wp2_with (first | (go_at_call 160; go_must (refine (len_yes _ _ _ _ _ _ _ _ h).mono ?_; rintro e w' ⟨rfl, n, rfl⟩)) | (go_at_call 159; go_must (refine (ipeek_any _ _ _ _ _ _ _ (h'.drewN _)).mono ?_; rintro e w1 ⟨rfl, k1⟩)))
  go_ret
  refine ⟨?_, k1.from_drewN⟩
  simp

theorem ilen_any (h : IsRing w g b m t gone) : Calls Tryz.prog 160 #[.pointer (some ⟨g, 0, none⟩)] w (Qt (.int .i64 t.length) w) := by
  obtain ⟨f, arr, h⟩ := h
  exact len_yes w g b m f arr t gone h
theorem iroom_any (h : IsRing w g b m t gone) : Calls Tryz.prog 198 #[.pointer (some ⟨g, 0, none⟩)] w (Qt (.int .i64 ((m : Int) - t.length)) w) := by
  obtain ⟨f, arr, h⟩ := h
  exact room_yes w g b m f arr t gone h
end

section
variable (w : World)
theorem force_nil (s : ByteArray) : Calls Tryz.prog 156 #[.pointer none, .string s] w (Qt (.int .i64 0) w) := by
  go_enter Tryz.func156, Tryz.ntmps156
  go_wp2_with (go_at_call 197; refine (made_nil_ringa _).mono ?_; rintro e w' ⟨rfl, n, rfl⟩)
  go_ret
  exact Qt.of rfl
theorem peek_nil (k : Int) : Calls Tryz.prog 159 #[.pointer none, .int .i64 k] w (Qt (.string (str [])) w) := by
  go_enter Tryz.func159, Tryz.ntmps159
  go_wp2_with (go_at_call 201; refine (held_nil _ _).mono ?_; rintro e w' ⟨rfl, n, rfl⟩)
  go_ret
  exact Qt.of rfl
theorem drop_nil (k : Int) : Calls Tryz.prog 157 #[.pointer none, .int .i64 k] w (Qt (.int .i64 0) w) := by
  go_enter Tryz.func157, Tryz.ntmps157
  go_wp2_with (go_at_call 201; refine (held_nil _ _).mono ?_; rintro e w' ⟨rfl, n, rfl⟩)
  go_ret
  exact Qt.of rfl
theorem text_nil_ringd : Calls Tryz.prog 99 #[.pointer none] w (Qt (.string (str [])) w) := by
  go_enter Tryz.func99, Tryz.ntmps99
  go_wp2_with (first | (go_at_call 160; refine (len_nil _).mono ?_; rintro e w' ⟨rfl, n, rfl⟩) | (go_at_call 159; refine (peek_nil _ _).mono ?_; rintro e w' ⟨rfl, n, rfl⟩))
  go_ret
  exact Qt.of rfl
end
end Go.Proofs.YtdbnalocmjkncaaGreatDoor

/-
  tail: where the last lines begin; a tail that is fed; the document's answer on it.
-/
namespace Go.Proofs.YtdbnalocmjkncaaGreatDoor
open Go.RowKit

set_option maxRecDepth 100000 in
set_option maxHeartbeats 1000000 in
theorem tbegin_any (w : World) (s : ByteArray) (n : Nat) (hn : 1 ≤ n) (hn2 : n ≤ 4611686018427387904) (hs : s.size ≤ 4611686018427387904) : Calls Tryz.prog 158 #[.string s, .int .i64 n] w fun e w' => (∃ i : Nat, e = .returned (.int .i64 i) ∧ Begins s.data.toList n i) ∧ w' = w := by
  have hlen : s.data.toList.length = s.size := by simp
  obtain ⟨l, hl⟩ : ∃ l, l = s.data.toList := ⟨_, rfl⟩
  rw [← hl] at hlen ⊢
  have hget : ∀ (k : Nat) c, l[k]? = some c → ∀ h, s[k]'h = c := by
    intro k c hc h
    rw [hl] at hc
    rw [← (List.getElem?_eq_some_iff.1 hc).2]; rfl
  have HN := Lib.hid hlen
  have HG := Lib.hid hget
  clear hl hlen hget
  go_enter Tryz.func158, Tryz.ntmps158
  go_wp2_with fail
  go_step3
  go_wp2_with fail
  go_step3
  go_wp2_with fail
  go_loopw [1, 5] (fun u1 u5 wr => w = wr ∧ ∃ k i : Nat, u1 = .int .i64 k ∧ u5 = .int .i64 i ∧ k ≤ n ∧ i ≤ s.size ∧ Hid (manyP (l.drop i) + k = n ∧ (i = l.length ∨ i = 0 ∨ l[i - 1]? = some 10))) (fun u1 _ _ => (intOf u1).toNat)
  case atStart => exact ⟨rfl, n, s.size, rfl, rfl, Nat.le_refl _, Nat.le_refl _, Lib.hid ⟨by rw [List.drop_eq_nil_of_le (by rw [HN.out]; exact Nat.le_refl _), manyP_zero]; omega, .inl HN.out.symm⟩⟩
  case round =>
    obtain ⟨rfl, k, i, rfl, rfl, hk, hi, HI⟩ := hrel
    by_cases hoff : k = 0 ∨ i = 0
    · have hb := begins_end hn (by rw [HN.out]; exact hi) HI.out.1 HI.out.2 hoff
      have HB := Lib.hid hb
      have hoff2 : ¬ (0 : Int) < k ∨ ((0 : Int) < k ∧ ¬ (0 : Int) < i) := by omega
      clear hb hoff
      rcases hoff2 with ho | ⟨ho, ho2⟩
      all_goals
        go_wp2_with fail
        (try rw [Exit.noGoto_ret])
        go_ret
        exact ⟨⟨i, rfl, HB.out⟩, rfl⟩
    · have ho1 : (0 : Int) < k := by omega
      have ho2 : (0 : Int) < i := by omega
      have hi1 : 1 ≤ i := by omega
      clear hoff
      obtain ⟨c0, hc0⟩ : ∃ c, l[i - 1]? = some c := ⟨_, List.getElem?_eq_getElem (by rw [HN.out]; omega)⟩
      have hm0 : manyP (l.drop (i - 1)) = 1 + manyP (l.drop i) := by
        have h1 := many_feed hc0 (by
          rcases HI.out.2 with h | h | h
          · right; omega
          · omega
          · rw [hc0] at h; exact .inl (Option.some.inj h))
        rwa [show i - 1 + 1 = i by omega] at h1
      have hi2 : ((i : Int) - 1) = ((i - 1 : Nat) : Int) := by omega
      have HM0 := Lib.hid hm0
      have HII := Lib.hid hi1
      have HI2 := Lib.hid hi2
      clear hc0 hm0 hi1 hi2
      go_wp2_with fail
      go_loopw [5] (fun u5 wx => w = wx ∧ ∃ j : Nat, u5 = .int .i64 j ∧ j < i ∧ Hid (manyP (l.drop j) = 1 + manyP (l.drop i))) (fun u5 _ => (intOf u5).toNat)
      case atStart => exact ⟨rfl, i - 1, by rw [HI2.out], by have := HII.out; omega, Lib.hid HM0.out⟩
      case round =>
        obtain ⟨rfl, j, rfl, hj, HJ⟩ := hrel
        by_cases hj0 : j = 0
        · subst hj0
          go_wp2_with fail
          exact ⟨⟨trivial, k - 1, 0, by go_num, rfl, by omega, by omega, by have := HJ.out; have := HI.out.1; omega, .inr (.inl rfl)⟩, by simp [intOf]; omega⟩
        · obtain ⟨c, hc⟩ : ∃ c, l[j - 1]? = some c := ⟨_, List.getElem?_eq_getElem (by rw [HN.out]; omega)⟩
          have hsc := HG.out (j - 1) c hc
          have hj1 : (0 : Int) < j := by omega
          have hj2 : ((j : Int) - 1).toNat = j - 1 := by omega
          by_cases h10 : c = 10
          · subst h10
            have HC := Lib.hid hc
            clear hc
            go_wp2_with fail
            exact ⟨⟨trivial, k - 1, j, by go_num, rfl, by omega, by omega, by have := HJ.out; have := HI.out.1; omega, .inr (.inr HC.out)⟩, by simp [intOf]; omega⟩
          · have hst := many_same hc h10 (by rw [HN.out]; omega)
            rw [show j - 1 + 1 = j by omega] at hst
            have HST := Lib.hid hst
            have b10 : ((c.toNat : Int) == 10) = false := by rw [beq_eq_false_iff_ne]; intro e; exact h10 (UInt8.toNat_inj.1 (by show c.toNat = 10; omega))
            clear hc hst
            go_wp2_with fail
            exact ⟨⟨trivial, j - 1, by go_num, by omega, by rw [HST.out]; exact HJ.out⟩, by simp [intOf]; omega⟩
end Go.Proofs.YtdbnalocmjkncaaGreatDoor

/-
  tail: a tail that is fed, and what it tells.
-/
namespace Go.Proofs.YtdbnalocmjkncaaGreatDoor
open Go.RowKit

/-- a tail at t, its ring at g and b, for m bytes and so many lines; T is what is there, came how many bytes came -/
structure TailAt (w : World) (t g b m lines : Nat) (T : List UInt8) (came : Nat) : Prop where
  top : Blk w t 170 #[.int .i64 lines, .pointer (some ⟨g, 0, none⟩), .int .i64 came]
  ring : ∃ gone, IsRing w g b m T gone ∧ gone + T.length = came
  ln : 1 ≤ lines ∧ lines ≤ 1024
section
variable {w w' : World} {t g b m lines came : Nat} {T : List UInt8}
theorem TailAt.keeps {S : Nat → Prop} (h : TailAt w t g b m lines T came) (k : Keeps S w w') (h1 : ¬ S t) (h2 : ¬ S g) (h3 : ¬ S b) : TailAt w' t g b m lines T came := by
  obtain ⟨gone, hr, he⟩ := h.ring
  exact ⟨h.top.keeps k h1, ⟨gone, hr.keeps k h2 h3, he⟩, h.ln⟩
theorem TailAt.same (h : TailAt w t g b m lines T came) (k : Keeps (fun _ => False) w w') : TailAt w' t g b m lines T came := h.keeps k id id id
theorem TailAt.ne (h : TailAt w t g b m lines T came) : t ≠ g ∧ t ≠ b := by
  obtain ⟨gone, ⟨f, arr, hr⟩, -⟩ := h.ring
  exact ⟨h.top.ne_ hr.top (by decide), h.top.ne_ hr.row (by decide)⟩
theorem TailAt.fits (h : TailAt w t g b m lines T came) : T.length ≤ m ∧ 0 < m ∧ m ≤ 1048576 := by
  obtain ⟨gone, hr, -⟩ := h.ring
  exact hr.fits
set_option maxRecDepth 100000 in
theorem tmade (h : TailAt w t g b m lines T came) : Calls Tryz.prog 98 #[.pointer (some ⟨t, 0, none⟩)] w fun e w' => e = .returned (.bool true) ∧ w' = w := by
  obtain ⟨c0, c1, c2⟩ := h.top.cells3
  clear h
  go_enter Tryz.func98, Tryz.ntmps98
  go_wp2_with fail
  go_ret
  exact ⟨rfl, rfl⟩
set_option maxRecDepth 100000 in
theorem tnew_bad (w : World) (lines bytes : Int) (h : lines < 1 ∨ (¬ lines < 1 ∧ (1024 < lines ∨ (¬ 1024 < lines ∧ (bytes < 1 ∨ (¬ bytes < 1 ∧ 65536 < bytes)))))) : Calls Tryz.prog 96 #[.int .i64 lines, .int .i64 bytes] w fun e w' => e = .returned (.tuple #[.pointer none, .int .i64 2]) ∧ w' = w := by
  rcases h with h | ⟨h0, h | ⟨h1, h | ⟨h2, h⟩⟩⟩
  all_goals
    go_enter Tryz.func96, Tryz.ntmps96
    go_wp2_with fail
    go_ret2
    exact ⟨rfl, rfl⟩
set_option maxRecDepth 100000 in
theorem tnew_ok (w : World) (lines m : Nat) (hl : 1 ≤ lines ∧ lines ≤ 1024) (hm : 1 ≤ m ∧ m ≤ 65536) : Calls Tryz.prog 96 #[.int .i64 lines, .int .i64 m] w fun e w' =>
    (∃ t g b, e = .returned (.tuple #[.pointer (some ⟨t, 0, none⟩), .int .i64 0]) ∧ w.heap.size ≤ t ∧ w.heap.size ≤ g ∧ w.heap.size ≤ b ∧ TailAt w' t g b m lines [] 0) ∧ Keeps (fun _ => False) w w' := by
  have HN := Lib.hid (new_ok w m hm.1 (by omega))
  have HLN := Lib.hid hl
  have a1 : ¬ (lines : Int) < 1 := by omega
  have a2 : ¬ (1024 : Int) < lines := by omega
  have a3 : ¬ (m : Int) < 1 := by omega
  have a4 : ¬ (65536 : Int) < m := by omega
  clear hl hm
  go_enter Tryz.func96, Tryz.ntmps96
  go_wp2_with fail
  refine HN.out.mono ?_
  rintro e w2 ⟨g, b, rfl, hg, hb, k2, hr⟩
  have HR := Lib.hid hr
  have HK := Lib.hid k2
  have hz := k2.size
  clear hr k2
  go_wp2_with fail
  go_ret2
  refine ⟨⟨w2.heap.size, g, b, rfl, hz, hg, hb, Blk.new w2 _ _, ⟨0, HR.out.keeps (S := fun _ => False) ((Keeps.refl _ _).alloc _) id id, rfl⟩, HLN.out⟩, HK.out.alloc _⟩
set_option maxRecDepth 100000 in
theorem ttext (h : TailAt w t g b m lines T came) : Calls Tryz.prog 42 #[.pointer (some ⟨t, 0, none⟩)] w fun e w' => e = .returned (.string (str T)) ∧ Keeps (fun _ => False) w w' := by
  have HM := Lib.hid (tmade h)
  obtain ⟨c0, c1, c2⟩ := h.top.cells3
  obtain ⟨gone, hr, -⟩ := h.ring
  have HT := Lib.hid (itext_any w g b m T gone hr)
  clear h hr
  go_enter Tryz.func42, Tryz.ntmps42
  go_wp2_with fail
  refine HM.out.mono ?_
  rintro e w2 ⟨rfl, hw⟩
  obtain rfl : w = w2 := hw.symm
  go_wp2_with fail
  refine HT.out.mono ?_
  rintro e w2 ⟨rfl, k2⟩
  have HK := Lib.hid k2
  clear k2
  go_wp2_with fail
  go_ret
  exact ⟨rfl, HK.out⟩
set_option maxRecDepth 100000 in
set_option maxHeartbeats 1000000 in
theorem tfeed (h : TailAt w t g b m lines T came) (s : ByteArray) (hs : s.size ≤ 1073741824) (hc : came ≤ 1099511627776) : Calls Tryz.prog 97 #[.pointer (some ⟨t, 0, none⟩), .string s] w fun e w' =>
    e = .returned (.tuple #[]) ∧ TailAt w' t g b m lines (tailP m lines (T ++ s.data.toList)) (came + s.size) ∧ Keeps (fun i => i = t ∨ i = g ∨ i = b) w w' := by
  have H := Lib.hid h
  have HM := Lib.hid (tmade h)
  obtain ⟨⟨c0, c1, c2⟩, f0, f1, f2⟩ := h.top.all3
  obtain ⟨gone, hr, hgc⟩ := h.ring
  obtain ⟨hne1, hne2⟩ := h.ne
  obtain ⟨hft1, hft2, hft3⟩ := h.fits
  obtain ⟨hl1, hl2⟩ := h.ln
  have hsl : s.data.toList.length = s.size := by simp
  obtain ⟨w1, hw1⟩ : ∃ w1, w1 = w.setCell ⟨t, 2, none⟩ (.int .i64 ((came : Int) + s.size)) := ⟨_, rfl⟩
  have k1 : Keeps (fun i => i = t) w w1 := by rw [hw1]; exact (Keeps.refl (fun i => i = t) w).setCell (p := ⟨t, 2, none⟩) (fun _ => rfl) _
  have HT1 := Lib.hid (show Blk w1 t 170 #[.int .i64 lines, .pointer (some ⟨g, 0, none⟩), .int .i64 ((came : Int) + s.size)] by rw [hw1]; exact h.top.set_ 2 _)
  have HR1 := Lib.hid (hr.keeps k1 (fun e => hne1 e.symm) (fun e => hne2 e.symm))
  have HFO := Lib.hid (force_any w1 g b m T gone s HR1.out (by unfold maxLen; omega) (by omega))
  obtain ⟨d, hd⟩ : ∃ d, d = T.length + s.size - m := ⟨_, rfl⟩
  obtain ⟨U, hU⟩ : ∃ U, U = (T ++ s.data.toList).drop d := ⟨_, rfl⟩
  rw [← hd, ← hU] at HFO
  have hUl : U.length ≤ m := by rw [hU, List.length_drop, List.length_append, hsl]; omega
  have hUt : tailP m lines U = tailP m lines (T ++ s.data.toList) := by
    rcases Nat.eq_zero_or_pos d with h0 | h0
    · rw [hU, h0, List.drop_zero]
    · rw [hU]; exact tail_drop m lines _ d (by rw [List.length_append, hsl]; omega)
  have hUc : gone + d + U.length = came + s.size := by rw [hU, List.length_drop, List.length_append, hsl]; omega
  have HUT := Lib.hid hUt
  have HUC := Lib.hid hUc
  have HK1 := Lib.hid k1
  have HW1 := Lib.hid hw1
  have HNE := Lib.hid (show t ≠ g ∧ t ≠ b from ⟨hne1, hne2⟩)
  have hww : IntKind.i64.wrap ((came : Int) + s.size) = (came : Int) + s.size := wrap_in (by omega) (by omega)
  clear h hr hgc hft1 hft2 hd hU hUt hUc k1 hsl hne1 hne2
  go_enter Tryz.func97, Tryz.ntmps97
  go_wp2_with fail
  refine HM.out.mono ?_
  rintro e w2 ⟨rfl, hw⟩
  obtain rfl : w = w2 := hw.symm
  obtain ⟨x0, x1, x2⟩ := HT1.out.cells3
  rw [hw1] at x0 x1 x2
  go_wp2_with fail
  rw [← hw1]
  refine HFO.out.mono ?_
  rintro e w3 ⟨rfl, k3, hr3⟩
  have HT3 := Lib.hid (HT1.out.keeps k3 (fun e => e.elim HNE.out.1 HNE.out.2))
  have HR3 := Lib.hid hr3
  have HK3 := Lib.hid k3
  have HTX := Lib.hid (fun W (kk : Keeps (fun _ => False) w3 W) => itext_any W g b m U _ (HR3.out.keeps kk id id))
  have hUb : U.length ≤ 1048576 := Nat.le_trans hUl hft3
  have HBE := Lib.hid (fun W => tbegin_any W (str U) lines hl1 (by omega) (by rw [str_size]; omega))
  have HDR := Lib.hid (fun W (k : Int) (kk : Keeps (fun _ => False) w3 W) => idrop_any W g b m U _ k (HR3.out.keeps kk id id) (by have := HUC.out; omega))
  clear c0 c1 c2 f0 f1 f2 x0 x1 x2 hw1 k3 hr3
  obtain ⟨c0, c1, c2⟩ := HT3.out.cells3
  go_wp2_with fail
  go_region_held3 (fun w4 => w4.cell? ⟨t, 0, none⟩ = some (.int .i64 lines) ∧ w4.cell? ⟨t, 1, none⟩ = some (.pointer (some ⟨g, 0, none⟩)))
    ((first | exact ⟨c0, c1⟩ | exact ⟨d0, d1⟩ | exact ⟨e0, e1⟩))
    (first
      | (go_at_call 99; refine (HTX.out _ ((Keeps.refl _ _).drew)).mono ?_; rintro e w5 ⟨rfl, k5⟩; have k5 : Keeps (fun _ => False) w3 w5 := k5.from_drew; obtain ⟨d0, d1, -⟩ := (HT3.out.keeps k5 id).cells3; have HK5 := Lib.hid k5; clear k5)
      | (go_at_call 158; refine (HBE.out _).mono ?_; rintro e w6 ⟨⟨i, rfl, hbi⟩, hw6⟩; obtain rfl : w5 = w6 := hw6.symm; have HBI := Lib.hid hbi; clear hbi hw6)
      | (go_at_call 157; refine (HDR.out _ _ HK5.out).mono ?_; rintro e w7 ⟨rfl, k7, hr7⟩; obtain ⟨e0, e1, -⟩ := ((HT3.out.keeps HK5.out id).keeps k7 (fun e => e.elim HNE.out.1 HNE.out.2)).cells3; have HK7 := Lib.hid k7; have HR7 := Lib.hid hr7; clear k7 hr7))
  go_wp2_with fail
  go_end0
  have hti := HBI.out.tail hUl
  rw [str_list] at hti
  have hr7 := HR7.out
  rw [Int.toNat_natCast, ← hti, HUT.out] at hr7
  have hbl := HBI.out.le
  have hdl : (U.drop i).length = U.length - i := List.length_drop
  rw [← hti, HUT.out] at hdl
  refine ⟨rfl, ⟨?_, ⟨_, hr7, ?_⟩, ⟨hl1, hl2⟩⟩, ?_⟩
  · exact (HT3.out.keeps HK5.out id).keeps HK7.out (fun e => e.elim HNE.out.1 HNE.out.2)
  · have := HUC.out
    rw [hdl]
    omega
  · have a1 : Keeps (fun i => i = t ∨ i = g ∨ i = b) w w1 := HK1.out.mono fun _ _ h => .inl h
    exact ((a1.and_ HK3.out (fun _ _ h => .inr h)).and_ HK5.out (fun _ _ h => h.elim)).and_ HK7.out (fun _ _ h => .inr h)
end
end Go.Proofs.YtdbnalocmjkncaaGreatDoor
