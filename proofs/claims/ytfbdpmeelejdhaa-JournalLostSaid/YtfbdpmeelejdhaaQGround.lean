/-
  The lower texts of this claim, joined.
-/
import Derived.WalkKit
import Derived.WalkSpells
import Derived.WalkLawsBesides
import Derived.BigQuiet
import Derived.Deep.QuietTactic
import Derived.Deep.RegionHeld3
import Derived.StillTailTactics
import Derived.Deep.DeepMust
import Derived.Deep.LoopGhost
import Derived.Laws.CopyOwn
import Derived.Lib.Hide
import Derived.Deep.AppendLies
import Derived.Maps.RangeWalk
import Derived.Maps.OwnSet
import Derived.Sort.KeysCollected
import Derived.Sort.Walk0
import Derived.Lib.AppendStr
import Derived.Test.YtfbdpmeelejdhaaChecked
import Derived.ProofKit
import Derived.Deep.Slices
import Derived.Deep.Fields
/-
  Plain words for memory that all texts of this claim use: a result that only reads; blocks known whole; what a call may change. No program in sight.
-/
namespace Go.Proofs.Ytfbdpmeelejdhaa
open Go.RowKit

/-- a call that only reads: it hands back v, the world may have drawn -/
def Qt (v : Value) (w : World) : Ending → World → Prop := fun e w' => e = .returned v ∧ ∃ n, w' = w.drewN n

theorem Qt.quiet {P : Program} {f : FuncId} {args : Array Value} {w : World} {n : Nat} {v : Value}
    (h : Calls P f args (w.drewN n) (Qt v (w.drewN n))) : Calls P f args (w.drewN n) fun e w'' => e = .returned v ∧ ∃ m, w'' = w.drewN m :=
  h.mono fun _ _ ⟨he, m, hm⟩ => ⟨he, n + m, by rw [hm, World.drewN_drewN]⟩

theorem Qt.of {v v' : Value} {w : World} {n : Nat} (h : v' = v) : Qt v w (.returned v') (w.drewN n) := ⟨by rw [h], n, rfl⟩
theorem Qt.of2 {v v' : Value} {w : World} {n m : Nat} (h : v' = v) : Qt v w (.returned v') ((w.drewN n).drewN m) := ⟨by rw [h], _, World.drewN_drewN _ _ _⟩
theorem Qt.of0 {v v' : Value} {w : World} (h : v' = v) : Qt v w (.returned v') w := ⟨by rw [h], 0, rfl⟩
theorem int_eq {k : IntKind} {a b : Int} (h : a = b) : Value.int k a = .int k b := by rw [h]
theorem wrap_in {x : Int} (h : -4611686018427387904 ≤ x) (h' : x ≤ 4611686018427387904) : IntKind.i64.wrap x = x := IntWalk.i64_in _ (by omega)
theorem tmod_nat (a b : Nat) : ((a : Int)).tmod (b : Int) = ((a % b : Nat) : Int) := by
  rw [Int.tmod_eq_emod_of_nonneg (by omega)]; simp

/-- what a call may change: of the blocks that were there, those of S alone -/
structure Keeps (S : Nat → Prop) (w w' : World) : Prop where
  os : w'.os = w.os
  tape : w'.tape = w.tape
  output : w'.output = w.output
  size : w.heap.size ≤ w'.heap.size
  block : ∀ k, k < w.heap.size → ¬ S k → w'.heap[k]? = w.heap[k]?

section
variable {S T : Nat → Prop} {a b c w w' : World}
theorem Keeps.refl (S : Nat → Prop) (w : World) : Keeps S w w := ⟨rfl, rfl, rfl, Nat.le_refl _, fun _ _ _ => rfl⟩
theorem Keeps.trans (h : Keeps S a b) (k : Keeps S b c) : Keeps S a c :=
  ⟨k.os.trans h.os, k.tape.trans h.tape, k.output.trans h.output, Nat.le_trans h.size k.size, fun i hi hn => (k.block i (Nat.lt_of_lt_of_le hi h.size) hn).trans (h.block i hi hn)⟩
theorem Keeps.and_ (h : Keeps S a b) (k : Keeps T b c) (hT : ∀ i, i < a.heap.size → T i → S i) : Keeps S a c :=
  ⟨k.os.trans h.os, k.tape.trans h.tape, k.output.trans h.output, Nat.le_trans h.size k.size, fun i hi hn => (k.block i (Nat.lt_of_lt_of_le hi h.size) (fun ht => hn (hT i hi ht))).trans (h.block i hi hn)⟩
theorem Keeps.mono (h : Keeps S a b) (hs : ∀ k, k < a.heap.size → S k → T k) : Keeps T a b := ⟨h.os, h.tape, h.output, h.size, fun i hi hn => h.block i hi fun hS => hn (hs i hi hS)⟩
theorem Keeps.drewN (h : Keeps S a b) (n : Nat) : Keeps S a (b.drewN n) := ⟨h.os, h.tape, h.output, h.size, h.block⟩
theorem Keeps.drew (h : Keeps S a b) : Keeps S a b.drew := ⟨h.os, h.tape, h.output, h.size, h.block⟩
theorem Keeps.alloc (h : Keeps S a b) (o : Obj) : Keeps S a (b.alloc o) :=
  ⟨h.os, h.tape, h.output, Nat.le_trans h.size (by simp), fun i hi hn => (Below.heap_alloc b o i (Nat.lt_of_lt_of_le hi h.size)).trans (h.block i hi hn)⟩
theorem Keeps.setCell (h : Keeps S a b) {p : Addr} (hp : p.block < a.heap.size → S p.block) (u : Value) : Keeps S a (b.setCell p u) :=
  ⟨h.os, h.tape, h.output, by simpa [World.setCell] using h.size, fun i hi hn => (Below.heap_setCell b p u i (fun e => hn (by subst e; exact hp hi))).trans (h.block i hi hn)⟩
theorem Keeps.setRow (h : Keeps S a b) {g : Nat} (hp : g < a.heap.size → S g) (cs : Array Value) : Keeps S a (b.setRow g cs) :=
  ⟨h.os, h.tape, h.output, by simpa using h.size, fun i hi hn => by
    have hne : g ≠ i := fun e => hn (by subst e; exact hp hi)
    rw [← h.block i hi hn]
    simp [World.setRow, Array.getElem?_modify, hne]⟩
theorem Keeps.grown (h : Keeps S a b) {row : Option Nat} (hg : b.grownBy c row) (hr : ∀ k, row = some k → k < a.heap.size → S k) : Keeps S a c :=
  ⟨hg.os.trans h.os, hg.tape.trans h.tape, hg.output.trans h.output, Nat.le_trans h.size hg.size, fun i hi hn => (hg.block i (Nat.lt_of_lt_of_le hi h.size) (fun e => hn (hr i e.symm hi))).trans (h.block i hi hn)⟩
theorem Keeps.from_drewN {n : Nat} (h : Keeps S (a.drewN n) b) : Keeps S a b := ⟨h.os, h.tape, h.output, h.size, h.block⟩
theorem Keeps.from_drew (h : Keeps S a.drew b) : Keeps S a b := ⟨h.os, h.tape, h.output, h.size, h.block⟩
theorem Keeps.none_ (h : Keeps (fun _ => False) a b) : Keeps S a b := h.mono fun _ _ h => h.elim
theorem Keeps.below (h : Keeps S w w') (hS : ∀ k, k < w.heap.size → ¬ S k) : Below w.heap.size w w' := ⟨h.os, h.tape, h.output, h.size, fun k hk => h.block k hk (hS k hk)⟩
theorem Keeps.of_below (h : Below w.heap.size w w') : Keeps S w w' := ⟨h.os, h.tape, h.output, h.size, fun k hk _ => h.block k hk⟩
end

/-- a call that only reads, said by 'Keeps' -/
theorem Qt.k {P : Program} {f : FuncId} {args : Array Value} {w : World} {v : Value} (h : Calls P f args w (Qt v w)) : Calls P f args w fun e w' => e = .returned v ∧ Keeps (fun _ => False) w w' :=
  h.mono fun _ _ ⟨he, n, hn⟩ => ⟨he, by rw [hn]; exact (Keeps.refl _ _).drewN n⟩

/-- a block known whole, nothing of it frozen -/
def Blk (w : World) (g : Nat) (t : TypeId) (cs : Array Value) : Prop := w.heap[g]? = some (.cells cs t (0, 0))

section
variable {w w' : World} {g : Nat} {t : TypeId} {cs : Array Value}
theorem Blk.lt (h : Blk w g t cs) : g < w.heap.size := by
  rcases Nat.lt_or_ge g w.heap.size with hlt | hge
  · exact hlt
  · unfold Blk at h; rw [Array.getElem?_eq_none hge] at h; cases h
theorem Blk.cell (h : Blk w g t cs) (i : Nat) : w.cell? ⟨g, i, none⟩ = cs[i]? := cell_of_row w g i cs t (0, 0) h
theorem Blk.frozen (h : Blk w g t cs) (i : Nat) : w.frozen? ⟨g, i, none⟩ = false := by
  unfold Blk at h
  simp [World.frozen?, h]
theorem Blk.new (w : World) (t : TypeId) (cs : Array Value) : Blk (w.alloc (.cells cs t)) w.heap.size t cs := heap_alloc_new w _
theorem Blk.drew (h : Blk w g t cs) : Blk w.drew g t cs := h
theorem Blk.drewN (h : Blk w g t cs) (n : Nat) : Blk (w.drewN n) g t cs := h
theorem Blk.alloc (h : Blk w g t cs) (o : Obj) : Blk (w.alloc o) g t cs := (Below.heap_alloc w o g h.lt).trans h
theorem Blk.set_ (h : Blk w g t cs) (i : Nat) (u : Value) : Blk (w.setCell ⟨g, i, none⟩ u) g t (cs.setIfInBounds i u) := by
  unfold Blk at h ⊢
  simp [World.setCell, Array.getElem?_modify, h]
theorem Blk.far (h : Blk w g t cs) {p : Addr} (hp : g ≠ p.block) (u : Value) : Blk (w.setCell p u) g t cs := (Below.heap_setCell w p u g hp).trans h
theorem Blk.keeps {S : Nat → Prop} (h : Blk w g t cs) (hb : Keeps S w w') (hg : ¬ S g) : Blk w' g t cs := (hb.block g h.lt hg).trans h
theorem Blk.row (h : Blk w g t cs) (ds : Array Value) : Blk (w.setRow g ds) g t ds := by
  unfold Blk at h ⊢
  simp [World.setRow, Array.getElem?_modify, h]
theorem Blk.farRow (h : Blk w g t cs) {g' : Nat} (hp : g' ≠ g) (ds : Array Value) : Blk (w.setRow g' ds) g t cs := by
  unfold Blk at h ⊢
  simp [World.setRow, Array.getElem?_modify, h, hp]
theorem Blk.ne_ {g' : Nat} {t' : TypeId} {cs' : Array Value} (h : Blk w g t cs) (h' : Blk w g' t' cs') (hne : t ≠ t') : g ≠ g' := by
  rintro rfl
  unfold Blk at h h'
  rw [h] at h'
  injection h' with h'
  injection h' with _ ht
  exact hne ht
end

theorem drew_mk (w : World) : ({ heap := w.heap, tape := w.tape, drawn := w.drawn + 1, os := w.os, output := w.output } : World) = w.drew := rfl
/-- three cells of a block, as facts that the walk reads -/
theorem Blk.cells3 {w : World} {g : Nat} {t : TypeId} {a b c : Value} (h : Blk w g t #[a, b, c]) : w.cell? ⟨g, 0, none⟩ = some a ∧ w.cell? ⟨g, 1, none⟩ = some b ∧ w.cell? ⟨g, 2, none⟩ = some c := ⟨h.cell 0, h.cell 1, h.cell 2⟩
theorem Blk.all3 {w : World} {g : Nat} {t : TypeId} {a b c : Value} (h : Blk w g t #[a, b, c]) : (w.cell? ⟨g, 0, none⟩ = some a ∧ w.cell? ⟨g, 1, none⟩ = some b ∧ w.cell? ⟨g, 2, none⟩ = some c) ∧ w.frozen? ⟨g, 0, none⟩ = false ∧ w.frozen? ⟨g, 1, none⟩ = false ∧ w.frozen? ⟨g, 2, none⟩ = false :=
  ⟨h.cells3, h.frozen 0, h.frozen 1, h.frozen 2⟩
/-- w' is w with the block g filled anew by cs (kept behind a name) -/
def Rowed (w w' : World) (g : Nat) (cs : Array Value) : Prop := w' = w.setRow g cs
section
variable {w w' : World} {g : Nat} {t : TypeId} {cs ds : Array Value}
theorem Rowed.blk (h : Rowed w w' g ds) (hb : Blk w g t cs) : Blk w' g t ds := by rw [h]; exact hb.row ds
theorem Rowed.far (h : Rowed w w' g ds) {g' : Nat} (hb : Blk w g' t cs) (hne : g ≠ g') : Blk w' g' t cs := by rw [h]; exact hb.farRow hne ds
theorem Rowed.keeps {S : Nat → Prop} {a : World} (h : Rowed w w' g ds) (k : Keeps S a w) (hS : g < a.heap.size → S g) : Keeps S a w' := by rw [h]; exact k.setRow hS ds
end

/-- bytes as cells -/
def bv (l : List UInt8) : Array Value := (l.map fun c => Value.int .u8 c.toNat).toArray
theorem bv_size (l : List UInt8) : (bv l).size = l.length := by simp [bv]
theorem bv_get (l : List UInt8) (i : Nat) (h : i < l.length) : (bv l)[i]? = some (.int .u8 (l[i].toNat : Int)) := by simp [bv, h]
theorem bv_list (l : List UInt8) : (bv l).toList = l.map fun c => Value.int .u8 c.toNat := by simp [bv]

theorem ext_list (s : ByteArray) (n : Nat) : (s.extract n s.size).data.toList = s.data.toList.drop n := by
  have h : s.data.toList.length = s.size := by simp
  simp only [ByteArray.data_extract, Array.toList_extract, List.extract_eq_take_drop]
  exact List.take_of_length_le (by rw [List.length_drop, h]; omega)
theorem ext_size (s : ByteArray) (n : Nat) : (s.extract n s.size).size = s.size - n := by simp
theorem ba_ext {a b : ByteArray} (h : a.data.toList = b.data.toList) : a = b := by
  cases a; cases b; simp at h; rw [h]
theorem ext_ext (a : ByteArray) (g m : Nat) (h : g + m ≤ a.size) : (a.extract g a.size).extract 0 m = a.extract g (g + m) := by
  apply ba_ext
  simp only [ByteArray.data_extract, Array.toList_extract, List.extract_eq_take_drop]
  have : a.data.toList.length = a.size := by simp
  rw [List.drop_zero, Nat.sub_zero, List.take_take]
  congr 1
  omega
theorem splice_get {α : Type} (L : List α) (o : Nat) (cs : List α) (h : o + cs.length ≤ L.length) (j : Nat) :
    (splice L o cs)[j]? = if o ≤ j ∧ j < o + cs.length then cs[j - o]? else L[j]? := by
  unfold splice
  rw [List.getElem?_append]
  simp only [List.length_take]
  by_cases h1 : j < o
  · rw [if_pos (by omega), if_neg (by omega), List.getElem?_take, if_pos h1]
  · rw [if_neg (by omega), List.getElem?_append]
    by_cases h2 : j < o + cs.length
    · rw [if_pos (by omega), if_pos (by omega)]; congr 1; omega
    · rw [if_neg (by omega), if_neg (by omega), List.getElem?_drop]; congr 1; omega
theorem splice_map {α β : Type} (f : α → β) (L : List α) (o : Nat) (cs : List α) : splice (L.map f) o (cs.map f) = (splice L o cs).map f := by
  unfold splice; simp
theorem splice_nil {α : Type} (L : List α) (o : Nat) : splice L o [] = L := by unfold splice; simp
theorem splice_len {α : Type} (L : List α) (o : Nat) (cs : List α) (h : o + cs.length ≤ L.length) : (splice L o cs).length = L.length := by simp [splice]; omega

section
variable {P : Program}
theorem firstCells_string (s : ByteArray) (n : Nat) (w : World) :
    (Builtin.firstCells 1 n (.string s)).run P w = .ok ((s.data.toList.take n).map fun c => Value.int .u8 c.toNat).toArray w := by
  have h : ((s.extract 0 n).data.map fun b => Value.int .u8 b.toNat) = ((s.data.toList.take n).map fun c => Value.int .u8 c.toNat).toArray := by
    apply Array.ext'
    simp
  show (pure _ : Sem (Array Value)).run P w = _
  rw [h]
  rfl

/-- copy into a row of bytes known whole: from a string -/
theorem run_copy_str (w : World) (dT sT ty elem : TypeId) (dp : Option Addr) (dLen dCap : Nat) (s : ByteArray) (g o : Nat) (L : List UInt8) (t : TypeId)
    (hu : P.underlying dT = some (.slice elem)) (hs : (P.info? elem).map (·.size) = some 1) (hg : Blk w g t (bv L))
    (hd : 0 < min s.size dLen → dp = some ⟨g, o, none⟩) (hfit : o + min s.size dLen ≤ L.length) :
    (Builtin.copy_ #[dT, sT] ty #[.slice dp dLen dCap, .string s]).run P w =
      .ok (.int .i64 (min s.size dLen : Nat)) (w.setRow g (bv (splice L o (s.data.toList.take (min s.size dLen))))) := by
  have hl : (s.data.toList.take (min s.size dLen)).length = min s.size dLen := by simp
  have hm : Nat.min s.size dLen = min s.size dLen := rfl
  cases hq : P.info? elem with
  | none => simp [hq] at hs
  | some i =>
    have hi : i.size = 1 := by simpa [hq] using hs
    by_cases h0 : min s.size dLen = 0
    · have he : w.setRow g (bv (splice L o [])) = w := by rw [splice_nil]; exact setRow_self w g _ t (0, 0) hg
      have hc := firstCells_string (P := P) s 0 w
      simp only [List.take_zero, List.map_nil] at hc
      rw [h0, List.take_zero, he]
      cases dp with
      | none => simp [Builtin.copy_, run_underlying hu, Builtin.lenOf, sizeOf, typeInfo, hq, hi, hm, h0, hc, goInt]
      | some a => simp [Builtin.copy_, run_underlying hu, Builtin.lenOf, sizeOf, typeInfo, hq, hi, hm, h0, hc, goInt, storeCells]
    · obtain rfl := hd (by omega)
      have hst := run_storeCells_at P g o t ((s.data.toList.take (min s.size dLen)).map fun c => Value.int .u8 c.toNat) 0 (bv L) w hg (by simp [bv_size]; omega) (by
        intro v hv; simp only [List.mem_map] at hv; obtain ⟨c, _, rfl⟩ := hv; rfl)
      have hrow : ((bv L).toList.take (o + 0) ++ (s.data.toList.take (min s.size dLen)).map (fun c => Value.int .u8 c.toNat) ++ (bv L).toList.drop (o + 0 + ((s.data.toList.take (min s.size dLen)).map fun c => Value.int .u8 c.toNat).length)).toArray
          = bv (splice L o (s.data.toList.take (min s.size dLen))) := by
        rw [bv_list]
        unfold bv
        rw [← splice_map]
        unfold splice
        simp
      rw [hrow] at hst
      rw [List.map_take] at hst
      simp [Builtin.copy_, run_underlying hu, Builtin.lenOf, sizeOf, typeInfo, hq, hi, hm, firstCells_string, goInt, hst]

/-- .. from a slice of bytes whose cells are known -/
theorem run_copy_sl (w : World) (dT sT ty elem : TypeId) (dp sp : Option Addr) (dLen dCap sLen sCap : Nat) (g o : Nat) (L cs : List UInt8) (t : TypeId)
    (hu : P.underlying dT = some (.slice elem)) (hs : (P.info? elem).map (·.size) = some 1) (hg : Blk w g t (bv L)) (hn : cs.length = min sLen dLen)
    (hd : 0 < cs.length → dp = some ⟨g, o, none⟩ ∧ ∃ ad, sp = some ad ∧ ∀ j c, cs[j]? = some c → w.cell? (ad.add j) = some (.int .u8 c.toNat)) (hfit : o + cs.length ≤ L.length) :
    (Builtin.copy_ #[dT, sT] ty #[.slice dp dLen dCap, .slice sp sLen sCap]).run P w =
      .ok (.int .i64 cs.length) (w.setRow g (bv (splice L o cs))) := by
  by_cases h0 : cs.length = 0
  · obtain rfl : cs = [] := List.eq_nil_of_length_eq_zero h0
    have he : w.setRow g (bv (splice L o [])) = w := by rw [splice_nil]; exact setRow_self w g _ t (0, 0) hg
    rw [he, run_copy_none (P := P) w dT sT ty elem dp sp dLen dCap sLen sCap hu hs (by simpa using hn.symm)]
    rfl
  · obtain ⟨rfl, ad, rfl, hc⟩ := hd (by omega)
    have := run_copy_row (P := P) w dT sT ty elem g o dLen dCap ad sLen sCap (bv L) t (cs.map fun c => Value.int .u8 c.toNat) hu hs hg (by simpa using hn) (by
      intro j v hv
      simp only [List.getElem?_map, Option.map_eq_some_iff] at hv
      obtain ⟨c, hc', rfl⟩ := hv
      exact hc j c hc') (by simpa [bv_size] using hfit) (by intro v hv; simp only [List.mem_map] at hv; obtain ⟨c, _, rfl⟩ := hv; rfl)
    rw [this]
    have hrow : ((bv L).toList.take o ++ cs.map (fun c => Value.int .u8 c.toNat) ++ (bv L).toList.drop (o + (cs.map fun c => Value.int .u8 c.toNat).length)).toArray = bv (splice L o cs) := by
      rw [bv_list]
      unfold bv
      rw [← splice_map]
      unfold splice
      simp
    rw [hrow]
    simp [goInt]

theorem wpList_copy_str {ops : Array Oper} {rest : List Oper} {o : Oper} {a : Act} {Q : Exit → Act → World → Prop} {w : World} (hgd : o.guard = none) (d x : Operand) (dT sT : TypeId)
    (ho : o.op = .call { callee := .builtin .copy, args := #[d, x], argTypes := #[dT, sT] }) (elem : TypeId) (hu : P.underlying dT = some (.slice elem)) (hsz : (P.info? elem).map (·.size) = some 1)
    (dp : Option Addr) (dLen dCap : Nat) (s : ByteArray) (hd : a.eval d = .slice dp dLen dCap) (hx : a.eval x = .string s) (g off : Nat) (L : List UInt8) (t : TypeId) (hg : Blk w g t (bv L))
    (hpos : 0 < min s.size dLen → dp = some ⟨g, off, none⟩) (hfit : off + min s.size dLen ≤ L.length)
    (h : ∀ w', Rowed w w' g (bv (splice L off (s.data.toList.take (min s.size dLen)))) → wpList P ops Q rest (a.put o.dst (.int .i64 (min s.size dLen : Nat))) w') : wpList P ops Q (o :: rest) a w := by
  refine wpList_plain hgd fun K hK => ?_
  have hrun := run_copy_str (P := P) w dT sT o.type elem dp dLen dCap s g off L t hu hsz hg hpos hfit
  unfold Oper.wp
  simp only [execOp, ho, resolve, invoke, builtin, Sem.run_bind, Sem.run_pure, Result.andThen_ok, List.map_toArray, List.map_cons, List.map_nil, hd, hx, hrun]
  exact hK _ _ (h _ rfl)

theorem wpList_copy_sl {ops : Array Oper} {rest : List Oper} {o : Oper} {a : Act} {Q : Exit → Act → World → Prop} {w : World} (hgd : o.guard = none) (d x : Operand) (dT sT : TypeId)
    (ho : o.op = .call { callee := .builtin .copy, args := #[d, x], argTypes := #[dT, sT] }) (elem : TypeId) (hu : P.underlying dT = some (.slice elem)) (hsz : (P.info? elem).map (·.size) = some 1)
    (dp sp : Option Addr) (dLen dCap sLen sCap : Nat) (hd : a.eval d = .slice dp dLen dCap) (hx : a.eval x = .slice sp sLen sCap) (g off : Nat) (L cs : List UInt8) (t : TypeId) (hg : Blk w g t (bv L))
    (hn : cs.length = min sLen dLen)
    (hpos : 0 < cs.length → dp = some ⟨g, off, none⟩ ∧ ∃ ad, sp = some ad ∧ ∀ j c, cs[j]? = some c → w.cell? (ad.add j) = some (.int .u8 c.toNat)) (hfit : off + cs.length ≤ L.length)
    (h : ∀ w', Rowed w w' g (bv (splice L off cs)) → wpList P ops Q rest (a.put o.dst (.int .i64 cs.length)) w') : wpList P ops Q (o :: rest) a w := by
  refine wpList_plain hgd fun K hK => ?_
  have hrun := run_copy_sl (P := P) w dT sT o.type elem dp sp dLen dCap sLen sCap g off L cs t hu hsz hg hn hpos hfit
  unfold Oper.wp
  simp only [execOp, ho, resolve, invoke, builtin, Sem.run_bind, Sem.run_pure, Result.andThen_ok, List.map_toArray, List.map_cons, List.map_nil, hd, hx, hrun]
  exact hK _ _ (h _ rfl)
end

theorem bv_at {w : World} {b : Nat} {t : TypeId} {arr : List UInt8} (h : Blk w b t (bv arr)) (f : Nat) (cs : List UInt8) (hc : ∀ j c, cs[j]? = some c → arr[f + j]? = some c) :
    ∀ j c, cs[j]? = some c → w.cell? ((⟨b, f, none⟩ : Addr).add j) = some (.int .u8 c.toNat) := by
  intro j c hj
  have h1 := hc j c hj
  have h2 := h.cell (f + j)
  have hlt := (List.getElem?_eq_some_iff.1 h1).1
  rw [bv_get _ _ hlt] at h2
  have e : arr[f + j] = c := (List.getElem?_eq_some_iff.1 h1).2
  rw [e] at h2
  by_cases h0 : j = 0
  · subst h0; simpa [Addr.add] using h2
  · simpa [Addr.add, h0] using h2
theorem bv_cell {w : World} {b : Nat} {t : TypeId} {arr : List UInt8} (h : Blk w b t (bv arr)) (j : Nat) (c : UInt8) (hj : arr[j]? = some c) : w.cell? ⟨b, j, none⟩ = some (.int .u8 c.toNat) := by
  have h2 := h.cell j
  have hlt := (List.getElem?_eq_some_iff.1 hj).1
  rw [bv_get _ _ hlt] at h2
  have e : arr[j] = c := (List.getElem?_eq_some_iff.1 hj).2
  rw [e] at h2
  exact h2

/-- a string out of a list of bytes -/
def str (l : List UInt8) : ByteArray := ⟨l.toArray⟩
theorem str_list (l : List UInt8) : (str l).data.toList = l := rfl
theorem str_size (l : List UInt8) : (str l).size = l.length := rfl
theorem str_of (s : ByteArray) : str s.data.toList = s := rfl
theorem str_inj {a b : List UInt8} : str a = str b ↔ a = b := ⟨fun h => by have := congrArg (fun s : ByteArray => s.data.toList) h; simpa [str] using this, fun h => by rw [h]⟩

theorem foldl_push (l : List UInt8) : ∀ (r : ByteArray), (l.map fun c => ((c.toNat : Nat) : Int)).foldl (fun r n => r.push (UInt8.ofNat n.toNat)) r = str (r.data.toList ++ l) := by
  induction l with
  | nil => intro r; simp [str]
  | cons c l ih =>
    intro r
    simp only [List.map_cons, List.foldl_cons]
    rw [ih]
    simp [str, ByteArray.push]

section
variable {P : Program}
theorem run_string_bytes (w : World) (src dst e : TypeId) (a : Addr) (n c : Nat) (cs : List UInt8) (hs : P.underlying src = some (.slice e)) (he : P.underlying e = some (.int .u8)) (hd : P.underlying dst = some .string)
    (hn : cs.length = n) (hc : ∀ j v, cs[j]? = some v → w.cell? (a.add j) = some (.int .u8 v.toNat)) :
    (convert src dst (.slice (some a) n c)).run P w = .ok (.string (str cs)) w := by
  rw [run_convert_bytes_string w src dst e _ n c hs he hd]
  have hl := run_loadCells_list (P := P) w a (cs.map fun c => Value.int .u8 c.toNat) (by
    intro j v hv
    simp only [List.getElem?_map, Option.map_eq_some_iff] at hv
    obtain ⟨c, hc', rfl⟩ := hv
    exact hc j c hc')
  rw [run_bytesToString w a n c (cs.map fun c => ((c.toNat : Nat) : Int)) (by rw [← hn]; simpa [List.map_map, Function.comp_def] using hl), foldl_push]
  rfl

/-- a new row of bytes -/
def Made (w w' : World) (t : TypeId) (cs : Array Value) : Prop := w' = w.alloc (.cells cs t)
theorem Made.blk {w w' : World} {t : TypeId} {cs : Array Value} (h : Made w w' t cs) : Blk w' w.heap.size t cs := by rw [h]; exact Blk.new w t cs
theorem Made.old {w w' : World} {t t' : TypeId} {cs ds : Array Value} {g : Nat} (h : Made w w' t cs) (hb : Blk w g t' ds) : Blk w' g t' ds := by rw [h]; exact hb.alloc _
theorem Made.keeps {w w' a : World} {t : TypeId} {cs : Array Value} {S : Nat → Prop} (h : Made w w' t cs) (k : Keeps S a w) : Keeps S a w' := by rw [h]; exact k.alloc _
theorem Made.size {w w' : World} {t : TypeId} {cs : Array Value} (h : Made w w' t cs) : w'.heap.size = w.heap.size + 1 := by rw [h]; simp

theorem made_zero (n : Nat) : madeCells (Value.int .u8 0).cells (n * 1) = bv (List.replicate n 0) := by
  apply Array.ext
  · simp [madeCells, bv]
  · intro i h1 h2
    simp [madeCells, bv, Value.cells, Nat.mod_one]

theorem wpList_make_bytes (w : World) {ops : Array Oper} {rest : List Oper} {o : Oper} {a : Act} {Q : Exit → Act → World → Prop}
    (hg : o.guard = none) (l c : Operand) (t : TypeId) (hop : o.op = Op.makeSlice t l c) (e : TypeId)
    (h1 : P.underlying t = some (.slice e)) (h2 : (P.info? e).map (fun i => (i.zero, i.size, i.bytes)) = some (some (.int .u8 0), 1, 1))
    (m n : Nat) (hl : a.eval l = .int .i64 m) (hc : a.eval c = .int .i64 n) (hmn : m ≤ n) (b2 : n ≤ 281474976710656)
    (hK : ∀ w', Made w w' e (bv (List.replicate n 0)) → wpList P ops Q rest (a.put o.dst (.slice (some ⟨w.heap.size, 0, none⟩) m n)) w') :
    wpList P ops Q (o :: rest) a w := by
  refine wpList_plain hg fun K hK' => ?_
  obtain ⟨i, hi, hz, hs, hb⟩ := info_parts h2
  have hrun := run_make (P := P) w t e i (.int .u8 0) h1 hi hz .i64 .i64 m n (by omega) (by omega) (by rw [hb]; omega) (by omega)
  rw [hs, Int.toNat_natCast, Int.toNat_natCast, made_zero] at hrun
  unfold Oper.wp
  simp only [execOp, hop, hl, hc, hrun, Sem.run_bind, Sem.run_pure, Result.andThen_ok]
  exact hK' _ _ (hK _ rfl)

theorem wpList_string_bytes (w : World) {ops : Array Oper} {rest : List Oper} {o : Oper} {a : Act} {Q : Exit → Act → World → Prop}
    (hg : o.guard = none) (x : Operand) (src dst : TypeId) (hop : o.op = Op.convert src dst x) (e : TypeId) (hs : P.underlying src = some (.slice e)) (he : P.underlying e = some (.int .u8)) (hd : P.underlying dst = some .string)
    (b off n c : Nat) (hx : a.eval x = .slice (some ⟨b, off, none⟩) n c) (cs : List UInt8) (hn : cs.length = n) (hc : ∀ j v, cs[j]? = some v → w.cell? ⟨b, off + j, none⟩ = some (.int .u8 v.toNat))
    (hK : wpList P ops Q rest (a.put o.dst (.string (str cs))) w) :
    wpList P ops Q (o :: rest) a w := by
  refine wpList_plain hg fun K hK' => ?_
  have hrun := run_string_bytes (P := P) w src dst e ⟨b, off, none⟩ n c cs hs he hd hn (fun j v hv => by
    have := hc j v hv
    by_cases h0 : j = 0
    · subst h0; simpa [Addr.add] using this
    · simpa [Addr.add, h0] using this)
  unfold Oper.wp
  simp only [execOp, hop, hx, hrun, Sem.run_bind, Sem.run_pure, Result.andThen_ok]
  exact hK' _ _ hK
end

/-- a return of a struct that lies in a block known whole, and of one value more -/
theorem ret_cell_tmp {P : Program} {fn : Func} {p u : Tmp} {ty : TypeId} (h : fn.results = #[.cell p ty, .tmp u]) {a : Act} {w : World} {R : Ending → World → Prop} (g : Nat) (t : TypeId) (cs : Array Value) (d : TypeDesc)
    (hp : a.tmps.getD p undef = .pointer (some ⟨g, 0, none⟩)) (hb : Blk w g t cs) (hu : P.underlying ty = some d) (hd : (match d with | .struct _ | .array _ _ => true | _ => false) = true)
    (hi : (P.info? ty).map (·.size) = some cs.size) (hdf : a.defers = []) (hR : R (.returned (.tuple #[.agg cs, a.tmps.getD u undef])) w) : bodyPost P fn R .ret a w := by
  refine bodyPost_ret (v := .tuple #[.agg cs, a.tmps.getD u undef]) ?_ hdf hR
  rw [results_cell_tmp h, hp]
  simp [asAddr, run_loadVar_row w g t ty cs (0, 0) d hb hu hd hi]
theorem ret_cell {P : Program} {fn : Func} {p : Tmp} {ty : TypeId} (h : fn.results = #[.cell p ty]) {a : Act} {w : World} {R : Ending → World → Prop} (g : Nat) (t : TypeId) (cs : Array Value) (d : TypeDesc)
    (hp : a.tmps.getD p undef = .pointer (some ⟨g, 0, none⟩)) (hb : Blk w g t cs) (hu : P.underlying ty = some d) (hd : (match d with | .struct _ | .array _ _ => true | _ => false) = true)
    (hi : (P.info? ty).map (·.size) = some cs.size) (hdf : a.defers = []) (hR : R (.returned (.agg cs)) w) : bodyPost P fn R .ret a w :=
  bodyPost_ret (results_cell_row h _ w g t cs (0, 0) d hp hb hu hd hi) hdf hR
end Go.Proofs.Ytfbdpmeelejdhaa

/-
  A slice that the call itself makes and appends to, as a list of one-cell values. No program in sight.
-/
namespace Go.Proofs.Ytfbdpmeelejdhaa
open Go.RowKit

/-- the slice value v, of element type e, owns the cells vs, in blocks from B on -/
def OwnL (w : World) (B : Nat) (e : TypeId) (v : Value) (vs : List Value) : Prop := w.ownsRow B e 1 v vs.length vs

theorem OwnL.none_ (w : World) (B : Nat) (e : TypeId) : OwnL w B e (.slice none 0 0) [] := World.ownsRow_nil w B e 1

theorem OwnL.keeps {w w' : World} {B : Nat} {e : TypeId} {v : Value} {vs : List Value} {S : Nat → Prop} (h : OwnL w B e v vs) (k : Keeps S w w') (hS : ∀ i, B ≤ i → i < w.heap.size → ¬ S i) : OwnL w' B e v vs := by
  refine ⟨h.1, ?_⟩
  rcases h.2 with h2 | ⟨g, cap, cur, hv, hg, hh, r⟩
  · exact .inl h2
  · have hlt : g < w.heap.size := by
      rcases Nat.lt_or_ge g w.heap.size with hlt | hge
      · exact hlt
      · rw [Array.getElem?_eq_none hge] at hh; cases hh
    exact .inr ⟨g, cap, cur, hv, hg, (k.block g hlt (hS g hg hlt)).trans hh, r⟩

/-- its shape, and its cells -/
theorem OwnL.shape {w : World} {B : Nat} {e : TypeId} {v : Value} {vs : List Value} (h : OwnL w B e v vs) :
    ∃ a cap, v = .slice a vs.length cap ∧ vs.length ≤ cap ∧ cap ≤ maxLen ∧ (0 < vs.length → ∃ g, a = some ⟨g, 0, none⟩ ∧ B ≤ g ∧ g < w.heap.size) ∧
      ∀ g, a = some ⟨g, 0, none⟩ → ∀ j u, vs[j]? = some u → w.cell? ⟨g, j, none⟩ = some u ∧ w.frozen? ⟨g, j, none⟩ = false := by
  rcases h.2 with ⟨rfl, h2⟩ | ⟨g, cap, cur, rfl, hg, hh, h1, h2, h3, h4⟩
  · refine ⟨none, 0, by rw [h2], by omega, by unfold maxLen; omega, fun h => by omega, fun g hg => by cases hg⟩
  · have hlt : g < w.heap.size := by
      rcases Nat.lt_or_ge g w.heap.size with hlt | hge
      · exact hlt
      · rw [Array.getElem?_eq_none hge] at hh; cases hh
    refine ⟨some ⟨g, 0, none⟩, cap, rfl, h1, h2, fun _ => ⟨g, rfl, hg, hlt⟩, fun g' hg' j u hu => ?_⟩
    injection hg' with hg'
    injection hg' with hg'
    subst hg'
    have hj : j < vs.length := (List.getElem?_eq_some_iff.1 hu).1
    refine ⟨?_, frozen_of_row w g j cur e hh⟩
    rw [cell_of_row w g j cur e (0, 0) hh, ← hu, ← h4, List.getElem?_take, if_pos (by omega)]
    simp

theorem OwnL.ownBlk {w : World} {B : Nat} {e : TypeId} {v : Value} {vs : List Value} (h : OwnL w B e v vs) : ∀ k, v.ownBlock = some k → ∃ cs, Blk w k e cs := by
  intro k hk
  rcases h.2 with ⟨rfl, h2⟩ | ⟨g, cap, cur, rfl, hg, hh, _⟩
  · simp [Value.ownBlock] at hk
  · simp [Value.ownBlock] at hk
    subst hk
    exact ⟨_, hh⟩

section
variable {P : Program}
theorem OwnL.made (w : World) (e : TypeId) (cs : Array Value) (cap : Nat) (hs : cs.size = cap) (hm : cap ≤ maxLen) : OwnL (w.alloc (.cells cs e)) w.heap.size e (.slice (some ⟨w.heap.size, 0, none⟩) 0 cap) [] :=
  World.ownsRow_made w cs cap (Nat.le_refl _) hm (by omega)
theorem OwnL.more {w : World} {B B' : Nat} {e : TypeId} {v : Value} {vs : List Value} (h : OwnL w B e v vs) (hB : B' ≤ B) : OwnL w B' e v vs := by
  refine ⟨h.1, ?_⟩
  rcases h.2 with h2 | ⟨g, cap, cur, hv, hg, r⟩
  · exact .inl h2
  · exact .inr ⟨g, cap, cur, hv, by omega, r⟩

/-- append of one value, the frame by types; one value, which lies in a block of its own -/
theorem wpList_append_onet {w : World} {ops : Array Oper} {rest : List Oper} {o : Oper} {a : Act} {Q : Exit → Act → World → Prop} (hgd : o.guard = none) (s x : Operand) (t : TypeId)
    (ho : o.op = .call { callee := .builtin .append, args := #[s, x], argTypes := #[t, t] }) (B : Nat) (e : TypeId) (z : Value) (bytes : Nat) (ht : P.underlying t = some (.slice e))
    (hi : (P.info? e).map (fun i => (i.zero, i.size, i.bytes)) = some (some z, 1, bytes)) (hz : z.cells.size = 1) (hb16 : bytes ≤ 4096)
    (v : Value) (vs : List Value) (hs : a.eval s = v) (hown : OwnL w B e v vs) (ad : Addr) (c : Nat) (u : Value) (hx : a.eval x = .slice (some ad) 1 c) (hu : w.cell? ad = some u) (h1 : u.oneCell' = true)
    (hlen : vs.length ≤ 17179869184) (hbase : B ≤ w.heap.size)
    (h : ∀ v' w', OwnL w' B e v' (vs ++ [u]) → Keeps (fun i => B ≤ i ∧ ∃ cs, Blk w i e cs) w w' → wpList P ops Q rest (a.put o.dst v') w') : wpList P ops Q (o :: rest) a w := by
  refine wpList_plain hgd fun K hK => ?_
  obtain ⟨i, hi0, hzi, hsi, hbi⟩ := info_parts hi
  obtain ⟨v', w', hrun, h2, h3, -⟩ := run_append_own (P := P) w B t o.type e i z 1 bytes ht hi0 hzi hsi hbi hz (by omega) v vs.length vs hown ad 1 c [u] rfl (by
    intro j y hj
    match j, hj with
    | 0, hj => simp at hj; subst hj; simpa [Addr.add] using hu
    | j + 1, hj => simp at hj) (by intro y hy; simp at hy; subst hy; exact h1) (by unfold maxLen; omega) (by
      have := Nat.mul_le_mul (show vs.length + 1 ≤ 17179869185 by omega) hb16
      omega) hbase
  unfold Oper.wp
  simp only [execOp, ho, resolve, invoke, builtin, Sem.run_bind, Sem.run_pure, Result.andThen_ok, List.map_toArray, List.map_cons, List.map_nil, hs, hx, hrun]
  refine hK _ _ (h v' w' (by unfold OwnL; simpa using h2) ((Keeps.refl _ _).grown h3 (fun k hk _ => ?_)))
  exact ⟨(hown.lt k hk).1, hown.ownBlk k hk⟩

/-- append of one value, which lies in a block of its own -/
theorem wpList_append_one {w : World} {ops : Array Oper} {rest : List Oper} {o : Oper} {a : Act} {Q : Exit → Act → World → Prop} (hgd : o.guard = none) (s x : Operand) (t : TypeId)
    (ho : o.op = .call { callee := .builtin .append, args := #[s, x], argTypes := #[t, t] }) (B : Nat) (e : TypeId) (z : Value) (bytes : Nat) (ht : P.underlying t = some (.slice e))
    (hi : (P.info? e).map (fun i => (i.zero, i.size, i.bytes)) = some (some z, 1, bytes)) (hz : z.cells.size = 1) (hb16 : bytes ≤ 4096)
    (v : Value) (vs : List Value) (hs : a.eval s = v) (hown : OwnL w B e v vs) (ad : Addr) (c : Nat) (u : Value) (hx : a.eval x = .slice (some ad) 1 c) (hu : w.cell? ad = some u) (h1 : u.oneCell' = true)
    (hlen : vs.length ≤ 17179869184) (hbase : B ≤ w.heap.size)
    (h : ∀ v' w', OwnL w' B e v' (vs ++ [u]) → Keeps (fun i => B ≤ i) w w' → wpList P ops Q rest (a.put o.dst v') w') : wpList P ops Q (o :: rest) a w :=
  wpList_append_onet hgd s x t ho B e z bytes ht hi hz hb16 v vs hs hown ad c u hx hu h1 hlen hbase fun v' w' ho k => h v' w' ho (k.mono fun _ _ h => h.1)

/-- make of an empty slice with room for c elements -/
theorem wpList_make_empty {w : World} {ops : Array Oper} {rest : List Oper} {o : Oper} {a : Act} {Q : Exit → Act → World → Prop}
    (hg : o.guard = none) (l c : Operand) (t : TypeId) (hop : o.op = Op.makeSlice t l c) (e : TypeId) (z : Value) (bytes : Nat)
    (h1 : P.underlying t = some (.slice e)) (h2 : (P.info? e).map (fun i => (i.zero, i.size, i.bytes)) = some (some z, 1, bytes)) (hb : bytes ≤ 4096)
    (C : Int) (kl : IntKind) (hl : a.eval l = .int kl 0) (hc : a.eval c = .int .i64 C) (h0 : 0 ≤ C) (b2 : C ≤ 17179869184)
    (hK : ∀ w', OwnL w' w.heap.size e (.slice (some ⟨w.heap.size, 0, none⟩) 0 C.toNat) [] → Keeps (fun _ => False) w w' → w'.heap.size = w.heap.size + 1 → wpList P ops Q rest (a.put o.dst (.slice (some ⟨w.heap.size, 0, none⟩) 0 C.toNat)) w') :
    wpList P ops Q (o :: rest) a w := by
  refine wpList_plain hg fun K hK' => ?_
  obtain ⟨i, hi, hzz, hs, hbb⟩ := info_parts h2
  have hmul : (i.bytes : Int) * C ≤ 281474976710656 := by
    rw [hbb]
    have h3 : (bytes : Int) * C ≤ (4096 : Int) * C := Int.mul_le_mul_of_nonneg_right (by omega) h0
    omega
  have hrun := run_make (P := P) w t e i z h1 hi hzz kl .i64 0 C (by omega) (by omega) hmul (by omega)
  rw [hs] at hrun
  unfold Oper.wp
  simp only [execOp, hop, hl, hc, hrun, Sem.run_bind, Sem.run_pure, Result.andThen_ok]
  refine hK' _ _ (hK _ (OwnL.made w e _ _ (by simp [madeCells]) (by unfold maxLen; omega)) ((Keeps.refl _ _).alloc _) (by simp))

/-- a string out of bytes that the call itself gathered -/
theorem wpList_string_own {w : World} {ops : Array Oper} {rest : List Oper} {o : Oper} {a : Act} {Q : Exit → Act → World → Prop}
    (hg : o.guard = none) (x : Operand) (src dst : TypeId) (hop : o.op = Op.convert src dst x) (e : TypeId) (hs : P.underlying src = some (.slice e)) (he : P.underlying e = some (.int .u8)) (hd : P.underlying dst = some .string)
    (B : Nat) (v : Value) (cs : List UInt8) (hx : a.eval x = v) (hown : OwnL w B e v (cs.map fun c => Value.int .u8 c.toNat))
    (hK : wpList P ops Q rest (a.put o.dst (.string (str cs))) w) :
    wpList P ops Q (o :: rest) a w := by
  refine wpList_plain hg fun K hK' => ?_
  obtain ⟨ad, cap, hv, h1, h2, h3, h4⟩ := hown.shape
  have hrun : (convert src dst v).run P w = .ok (.string (str cs)) w := by
    rw [hv]
    rcases Nat.eq_zero_or_pos cs.length with h0 | h0
    · obtain rfl : cs = [] := List.eq_nil_of_length_eq_zero h0
      rw [run_convert_bytes_string w src dst e _ _ cap hs he hd]
      cases ad with
      | none => rfl
      | some q => rfl
    · obtain ⟨g, rfl, hB, hlt⟩ := h3 (by simpa using h0)
      refine run_string_bytes w src dst e ⟨g, 0, none⟩ _ cap cs hs he hd (by simp) (fun j c hj => ?_)
      have := (h4 g rfl j (.int .u8 c.toNat) (by simp [hj])).1
      by_cases hz : j = 0
      · subst hz; simpa [Addr.add] using this
      · simpa [Addr.add, hz] using this
  unfold Oper.wp
  simp only [execOp, hop, hx, hrun, Sem.run_bind, Sem.run_pure, Result.andThen_ok]
  exact hK' _ _ hK
end
end Go.Proofs.Ytfbdpmeelejdhaa

/-
  A slice that the call itself makes and appends to, whose elements have several cells each. No program in sight.
-/
namespace Go.Proofs.Ytfbdpmeelejdhaa
open Go.RowKit

/-- the slice value v, of element type e (size cells each), owns the elements xs, in blocks from B on -/
def OwnS {α : Type} (R : α → List Value) (size : Nat) (w : World) (B : Nat) (e : TypeId) (v : Value) (xs : List α) : Prop := w.ownsRow B e size v xs.length (xs.map R).flatten

section
variable {α : Type} {R : α → List Value} {size : Nat} {w w' : World} {B : Nat} {e : TypeId} {v : Value} {xs : List α}
theorem OwnS.none_ : OwnS R size w B e (.slice none 0 0) [] := World.ownsRow_nil w B e size

theorem OwnS.ownBlk (h : OwnS R size w B e v xs) : ∀ k, v.ownBlock = some k → ∃ cs, Blk w k e cs := by
  intro k hk
  rcases h.2 with ⟨rfl, h2⟩ | ⟨g, cap, cur, rfl, hg, hh, _⟩
  · simp [Value.ownBlock] at hk
  · simp [Value.ownBlock] at hk
    subst hk
    exact ⟨_, hh⟩

theorem OwnS.moreS {B' : Nat} (h : OwnS R size w B e v xs) (hB : B' ≤ B) : OwnS R size w B' e v xs := by
  refine ⟨h.1, ?_⟩
  rcases h.2 with h2 | ⟨g, cap, cur, hv, hg, r⟩
  · exact .inl h2
  · exact .inr ⟨g, cap, cur, hv, by omega, r⟩
theorem OwnS.keeps {S : Nat → Prop} (h : OwnS R size w B e v xs) (k : Keeps S w w') (hS : ∀ i, B ≤ i → i < w.heap.size → (∃ cs, Blk w i e cs) → ¬ S i) : OwnS R size w' B e v xs := by
  refine ⟨h.1, ?_⟩
  rcases h.2 with h2 | ⟨g, cap, cur, hv, hg, hh, r⟩
  · exact .inl h2
  · have hlt : g < w.heap.size := by
      rcases Nat.lt_or_ge g w.heap.size with hlt | hge
      · exact hlt
      · rw [Array.getElem?_eq_none hge] at hh; cases hh
    exact .inr ⟨g, cap, cur, hv, hg, (k.block g hlt (hS g hg hlt ⟨_, hh⟩)).trans hh, r⟩

theorem flat_get (hR : ∀ x, (R x).length = size) (xs : List α) : ∀ (i : Nat) (x : α) (j : Nat) (u : Value), xs[i]? = some x → (R x)[j]? = some u → (xs.map R).flatten[i * size + j]? = some u := by
  induction xs with
  | nil => intro i x j u h; simp at h
  | cons y ys ih =>
    intro i x j u hx hu
    rw [List.map_cons, List.flatten_cons]
    cases i with
    | zero =>
      simp at hx; subst hx
      rw [Nat.zero_mul, Nat.zero_add, List.getElem?_append_left (List.getElem?_eq_some_iff.1 hu).1]; exact hu
    | succ i =>
      simp at hx
      have hj : j < size := by rw [← hR x]; exact (List.getElem?_eq_some_iff.1 hu).1
      rw [List.getElem?_append_right (by rw [hR, Nat.succ_mul]; omega), hR, show (i + 1) * size + j - size = i * size + j by rw [Nat.succ_mul]; omega]
      exact ih i x j u hx hu
theorem flat_len (hR : ∀ x, (R x).length = size) (xs : List α) : (xs.map R).flatten.length = xs.length * size := by
  induction xs with
  | nil => simp
  | cons y ys ih => rw [List.map_cons, List.flatten_cons, List.length_append, ih, hR, List.length_cons, Nat.succ_mul]; omega

/-- its shape, and its cells -/
theorem OwnS.shape (h : OwnS R size w B e v xs) (hR : ∀ x, (R x).length = size) :
    ∃ a cap, v = .slice a xs.length cap ∧ xs.length ≤ cap ∧ cap ≤ maxLen ∧ (0 < xs.length → ∃ g, a = some ⟨g, 0, none⟩ ∧ B ≤ g ∧ g < w.heap.size ∧ ∃ cs, Blk w g e cs) ∧
      ∀ g, a = some ⟨g, 0, none⟩ → ∀ (i : Nat) (x : α) (j : Nat) (u : Value), xs[i]? = some x → (R x)[j]? = some u → w.cell? ⟨g, i * size + j, none⟩ = some u ∧ w.frozen? ⟨g, i * size + j, none⟩ = false := by
  rcases h.2 with ⟨rfl, h2⟩ | ⟨g, cap, cur, rfl, hg, hh, h1, h2, h3, h4⟩
  · refine ⟨none, 0, by rw [h2], by omega, by unfold maxLen; omega, fun h => by omega, fun g hg => by cases hg⟩
  · have hlt : g < w.heap.size := by
      rcases Nat.lt_or_ge g w.heap.size with hlt | hge
      · exact hlt
      · rw [Array.getElem?_eq_none hge] at hh; cases hh
    refine ⟨some ⟨g, 0, none⟩, cap, rfl, h1, h2, fun _ => ⟨g, rfl, hg, hlt, _, hh⟩, fun g' hg' i x j u hx hu => ?_⟩
    injection hg' with hg'
    injection hg' with hg'
    subst hg'
    refine ⟨?_, frozen_of_row w g _ cur e hh⟩
    have hf := flat_get hR xs i x j u hx hu
    have hl : i * size + j < xs.length * size := by rw [← flat_len hR xs]; exact (List.getElem?_eq_some_iff.1 hf).1
    rw [cell_of_row w g _ cur e (0, 0) hh, ← hf, ← h4, List.getElem?_take, if_pos hl]
    simp
theorem OwnS.sl (h : OwnS R size w B e v xs) : ∃ a cap, v = .slice a xs.length cap := by
  rcases h.2 with ⟨rfl, h2⟩ | ⟨g, cap, cur, rfl, _⟩
  · exact ⟨none, 0, by rw [h2]⟩
  · exact ⟨_, _, rfl⟩
end

section
variable {P : Program} {α : Type}
/-- append of one element, which lies in a block of its own; the frame by types -/
theorem wpList_append_st (R : α → List Value) (size : Nat) (hR : ∀ x, (R x).length = size) (hsz : 0 < size) {w : World} {ops : Array Oper} {rest : List Oper} {o : Oper} {a : Act} {Q : Exit → Act → World → Prop} (hgd : o.guard = none) (s x : Operand) (t : TypeId)
    (ho : o.op = .call { callee := .builtin .append, args := #[s, x], argTypes := #[t, t] }) (B : Nat) (e : TypeId) (z : Value) (bytes : Nat) (ht : P.underlying t = some (.slice e))
    (hi : (P.info? e).map (fun i => (i.zero, i.size, i.bytes)) = some (some z, size, bytes)) (hz : z.cells.size = size) (hb16 : bytes ≤ 4096)
    (v : Value) (xs : List α) (hs : a.eval s = v) (hown : OwnS R size w B e v xs) (g c : Nat) (y : α) (hx : a.eval x = .slice (some ⟨g, 0, none⟩) 1 c) (hu : Blk w g e (R y).toArray) (h1 : ∀ u ∈ R y, u.oneCell' = true)
    (hlen : xs.length ≤ 17179869184) (hbase : B ≤ w.heap.size)
    (h : ∀ v' w', OwnS R size w' B e v' (xs ++ [y]) → Keeps (fun i => B ≤ i ∧ ∃ cs, Blk w i e cs) w w' → wpList P ops Q rest (a.put o.dst v') w') : wpList P ops Q (o :: rest) a w := by
  refine wpList_plain hgd fun K hK => ?_
  obtain ⟨i, hi0, hzi, hsi, hbi⟩ := info_parts hi
  obtain ⟨v', w', hrun, h2, h3, -⟩ := run_append_own (P := P) w B t o.type e i z size bytes ht hi0 hzi hsi hbi hz hsz v xs.length _ hown ⟨g, 0, none⟩ 1 c (R y) (by rw [hR]; simp) (by
    intro j u hj
    have := hu.cell j
    rw [List.getElem?_toArray, hj] at this
    by_cases h0 : j = 0
    · subst h0; simpa [Addr.add] using this
    · simpa [Addr.add, h0] using this) h1 (by unfold maxLen; omega) (by
      have := Nat.mul_le_mul (show xs.length + 1 ≤ 17179869185 by omega) hb16
      omega) hbase
  unfold Oper.wp
  simp only [execOp, ho, resolve, invoke, builtin, Sem.run_bind, Sem.run_pure, Result.andThen_ok, List.map_toArray, List.map_cons, List.map_nil, hs, hx, hrun]
  refine hK _ _ (h v' w' (by unfold OwnS; simpa using h2) ((Keeps.refl _ _).grown h3 (fun k hk _ => ⟨(hown.lt k hk).1, hown.ownBlk k hk⟩)))
end

section
variable {P : Program} {α : Type}
/-- append of one element, at the operation: the new value written out -/
theorem wp_append_st (R : α → List Value) (size : Nat) (hR : ∀ x, (R x).length = size) (hsz : 0 < size) {w : World} {o : Oper} {a : Act} {K : Act → World → Prop} {Q : Exit → Act → World → Prop} (s x : Operand) (t : TypeId)
    (ho : o.op = .call { callee := .builtin .append, args := #[s, x], argTypes := #[t, t] }) (B : Nat) (e : TypeId) (z : Value) (bytes : Nat) (ht : P.underlying t = some (.slice e))
    (hi : (P.info? e).map (fun i => (i.zero, i.size, i.bytes)) = some (some z, size, bytes)) (hz : z.cells.size = size) (hb16 : bytes ≤ 4096)
    (v : Value) (xs : List α) (hs : a.eval s = v) (hown : OwnS R size w B e v xs) (g c : Nat) (y : α) (hx : a.eval x = .slice (some ⟨g, 0, none⟩) 1 c) (hu : Blk w g e (R y).toArray) (h1 : ∀ u ∈ R y, u.oneCell' = true)
    (hlen : xs.length ≤ 17179869184) (hbase : B ≤ w.heap.size)
    (h : ∀ g' cap' w', OwnS R size w' B e (.slice (some ⟨g', 0, none⟩) (xs.length + 1) cap') (xs ++ [y]) → Keeps (fun i => v.ownBlock = some i) w w' → (v.ownBlock = some g' ∨ g' = w.heap.size) → K (a.put o.dst (.slice (some ⟨g', 0, none⟩) (xs.length + 1) cap')) w') : o.wp P a w K Q := by
  obtain ⟨i, hi0, hzi, hsi, hbi⟩ := info_parts hi
  refine wp_append_lies (P := P) w s x t ho B e i z size bytes ht hi0 hzi hsi hbi hz hsz v xs.length _ hs hown ⟨g, 0, none⟩ 1 c (R y) hx (by rw [hR]; simp) (by
    intro j u hj
    have := hu.cell j
    rw [List.getElem?_toArray, hj] at this
    by_cases h0 : j = 0
    · subst h0; simpa [Addr.add] using this
    · simpa [Addr.add, h0] using this) h1 (by omega) (by unfold maxLen; omega) (by
      have := Nat.mul_le_mul (show xs.length + 1 ≤ 17179869185 by omega) hb16
      omega) hbase _ rfl ?_
  intro g' cap' w' h2 h3 h4 _
  exact h g' cap' w' (by unfold OwnS; simpa using h2) ((Keeps.refl _ _).grown h3 (fun k hk _ => hk)) h4

/-- .. at a step of a region that draws its order -/
theorem step_append_st (R : α → List Value) (size : Nat) (hR : ∀ x, (R x).length = size) (hsz : 0 < size) {w : World} {ops : Array Oper} {o : Oper} {a : Act} {K : Act → World → Prop} {Q : Exit → Act → World → Prop} {E : Prop} (hgd : o.guard = none) (s x : Operand) (t : TypeId)
    (ho : o.op = .call { callee := .builtin .append, args := #[s, x], argTypes := #[t, t] }) (B : Nat) (e : TypeId) (z : Value) (bytes : Nat) (ht : P.underlying t = some (.slice e))
    (hi : (P.info? e).map (fun i => (i.zero, i.size, i.bytes)) = some (some z, size, bytes)) (hz : z.cells.size = size) (hb16 : bytes ≤ 4096)
    (v : Value) (xs : List α) (hs : a.eval s = v) (hown : OwnS R size w B e v xs) (g c : Nat) (y : α) (hx : a.eval x = .slice (some ⟨g, 0, none⟩) 1 c) (hu : Blk w g e (R y).toArray) (h1 : ∀ u ∈ R y, u.oneCell' = true)
    (hlen : xs.length ≤ 17179869184) (hbase : B ≤ w.heap.size)
    (h : ∀ g' cap' w', OwnS R size w' B e (.slice (some ⟨g', 0, none⟩) (xs.length + 1) cap') (xs ++ [y]) → Keeps (fun i => v.ownBlock = some i) w w' → (v.ownBlock = some g' ∨ g' = w.heap.size) → K (a.put o.dst (.slice (some ⟨g', 0, none⟩) (xs.length + 1) cap')) w') :
    if Region.wanted o (yielded ops a.tmps) = true then Oper.wp P o a w K Q else E := by
  have hw : Region.wanted o (yielded ops a.tmps) = true := by simp [Region.wanted, hgd]
  rw [if_pos hw]
  exact wp_append_st R size hR hsz s x t ho B e z bytes ht hi hz hb16 v xs hs hown g c y hx hu h1 hlen hbase h
end
end Go.Proofs.Ytfbdpmeelejdhaa

/-
  A slice of one-cell elements that begins anywhere in its row: append of one value, and what lies in it. No program in sight.
-/
namespace Go.Proofs.Ytfbdpmeelejdhaa
open Go.RowKit

/-- the slice value v, of element type e, holds the values vs; behind them, up to its capacity, the row is its own -/
def OwnQ (w : World) (e : TypeId) (v : Value) (vs : List Value) : Prop :=
  (vs = [] ∧ ∃ a, v = .slice a 0 0) ∨ ∃ g off cap cur, v = .slice (some ⟨g, off, none⟩) vs.length cap ∧ Blk w g e cur ∧ vs.length ≤ cap ∧ off + cap ≤ cur.size ∧ cap ≤ maxLen ∧ ∀ j u, vs[j]? = some u → cur[off + j]? = some u

/-- the block into which an append may write -/
def rowB : Value → Option Nat
  | .slice (some a) _ c => if c = 0 then none else some a.block
  | _ => none
theorem rowB_some (g off n c : Nat) (h : 0 < c) : rowB (.slice (some ⟨g, off, none⟩) n c) = some g := by simp only [rowB]; rw [if_neg (by omega)]
theorem rowB_zero (a : Option Addr) (n : Nat) : rowB (.slice a n 0) = none := by cases a <;> rfl

section
variable {w w' : World} {e : TypeId} {v : Value} {vs : List Value}
theorem OwnQ.none_ : OwnQ w e (.slice none 0 0) [] := .inl ⟨rfl, none, rfl⟩
theorem OwnQ.keeps {S : Nat → Prop} (h : OwnQ w e v vs) (k : Keeps S w w') (hS : ∀ i, rowB v = some i → (∃ cs, Blk w i e cs) → ¬ S i) : OwnQ w' e v vs := by
  rcases h with h | ⟨g, off, cap, cur, rfl, hb, r⟩
  · exact .inl h
  · by_cases h0 : cap = 0
    · subst h0
      exact .inl ⟨List.eq_nil_of_length_eq_zero (by omega), _, by rw [show vs.length = 0 by omega]⟩
    · exact .inr ⟨g, off, cap, cur, rfl, hb.keeps k (hS g (rowB_some _ _ _ _ (by omega)) ⟨_, hb⟩), r⟩
theorem OwnQ.row (h : OwnQ w e v vs) : ∀ i, rowB v = some i → ∃ cs, Blk w i e cs := by
  intro i hi
  rcases h with ⟨rfl, a, rfl⟩ | ⟨g, off, cap, cur, rfl, hb, r⟩
  · rw [rowB_zero] at hi; cases hi
  · by_cases h0 : cap = 0
    · subst h0; rw [rowB_zero] at hi; cases hi
    · rw [rowB_some _ _ _ _ (by omega)] at hi; injection hi with hi; subst hi; exact ⟨_, hb⟩
theorem OwnQ.sl (h : OwnQ w e v vs) : ∃ a cap, v = .slice a vs.length cap := by
  rcases h with ⟨rfl, a, rfl⟩ | ⟨g, off, cap, cur, rfl, _⟩
  · exact ⟨a, 0, rfl⟩
  · exact ⟨_, _, rfl⟩
theorem OwnQ.sl3 (h : OwnQ w e v vs) : ∃ a n c, v = .slice a n c := by obtain ⟨a, c, hv⟩ := h.sl; exact ⟨a, _, c, hv⟩
theorem OwnQ.cell (h : OwnQ w e v vs) {j : Nat} {u : Value} (hu : vs[j]? = some u) : ∃ g off cap, v = .slice (some ⟨g, off, none⟩) vs.length cap ∧ w.cell? ⟨g, off + j, none⟩ = some u ∧ w.frozen? ⟨g, off + j, none⟩ = false ∧ g < w.heap.size ∧ ∃ cs, Blk w g e cs := by
  rcases h with ⟨rfl, _⟩ | ⟨g, off, cap, cur, rfl, hb, h1, h2, h3, h4⟩
  · simp at hu
  · exact ⟨g, off, cap, rfl, by rw [hb.cell]; exact h4 j u hu, hb.frozen _, hb.lt, _, hb⟩
/-- without its first element -/
theorem OwnQ.tail {u : Value} (h : OwnQ w e v (u :: vs)) {a : Option Addr} {n c : Nat} (hv : v = .slice a n c) : OwnQ w e (.slice (if c = 1 then a else a.map (·.add 1)) (n - 1) (c - 1)) vs := by
  rcases h with ⟨h, _⟩ | ⟨g, off, cap, cur, rfl, hb, h1, h2, h3, h4⟩
  · cases h
  · injection hv with ha hn hc
    subst ha; subst hn; subst hc
    rw [List.length_cons] at h1
    by_cases h0 : cap = 1
    · subst h0
      have : vs = [] := List.eq_nil_of_length_eq_zero (by omega)
      subst this
      exact .inl ⟨rfl, _, rfl⟩
    · rw [if_neg h0]
      refine .inr ⟨g, off + 1, cap - 1, cur, ?_, hb, by omega, by omega, by omega, fun j u' hj => ?_⟩
      · simp [Addr.add]
      · have := h4 (j + 1) u' (by simpa using hj)
        rw [← this]; congr 1; omega
end

section
variable {P : Program}
theorem run_append_q (w : World) (t ty e : TypeId) (z : Value) (bytes : Nat) (ht : P.underlying t = some (.slice e))
    (hi : (P.info? e).map (fun i => (i.zero, i.size, i.bytes)) = some (some z, 1, bytes)) (hb16 : bytes ≤ 4096) (hz : z.cells.size = 1)
    (v : Value) (vs : List Value) (hown : OwnQ w e v vs) (ad : Addr) (c : Nat) (u : Value) (hu : w.cell? ad = some u) (h1 : u.oneCell' = true) (hlen : vs.length ≤ 17179869184) :
    ∃ v' w', (Builtin.append_ #[t, t] ty #[v, .slice (some ad) 1 c]).run P w = .ok v' w' ∧ OwnQ w' e v' (vs ++ [u]) ∧ Keeps (fun i => rowB v = some i) w w' ∧ (rowB v' = rowB v ∨ rowB v' = some w.heap.size) := by
  obtain ⟨i, hi0, hzi, hsi, hbi⟩ := info_parts hi
  have hnews : ∀ j u', [u][j]? = some u' → w.cell? (ad.add j) = some u' := fun j u' hj => by
    match j, hj with
    | 0, hj => simp at hj; subst hj; simpa [Addr.add] using hu
  have hone : ∀ x ∈ [u], x.oneCell' = true := fun x hx => by simp at hx; subst hx; exact h1
  have hmul : (vs.length + 1) * i.bytes ≤ 140737488355328 := by
    have := Nat.mul_le_mul (show vs.length + 1 ≤ 17179869185 by omega) (show i.bytes ≤ 4096 by omega)
    omega
  have grown : ∀ (old : Nat), ∃ w', w' = w.drew.alloc (.cells (vs.toArray ++ [u].toArray ++ Builtin.zeroCells z.cells (grownCap w (vs.length + 1) old e - (vs.length + 1))) e) ∧
      OwnQ w' e (.slice (some ⟨w.heap.size, 0, none⟩) (vs.length + 1) (grownCap w (vs.length + 1) old e)) (vs ++ [u]) ∧ Keeps (fun i => rowB v = some i) w w' := fun old => by
    have hge := grownCap_ge w (vs.length + 1) old e
    have hcm : grownCap w (vs.length + 1) old e ≤ maxLen := grownCap_le_maxLen w (vs.length + 1) old e (by unfold maxLen; omega)
    refine ⟨_, rfl, .inr ⟨w.heap.size, 0, _, _, by simp, heap_alloc_new w.drew _, by simpa using hge, ?_, hcm, fun j u' hj => ?_⟩, (Keeps.refl _ w).drew.alloc _⟩
    · simp only [Array.size_append, List.size_toArray, size_zeroCells, hz, List.length_singleton]; omega
    · rw [Nat.zero_add, Array.getElem?_append_left (by
        have := (List.getElem?_eq_some_iff.1 hj).1
        simpa using this)]
      simpa using hj
  rcases hown with ⟨rfl, a, rfl⟩ | ⟨g, off, cap, cur, rfl, hb, hnc, hcs, hcm, hget⟩
  · obtain ⟨w', hw', hO, hK⟩ := grown 0
    refine ⟨_, w', ?_, hO, hK, .inr (rowB_some _ _ _ _ (by have := grownCap_ge w (0 + 1) 0 e; simp at this ⊢; omega))⟩
    rw [hw']
    cases a with
    | none =>
      have hr := run_append_nil (P := P) w t ty e i z ht hi0 hzi ad 1 c [u] (by rw [hsi]; rfl) hnews (by omega) (by omega) (by simp at hmul; omega)
      simpa using hr
    | some b =>
      have hr := run_append_grow (P := P) w t ty e i z ht hi0 hzi b 0 0 [] (by simp) (fun j u' hj => by simp at hj) ad 1 c [u] (by rw [hsi]; rfl) hnews (by omega) (by omega) (growslice_fits (by omega) hmul)
      simpa using hr
  · by_cases hroom : vs.length + 1 ≤ cap
    · have hf := run_firstCells_some (P := P) w i.size 1 ad 1 c [u] (by rw [hsi]; rfl) hnews
      rw [hsi] at hf
      have hst := run_storeCells_at P g (off + vs.length) e [u] 0 cur w hb (by simp; omega) (fun x hx => by simp at hx; subst hx; exact h1)
      simp only [Nat.add_zero] at hst
      refine ⟨.slice (some ⟨g, off, none⟩) (vs.length + 1) cap, w.setRow g (cur.toList.take (off + vs.length) ++ [u] ++ cur.toList.drop (off + vs.length + [u].length)).toArray, ?_, .inr ⟨g, off, cap, (cur.toList.take (off + vs.length) ++ [u] ++ cur.toList.drop (off + vs.length + [u].length)).toArray, by simp, setRow_heap w g cur _ e _ hb, by simpa using hroom, ?_, hcm, fun j u' hj => ?_⟩, (Keeps.refl _ w).setRow (fun _ => rowB_some _ _ _ _ (by omega)) _, .inl ((rowB_some _ _ _ _ (by omega)).trans (rowB_some _ _ _ _ (by omega)).symm)⟩
      rotate_left
      · simp only [List.size_toArray, List.length_append, List.length_take, List.length_drop, Array.length_toList, List.length_singleton]; omega
      · have hjl : j < vs.length + 1 := by simpa using (List.getElem?_eq_some_iff.1 hj).1
        have htl : (cur.toList.take (off + vs.length)).length = off + vs.length := by simp; omega
        rw [List.getElem?_toArray, List.append_assoc]
        by_cases hjn : j < vs.length
        · rw [List.getElem?_append_left (by rw [htl]; omega), List.getElem?_take, if_pos (by omega)]
          rw [List.getElem?_append_left hjn] at hj
          simpa using hget j u' hj
        · obtain rfl : j = vs.length := by omega
          rw [List.getElem?_append_right (by rw [htl]; omega), htl]
          simpa using hj
      · simp [Builtin.append_, run_underlying ht, sizeOf, typeInfo, hi0, Builtin.lenOf, hroom, hf, Addr.add_lit, hst, hsi]
    · obtain ⟨w', hw', hO, hK⟩ := grown cap
      refine ⟨_, w', ?_, hO, hK, .inr (rowB_some _ _ _ _ (by have := grownCap_ge w (vs.length + 1) cap e; omega))⟩
      rw [hw']
      exact run_append_grow (P := P) w t ty e i z ht hi0 hzi ⟨g, off, none⟩ vs.length cap vs (by rw [hsi]; omega) (fun j u' hj => by
        rw [Addr.add_lit, hb.cell]; exact hget j u' hj) ad 1 c [u] (by rw [hsi]; rfl) hnews (by omega) (by omega) (growslice_fits (by omega) hmul)

/-- append of one value at an operation, and at a step of a region that draws its order -/
theorem wp_append_q {w : World} {o : Oper} {a : Act} {K : Act → World → Prop} {Q : Exit → Act → World → Prop} (s x : Operand) (t : TypeId)
    (ho : o.op = .call { callee := .builtin .append, args := #[s, x], argTypes := #[t, t] }) (e : TypeId) (z : Value) (bytes : Nat) (ht : P.underlying t = some (.slice e))
    (hi : (P.info? e).map (fun i => (i.zero, i.size, i.bytes)) = some (some z, 1, bytes)) (hz : z.cells.size = 1) (hb16 : bytes ≤ 4096)
    (v : Value) (vs : List Value) (hs : a.eval s = v) (hown : OwnQ w e v vs) (ad : Addr) (c : Nat) (u : Value) (hx : a.eval x = .slice (some ad) 1 c) (hu : w.cell? ad = some u) (h1 : u.oneCell' = true)
    (hlen : vs.length ≤ 17179869184)
    (h : ∀ v' w', OwnQ w' e v' (vs ++ [u]) → Keeps (fun i => rowB v = some i) w w' → (rowB v' = rowB v ∨ rowB v' = some w.heap.size) → K (a.put o.dst v') w') : o.wp P a w K Q := by
  obtain ⟨v', w', hr, h2, h3, h4⟩ := run_append_q (P := P) w t o.type e z bytes ht hi hb16 hz v vs hown ad c u hu h1 hlen
  unfold Oper.wp execOp
  simp only [ho, resolve, invoke, builtin, Sem.run_bind, Sem.run_pure, Result.andThen_ok, List.map_toArray, List.map_cons, List.map_nil, hs, hx, hr]
  exact h v' w' h2 h3 h4
theorem wpList_append_q {w : World} {ops : Array Oper} {rest : List Oper} {o : Oper} {a : Act} {Q : Exit → Act → World → Prop} (hgd : o.guard = none) (s x : Operand) (t : TypeId)
    (ho : o.op = .call { callee := .builtin .append, args := #[s, x], argTypes := #[t, t] }) (e : TypeId) (z : Value) (bytes : Nat) (ht : P.underlying t = some (.slice e))
    (hi : (P.info? e).map (fun i => (i.zero, i.size, i.bytes)) = some (some z, 1, bytes)) (hz : z.cells.size = 1) (hb16 : bytes ≤ 4096)
    (v : Value) (vs : List Value) (hs : a.eval s = v) (hown : OwnQ w e v vs) (ad : Addr) (c : Nat) (u : Value) (hx : a.eval x = .slice (some ad) 1 c) (hu : w.cell? ad = some u) (h1 : u.oneCell' = true)
    (hlen : vs.length ≤ 17179869184)
    (h : ∀ v' w', OwnQ w' e v' (vs ++ [u]) → Keeps (fun i => rowB v = some i) w w' → (rowB v' = rowB v ∨ rowB v' = some w.heap.size) → wpList P ops Q rest (a.put o.dst v') w') : wpList P ops Q (o :: rest) a w :=
  wpList_plain hgd fun _ hK => wp_append_q s x t ho e z bytes ht hi hz hb16 v vs hs hown ad c u hx hu h1 hlen fun v' w' h2 h3 h4 => hK _ _ (h v' w' h2 h3 h4)
theorem step_append_q {w : World} {ops : Array Oper} {o : Oper} {a : Act} {K : Act → World → Prop} {Q : Exit → Act → World → Prop} {E : Prop} (hgd : o.guard = none) (s x : Operand) (t : TypeId)
    (ho : o.op = .call { callee := .builtin .append, args := #[s, x], argTypes := #[t, t] }) (e : TypeId) (z : Value) (bytes : Nat) (ht : P.underlying t = some (.slice e))
    (hi : (P.info? e).map (fun i => (i.zero, i.size, i.bytes)) = some (some z, 1, bytes)) (hz : z.cells.size = 1) (hb16 : bytes ≤ 4096)
    (v : Value) (vs : List Value) (hs : a.eval s = v) (hown : OwnQ w e v vs) (ad : Addr) (c : Nat) (u : Value) (hx : a.eval x = .slice (some ad) 1 c) (hu : w.cell? ad = some u) (h1 : u.oneCell' = true)
    (hlen : vs.length ≤ 17179869184)
    (h : ∀ v' w', OwnQ w' e v' (vs ++ [u]) → Keeps (fun i => rowB v = some i) w w' → (rowB v' = rowB v ∨ rowB v' = some w.heap.size) → K (a.put o.dst v') w') :
    if Region.wanted o (yielded ops a.tmps) = true then Oper.wp P o a w K Q else E := by
  have hw : Region.wanted o (yielded ops a.tmps) = true := by simp [Region.wanted, hgd]
  rw [if_pos hw]
  exact wp_append_q s x t ho e z bytes ht hi hz hb16 v vs hs hown ad c u hx hu h1 hlen h
end
end Go.Proofs.Ytfbdpmeelejdhaa

/-
  Own slices, the frame by types: bytes as values, an iterator's block, growth seen through a new block.
-/
namespace Go.Proofs.Ytfbdpmeelejdhaa
open Go.RowKit

/-- bytes as values -/
def u8Vs (l : List UInt8) : List Value := l.map fun c => Value.int .u8 c.toNat
theorem u8Vs_len (l : List UInt8) : (u8Vs l).length = l.length := by simp [u8Vs]
theorem OwnL.of1 (w : World) (e : TypeId) (u : Value) : OwnL (w.alloc (.cells #[u] e)) w.heap.size e (.slice (some ⟨w.heap.size, 0, none⟩) 1 1) [u] :=
  ⟨rfl, .inr ⟨w.heap.size, 1, #[u], rfl, Nat.le_refl _, heap_alloc_new w _, Nat.le_refl _, by decide, rfl, rfl⟩⟩
theorem OwnL.keepsT {w w' : World} {B : Nat} {e : TypeId} {v : Value} {vs : List Value} {S : Nat → Prop} (h : OwnL w B e v vs) (k : Keeps S w w') (hS : ∀ i, B ≤ i → (∃ cs, Blk w i e cs) → ¬ S i) : OwnL w' B e v vs := by
  refine ⟨h.1, ?_⟩
  rcases h.2 with h2 | ⟨g, cap, cur, hv, hg, hh, r⟩
  · exact .inl h2
  · have hlt : g < w.heap.size := by
      rcases Nat.lt_or_ge g w.heap.size with hlt | hge
      · exact hlt
      · rw [Array.getElem?_eq_none hge] at hh; cases hh
    exact .inr ⟨g, cap, cur, hv, hg, (k.block g hlt (hS g hg ⟨_, hh⟩)).trans hh, r⟩
theorem iter_noBlk {w : World} {k : Nat} {s : ByteArray} {p : Nat} (h : w.heap[k]? = some (.stringIter s p)) {e : TypeId} : ¬ ∃ cs, Blk w k e cs := by
  rintro ⟨cs, hb⟩; unfold Blk at hb; rw [h] at hb; cases hb
theorem iterPos_of {w : World} {k : Nat} {s : ByteArray} {p : Nat} (h : w.heap[k]? = some (.stringIter s p)) : w.iterPos k = p := by simp [World.iterPos, h]
/-- moving an iterator on changes its block alone -/
theorem Keeps.iterAt {w : World} (k : Nat) (s : ByteArray) (p : Nat) : Keeps (fun i => i = k) w (w.iterAt k s p) :=
  ⟨rfl, rfl, rfl, by rw [Lib.iterAt_size]; exact Nat.le_refl _, fun i _ hn => Lib.iterAt_other w k i s p hn⟩

/-- a new block, and then a change of rows of a type that lie above B: seen from ahead of the block -/
theorem grow_alloc {B : Nat} {e : TypeId} {w w' : World} (o : Obj) (k : Keeps (fun i => B ≤ i ∧ ∃ cs, Blk (w.alloc o) i e cs) (w.alloc o) w') : Keeps (fun i => B ≤ i ∧ ∃ cs, Blk w i e cs) w w' :=
  Keeps.and_ ((Keeps.refl _ w).alloc o) k fun i hi ⟨h1, cs, h2⟩ => ⟨h1, cs, (Below.heap_alloc w o i hi).symm.trans h2⟩
theorem grow_trans {B : Nat} {e : TypeId} {a b c : World} (h : Keeps (fun i => B ≤ i ∧ ∃ cs, Blk a i e cs) a b) (k : Keeps (fun i => B ≤ i ∧ ∃ cs, Blk b i e cs) b c) : Keeps (fun i => B ≤ i ∧ ∃ cs, Blk a i e cs) a c :=
  ⟨k.os.trans h.os, k.tape.trans h.tape, k.output.trans h.output, Nat.le_trans h.size k.size, fun i hi hn => by
    have hb := h.block i hi hn
    exact (k.block i (Nat.lt_of_lt_of_le hi h.size) (fun ⟨h1, cs, h2⟩ => hn ⟨h1, cs, hb.symm.trans h2⟩)).trans hb⟩
theorem OwnL.sl' {w : World} {B : Nat} {e : TypeId} {v : Value} {vs : List Value} (h : OwnL w B e v vs) : ∃ a cap, v = .slice a vs.length cap := by
  obtain ⟨a, cap, hv, -⟩ := h.shape; exact ⟨a, cap, hv⟩
end Go.Proofs.Ytfbdpmeelejdhaa

/-
  Files by name, plainly: lists that rise by name, what is put there, what goes; and how they read in a map. No program in sight.
-/
namespace Go.Proofs.Ytfbdpmeelejdhaa
open Go.RowKit Go.Maps

def nmLt (a b : ByteArray) : Bool := bytesBefore a.data.toList b.data.toList
theorem before_less : ∀ a b : List UInt8, bytesBefore a b = Op.bytesLess a b
  | [], [] => rfl
  | [], _ :: _ => rfl
  | _ :: _, [] => rfl
  | a :: r, b :: s => by
    show (a < b || (a == b && bytesBefore r s)) = (a < b || (a == b && Op.bytesLess r s))
    rw [before_less r s]
theorem nmLt_less (a b : ByteArray) : Op.bytesLess a.toList b.toList = nmLt a b := by rw [ByteArray.toList_eq, ByteArray.toList_eq]; exact (before_less _ _).symm
theorem nmLt_irrefl (a : ByteArray) : nmLt a a = false := WideAt.bytes_irrefl _
theorem nmLt_trans {a b c : ByteArray} (h : nmLt a b = true) (k : nmLt b c = true) : nmLt a c = true := WideShapes.bytes_trans _ _ _ h k
theorem nmLt_ne {a b : ByteArray} (h : nmLt a b = true) : a ≠ b := by rintro rfl; rw [nmLt_irrefl] at h; cases h
theorem nmLt_asymm {a b : ByteArray} (h : nmLt a b = true) : nmLt b a = false := by
  cases hb : nmLt b a with
  | false => rfl
  | true => have := nmLt_trans h hb; rw [nmLt_irrefl] at this; cases this
theorem nmLt_total {a b : ByteArray} (h : a ≠ b) : nmLt a b = true ∨ nmLt b a = true := WideAt.bytes_total _ _ (fun e => h (ba_ext e))
theorem nmLt_le {a b : ByteArray} (h : nmLt a b = true) : leB a.data.toList b.data.toList = true := by
  unfold nmLt at h
  rw [before_less, bytesLess_eq] at h
  simp only [decide_eq_true_eq] at h ⊢
  exact List.le_of_lt h

/-! lists by name -/
section
variable {α : Type} (nm : α → ByteArray)
def insG (x : α) : List α → List α
  | [] => [x]
  | y :: r => if nmLt (nm x) (nm y) then x :: y :: r else y :: insG x r
def delG (n : ByteArray) (l : List α) : List α := l.filter fun y => decide (nm y ≠ n)
def getG (n : ByteArray) (l : List α) : Option α := l.find? fun y => decide (nm y = n)
def putG (x : α) (l : List α) : List α := insG nm x (delG nm (nm x) l)
def Rise (l : List α) : Prop := l.Pairwise fun a b => nmLt (nm a) (nm b) = true
variable {nm}
theorem insG_perm (x : α) : ∀ l, (insG nm x l).Perm (x :: l)
  | [] => List.Perm.refl _
  | y :: r => by
    unfold insG
    split
    · exact List.Perm.refl _
    · exact ((insG_perm x r).cons y).trans (List.Perm.swap _ _ _)
theorem insG_mem {x z : α} {l : List α} : z ∈ insG nm x l ↔ z = x ∨ z ∈ l := by rw [(insG_perm x l).mem_iff, List.mem_cons]
theorem insG_len (x : α) (l : List α) : (insG nm x l).length = l.length + 1 := by rw [(insG_perm x l).length_eq]; rfl
theorem insG_rise {x : α} : ∀ {l : List α}, Rise nm l → (∀ y ∈ l, nm y ≠ nm x) → Rise nm (insG nm x l)
  | [], _, _ => by simp [insG, Rise]
  | y :: r, h, hn => by
    obtain ⟨h1, h2⟩ := List.pairwise_cons.1 h
    unfold insG
    split
    · rename_i hlt
      refine List.pairwise_cons.2 ⟨fun z hz => ?_, h⟩
      rcases List.mem_cons.1 hz with rfl | hz
      · exact hlt
      · exact nmLt_trans hlt (h1 z hz)
    · rename_i hlt
      refine List.pairwise_cons.2 ⟨fun z hz => ?_, insG_rise h2 (fun z hz => hn z (by simp [hz]))⟩
      rcases insG_mem.1 hz with rfl | hz
      · rcases nmLt_total (hn y (by simp)) with h3 | h3
        · exact h3
        · exact absurd h3 hlt
      · exact h1 z hz
theorem delG_rise {l : List α} (h : Rise nm l) (n : ByteArray) : Rise nm (delG nm n l) := List.Pairwise.filter _ h
theorem delG_ne {n : ByteArray} {l : List α} : ∀ y ∈ delG nm n l, nm y ≠ n := fun y hy => by simpa using (List.mem_filter.1 hy).2
theorem delG_mem {n : ByteArray} {l : List α} {y : α} : y ∈ delG nm n l ↔ y ∈ l ∧ nm y ≠ n := by unfold delG; rw [List.mem_filter]; simp
theorem putG_rise {l : List α} (h : Rise nm l) (x : α) : Rise nm (putG nm x l) := insG_rise (delG_rise h _) delG_ne
theorem delG_none {n : ByteArray} {l : List α} (h : getG nm n l = none) : delG nm n l = l := by
  refine List.filter_eq_self.2 fun y hy => ?_
  have := List.find?_eq_none.1 h y hy
  simpa using this
theorem getG_some {n : ByteArray} {l : List α} {x : α} (h : getG nm n l = some x) : x ∈ l ∧ nm x = n := ⟨List.mem_of_find?_eq_some h, by simpa using List.find?_some h⟩
theorem getG_ne {n : ByteArray} {l : List α} (h : getG nm n l = none) : ∀ y ∈ l, nm y ≠ n := fun y hy => by simpa using List.find?_eq_none.1 h y hy
theorem rise_inj {l : List α} (h : Rise nm l) {x y : α} (hx : x ∈ l) (hy : y ∈ l) (e : nm x = nm y) : x = y := by
  induction l with
  | nil => cases hx
  | cons z l ih =>
    obtain ⟨h1, h2⟩ := List.pairwise_cons.1 h
    rcases List.mem_cons.1 hx with rfl | hx'
    · rcases List.mem_cons.1 hy with rfl | hy'
      · rfl
      · exact absurd e (nmLt_ne (h1 y hy'))
    · rcases List.mem_cons.1 hy with rfl | hy'
      · exact absurd e.symm (nmLt_ne (h1 x hx'))
      · exact ih h2 hx' hy'
theorem getG_of_mem {l : List α} (h : Rise nm l) {x : α} (hx : x ∈ l) : getG nm (nm x) l = some x := by
  cases hg : getG nm (nm x) l with
  | none => exact absurd rfl (getG_ne hg x hx)
  | some y => rw [rise_inj h hx (getG_some hg).1 (getG_some hg).2.symm]
theorem insG_skip {x : α} : ∀ {l : List α}, (∀ y ∈ l, nmLt (nm x) (nm y) = false) → insG nm x l = l ++ [x]
  | [], _ => rfl
  | y :: r, h => by
    unfold insG
    rw [if_neg (by rw [h y (by simp)]; simp), insG_skip (fun z hz => h z (by simp [hz]))]; rfl
theorem insG_first {x : α} {l : List α} (h : ∀ y ∈ l, nmLt (nm x) (nm y) = true) : insG nm x l = x :: l := by
  cases l with
  | nil => rfl
  | cons y r => unfold insG; rw [if_pos (h y (by simp))]
/-- what is put in place of one of its name stands in its place -/
theorem putG_there {x : α} : ∀ {l : List α}, Rise nm l → (∃ y ∈ l, nm y = nm x) → putG nm x l = l.map fun y => if nm y = nm x then x else y
  | [], _, h => by obtain ⟨y, hy, _⟩ := h; cases hy
  | y :: r, hr, h => by
    obtain ⟨h1, h2⟩ := List.pairwise_cons.1 hr
    by_cases he : nm y = nm x
    · have hd : delG nm (nm x) (y :: r) = r := by
        unfold delG
        rw [List.filter_cons_of_neg (by simpa using he)]
        refine List.filter_eq_self.2 fun z hz => ?_
        have := nmLt_ne (h1 z hz)
        rw [he] at this
        simpa using fun e => this e.symm
      have hm : (r.map fun z => if nm z = nm x then x else z) = r := by
        refine (List.map_congr_left fun z hz => ?_).trans (List.map_id' r)
        have := nmLt_ne (h1 z hz)
        rw [he] at this
        rw [if_neg fun e => this e.symm]
      unfold putG
      rw [hd, List.map_cons, if_pos he, hm]
      exact insG_first fun z hz => by rw [← he]; exact h1 z hz
    · have hex : ∃ z ∈ r, nm z = nm x := by
        obtain ⟨z, hz, e⟩ := h
        rcases List.mem_cons.1 hz with rfl | hz
        · exact absurd e he
        · exact ⟨z, hz, e⟩
      have ih := putG_there h2 hex
      have hlt : nmLt (nm x) (nm y) = false := by
        obtain ⟨z, hz, e⟩ := hex
        rw [← e]
        exact nmLt_asymm (h1 z hz)
      unfold putG at ih ⊢
      have hd : delG nm (nm x) (y :: r) = y :: delG nm (nm x) r := by unfold delG; rw [List.filter_cons_of_pos (by simpa using he)]
      rw [hd, List.map_cons, if_neg he]
      show (if nmLt (nm x) (nm y) then x :: y :: delG nm (nm x) r else y :: insG nm x (delG nm (nm x) r)) = _
      rw [if_neg (by rw [hlt]; simp), ih]
variable {β : Type} {nb : β → ByteArray} {f : α → β}
theorem insG_map (hf : ∀ a, nb (f a) = nm a) (x : α) : ∀ l, (insG nm x l).map f = insG nb (f x) (l.map f)
  | [] => rfl
  | y :: r => by
    unfold insG
    rw [hf, List.map_cons]
    show _ = if nmLt (nm x) (nb (f y)) then _ else _
    rw [hf]
    split
    · rfl
    · rw [List.map_cons, insG_map hf x r]
theorem delG_map (hf : ∀ a, nb (f a) = nm a) (n : ByteArray) (l : List α) : (delG nm n l).map f = delG nb n (l.map f) := by
  unfold delG
  rw [List.filter_map]
  congr 1
  refine List.filter_congr fun y _ => ?_
  simp [hf]
theorem putG_map (hf : ∀ a, nb (f a) = nm a) (x : α) (l : List α) : (putG nm x l).map f = putG nb (f x) (l.map f) := by
  unfold putG
  rw [insG_map hf, delG_map hf, hf]
theorem getG_map (hf : ∀ a, nb (f a) = nm a) (n : ByteArray) (l : List α) : getG nb n (l.map f) = (getG nm n l).map f := by
  unfold getG
  rw [List.find?_map]
  congr 2
  funext y
  simp [hf]
theorem rise_map (hf : ∀ a, nb (f a) = nm a) {l : List α} : Rise nb (l.map f) ↔ Rise nm l := by
  unfold Rise
  rw [List.pairwise_map]
  simp only [hf]
end

/-! how such a list reads in a map from texts to pointers -/
/-- a pointer to a block's head reads as that block's number -/
def ptrR : Value → Option (DataW Unit × List MemPlace)
  | .pointer (some ⟨p, 0, none⟩) => some (.lit (.int .i64 p), [])
  | .pointer none => some (.lit (.bool false), [])
  | _ => none
theorem ptrR_inv {v : Value} {p : Nat} {ps : List MemPlace} (h : ptrR v = some (.lit (.int .i64 p), ps)) : v = .pointer (some ⟨p, 0, none⟩) := by
  unfold ptrR at h
  split at h
  · rename_i q
    simp only [Option.some.injEq, Prod.mk.injEq, DataW.lit.injEq, Lit.int.injEq, true_and] at h
    have : q = p := by omega
    rw [this]
  · simp at h
  · cases h
theorem ptrR_nil {v : Value} {ps : List MemPlace} (h : ptrR v = some (.lit (.bool false), ps)) : v = .pointer none := by
  unfold ptrR at h
  split at h
  · simp at h
  · rfl
  · cases h
section
variable {α : Type} {nm : α → ByteArray} {pt : α → Nat}
def ent (nm : α → ByteArray) (pt : α → Nat) (x : α) : Lit × DataW Unit := (.string (nm x).data.toList, .lit (.int .i64 (pt x)))
def mapD (nm : α → ByteArray) (pt : α → Nat) (l : List α) : DataW Unit := .map (l.map (ent nm pt))
theorem ent_same (n : ByteArray) (x : α) : (ent nm pt x).1.sameKey (.string n.data.toList) = decide (nm x = n) := by
  show ((nm x).data.toList == n.data.toList) = _
  by_cases h : nm x = n
  · rw [h]; simp
  · rw [decide_eq_false h, beq_eq_false_iff_ne]; exact fun e => h (ba_ext e)
theorem mapD_ins (x : α) : ∀ l : List α, DataW.insert (ent nm pt x) (l.map (ent nm pt)) = (insG nm x l).map (ent nm pt)
  | [] => rfl
  | y :: r => by
    rw [List.map_cons]
    unfold DataW.insert insG
    show (if nmLt (nm x) (nm y) = true then _ else _) = _
    split
    · rfl
    · rw [mapD_ins x r, List.map_cons]
theorem mapD_del (n : ByteArray) (l : List α) : (mapD nm pt l).del (.string n.data.toList) = mapD nm pt (delG nm n l) := by
  show DataW.map ((l.map (ent nm pt)).filter fun p => !p.1.sameKey (.string n.data.toList)) = DataW.map ((l.filter fun y => decide (nm y ≠ n)).map (ent nm pt))
  rw [List.filter_map]
  congr 2
  refine List.filter_congr fun y _ => ?_
  show (!(ent nm pt y).1.sameKey (.string n.data.toList)) = _
  rw [ent_same]
  by_cases h : nm y = n <;> simp [h]
theorem mapD_put (x : α) (l : List α) : (mapD nm pt l).put (.string (nm x).data.toList) (.lit (.int .i64 (pt x))) = mapD nm pt (putG nm x l) := by
  have hd := mapD_del (nm := nm) (pt := pt) (nm x) l
  unfold mapD DataW.del at hd
  injection hd with hd
  unfold mapD DataW.put
  show DataW.map (DataW.insert (ent nm pt x) _) = _
  rw [hd, mapD_ins]; rfl
theorem mapD_at (n : ByteArray) (l : List α) (zd : DataW Unit) : (mapD nm pt l).atKey (.string n.data.toList) zd = match getG nm n l with | some x => .lit (.int .i64 (pt x)) | none => zd := by
  unfold mapD DataW.atKey getG
  simp only [List.find?_map]
  have : ((fun p : Lit × DataW Unit => p.1.sameKey (.string n.data.toList)) ∘ ent nm pt) = fun y => decide (nm y = n) := by
    funext y; exact ent_same (pt := pt) n y
  rw [this]
  cases l.find? fun y => decide (nm y = n) <;> rfl
theorem mapD_has (n : ByteArray) (l : List α) : Maps.has (mapD nm pt l) (.string n.data.toList) = (getG nm n l).isSome := by
  unfold mapD getG
  rw [has_eq, List.any_map, List.isSome_find?]
  congr 1
  funext y
  exact ent_same (pt := pt) n y
theorem mapD_keys (l : List α) : strKeys (mapD nm pt l) = l.map fun x => (nm x).data.toList := by
  show (l.map (ent nm pt)).map (fun p => strOf p.1) = _
  rw [List.map_map]; rfl
/-- sorted, they are as they stand -/
theorem keys_sorted {l : List α} (h : Rise nm l) {ss : List (List UInt8)} (hp : ss.Perm (strKeys (mapD nm pt l))) : ss.mergeSort leB = l.map fun x => (nm x).data.toList := by
  rw [mergeSort_of_perm hp, mapD_keys]
  refine List.mergeSort_of_pairwise ?_
  rw [List.pairwise_map]
  exact h.imp fun h => nmLt_le h
end

section
variable {H : Type} {P : Program} {k : TypeId} {R : Value → Option (DataW H × List MemPlace)} {w w' : World} {b n : Nat}
theorem ownsMap_keeps {D : DataW H} {S : Nat → Prop} (h : w.ownsMap P k R b n D) (kk : Keeps S w w') (hS : ¬ S b) : w'.ownsMap P k R b n D := by
  have hlt := h.lt
  obtain ⟨es, clock, hb, F, hs, hD⟩ := h
  exact ⟨es, clock, (kk.block b hlt hS).trans hb, F, hs, hD⟩
theorem ownsMap_len {E : List (Lit × DataW H)} (h : w.ownsMap P k R b n (.map E)) : w.ownsMap P k R b E.length (.map E) := by
  obtain ⟨es, clock, hb, F, hs, hD⟩ := h
  refine ⟨es, clock, hb, F, ?_, hD⟩
  injection hD with hD
  rw [hD, length_read]
  exact Nat.le_refl _
theorem turned_keeps (h : w.mapTurned w' b) : Keeps (fun i => i = b) w w' := by
  have hg := h.grown
  exact ⟨hg.os, hg.tape, hg.output, hg.size, fun i hi hn => hg.block i hi (fun e => hn (by injection e))⟩
theorem turned_isMap (h : w.mapTurned w' b) : ∃ es c, w'.heap[b]? = some (.map es c) := by
  obtain ⟨es, c, es', c', hb, rfl⟩ := h
  exact ⟨es', c', ChangeMaps.heap_setBlock_same hb _⟩
end
end Go.Proofs.Ytfbdpmeelejdhaa

/-
  Own bytes that begin anywhere in their row: append of a text's bytes, of another slice's cells; the text of them; a cut with its capacity. No program in sight.
-/
namespace Go.Proofs.Ytfbdpmeelejdhaa
open Go.RowKit

theorem strCells_u8 (s : ByteArray) : Lib.strCells s = u8Vs s.data.toList := by simp [Lib.strCells, u8Vs]
theorem u8Vs_app (a b : List UInt8) : u8Vs (a ++ b) = u8Vs a ++ u8Vs b := by simp [u8Vs]
theorem u8Vs_take (l : List UInt8) (n : Nat) : u8Vs (l.take n) = (u8Vs l).take n := by simp [u8Vs]
theorem u8Vs_size (s : ByteArray) : (u8Vs s.data.toList).length = s.size := by rw [u8Vs_len]; simp

section
variable {P : Program}
/-- what an append leaves: the values, and which row they lie in -/
def Appended (w w' : World) (e : TypeId) (v v' : Value) (vs : List Value) : Prop := OwnQ w' e v' vs ∧ Keeps (fun i => rowB v = some i) w w' ∧ (rowB v' = rowB v ∨ rowB v' = some w.heap.size)

theorem app_grown {w : World} {e : TypeId} {z : Value} (hz : z.cells.size = 1) (v : Value) (vs news : List Value) (hpos : 0 < news.length) (hlen : vs.length + news.length ≤ 34359738368) (old : Nat) :
    Appended w (w.drew.alloc (.cells (vs.toArray ++ news.toArray ++ Builtin.zeroCells z.cells (grownCap w (vs.length + news.length) old e - (vs.length + news.length))) e)) e v (.slice (some ⟨w.heap.size, 0, none⟩) (vs.length + news.length) (grownCap w (vs.length + news.length) old e)) (vs ++ news) := by
  have hge := grownCap_ge w (vs.length + news.length) old e
  have hcm : grownCap w (vs.length + news.length) old e ≤ maxLen := grownCap_le_maxLen w (vs.length + news.length) old e (by unfold maxLen; omega)
  refine ⟨.inr ⟨w.heap.size, 0, _, _, by simp, heap_alloc_new w.drew _, by simpa using hge, ?_, hcm, fun j u' hj => ?_⟩, (Keeps.refl _ w).drew.alloc _, ?_⟩
  · simp only [Array.size_append, List.size_toArray, size_zeroCells, hz]; omega
  · rw [Nat.zero_add, Array.getElem?_append_left (by
      have := (List.getElem?_eq_some_iff.1 hj).1
      simpa using this)]
    simpa using hj
  · exact .inr (rowB_some _ _ _ _ (by omega))
theorem Appended.same {w : World} {e : TypeId} {v : Value} {vs : List Value} (h : OwnQ w e v vs) : Appended w w e v v (vs ++ []) := ⟨by rw [List.append_nil]; exact h, Keeps.refl _ _, .inl rfl⟩
/-- the row has room -/
theorem app_room {w : World} {e : TypeId} {g off n cap : Nat} {cur : Array Value} {vs news : List Value} (hn : n = vs.length) (hb : Blk w g e cur) (hroom : vs.length + news.length ≤ cap) (hcs : off + cap ≤ cur.size) (hcm : cap ≤ maxLen) (hget : ∀ j u, vs[j]? = some u → cur[off + j]? = some u) (hpos : 0 < news.length) :
    Appended w (w.setRow g (cur.toList.take (off + vs.length) ++ news ++ cur.toList.drop (off + vs.length + news.length)).toArray) e (.slice (some ⟨g, off, none⟩) n cap) (.slice (some ⟨g, off, none⟩) (vs.length + news.length) cap) (vs ++ news) := by
  subst hn
  refine ⟨.inr ⟨g, off, cap, (cur.toList.take (off + vs.length) ++ news ++ cur.toList.drop (off + vs.length + news.length)).toArray, by simp, setRow_heap w g cur _ e _ hb, by simpa using hroom, ?_, hcm, fun j u' hj => ?_⟩, (Keeps.refl _ w).setRow (fun _ => rowB_some _ _ _ _ (by omega)) _, .inl ?_⟩
  · simp only [List.size_toArray, List.length_append, List.length_take, List.length_drop, Array.length_toList]; omega
  · have htl : (cur.toList.take (off + vs.length)).length = off + vs.length := by simp; omega
    rw [List.getElem?_toArray, List.append_assoc]
    by_cases hjn : j < vs.length
    · rw [List.getElem?_append_left (by rw [htl]; omega), List.getElem?_take, if_pos (by omega)]
      rw [List.getElem?_append_left hjn] at hj
      simpa using hget j u' hj
    · rw [List.getElem?_append_right (by rw [htl]; omega), htl, show off + j - (off + vs.length) = j - vs.length by omega]
      rw [List.getElem?_append_right (by omega)] at hj
      rw [List.getElem?_append_left (List.getElem?_eq_some_iff.1 hj).1]
      exact hj
  · rw [rowB_some _ _ _ _ (by omega), rowB_some _ _ _ _ (by omega)]

theorem run_append_qs (w : World) (t u ty e : TypeId) (ht : P.underlying t = some (.slice e)) (hu : P.underlying u = some .string)
    (hi : (P.info? e).map (fun i => (i.zero, i.size, i.bytes)) = some (some (.int .u8 0), 1, 1))
    (v : Value) (vs : List Value) (hown : OwnQ w e v vs) (s : ByteArray) (hlen : vs.length + s.size ≤ 34359738368) :
    ∃ v' w', (Builtin.append_ #[t, u] ty #[v, .string s]).run P w = .ok v' w' ∧ Appended w w' e v v' (vs ++ u8Vs s.data.toList) := by
  obtain ⟨i, hi0, hzi, hsi, hbi⟩ := info_parts hi
  have hsl := Lib.strCells_length s
  by_cases hm : s.size = 0
  · have hn : u8Vs s.data.toList = [] := List.eq_nil_of_length_eq_zero (by rw [u8Vs_size]; exact hm)
    have hf := Lib.run_firstCells_string (P := P) w 1 s
    rw [hm, strCells_u8, hn] at hf
    obtain ⟨a, c, hv⟩ := hown.sl
    have hle : vs.length ≤ c := by
      rcases hown with ⟨rfl, a', rfl⟩ | ⟨g, off, cap, cur, rfl, hb, hnc, hcs, hcm, hget⟩
      · simp
      · injection hv with _ _ h3
        omega
    refine ⟨v, w, ?_, by rw [hn]; exact Appended.same hown⟩
    rw [hv]
    cases a with
    | none => simp [Builtin.append_, run_underlying ht, run_underlying hu, sizeOf, typeInfo, hi0, hsi, Builtin.lenOf, hm, hf, hle]
    | some a => simp [Builtin.append_, run_underlying ht, run_underlying hu, sizeOf, typeInfo, hi0, hsi, Builtin.lenOf, hm, hf, hle, storeCells]
  · have hz1 : (Value.int IntKind.u8 0).cells.size = 1 := rfl
    have hpos : 0 < (Lib.strCells s).length := by rw [hsl]; omega
    rw [← strCells_u8]
    rcases hown with ⟨rfl, a, rfl⟩ | ⟨g, off, cap, cur, rfl, hb, hnc, hcs, hcm, hget⟩
    · cases a with
      | none =>
        have hr := run_append_nil_string (P := P) w t u ty e i (.int .u8 0) ht hu hi0 hzi s (by omega) (by omega) (by rw [hbi]; omega)
        have hgr := app_grown (w := w) (e := e) hz1 (.slice none 0 0) [] (Lib.strCells s) hpos (by rw [hsl]; simpa using hlen) 0
        have e1 : (s.data.map fun b => Value.int .u8 b.toNat) = (Lib.strCells s).toArray := by
          apply Array.ext'
          simp [Lib.strCells]
        rw [e1] at hr
        simp only [List.length_nil, Nat.zero_add, hsl, List.nil_append, Array.empty_append] at hgr
        exact ⟨_, _, hr, hgr⟩
      | some b =>
        have hr := Lib.run_append_grow_string (P := P) (w := w) t u ty e i (.int .u8 0) ht hu hi0 hzi b 0 0 [] (by simp) (fun j u' hj => by simp at hj) s (by omega) (by omega) (by rw [hbi]; exact growslice_fits (by omega) (by omega))
        have hgr := app_grown (w := w) (e := e) hz1 (.slice (some b) 0 0) [] (Lib.strCells s) hpos (by rw [hsl]; simpa using hlen) 0
        simp only [List.length_nil, hsl] at hgr
        exact ⟨_, _, hr, hgr⟩
    · by_cases hroom : vs.length + s.size ≤ cap
      · have hf := Lib.run_firstCells_string (P := P) w 1 s
        have hst := run_storeCells_at P g (off + vs.length) e (Lib.strCells s) 0 cur w hb (by rw [hsl]; omega) (Lib.strCells_oneCell s)
        simp only [Nat.add_zero] at hst
        refine ⟨.slice (some ⟨g, off, none⟩) (vs.length + s.size) cap, _, ?_, by
          have := app_room (w := w) (e := e) (g := g) (off := off) (n := vs.length) (cap := cap) (vs := vs) (news := Lib.strCells s) rfl hb (by rw [hsl]; exact hroom) hcs hcm hget hpos
          rw [hsl] at this
          exact this⟩
        rw [hsl] at hst
        simp [Builtin.append_, run_underlying ht, run_underlying hu, sizeOf, typeInfo, hi0, hsi, Builtin.lenOf, hroom, hf, Addr.add_lit, hst]
      · have hr := Lib.run_append_grow_string (P := P) (w := w) t u ty e i (.int .u8 0) ht hu hi0 hzi ⟨g, off, none⟩ vs.length cap vs (by rw [hsi]; omega) (fun j u' hj => by
          rw [Addr.add_lit, hb.cell]; exact hget j u' hj) s (by omega) (by omega) (by rw [hbi]; exact growslice_fits (by omega) (by omega))
        have hgr := app_grown (w := w) (e := e) hz1 (.slice (some ⟨g, off, none⟩) vs.length cap) vs (Lib.strCells s) hpos (by rw [hsl]; exact hlen) cap
        rw [hsl] at hgr
        exact ⟨_, _, hr, hgr⟩

theorem wpList_append_qs {w : World} {ops : Array Oper} {rest : List Oper} {o : Oper} {a : Act} {Q : Exit → Act → World → Prop} (hgd : o.guard = none) (sl x : Operand) (t u : TypeId)
    (ho : o.op = .call { callee := .builtin .append, args := #[sl, x], argTypes := #[t, u] }) (e : TypeId) (ht : P.underlying t = some (.slice e)) (hu : P.underlying u = some .string)
    (hi : (P.info? e).map (fun i => (i.zero, i.size, i.bytes)) = some (some (.int .u8 0), 1, 1))
    (v : Value) (vs : List Value) (hs : a.eval sl = v) (hown : OwnQ w e v vs) (s : ByteArray) (hx : a.eval x = .string s) (hlen : vs.length + s.size ≤ 34359738368)
    (h : ∀ v' w', Appended w w' e v v' (vs ++ u8Vs s.data.toList) → wpList P ops Q rest (a.put o.dst v') w') : wpList P ops Q (o :: rest) a w :=
  wpList_plain hgd fun _ hK => by
    obtain ⟨v', w', hr, h2⟩ := run_append_qs (P := P) w t u o.type e ht hu hi v vs hown s hlen
    unfold Oper.wp execOp
    simp only [ho, resolve, invoke, builtin, Sem.run_bind, Sem.run_pure, Result.andThen_ok, List.map_toArray, List.map_cons, List.map_nil, hs, hx, hr]
    exact hK _ _ (h v' w' h2)

/-- .. of another slice's cells, behind a slice that has none -/
theorem run_append_q0 (w : World) (t ty e : TypeId) (z : Value) (bytes : Nat) (ht : P.underlying t = some (.slice e))
    (hi : (P.info? e).map (fun i => (i.zero, i.size, i.bytes)) = some (some z, 1, bytes)) (hb16 : bytes ≤ 4096) (hz : z.cells.size = 1)
    (a : Option Addr) (v : Value) (vs : List Value) (hown : OwnQ w e v vs) (hlen : vs.length ≤ 17179869184) :
    ∃ v' w', (Builtin.append_ #[t, t] ty #[.slice a 0 0, v]).run P w = .ok v' w' ∧ Appended w w' e (.slice a 0 0) v' vs := by
  obtain ⟨i, hi0, hzi, hsi, hbi⟩ := info_parts hi
  have hmul : vs.length * i.bytes ≤ 140737488355328 := by
    have := Nat.mul_le_mul hlen (show i.bytes ≤ 4096 by omega)
    omega
  by_cases hm : vs = []
  · subst hm
    obtain ⟨b, c, rfl⟩ := hown.sl
    refine ⟨.slice a 0 0, w, ?_, ⟨.inl ⟨rfl, _, rfl⟩, Keeps.refl _ _, .inl rfl⟩⟩
    cases a with
    | none => cases b <;> simp [Builtin.append_, run_underlying ht, sizeOf, typeInfo, hi0, Builtin.lenOf, Builtin.firstCells, loadCells, loadCellsFrom]
    | some a => cases b <;> simp [Builtin.append_, run_underlying ht, sizeOf, typeInfo, hi0, Builtin.lenOf, Builtin.firstCells, loadCells, loadCellsFrom, storeCells]
  · have hpos := List.length_pos_iff.2 hm
    rcases hown with ⟨rfl, _⟩ | ⟨g, off, cap, cur, rfl, hb, hnc, hcs, hcm, hget⟩
    · exact absurd rfl hm
    · have hgr := app_grown (w := w) (e := e) hz (.slice a 0 0) [] vs hpos (by simp; omega) 0
      have hnews : ∀ j u, vs[j]? = some u → w.cell? ((⟨g, off, none⟩ : Addr).add j) = some u := fun j u hj => by rw [Addr.add_lit, hb.cell]; exact hget j u hj
      simp only [List.length_nil, Nat.zero_add, List.nil_append, Array.empty_append] at hgr
      cases a with
      | none => exact ⟨_, _, run_append_nil (P := P) w t ty e i z ht hi0 hzi ⟨g, off, none⟩ vs.length cap vs (by rw [hsi]; omega) hnews hpos (by omega) (by omega), hgr⟩
      | some b =>
        have hr := run_append_grow (P := P) w t ty e i z ht hi0 hzi b 0 0 [] (by simp) (fun j u' hj => by simp at hj) ⟨g, off, none⟩ vs.length cap vs (by rw [hsi]; omega) hnews (by omega) (by omega) (growslice_fits (by omega) (by rw [Nat.zero_add]; exact hmul))
        rw [Nat.zero_add] at hr
        exact ⟨_, _, hr, by simpa using hgr⟩

theorem wpList_append_q0 {w : World} {ops : Array Oper} {rest : List Oper} {o : Oper} {ac : Act} {Q : Exit → Act → World → Prop} (hgd : o.guard = none) (sl x : Operand) (t : TypeId)
    (ho : o.op = .call { callee := .builtin .append, args := #[sl, x], argTypes := #[t, t] }) (e : TypeId) (z : Value) (bytes : Nat) (ht : P.underlying t = some (.slice e))
    (hi : (P.info? e).map (fun i => (i.zero, i.size, i.bytes)) = some (some z, 1, bytes)) (hb16 : bytes ≤ 4096) (hz : z.cells.size = 1)
    (a : Option Addr) (v : Value) (vs : List Value) (hs : ac.eval sl = .slice a 0 0) (hx : ac.eval x = v) (hown : OwnQ w e v vs) (hlen : vs.length ≤ 17179869184)
    (h : ∀ v' w', Appended w w' e (.slice a 0 0) v' vs → wpList P ops Q rest (ac.put o.dst v') w') : wpList P ops Q (o :: rest) ac w :=
  wpList_plain hgd fun _ hK => by
    obtain ⟨v', w', hr, h2⟩ := run_append_q0 (P := P) w t o.type e z bytes ht hi hb16 hz a v vs hown hlen
    unfold Oper.wp execOp
    simp only [ho, resolve, invoke, builtin, Sem.run_bind, Sem.run_pure, Result.andThen_ok, List.map_toArray, List.map_cons, List.map_nil, hs, hx, hr]
    exact hK _ _ (h v' w' h2)

/-- the text of own bytes -/
theorem run_string_q (w : World) (src dst e : TypeId) (v : Value) (cs : List UInt8) (hs : P.underlying src = some (.slice e)) (he : P.underlying e = some (.int .u8)) (hd : P.underlying dst = some .string) (h : OwnQ w e v (u8Vs cs)) :
    (convert src dst v).run P w = .ok (.string (str cs)) w := by
  rcases h with ⟨h1, a, rfl⟩ | ⟨g, off, cap, cur, rfl, hb, hnc, hcs, hcm, hget⟩
  · have : cs = [] := List.eq_nil_of_length_eq_zero (by rw [← u8Vs_len, h1]; rfl)
    subst this
    rw [run_convert_bytes_string w src dst e _ _ 0 hs he hd]
    cases a <;> rfl
  · rw [u8Vs_len]
    exact run_string_bytes w src dst e ⟨g, off, none⟩ cs.length cap cs hs he hd rfl (fun j c hj => by
      rw [Addr.add_lit, hb.cell]
      exact hget j _ (by unfold u8Vs; rw [List.getElem?_map, hj]; rfl))
/-- the first n, without room behind -/
theorem OwnQ.cut {w : World} {e : TypeId} {a : Option Addr} {m c : Nat} {vs : List Value} (h : OwnQ w e (.slice a m c) vs) {n : Nat} (hn : n ≤ vs.length) : OwnQ w e (.slice a n n) (vs.take n) ∧ (rowB (.slice a n n) = none ∨ rowB (.slice a n n) = rowB (.slice a m c)) := by
  rcases h with ⟨rfl, b, hv⟩ | ⟨g, off, cap, cur, hv, hb, h1, h2, h3, h4⟩
  · obtain rfl : n = 0 := by simpa using hn
    exact ⟨.inl ⟨by simp, _, rfl⟩, .inl (rowB_zero _ _)⟩
  · injection hv with e1 e2 e3
    subst e1 e2 e3
    by_cases h0 : n = 0
    · subst h0
      exact ⟨.inl ⟨by simp, _, rfl⟩, .inl (rowB_zero _ _)⟩
    · have hl : (vs.take n).length = n := by rw [List.length_take]; omega
      refine ⟨.inr ⟨g, off, n, cur, by rw [hl], hb, by omega, by omega, by omega, fun j u hj => ?_⟩, .inr ?_⟩
      · rw [List.getElem?_take] at hj
        split at hj
        · exact h4 j u hj
        · cases hj
      · rw [rowB_some _ _ _ _ (by omega), rowB_some _ _ _ _ (by omega)]
end
end Go.Proofs.Ytfbdpmeelejdhaa

/-
  How a store lies in memory; what its map answers; what a put, a file's change, and a delete leave.
-/
namespace Go.Proofs.Ytfbdpmeelejdhaa
open Go.RowKit Go.Maps

structure SFile where
  name : ByteArray
  data : ByteArray
  sure : Nat
/-- a file, the block that it is, and the value of its bytes -/
structure SRep where
  f : SFile
  p : Nat
  v : Value
def SRep.nm (r : SRep) : ByteArray := r.f.name
structure FileOk (w : World) (F : Nat → Prop) (r : SRep) : Prop where
  blk : Blk w r.p 74 #[r.v, .int .i64 r.f.sure]
  own : OwnQ w 5 r.v (u8Vs r.f.data.data.toList)
  fp : F r.p
  fr : ∀ i, rowB r.v = some i → F i
def Off (a b : SRep) : Prop := a.p ≠ b.p ∧ ∀ i, rowB a.v = some i → rowB b.v ≠ some i
theorem Off.symm {a b : SRep} (h : Off a b) : Off b a := ⟨fun e => h.1 e.symm, fun i hi e => h.2 i e hi⟩
/-- a store at block s, its map at M, its files L; all its blocks are among F -/
structure StoreAt (w : World) (F : Nat → Prop) (s : Nat) (most : Int) (bad M : Nat) (L : List SRep) : Prop where
  top : Blk w s 58 #[.map (some M), .int .i64 most, .int .i64 bad]
  map : w.ownsMap Try.prog 9 ptrR M L.length (mapD SRep.nm SRep.p L)
  fs : F s
  fM : F M
  each : ∀ r ∈ L, FileOk w F r
  apart : L.Pairwise Off
  rise : Rise SRep.nm L

section
variable {w w' : World} {F G S : Nat → Prop} {s M bad : Nat} {most : Int} {L : List SRep}
theorem FileOk.keeps {r : SRep} (h : FileOk w F r) (k : Keeps S w w') (hS : ∀ i, F i → ¬ S i) : FileOk w' F r := ⟨h.blk.keeps k (hS _ h.fp), h.own.keeps k (fun i hi _ => hS i (h.fr i hi)), h.fp, h.fr⟩
theorem FileOk.mono {r : SRep} (h : FileOk w F r) (hG : ∀ i, F i → G i) : FileOk w G r := ⟨h.blk, h.own, hG _ h.fp, fun i hi => hG i (h.fr i hi)⟩
theorem StoreAt.keeps (h : StoreAt w F s most bad M L) (k : Keeps S w w') (hS : ∀ i, F i → ¬ S i) : StoreAt w' F s most bad M L :=
  ⟨h.top.keeps k (hS _ h.fs), ownsMap_keeps h.map k (hS _ h.fM), h.fs, h.fM, fun r hr => (h.each r hr).keeps k hS, h.apart, h.rise⟩
theorem StoreAt.mono (h : StoreAt w F s most bad M L) (hG : ∀ i, F i → G i) : StoreAt w G s most bad M L :=
  ⟨h.top, h.map, hG _ h.fs, hG _ h.fM, fun r hr => (h.each r hr).mono hG, h.apart, h.rise⟩
theorem StoreAt.isMap (h : StoreAt w F s most bad M L) : ∃ es c, w.heap[M]? = some (.map es c) := by
  obtain ⟨es, c, hb, _⟩ := h.map
  exact ⟨es, c, hb⟩
theorem blk_map_ne {b M : Nat} {t : TypeId} {cs : Array Value} (h : Blk w b t cs) (hm : ∃ es c, w.heap[M]? = some (.map es c)) : b ≠ M := by
  rintro rfl
  obtain ⟨es, c, hm⟩ := hm
  unfold Blk at h
  rw [h] at hm
  cases hm
/-- the kinds of blocks that a store is made of -/
def StT (w : World) (i : Nat) : Prop := (∃ cs, Blk w i 58 cs) ∨ (∃ cs, Blk w i 74 cs) ∨ (∃ cs, Blk w i 5 cs) ∨ ∃ es c, w.heap[i]? = some (.map es c)
theorem StoreAt.shrink (h : StoreAt w F s most bad M L) : StoreAt w (fun i => F i ∧ StT w i) s most bad M L :=
  ⟨h.top, h.map, ⟨h.fs, .inl ⟨_, h.top⟩⟩, ⟨h.fM, .inr (.inr (.inr h.isMap))⟩, fun r hr => ⟨(h.each r hr).blk, (h.each r hr).own, ⟨(h.each r hr).fp, .inr (.inl ⟨_, (h.each r hr).blk⟩)⟩, fun i hi => ⟨(h.each r hr).fr i hi, .inr (.inr (.inl ((h.each r hr).own.row i hi)))⟩⟩, h.apart, h.rise⟩
theorem StT.not {i : Nat} {t : TypeId} {cs : Array Value} (h : StT w i) (hb : Blk w i t cs) (h1 : t ≠ 58) (h2 : t ≠ 74) (h3 : t ≠ 5) : False := by
  rcases h with ⟨_, h⟩ | ⟨_, h⟩ | ⟨_, h⟩ | h
  · exact Blk.ne_ hb h h1 rfl
  · exact Blk.ne_ hb h h2 rfl
  · exact Blk.ne_ hb h h3 rfl
  · exact blk_map_ne hb h rfl
theorem StT.keeps {i : Nat} (h : StT w i) (k : Keeps S w w') (hS : ¬ S i) : StT w' i := by
  rcases h with ⟨_, h⟩ | ⟨_, h⟩ | ⟨_, h⟩ | ⟨es, c, h⟩
  · exact .inl ⟨_, h.keeps k hS⟩
  · exact .inr (.inl ⟨_, h.keeps k hS⟩)
  · exact .inr (.inr (.inl ⟨_, h.keeps k hS⟩))
  · refine .inr (.inr (.inr ⟨es, c, (k.block i ?_ hS).trans h⟩))
    exact (Array.getElem?_eq_some_iff.1 h).1

theorem sto_key (nm : ByteArray) (hn : nm.size ≤ maxLen) : keyOf Try.prog 9 (.string nm) = some (.string nm.data.toList) := WideMaps.keyOf_string_mk Try.underlying9 hn
abbrev stoK : Keyed Try.prog 9 := string_keyed Try.underlying9
theorem sto_zero : (zeroValue 70).run Try.prog w = .ok (.pointer none) w := by kernel_rfl

/-- v, ok := m[name] -/
theorem StoreAt.look (h : StoreAt w F s most bad M L) (nm : ByteArray) (hn : nm.size ≤ maxLen) :
    (Instr.lookup 56 (.map (some M)) (.string nm) true).run Try.prog w = .ok (.tuple #[.pointer ((getG SRep.nm nm L).map fun r => ⟨r.p, 0, none⟩), .bool (getG SRep.nm nm L).isSome]) w := by
  obtain ⟨v, ps, hrun, hv⟩ := h.map.look_ok stoK Try.underlying56 sto_zero (zd := .lit (.bool false)) (zp := []) rfl (sto_key nm hn)
  rw [mapD_has] at hrun
  rw [mapD_at] at hv
  rw [hrun]
  cases hg : getG SRep.nm nm L with
  | none => rw [hg] at hv; rw [ptrR_nil hv]; rfl
  | some r => rw [hg] at hv; rw [ptrR_inv hv]; rfl
/-- m[name], of one that is there -/
theorem StoreAt.look1 (h : StoreAt w F s most bad M L) {r : SRep} (hr : r ∈ L) (hn : r.f.name.size ≤ maxLen) :
    (Instr.lookup 56 (.map (some M)) (.string r.f.name) false).run Try.prog w = .ok (.pointer (some ⟨r.p, 0, none⟩)) w := by
  obtain ⟨v, ps, hrun, hv⟩ := h.map.lookup stoK Try.underlying56 sto_zero (zd := .lit (.bool false)) (zp := []) rfl (sto_key r.f.name hn)
  rw [mapD_at, show getG SRep.nm r.f.name L = some r from getG_of_mem h.rise hr] at hv
  rw [hrun, ptrR_inv hv]

theorem off_perm {l l' : List SRep} (h : l.Pairwise Off) (p : l.Perm l') : l'.Pairwise Off := (p.pairwise_iff (fun {_ _} h => h.symm)).1 h
/-- m[name] = p -/
theorem StoreAt.put (h : StoreAt w F s most bad M L) (r : SRep) (hr : FileOk w F r) (hap : ∀ a ∈ delG SRep.nm r.f.name L, Off r a) (hn : r.f.name.size ≤ maxLen) (hL : L.length < maxLen) :
    ∃ w', (Instr.mapUpdate 56 (.map (some M)) (.string r.f.name) (.pointer (some ⟨r.p, 0, none⟩))).run Try.prog w = .ok () w' ∧ StoreAt w' F s most bad M (putG SRep.nm r L) ∧ Keeps (fun i => i = M) w w' := by
  obtain ⟨w', hrun, hm, ht⟩ := h.map.store stoK Try.underlying56 hL (sto_key r.f.name hn) (val := .pointer (some ⟨r.p, 0, none⟩)) (d := .lit (.int .i64 r.p)) (ps := []) rfl
  have k := turned_keeps ht
  have hne : ∀ {b : Nat} {t : TypeId} {cs : Array Value}, Blk w b t cs → ¬ b = M := fun hb => blk_map_ne hb h.isMap
  have hfile : ∀ a, FileOk w F a → FileOk w' F a := fun a ha => ⟨ha.blk.keeps k (hne ha.blk), ha.own.keeps k (fun i _ ⟨_, hb⟩ => hne hb), ha.fp, ha.fr⟩
  refine ⟨w', hrun, ⟨h.top.keeps k (hne h.top), ?_, h.fs, h.fM, fun a ha => ?_, ?_, putG_rise h.rise r⟩, k⟩
  · have hm2 : w'.ownsMap Try.prog 9 ptrR M (L.length + 1) (mapD SRep.nm SRep.p (putG SRep.nm r L)) := by
      rw [← mapD_put]; exact hm
    have := ownsMap_len hm2
    rwa [List.length_map] at this
  · rcases insG_mem.1 ha with rfl | ha
    · exact hfile _ hr
    · exact hfile a (h.each a (delG_mem.1 ha).1)
  · refine off_perm (List.pairwise_cons.2 ⟨fun a ha => hap a ha, List.Pairwise.filter _ h.apart⟩) (insG_perm r _).symm
/-- delete(m, name) -/
theorem StoreAt.del (h : StoreAt w F s most bad M L) (nm : ByteArray) (hn : nm.size ≤ maxLen) (ty : TypeId) :
    ∃ w', (Builtin.delete_ #[56, 9] ty #[.map (some M), .string nm]).run Try.prog w = .ok (.tuple #[]) w' ∧ StoreAt w' F s most bad M (delG SRep.nm nm L) ∧ Keeps (fun i => i = M) w w' := by
  obtain ⟨w', hrun, hm, ht⟩ := h.map.drop stoK Try.underlying56 (sto_key nm hn) ty
  have k := turned_keeps ht
  have hne : ∀ {b : Nat} {t : TypeId} {cs : Array Value}, Blk w b t cs → ¬ b = M := fun hb => blk_map_ne hb h.isMap
  refine ⟨w', hrun, ⟨h.top.keeps k (hne h.top), ?_, h.fs, h.fM, fun a ha => ?_, List.Pairwise.filter _ h.apart, delG_rise h.rise nm⟩, k⟩
  · rw [mapD_del] at hm
    have := ownsMap_len hm
    rwa [List.length_map] at this
  · have hf := h.each a (delG_mem.1 ha).1
    exact ⟨hf.blk.keeps k (hne hf.blk), hf.own.keeps k (fun i _ ⟨_, hb⟩ => hne hb), hf.fp, hf.fr⟩
/-- the calls that will fail -/
theorem StoreAt.setBad (h : StoreAt w F s most bad M L) (b' : Nat) (x : Int) (hx : x = b') : StoreAt (w.setCell ⟨s, 2, none⟩ (.int .i64 x)) F s most b' M L ∧ Keeps (fun i => i = s) w (w.setCell ⟨s, 2, none⟩ (.int .i64 x)) := by
  subst hx
  have k : Keeps (fun i => i = s) w (w.setCell ⟨s, 2, none⟩ (.int .i64 b')) := (Keeps.refl (fun i => i = s) w).setCell (p := ⟨s, 2, none⟩) (fun _ => rfl) _
  have hs := h.top
  refine ⟨⟨hs.set_ 2 _, ownsMap_keeps h.map k (fun e => blk_map_ne hs h.isMap e.symm), h.fs, h.fM, fun r hr => ?_, h.apart, h.rise⟩, k⟩
  have hf := h.each r hr
  exact ⟨hf.blk.keeps k (Blk.ne_ hf.blk hs (by decide)), hf.own.keeps k (fun i _ ⟨_, hb⟩ => Blk.ne_ hb hs (by decide)), hf.fp, hf.fr⟩
def swapR (r : SRep) (L : List SRep) : List SRep := L.map fun a => if a.f.name = r.f.name then r else a
theorem swap_D {r0 r : SRep} (hr : Rise SRep.nm L) (h0 : r0 ∈ L) (hn : r.f.name = r0.f.name) (hp : r.p = r0.p) : mapD SRep.nm SRep.p (swapR r L) = mapD SRep.nm SRep.p L := by
  unfold mapD swapR
  rw [List.map_map]
  congr 1
  refine List.map_congr_left fun a ha => ?_
  show ent SRep.nm SRep.p (if a.f.name = r.f.name then r else a) = ent SRep.nm SRep.p a
  by_cases he : a.f.name = r.f.name
  · rw [if_pos he]
    have hx : a = r0 := rise_inj hr ha h0 (he.trans hn)
    rw [hx]
    unfold ent
    show (Lit.string r.f.name.data.toList, DataW.lit (Lit.int .i64 (r.p : Int))) = (Lit.string r0.f.name.data.toList, DataW.lit (Lit.int .i64 (r0.p : Int)))
    rw [hn, hp]
  · rw [if_neg he]
theorem swap_mem {r0 r a : SRep} (hn : r.f.name = r0.f.name) (ha : a ∈ swapR r L) : a = r ∨ (a ∈ L ∧ a ≠ r0) := by
  obtain ⟨b, hb, rfl⟩ := List.mem_map.1 ha
  by_cases he : b.f.name = r.f.name
  · rw [if_pos he]; exact .inl rfl
  · rw [if_neg he]; exact .inr ⟨hb, fun e => he (by rw [e, hn])⟩
/-- a file of it has changed, and nothing else of it -/
theorem StoreAt.swap {r0 r : SRep} (h : StoreAt w F s most bad M L) (h0 : r0 ∈ L) (hn : r.f.name = r0.f.name) (hp : r.p = r0.p)
    (k : Keeps (fun i => i = r0.p ∨ rowB r0.v = some i) w w') (hG : ∀ i, F i → G i) (hr : FileOk w' G r) (hrow : ∀ i, rowB r.v = some i → rowB r0.v = some i ∨ w.heap.size ≤ i) : StoreAt w' G s most bad M (swapR r L) := by
  have f0 := h.each r0 h0
  have hother : ∀ a ∈ L, a ≠ r0 → Off a r0 := fun a ha hne => by
    have : ∀ {l : List SRep}, l.Pairwise Off → a ∈ l → r0 ∈ l → Off a r0 := by
      intro l hl h1 h2
      induction l with
      | nil => cases h1
      | cons x l ih =>
        obtain ⟨p1, p2⟩ := List.pairwise_cons.1 hl
        rcases List.mem_cons.1 h1 with rfl | h1'
        · rcases List.mem_cons.1 h2 with e | h2'
          · exact absurd e.symm hne
          · exact p1 r0 h2'
        · rcases List.mem_cons.1 h2 with rfl | h2'
          · exact (p1 a h1').symm
          · exact ih p2 h1' h2'
    exact this h.apart ha h0
  have hrowlt : ∀ a ∈ L, ∀ i, rowB a.v = some i → i < w.heap.size := fun a ha i hi => by obtain ⟨cs, hb⟩ := (h.each a ha).own.row i hi; exact hb.lt
  have hfar : ∀ a ∈ L, a ≠ r0 → FileOk w' G a := fun a ha hne => by
    have fa := h.each a ha
    have ho := hother a ha hne
    refine ⟨fa.blk.keeps k ?_, fa.own.keeps k ?_, hG _ fa.fp, fun i hi => hG i (fa.fr i hi)⟩
    · rintro (e | e)
      · exact ho.1 e
      · obtain ⟨cs, hb⟩ := f0.own.row _ e
        exact Blk.ne_ fa.blk hb (by decide) rfl
    · rintro i hi ⟨cs, hb⟩ (e | e)
      · subst e
        exact Blk.ne_ hb f0.blk (by decide) rfl
      · exact ho.2 i hi e
  refine ⟨h.top.keeps k ?_, ?_, hG _ h.fs, hG _ h.fM, fun a ha => ?_, ?_, ?_⟩
  · rintro (e | e)
    · exact Blk.ne_ h.top f0.blk (by decide) e
    · obtain ⟨cs, hb⟩ := f0.own.row _ e
      exact Blk.ne_ h.top hb (by decide) rfl
  · rw [swap_D h.rise h0 hn hp, show (swapR r L).length = L.length by simp [swapR]]
    refine ownsMap_keeps h.map k ?_
    rintro (e | e)
    · exact blk_map_ne f0.blk h.isMap e.symm
    · obtain ⟨cs, hb⟩ := f0.own.row _ e
      exact blk_map_ne hb h.isMap rfl
  · rcases swap_mem hn ha with rfl | ⟨ha, hne⟩
    · exact hr
    · exact hfar a ha hne
  · unfold swapR
    rw [List.pairwise_map]
    refine h.apart.imp_of_mem fun {a b} ha hb ho => ?_
    have hro : ∀ a ∈ L, a ≠ r0 → Off a r := fun a ha hne => by
      have ho := hother a ha hne
      refine ⟨by rw [hp]; exact ho.1, fun i hi e => ?_⟩
      rcases hrow i e with e | e
      · exact ho.2 i hi e
      · have := hrowlt a ha i hi; omega
    by_cases h1 : a.f.name = r.f.name
    · have e1 : a = r0 := rise_inj h.rise ha h0 (h1.trans hn)
      by_cases h2 : b.f.name = r.f.name
      · have e2 : b = r0 := rise_inj h.rise hb h0 (h2.trans hn)
        subst e1
        rw [e2] at ho
        exact absurd rfl ho.1
      · rw [if_pos h1, if_neg h2]
        exact (hro b hb fun e => h2 (by rw [e, hn])).symm
    · by_cases h2 : b.f.name = r.f.name
      · rw [if_neg h1, if_pos h2]
        exact hro a ha fun e => h1 (by rw [e, hn])
      · rw [if_neg h1, if_neg h2]; exact ho
  · have : Rise SRep.nm (swapR r L) := by
      unfold Rise swapR
      rw [List.pairwise_map]
      refine h.rise.imp fun {a b} hlt => ?_
      have hs : ∀ a : SRep, SRep.nm (if a.f.name = r.f.name then r else a) = SRep.nm a := fun a => by
        by_cases h1 : a.f.name = r.f.name
        · rw [if_pos h1]; exact h1.symm
        · rw [if_neg h1]
      rw [hs, hs]; exact hlt
    exact this
theorem swap_put {r : SRep} (hr : Rise SRep.nm L) (h0 : ∃ r0 ∈ L, SRep.nm r0 = SRep.nm r) : swapR r L = putG SRep.nm r L := (putG_there hr h0).symm
end
end Go.Proofs.Ytfbdpmeelejdhaa

/-
  Slices among the arguments, opened to lists: where each element's cells lie. No function of the program in sight.
-/
namespace Go.Proofs.Ytfbdpmeelejdhaa
open Go.RowKit Go.ChangeShapes Go.WideShapes Go.Deep

/-- a slice's n elements as a list l: element x lies in the cells R x, one behind the other -/
def SlAt {α : Type} (R : α → List Value) (size : Nat) (w : World) (a : Option Addr) (n : Nat) (l : List α) : Prop :=
  l.length = n ∧ (0 < n → ∃ b off, a = some ⟨b, off, none⟩ ∧ b < w.heap.size ∧ ∀ (i : Nat) (x : α) (j : Nat) (v : Value), l[i]? = some x → (R x)[j]? = some v → w.cell? ⟨b, off + i * size + j, none⟩ = some v)

theorem SlAt.keeps {α : Type} {R : α → List Value} {size : Nat} {w w' : World} {a : Option Addr} {n : Nat} {l : List α} {S : Nat → Prop} (h : SlAt R size w a n l) (k : Keeps S w w') (hS : ∀ i, i < w.heap.size → ¬ S i) : SlAt R size w' a n l := by
  refine ⟨h.1, fun hn => ?_⟩
  obtain ⟨b, off, ha, hb, hc⟩ := h.2 hn
  refine ⟨b, off, ha, Nat.lt_of_lt_of_le hb k.size, fun i x j v hx hv => ?_⟩
  rw [World.cell?_of_block (w := w) (k.block b hb (hS b hb))]
  exact hc i x j v hx hv

section
variable {H : Type} {enc : TypeId × Value → H} {P : Program} {w : World} {base : Nat} {spare : Nat → Bool} {held : Bool}

theorem add_plain (b off k : Nat) : (⟨b, off, none⟩ : Addr).add k = ⟨b, off + k, none⟩ := by
  unfold Addr.add
  split <;> simp_all

theorem list_pick {α : Type} (Q : Nat → α → Prop) : ∀ n : Nat, (∀ i, i < n → ∃ x, Q i x) → ∃ l : List α, l.length = n ∧ ∀ i x, l[i]? = some x → Q i x
  | 0, _ => ⟨[], rfl, fun i x h => by simp at h⟩
  | n + 1, h => by
    obtain ⟨l, hl, hq⟩ := list_pick Q n (fun i hi => h i (by omega))
    obtain ⟨x, hx⟩ := h n (by omega)
    refine ⟨l ++ [x], by simp [hl], fun i y hy => ?_⟩
    rcases Nat.lt_or_ge i n with hi | hi
    · rw [List.getElem?_append_left (by omega)] at hy
      exact hq i y hy
    · rw [List.getElem?_append_right (by omega)] at hy
      have h0 : i - l.length = 0 := by
        rcases Nat.eq_zero_or_pos (i - l.length) with h0 | h0
        · exact h0
        · rw [List.getElem?_eq_none (by simp; omega)] at hy; cases hy
      rw [h0] at hy
      simp at hy
      subst hy
      have : i = n := by omega
      subst this
      exact hx

theorem sl_of {α : Type} (R : α → List Value) (good : α → Prop) (size : Nat) {t e : TypeId} {a : Option Addr} {n c : Nat} {d : DataW H} {ps : List MemPlace} (ht : P.underlying t = some (.slice e)) (hsz : P.cellsOf e = size) (hpos : 0 < size)
    (hR : ∀ x, (R x).length = size) (hel : ∀ fuel cs y, DataW.trod enc P w base spare held fuel e cs = some y → ∃ x, cs = R x ∧ good x)
    (h : DataW.Trod enc P w base spare held t (.slice a n c) d ps) : ∃ l : List α, SlAt R size w a n l ∧ ∀ x ∈ l, good x := by
  obtain ⟨fuel, hf⟩ := h
  rcases open_slice ht hf with ⟨hcs, _⟩ | ⟨a', len, cap, m, k, D, Pl, hcs, hb, hl, hm, hmm, hx, hi⟩
  · simp [Value.cells] at hcs
    obtain ⟨rfl, rfl, rfl⟩ := hcs
    exact ⟨[], ⟨rfl, fun h => absurd h (by omega)⟩, by simp⟩
  · simp [Value.cells] at hcs
    obtain ⟨rfl, rfl, rfl⟩ := hcs
    have hnm : n ≤ m := by rw [hmm]; split <;> omega
    obtain ⟨l, hlen, hq⟩ := list_pick (fun i x => good x ∧ ∀ j v, (R x)[j]? = some v → w.cell? ((a'.add (i * size)).add j) = some v) n (fun i hin => by
      obtain ⟨cs', hc, hd⟩ := hi i (by omega)
      obtain ⟨x, rfl, hg⟩ := hel _ _ _ hd
      obtain ⟨_, _, hcell⟩ := World.cells?_some hc
      refine ⟨x, hg, fun j v hv => ?_⟩
      have hj : j < size := by rw [← hR x]; exact (List.getElem?_eq_some_iff.1 hv).1
      rw [hsz] at hcell
      rw [hcell j hj, hv])
    refine ⟨l, ⟨hlen, fun hn => ?_⟩, fun x hx => ?_⟩
    · have h0 : 0 < l.length := by omega
      have hx0 := hq 0 l[0] (List.getElem?_eq_getElem h0)
      have hv0 : 0 < (R l[0]).length := by rw [hR]; exact hpos
      have hc0 := hx0.2 0 _ (List.getElem?_eq_getElem hv0)
      obtain ⟨b, off, spot⟩ := a'
      have hspot : spot = none := by simpa [Addr.add] using World.cell?_spot hc0
      subst hspot
      refine ⟨b, off, rfl, by simpa [Addr.add] using block_lt_of_cell hc0, fun i x j v hx hv => ?_⟩
      have := (hq i x hx).2 j v hv
      rw [add_add, add_plain, ← Nat.add_assoc] at this
      exact this
    · obtain ⟨i, hi', he⟩ := List.getElem_of_mem hx
      exact (hq i x (by rw [List.getElem?_eq_getElem hi', he])).1

/-- a slice of strings -/
def strR (s : ByteArray) : List Value := [.string s]
theorem strs_of {t e : TypeId} {a : Option Addr} {n c : Nat} {d : DataW H} {ps : List MemPlace} (ht : P.underlying t = some (.slice e)) (he : P.underlying e = some .string) (hc : P.cellsOf e = 1)
    (h : DataW.Trod enc P w base spare held t (.slice a n c) d ps) : ∃ l : List ByteArray, SlAt strR 1 w a n l ∧ ∀ s ∈ l, s.size ≤ maxLen :=
  sl_of strR (fun s => s.size ≤ maxLen) 1 ht hc (by omega) (fun _ => rfl) (fun fuel cs y hd => by
    obtain ⟨s, hcs, _, hs⟩ := DataW.trod_string he hd
    exact ⟨s, hcs, hs⟩) h
end

theorem SlAt.str {w : World} {b off : Nat} {l : List ByteArray} (hc : ∀ (i : Nat) (x : ByteArray) (j : Nat) (v : Value), l[i]? = some x → (strR x)[j]? = some v → w.cell? ⟨b, off + i * 1 + j, none⟩ = some v) (i : Nat) (s : ByteArray) (hi : l[i]? = some s) : w.cell? ⟨b, off + i, none⟩ = some (.string s) := by
  have := hc i s 0 _ hi rfl
  simpa using this
end Go.Proofs.Ytfbdpmeelejdhaa

/-
  Numbers in decimal, as lists of bytes. No program in sight.
-/
namespace Go.Proofs.Ytfbdpmeelejdhaa
open Go.RowKit

/-- a digit's sign -/
def digc (n : Nat) : UInt8 := UInt8.ofNat (48 + n)
theorem digc_nat {n : Nat} (h : n < 10) : (digc n).toNat = 48 + n := by unfold digc; rw [UInt8.toNat_ofNat_of_lt' (by show 48 + n < 256; omega)]
/-- a number's digits -/
def decN (n : Nat) : List UInt8 := if n < 10 then [digc n] else decN (n / 10) ++ [digc (n % 10)]
theorem decN_small {n : Nat} (h : n < 10) : decN n = [digc n] := by rw [decN, if_pos h]
theorem decN_big {n : Nat} (h : 10 ≤ n) : decN n = decN (n / 10) ++ [digc (n % 10)] := by rw [decN, if_neg (by omega)]
/-- a number with its sign -/
def dec (n : Int) : List UInt8 := if n < 0 then 45 :: decN (-n).toNat else decN n.toNat
theorem dec_neg {n : Int} (h : n < 0) : dec n = 45 :: decN (-n).toNat := by rw [dec, if_pos h]
theorem dec_pos {n : Int} (h : 0 ≤ n) : dec n = decN n.toNat := by rw [dec, if_neg (by omega)]
theorem decN_pos (n : Nat) : 0 < (decN n).length := by rw [decN]; split <;> simp
theorem decN_len (n k : Nat) : n < 10 ^ (k + 1) → (decN n).length ≤ k + 1 := by
  induction k generalizing n with
  | zero => intro h; rw [decN_small (by simpa using h)]; simp
  | succ k ih =>
    intro h
    by_cases h1 : n < 10
    · rw [decN_small h1]; simp
    · rw [decN_big (by omega), List.length_append]
      have := ih (n / 10) (by rw [Nat.pow_succ] at h; omega)
      simp; omega
theorem decN_le {n : Nat} (h : n ≤ 9223372036854775808) : (decN n).length ≤ 19 := decN_len n 18 (by omega)
theorem dec_le {n : Int} (h1 : -9223372036854775808 ≤ n) (h2 : n ≤ 9223372036854775807) : (dec n).length ≤ 20 := by
  unfold dec; split
  · have := decN_le (n := (-n).toNat) (by omega); simp; omega
  · have := decN_le (n := n.toNat) (by omega); omega
theorem dec_ne (n : Int) : dec n ≠ [] := by
  unfold dec; split
  · simp
  · intro h; have := decN_pos n.toNat; rw [h] at this; simp at this
/-- digits are digits -/
theorem decN_dig (n : Nat) : ∀ c ∈ decN n, 48 ≤ c.toNat ∧ c.toNat ≤ 57 := by
  induction n using Nat.strongRecOn with
  | _ n ih =>
    intro c hc
    by_cases h : n < 10
    · rw [decN_small h] at hc
      rw [List.mem_singleton] at hc; subst hc
      rw [digc_nat h]; omega
    · rw [decN_big (by omega)] at hc
      rcases List.mem_append.1 hc with hc | hc
      · exact ih (n / 10) (by omega) c hc
      · rw [List.mem_singleton] at hc; subst hc
        rw [digc_nat (by omega)]; omega
theorem dec_sign (n : Int) : ∀ c ∈ dec n, 45 ≤ c.toNat ∧ c.toNat ≤ 57 := by
  intro c hc
  unfold dec at hc
  split at hc
  · rcases List.mem_cons.1 hc with rfl | hc
    · decide
    · have := decN_dig _ c hc; omega
  · have := decN_dig _ c hc; omega

/-- the last digit put ahead of what was put: a round of the loop that fills a row from its end -/
theorem dec_round (N at_ : Nat) (L : List UInt8) (h1 : at_ ≤ L.length) (h0 : 0 < at_) :
    (L.set (at_ - 1) (digc (N % 10))).drop (at_ - 1) = digc (N % 10) :: L.drop at_ := by
  obtain ⟨k, rfl⟩ : ∃ k, at_ = k + 1 := ⟨at_ - 1, by omega⟩
  simp only [Nat.add_sub_cancel]
  rw [List.drop_eq_getElem_cons (by simp; omega)]
  simp [List.drop_set_of_lt]
theorem tmod_neg (N : Nat) : (-(N : Int)).tmod 10 = -((N % 10 : Nat) : Int) := by
  rw [Int.neg_tmod, Int.tmod_eq_emod_of_nonneg (by omega)]; simp
theorem tdiv_neg (N : Nat) : (-(N : Int)).tdiv 10 = -((N / 10 : Nat) : Int) := by
  rw [Int.neg_tdiv, Int.tdiv_eq_ediv_of_nonneg (by omega)]; simp
theorem bv_set (L : List UInt8) (i : Nat) (c : UInt8) : (bv L).setIfInBounds i (.int .u8 c.toNat) = bv (L.set i c) := by
  unfold bv
  apply Array.ext'
  simp [List.map_set]
end Go.Proofs.Ytfbdpmeelejdhaa
