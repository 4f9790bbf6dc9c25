/-
  Lower texts of this claim, joined.
-/
import Derived.WalkKit
import Derived.WalkSpells
import Derived.WalkLawsBesides
import Derived.BigQuiet
import Derived.Deep.QuietTactic
import Derived.Deep.RegionHeld3
import Derived.StillTailTactics
import Derived.Deep.DeepMust
import Derived.Deep.LoopGhost
import Derived.Laws.CopyOwn
import Derived.Lib.Hide
import Derived.Test.YtfpajgmdejlaeaaGreatDoorChecked
import Derived.ScopeJumps
import Derived.WalkMore
/-
  Plain words for memory that all texts of this claim use: a result that only reads; blocks known whole; what a call may change. No program in sight.
-/
namespace Go.Proofs.YtfpajgmdejlaeaaGreatDoor
open Go.RowKit

/-- a call that only reads: it hands back v, the world may have drawn -/
def Qt (v : Value) (w : World) : Ending → World → Prop := fun e w' => e = .returned v ∧ ∃ n, w' = w.drewN n

theorem Qt.quiet {P : Program} {f : FuncId} {args : Array Value} {w : World} {n : Nat} {v : Value}
    (h : Calls P f args (w.drewN n) (Qt v (w.drewN n))) : Calls P f args (w.drewN n) fun e w'' => e = .returned v ∧ ∃ m, w'' = w.drewN m :=
  h.mono fun _ _ ⟨he, m, hm⟩ => ⟨he, n + m, by rw [hm, World.drewN_drewN]⟩

theorem Qt.of {v v' : Value} {w : World} {n : Nat} (h : v' = v) : Qt v w (.returned v') (w.drewN n) := ⟨by rw [h], n, rfl⟩
theorem Qt.of2 {v v' : Value} {w : World} {n m : Nat} (h : v' = v) : Qt v w (.returned v') ((w.drewN n).drewN m) := ⟨by rw [h], _, World.drewN_drewN _ _ _⟩
theorem Qt.of0 {v v' : Value} {w : World} (h : v' = v) : Qt v w (.returned v') w := ⟨by rw [h], 0, rfl⟩
theorem int_eq {k : IntKind} {a b : Int} (h : a = b) : Value.int k a = .int k b := by rw [h]
theorem wrap_in {x : Int} (h : -4611686018427387904 ≤ x) (h' : x ≤ 4611686018427387904) : IntKind.i64.wrap x = x := IntWalk.i64_in _ (by omega)
theorem tmod_nat (a b : Nat) : ((a : Int)).tmod (b : Int) = ((a % b : Nat) : Int) := by
  rw [Int.tmod_eq_emod_of_nonneg (by omega)]; simp

/-- what a call may change: of the blocks that were there, those of S alone -/
structure Keeps (S : Nat → Prop) (w w' : World) : Prop where
  os : w'.os = w.os
  tape : w'.tape = w.tape
  output : w'.output = w.output
  size : w.heap.size ≤ w'.heap.size
  block : ∀ k, k < w.heap.size → ¬ S k → w'.heap[k]? = w.heap[k]?

section
variable {S T : Nat → Prop} {a b c w w' : World}
theorem Keeps.refl (S : Nat → Prop) (w : World) : Keeps S w w := ⟨rfl, rfl, rfl, Nat.le_refl _, fun _ _ _ => rfl⟩
theorem Keeps.trans (h : Keeps S a b) (k : Keeps S b c) : Keeps S a c :=
  ⟨k.os.trans h.os, k.tape.trans h.tape, k.output.trans h.output, Nat.le_trans h.size k.size, fun i hi hn => (k.block i (Nat.lt_of_lt_of_le hi h.size) hn).trans (h.block i hi hn)⟩
theorem Keeps.and_ (h : Keeps S a b) (k : Keeps T b c) (hT : ∀ i, i < a.heap.size → T i → S i) : Keeps S a c :=
  ⟨k.os.trans h.os, k.tape.trans h.tape, k.output.trans h.output, Nat.le_trans h.size k.size, fun i hi hn => (k.block i (Nat.lt_of_lt_of_le hi h.size) (fun ht => hn (hT i hi ht))).trans (h.block i hi hn)⟩
theorem Keeps.mono (h : Keeps S a b) (hs : ∀ k, k < a.heap.size → S k → T k) : Keeps T a b := ⟨h.os, h.tape, h.output, h.size, fun i hi hn => h.block i hi fun hS => hn (hs i hi hS)⟩
theorem Keeps.drewN (h : Keeps S a b) (n : Nat) : Keeps S a (b.drewN n) := ⟨h.os, h.tape, h.output, h.size, h.block⟩
theorem Keeps.drew (h : Keeps S a b) : Keeps S a b.drew := ⟨h.os, h.tape, h.output, h.size, h.block⟩
theorem Keeps.alloc (h : Keeps S a b) (o : Obj) : Keeps S a (b.alloc o) :=
  ⟨h.os, h.tape, h.output, Nat.le_trans h.size (by simp), fun i hi hn => (Below.heap_alloc b o i (Nat.lt_of_lt_of_le hi h.size)).trans (h.block i hi hn)⟩
theorem Keeps.setCell (h : Keeps S a b) {p : Addr} (hp : p.block < a.heap.size → S p.block) (u : Value) : Keeps S a (b.setCell p u) :=
  ⟨h.os, h.tape, h.output, by simpa [World.setCell] using h.size, fun i hi hn => (Below.heap_setCell b p u i (fun e => hn (by subst e; exact hp hi))).trans (h.block i hi hn)⟩
theorem Keeps.setRow (h : Keeps S a b) {g : Nat} (hp : g < a.heap.size → S g) (cs : Array Value) : Keeps S a (b.setRow g cs) :=
  ⟨h.os, h.tape, h.output, by simpa using h.size, fun i hi hn => by
    have hne : g ≠ i := fun e => hn (by subst e; exact hp hi)
    rw [← h.block i hi hn]
    simp [World.setRow, Array.getElem?_modify, hne]⟩
theorem Keeps.grown (h : Keeps S a b) {row : Option Nat} (hg : b.grownBy c row) (hr : ∀ k, row = some k → k < a.heap.size → S k) : Keeps S a c :=
  ⟨hg.os.trans h.os, hg.tape.trans h.tape, hg.output.trans h.output, Nat.le_trans h.size hg.size, fun i hi hn => (hg.block i (Nat.lt_of_lt_of_le hi h.size) (fun e => hn (hr i e.symm hi))).trans (h.block i hi hn)⟩
theorem Keeps.from_drewN {n : Nat} (h : Keeps S (a.drewN n) b) : Keeps S a b := ⟨h.os, h.tape, h.output, h.size, h.block⟩
theorem Keeps.from_drew (h : Keeps S a.drew b) : Keeps S a b := ⟨h.os, h.tape, h.output, h.size, h.block⟩
theorem Keeps.none_ (h : Keeps (fun _ => False) a b) : Keeps S a b := h.mono fun _ _ h => h.elim
theorem Keeps.below (h : Keeps S w w') (hS : ∀ k, k < w.heap.size → ¬ S k) : Below w.heap.size w w' := ⟨h.os, h.tape, h.output, h.size, fun k hk => h.block k hk (hS k hk)⟩
theorem Keeps.of_below (h : Below w.heap.size w w') : Keeps S w w' := ⟨h.os, h.tape, h.output, h.size, fun k hk _ => h.block k hk⟩
end

/-- a call that only reads, said by 'Keeps' -/
theorem Qt.k {P : Program} {f : FuncId} {args : Array Value} {w : World} {v : Value} (h : Calls P f args w (Qt v w)) : Calls P f args w fun e w' => e = .returned v ∧ Keeps (fun _ => False) w w' :=
  h.mono fun _ _ ⟨he, n, hn⟩ => ⟨he, by rw [hn]; exact (Keeps.refl _ _).drewN n⟩

/-- a block known whole, nothing of it frozen -/
def Blk (w : World) (g : Nat) (t : TypeId) (cs : Array Value) : Prop := w.heap[g]? = some (.cells cs t (0, 0))

section
variable {w w' : World} {g : Nat} {t : TypeId} {cs : Array Value}
theorem Blk.lt (h : Blk w g t cs) : g < w.heap.size := by
  rcases Nat.lt_or_ge g w.heap.size with hlt | hge
  · exact hlt
  · unfold Blk at h; rw [Array.getElem?_eq_none hge] at h; cases h
theorem Blk.cell (h : Blk w g t cs) (i : Nat) : w.cell? ⟨g, i, none⟩ = cs[i]? := cell_of_row w g i cs t (0, 0) h
theorem Blk.frozen (h : Blk w g t cs) (i : Nat) : w.frozen? ⟨g, i, none⟩ = false := by
  unfold Blk at h
  simp [World.frozen?, h]
theorem Blk.new (w : World) (t : TypeId) (cs : Array Value) : Blk (w.alloc (.cells cs t)) w.heap.size t cs := heap_alloc_new w _
theorem Blk.drew (h : Blk w g t cs) : Blk w.drew g t cs := h
theorem Blk.drewN (h : Blk w g t cs) (n : Nat) : Blk (w.drewN n) g t cs := h
theorem Blk.alloc (h : Blk w g t cs) (o : Obj) : Blk (w.alloc o) g t cs := (Below.heap_alloc w o g h.lt).trans h
theorem Blk.set_ (h : Blk w g t cs) (i : Nat) (u : Value) : Blk (w.setCell ⟨g, i, none⟩ u) g t (cs.setIfInBounds i u) := by
  unfold Blk at h ⊢
  simp [World.setCell, Array.getElem?_modify, h]
theorem Blk.far (h : Blk w g t cs) {p : Addr} (hp : g ≠ p.block) (u : Value) : Blk (w.setCell p u) g t cs := (Below.heap_setCell w p u g hp).trans h
theorem Blk.keeps {S : Nat → Prop} (h : Blk w g t cs) (hb : Keeps S w w') (hg : ¬ S g) : Blk w' g t cs := (hb.block g h.lt hg).trans h
theorem Blk.row (h : Blk w g t cs) (ds : Array Value) : Blk (w.setRow g ds) g t ds := by
  unfold Blk at h ⊢
  simp [World.setRow, Array.getElem?_modify, h]
theorem Blk.farRow (h : Blk w g t cs) {g' : Nat} (hp : g' ≠ g) (ds : Array Value) : Blk (w.setRow g' ds) g t cs := by
  unfold Blk at h ⊢
  simp [World.setRow, Array.getElem?_modify, h, hp]
theorem Blk.ne_ {g' : Nat} {t' : TypeId} {cs' : Array Value} (h : Blk w g t cs) (h' : Blk w g' t' cs') (hne : t ≠ t') : g ≠ g' := by
  rintro rfl
  unfold Blk at h h'
  rw [h] at h'
  injection h' with h'
  injection h' with _ ht
  exact hne ht
end

theorem drew_mk (w : World) : ({ heap := w.heap, tape := w.tape, drawn := w.drawn + 1, os := w.os, output := w.output } : World) = w.drew := rfl
/-- three cells of a block, as facts that the walk reads -/
theorem Blk.cells3 {w : World} {g : Nat} {t : TypeId} {a b c : Value} (h : Blk w g t #[a, b, c]) : w.cell? ⟨g, 0, none⟩ = some a ∧ w.cell? ⟨g, 1, none⟩ = some b ∧ w.cell? ⟨g, 2, none⟩ = some c := ⟨h.cell 0, h.cell 1, h.cell 2⟩
theorem Blk.all3 {w : World} {g : Nat} {t : TypeId} {a b c : Value} (h : Blk w g t #[a, b, c]) : (w.cell? ⟨g, 0, none⟩ = some a ∧ w.cell? ⟨g, 1, none⟩ = some b ∧ w.cell? ⟨g, 2, none⟩ = some c) ∧ w.frozen? ⟨g, 0, none⟩ = false ∧ w.frozen? ⟨g, 1, none⟩ = false ∧ w.frozen? ⟨g, 2, none⟩ = false :=
  ⟨h.cells3, h.frozen 0, h.frozen 1, h.frozen 2⟩
/-- w' is w with the block g filled anew by cs (kept behind a name) -/
def Rowed (w w' : World) (g : Nat) (cs : Array Value) : Prop := w' = w.setRow g cs
section
variable {w w' : World} {g : Nat} {t : TypeId} {cs ds : Array Value}
theorem Rowed.blk (h : Rowed w w' g ds) (hb : Blk w g t cs) : Blk w' g t ds := by rw [h]; exact hb.row ds
theorem Rowed.far (h : Rowed w w' g ds) {g' : Nat} (hb : Blk w g' t cs) (hne : g ≠ g') : Blk w' g' t cs := by rw [h]; exact hb.farRow hne ds
theorem Rowed.keeps {S : Nat → Prop} {a : World} (h : Rowed w w' g ds) (k : Keeps S a w) (hS : g < a.heap.size → S g) : Keeps S a w' := by rw [h]; exact k.setRow hS ds
end

/-- bytes as cells -/
def bv (l : List UInt8) : Array Value := (l.map fun c => Value.int .u8 c.toNat).toArray
theorem bv_size (l : List UInt8) : (bv l).size = l.length := by simp [bv]
theorem bv_get (l : List UInt8) (i : Nat) (h : i < l.length) : (bv l)[i]? = some (.int .u8 (l[i].toNat : Int)) := by simp [bv, h]
theorem bv_list (l : List UInt8) : (bv l).toList = l.map fun c => Value.int .u8 c.toNat := by simp [bv]

theorem ext_list (s : ByteArray) (n : Nat) : (s.extract n s.size).data.toList = s.data.toList.drop n := by
  have h : s.data.toList.length = s.size := by simp
  simp only [ByteArray.data_extract, Array.toList_extract, List.extract_eq_take_drop]
  exact List.take_of_length_le (by rw [List.length_drop, h]; omega)
theorem ext_size (s : ByteArray) (n : Nat) : (s.extract n s.size).size = s.size - n := by simp
theorem ba_ext {a b : ByteArray} (h : a.data.toList = b.data.toList) : a = b := by
  cases a; cases b; simp at h; rw [h]
theorem ext_ext (a : ByteArray) (g m : Nat) (h : g + m ≤ a.size) : (a.extract g a.size).extract 0 m = a.extract g (g + m) := by
  apply ba_ext
  simp only [ByteArray.data_extract, Array.toList_extract, List.extract_eq_take_drop]
  have : a.data.toList.length = a.size := by simp
  rw [List.drop_zero, Nat.sub_zero, List.take_take]
  congr 1
  omega
theorem splice_get {α : Type} (L : List α) (o : Nat) (cs : List α) (h : o + cs.length ≤ L.length) (j : Nat) :
    (splice L o cs)[j]? = if o ≤ j ∧ j < o + cs.length then cs[j - o]? else L[j]? := by
  unfold splice
  rw [List.getElem?_append]
  simp only [List.length_take]
  by_cases h1 : j < o
  · rw [if_pos (by omega), if_neg (by omega), List.getElem?_take, if_pos h1]
  · rw [if_neg (by omega), List.getElem?_append]
    by_cases h2 : j < o + cs.length
    · rw [if_pos (by omega), if_pos (by omega)]; congr 1; omega
    · rw [if_neg (by omega), if_neg (by omega), List.getElem?_drop]; congr 1; omega
theorem splice_map {α β : Type} (f : α → β) (L : List α) (o : Nat) (cs : List α) : splice (L.map f) o (cs.map f) = (splice L o cs).map f := by
  unfold splice; simp
theorem splice_nil {α : Type} (L : List α) (o : Nat) : splice L o [] = L := by unfold splice; simp
theorem splice_len {α : Type} (L : List α) (o : Nat) (cs : List α) (h : o + cs.length ≤ L.length) : (splice L o cs).length = L.length := by simp [splice]; omega

section
variable {P : Program}
theorem firstCells_string (s : ByteArray) (n : Nat) (w : World) :
    (Builtin.firstCells 1 n (.string s)).run P w = .ok ((s.data.toList.take n).map fun c => Value.int .u8 c.toNat).toArray w := by
  have h : ((s.extract 0 n).data.map fun b => Value.int .u8 b.toNat) = ((s.data.toList.take n).map fun c => Value.int .u8 c.toNat).toArray := by
    apply Array.ext'
    simp
  show (pure _ : Sem (Array Value)).run P w = _
  rw [h]
  rfl

/-- copy into a row of bytes known whole: from a string -/
theorem run_copy_str (w : World) (dT sT ty elem : TypeId) (dp : Option Addr) (dLen dCap : Nat) (s : ByteArray) (g o : Nat) (L : List UInt8) (t : TypeId)
    (hu : P.underlying dT = some (.slice elem)) (hs : (P.info? elem).map (·.size) = some 1) (hg : Blk w g t (bv L))
    (hd : 0 < min s.size dLen → dp = some ⟨g, o, none⟩) (hfit : o + min s.size dLen ≤ L.length) :
    (Builtin.copy_ #[dT, sT] ty #[.slice dp dLen dCap, .string s]).run P w =
      .ok (.int .i64 (min s.size dLen : Nat)) (w.setRow g (bv (splice L o (s.data.toList.take (min s.size dLen))))) := by
  have hl : (s.data.toList.take (min s.size dLen)).length = min s.size dLen := by simp
  have hm : Nat.min s.size dLen = min s.size dLen := rfl
  cases hq : P.info? elem with
  | none => simp [hq] at hs
  | some i =>
    have hi : i.size = 1 := by simpa [hq] using hs
    by_cases h0 : min s.size dLen = 0
    · have he : w.setRow g (bv (splice L o [])) = w := by rw [splice_nil]; exact setRow_self w g _ t (0, 0) hg
      have hc := firstCells_string (P := P) s 0 w
      simp only [List.take_zero, List.map_nil] at hc
      rw [h0, List.take_zero, he]
      cases dp with
      | none => simp [Builtin.copy_, run_underlying hu, Builtin.lenOf, sizeOf, typeInfo, hq, hi, hm, h0, hc, goInt]
      | some a => simp [Builtin.copy_, run_underlying hu, Builtin.lenOf, sizeOf, typeInfo, hq, hi, hm, h0, hc, goInt, storeCells]
    · obtain rfl := hd (by omega)
      have hst := run_storeCells_at P g o t ((s.data.toList.take (min s.size dLen)).map fun c => Value.int .u8 c.toNat) 0 (bv L) w hg (by simp [bv_size]; omega) (by
        intro v hv; simp only [List.mem_map] at hv; obtain ⟨c, _, rfl⟩ := hv; rfl)
      have hrow : ((bv L).toList.take (o + 0) ++ (s.data.toList.take (min s.size dLen)).map (fun c => Value.int .u8 c.toNat) ++ (bv L).toList.drop (o + 0 + ((s.data.toList.take (min s.size dLen)).map fun c => Value.int .u8 c.toNat).length)).toArray
          = bv (splice L o (s.data.toList.take (min s.size dLen))) := by
        rw [bv_list]
        unfold bv
        rw [← splice_map]
        unfold splice
        simp
      rw [hrow] at hst
      rw [List.map_take] at hst
      simp [Builtin.copy_, run_underlying hu, Builtin.lenOf, sizeOf, typeInfo, hq, hi, hm, firstCells_string, goInt, hst]

/-- .. from a slice of bytes whose cells are known -/
theorem run_copy_sl (w : World) (dT sT ty elem : TypeId) (dp sp : Option Addr) (dLen dCap sLen sCap : Nat) (g o : Nat) (L cs : List UInt8) (t : TypeId)
    (hu : P.underlying dT = some (.slice elem)) (hs : (P.info? elem).map (·.size) = some 1) (hg : Blk w g t (bv L)) (hn : cs.length = min sLen dLen)
    (hd : 0 < cs.length → dp = some ⟨g, o, none⟩ ∧ ∃ ad, sp = some ad ∧ ∀ j c, cs[j]? = some c → w.cell? (ad.add j) = some (.int .u8 c.toNat)) (hfit : o + cs.length ≤ L.length) :
    (Builtin.copy_ #[dT, sT] ty #[.slice dp dLen dCap, .slice sp sLen sCap]).run P w =
      .ok (.int .i64 cs.length) (w.setRow g (bv (splice L o cs))) := by
  by_cases h0 : cs.length = 0
  · obtain rfl : cs = [] := List.eq_nil_of_length_eq_zero h0
    have he : w.setRow g (bv (splice L o [])) = w := by rw [splice_nil]; exact setRow_self w g _ t (0, 0) hg
    rw [he, run_copy_none (P := P) w dT sT ty elem dp sp dLen dCap sLen sCap hu hs (by simpa using hn.symm)]
    rfl
  · obtain ⟨rfl, ad, rfl, hc⟩ := hd (by omega)
    have := run_copy_row (P := P) w dT sT ty elem g o dLen dCap ad sLen sCap (bv L) t (cs.map fun c => Value.int .u8 c.toNat) hu hs hg (by simpa using hn) (by
      intro j v hv
      simp only [List.getElem?_map, Option.map_eq_some_iff] at hv
      obtain ⟨c, hc', rfl⟩ := hv
      exact hc j c hc') (by simpa [bv_size] using hfit) (by intro v hv; simp only [List.mem_map] at hv; obtain ⟨c, _, rfl⟩ := hv; rfl)
    rw [this]
    have hrow : ((bv L).toList.take o ++ cs.map (fun c => Value.int .u8 c.toNat) ++ (bv L).toList.drop (o + (cs.map fun c => Value.int .u8 c.toNat).length)).toArray = bv (splice L o cs) := by
      rw [bv_list]
      unfold bv
      rw [← splice_map]
      unfold splice
      simp
    rw [hrow]
    simp [goInt]

theorem wpList_copy_str {ops : Array Oper} {rest : List Oper} {o : Oper} {a : Act} {Q : Exit → Act → World → Prop} {w : World} (hgd : o.guard = none) (d x : Operand) (dT sT : TypeId)
    (ho : o.op = .call { callee := .builtin .copy, args := #[d, x], argTypes := #[dT, sT] }) (elem : TypeId) (hu : P.underlying dT = some (.slice elem)) (hsz : (P.info? elem).map (·.size) = some 1)
    (dp : Option Addr) (dLen dCap : Nat) (s : ByteArray) (hd : a.eval d = .slice dp dLen dCap) (hx : a.eval x = .string s) (g off : Nat) (L : List UInt8) (t : TypeId) (hg : Blk w g t (bv L))
    (hpos : 0 < min s.size dLen → dp = some ⟨g, off, none⟩) (hfit : off + min s.size dLen ≤ L.length)
    (h : ∀ w', Rowed w w' g (bv (splice L off (s.data.toList.take (min s.size dLen)))) → wpList P ops Q rest (a.put o.dst (.int .i64 (min s.size dLen : Nat))) w') : wpList P ops Q (o :: rest) a w := by
  refine wpList_plain hgd fun K hK => ?_
  have hrun := run_copy_str (P := P) w dT sT o.type elem dp dLen dCap s g off L t hu hsz hg hpos hfit
  unfold Oper.wp
  simp only [execOp, ho, resolve, invoke, builtin, Sem.run_bind, Sem.run_pure, Result.andThen_ok, List.map_toArray, List.map_cons, List.map_nil, hd, hx, hrun]
  exact hK _ _ (h _ rfl)

theorem wpList_copy_sl {ops : Array Oper} {rest : List Oper} {o : Oper} {a : Act} {Q : Exit → Act → World → Prop} {w : World} (hgd : o.guard = none) (d x : Operand) (dT sT : TypeId)
    (ho : o.op = .call { callee := .builtin .copy, args := #[d, x], argTypes := #[dT, sT] }) (elem : TypeId) (hu : P.underlying dT = some (.slice elem)) (hsz : (P.info? elem).map (·.size) = some 1)
    (dp sp : Option Addr) (dLen dCap sLen sCap : Nat) (hd : a.eval d = .slice dp dLen dCap) (hx : a.eval x = .slice sp sLen sCap) (g off : Nat) (L cs : List UInt8) (t : TypeId) (hg : Blk w g t (bv L))
    (hn : cs.length = min sLen dLen)
    (hpos : 0 < cs.length → dp = some ⟨g, off, none⟩ ∧ ∃ ad, sp = some ad ∧ ∀ j c, cs[j]? = some c → w.cell? (ad.add j) = some (.int .u8 c.toNat)) (hfit : off + cs.length ≤ L.length)
    (h : ∀ w', Rowed w w' g (bv (splice L off cs)) → wpList P ops Q rest (a.put o.dst (.int .i64 cs.length)) w') : wpList P ops Q (o :: rest) a w := by
  refine wpList_plain hgd fun K hK => ?_
  have hrun := run_copy_sl (P := P) w dT sT o.type elem dp sp dLen dCap sLen sCap g off L cs t hu hsz hg hn hpos hfit
  unfold Oper.wp
  simp only [execOp, ho, resolve, invoke, builtin, Sem.run_bind, Sem.run_pure, Result.andThen_ok, List.map_toArray, List.map_cons, List.map_nil, hd, hx, hrun]
  exact hK _ _ (h _ rfl)
end

theorem bv_at {w : World} {b : Nat} {t : TypeId} {arr : List UInt8} (h : Blk w b t (bv arr)) (f : Nat) (cs : List UInt8) (hc : ∀ j c, cs[j]? = some c → arr[f + j]? = some c) :
    ∀ j c, cs[j]? = some c → w.cell? ((⟨b, f, none⟩ : Addr).add j) = some (.int .u8 c.toNat) := by
  intro j c hj
  have h1 := hc j c hj
  have h2 := h.cell (f + j)
  have hlt := (List.getElem?_eq_some_iff.1 h1).1
  rw [bv_get _ _ hlt] at h2
  have e : arr[f + j] = c := (List.getElem?_eq_some_iff.1 h1).2
  rw [e] at h2
  by_cases h0 : j = 0
  · subst h0; simpa [Addr.add] using h2
  · simpa [Addr.add, h0] using h2
theorem bv_cell {w : World} {b : Nat} {t : TypeId} {arr : List UInt8} (h : Blk w b t (bv arr)) (j : Nat) (c : UInt8) (hj : arr[j]? = some c) : w.cell? ⟨b, j, none⟩ = some (.int .u8 c.toNat) := by
  have h2 := h.cell j
  have hlt := (List.getElem?_eq_some_iff.1 hj).1
  rw [bv_get _ _ hlt] at h2
  have e : arr[j] = c := (List.getElem?_eq_some_iff.1 hj).2
  rw [e] at h2
  exact h2

/-- a string out of a list of bytes -/
def str (l : List UInt8) : ByteArray := ⟨l.toArray⟩
theorem str_list (l : List UInt8) : (str l).data.toList = l := rfl
theorem str_size (l : List UInt8) : (str l).size = l.length := rfl
theorem str_of (s : ByteArray) : str s.data.toList = s := rfl
theorem str_inj {a b : List UInt8} : str a = str b ↔ a = b := ⟨fun h => by have := congrArg (fun s : ByteArray => s.data.toList) h; simpa [str] using this, fun h => by rw [h]⟩

theorem foldl_push (l : List UInt8) : ∀ (r : ByteArray), (l.map fun c => ((c.toNat : Nat) : Int)).foldl (fun r n => r.push (UInt8.ofNat n.toNat)) r = str (r.data.toList ++ l) := by
  induction l with
  | nil => intro r; simp [str]
  | cons c l ih =>
    intro r
    simp only [List.map_cons, List.foldl_cons]
    rw [ih]
    simp [str, ByteArray.push]

section
variable {P : Program}
theorem run_string_bytes (w : World) (src dst e : TypeId) (a : Addr) (n c : Nat) (cs : List UInt8) (hs : P.underlying src = some (.slice e)) (he : P.underlying e = some (.int .u8)) (hd : P.underlying dst = some .string)
    (hn : cs.length = n) (hc : ∀ j v, cs[j]? = some v → w.cell? (a.add j) = some (.int .u8 v.toNat)) :
    (convert src dst (.slice (some a) n c)).run P w = .ok (.string (str cs)) w := by
  rw [run_convert_bytes_string w src dst e _ n c hs he hd]
  have hl := run_loadCells_list (P := P) w a (cs.map fun c => Value.int .u8 c.toNat) (by
    intro j v hv
    simp only [List.getElem?_map, Option.map_eq_some_iff] at hv
    obtain ⟨c, hc', rfl⟩ := hv
    exact hc j c hc')
  rw [run_bytesToString w a n c (cs.map fun c => ((c.toNat : Nat) : Int)) (by rw [← hn]; simpa [List.map_map, Function.comp_def] using hl), foldl_push]
  rfl

/-- a new row of bytes -/
def Made (w w' : World) (t : TypeId) (cs : Array Value) : Prop := w' = w.alloc (.cells cs t)
theorem Made.blk {w w' : World} {t : TypeId} {cs : Array Value} (h : Made w w' t cs) : Blk w' w.heap.size t cs := by rw [h]; exact Blk.new w t cs
theorem Made.old {w w' : World} {t t' : TypeId} {cs ds : Array Value} {g : Nat} (h : Made w w' t cs) (hb : Blk w g t' ds) : Blk w' g t' ds := by rw [h]; exact hb.alloc _
theorem Made.keeps {w w' a : World} {t : TypeId} {cs : Array Value} {S : Nat → Prop} (h : Made w w' t cs) (k : Keeps S a w) : Keeps S a w' := by rw [h]; exact k.alloc _
theorem Made.size {w w' : World} {t : TypeId} {cs : Array Value} (h : Made w w' t cs) : w'.heap.size = w.heap.size + 1 := by rw [h]; simp

theorem made_zero (n : Nat) : madeCells (Value.int .u8 0).cells (n * 1) = bv (List.replicate n 0) := by
  apply Array.ext
  · simp [madeCells, bv]
  · intro i h1 h2
    simp [madeCells, bv, Value.cells, Nat.mod_one]

theorem wpList_make_bytes (w : World) {ops : Array Oper} {rest : List Oper} {o : Oper} {a : Act} {Q : Exit → Act → World → Prop}
    (hg : o.guard = none) (l c : Operand) (t : TypeId) (hop : o.op = Op.makeSlice t l c) (e : TypeId)
    (h1 : P.underlying t = some (.slice e)) (h2 : (P.info? e).map (fun i => (i.zero, i.size, i.bytes)) = some (some (.int .u8 0), 1, 1))
    (m n : Nat) (hl : a.eval l = .int .i64 m) (hc : a.eval c = .int .i64 n) (hmn : m ≤ n) (b2 : n ≤ 281474976710656)
    (hK : ∀ w', Made w w' e (bv (List.replicate n 0)) → wpList P ops Q rest (a.put o.dst (.slice (some ⟨w.heap.size, 0, none⟩) m n)) w') :
    wpList P ops Q (o :: rest) a w := by
  refine wpList_plain hg fun K hK' => ?_
  obtain ⟨i, hi, hz, hs, hb⟩ := info_parts h2
  have hrun := run_make (P := P) w t e i (.int .u8 0) h1 hi hz .i64 .i64 m n (by omega) (by omega) (by rw [hb]; omega) (by omega)
  rw [hs, Int.toNat_natCast, Int.toNat_natCast, made_zero] at hrun
  unfold Oper.wp
  simp only [execOp, hop, hl, hc, hrun, Sem.run_bind, Sem.run_pure, Result.andThen_ok]
  exact hK' _ _ (hK _ rfl)

theorem wpList_string_bytes (w : World) {ops : Array Oper} {rest : List Oper} {o : Oper} {a : Act} {Q : Exit → Act → World → Prop}
    (hg : o.guard = none) (x : Operand) (src dst : TypeId) (hop : o.op = Op.convert src dst x) (e : TypeId) (hs : P.underlying src = some (.slice e)) (he : P.underlying e = some (.int .u8)) (hd : P.underlying dst = some .string)
    (b off n c : Nat) (hx : a.eval x = .slice (some ⟨b, off, none⟩) n c) (cs : List UInt8) (hn : cs.length = n) (hc : ∀ j v, cs[j]? = some v → w.cell? ⟨b, off + j, none⟩ = some (.int .u8 v.toNat))
    (hK : wpList P ops Q rest (a.put o.dst (.string (str cs))) w) :
    wpList P ops Q (o :: rest) a w := by
  refine wpList_plain hg fun K hK' => ?_
  have hrun := run_string_bytes (P := P) w src dst e ⟨b, off, none⟩ n c cs hs he hd hn (fun j v hv => by
    have := hc j v hv
    by_cases h0 : j = 0
    · subst h0; simpa [Addr.add] using this
    · simpa [Addr.add, h0] using this)
  unfold Oper.wp
  simp only [execOp, hop, hx, hrun, Sem.run_bind, Sem.run_pure, Result.andThen_ok]
  exact hK' _ _ hK
end

/-- a return of a struct that lies in a block known whole, and of one value more -/
theorem ret_cell_tmp {P : Program} {fn : Func} {p u : Tmp} {ty : TypeId} (h : fn.results = #[.cell p ty, .tmp u]) {a : Act} {w : World} {R : Ending → World → Prop} (g : Nat) (t : TypeId) (cs : Array Value) (d : TypeDesc)
    (hp : a.tmps.getD p undef = .pointer (some ⟨g, 0, none⟩)) (hb : Blk w g t cs) (hu : P.underlying ty = some d) (hd : (match d with | .struct _ | .array _ _ => true | _ => false) = true)
    (hi : (P.info? ty).map (·.size) = some cs.size) (hdf : a.defers = []) (hR : R (.returned (.tuple #[.agg cs, a.tmps.getD u undef])) w) : bodyPost P fn R .ret a w := by
  refine bodyPost_ret (v := .tuple #[.agg cs, a.tmps.getD u undef]) ?_ hdf hR
  rw [results_cell_tmp h, hp]
  simp [asAddr, run_loadVar_row w g t ty cs (0, 0) d hb hu hd hi]
theorem ret_cell {P : Program} {fn : Func} {p : Tmp} {ty : TypeId} (h : fn.results = #[.cell p ty]) {a : Act} {w : World} {R : Ending → World → Prop} (g : Nat) (t : TypeId) (cs : Array Value) (d : TypeDesc)
    (hp : a.tmps.getD p undef = .pointer (some ⟨g, 0, none⟩)) (hb : Blk w g t cs) (hu : P.underlying ty = some d) (hd : (match d with | .struct _ | .array _ _ => true | _ => false) = true)
    (hi : (P.info? ty).map (·.size) = some cs.size) (hdf : a.defers = []) (hR : R (.returned (.agg cs)) w) : bodyPost P fn R .ret a w :=
  bodyPost_ret (results_cell_row h _ w g t cs (0, 0) d hp hb hu hd hi) hdf hR
theorem Blk.new2 (w : World) (o : Obj) (t : TypeId) (cs : Array Value) : Blk ((w.alloc o).alloc (.cells cs t)) (w.heap.size + 1) t cs := by
  have := Blk.new (w.alloc o) t cs
  rwa [World.size_alloc] at this
theorem Keeps.setNew {S : Nat → Prop} {a b : World} (h : Keeps S a b) {g i : Nat} (hg : a.heap.size ≤ g) (u : Value) : Keeps S a (b.setCell ⟨g, i, none⟩ u) := h.setCell (fun hh => by have : g < a.heap.size := hh; omega) u
end Go.Proofs.YtfpajgmdejlaeaaGreatDoor

/-
  Break sequences, plainly: the steps of a text. No program in sight.
-/
namespace Go.Proofs.YtfpajgmdejlaeaaGreatDoor
open Go.RowKit

/-- a step: its kind (1: bytes, 2: a wait, 3: a break), its bytes, its ticks -/
structure Stp where
  kind : Int
  s : List UInt8
  n : Int
def digN (c : UInt8) : Option Nat := if 48 ≤ c.toNat ∧ c.toNat ≤ 57 then some (c.toNat - 48) else none
def hexN (c : UInt8) : Option Nat := if 48 ≤ c.toNat ∧ c.toNat ≤ 57 then some (c.toNat - 48) else if 97 ≤ c.toNat ∧ c.toNat ≤ 102 then some (c.toNat - 87) else none
/-- two signs as a number -/
def two (b : Nat) (f : UInt8 → Option Nat) : List UInt8 → Option (Nat × List UInt8)
  | x :: y :: r => match f x, f y with
    | some a, some d => some (b * a + d, r)
    | _, _ => none
  | _ => none
/-- the step that a backslash begins, and how many bytes it has -/
def escP : List UInt8 → Option (Stp × Nat)
  | [] => none
  | d :: u =>
    if d.toNat = 92 then some (⟨1, [92], 0⟩, 2)
    else if d.toNat = 114 then some (⟨1, [13], 0⟩, 2)
    else if d.toNat = 110 then some (⟨1, [10], 0⟩, 2)
    else if d.toNat = 116 then some (⟨1, [9], 0⟩, 2)
    else if d.toNat = 100 then some (⟨2, [], 1⟩, 2)
    else if d.toNat = 122 then some (⟨3, [], 0⟩, 2)
    else if d.toNat = 119 then (match two 10 digN u with
      | some (n, _) => if 0 < n then some (⟨2, [], n⟩, 4) else none
      | none => none)
    else if d.toNat = 120 then (match two 16 hexN u with
      | some (n, _) => some (⟨1, [UInt8.ofNat n], 0⟩, 4)
      | none => none)
    else none
/-- the step with which a text begins, and how many bytes it has -/
def stepP : List UInt8 → Option (Stp × Nat)
  | [] => none
  | c :: t => if c.toNat = 92 then escP t else if c.toNat < 32 ∨ 126 < c.toNat then none else some (⟨1, [c], 0⟩, 1)
/-- a step behind others: joined to the last one, if they are of a kind that is joined -/
def pushP (l : List Stp) (x : Stp) : List Stp := match l.getLast? with
  | some y => if y.kind = x.kind ∧ x.kind < 3 then l.dropLast ++ [⟨y.kind, y.s ++ x.s, y.n + x.n⟩] else l ++ [x]
  | none => [x]
def stepsP : Nat → List Stp → List UInt8 → Option (List Stp)
  | 0, out, _ => some out
  | f + 1, out, l => if l = [] then some out else match stepP l with
    | none => none
    | some (x, n) => stepsP f (pushP out x) (l.drop n)
/-- a break sequence: its code, its steps -/
def brkP (l : List UInt8) : Int × List Stp := if 255 < l.length then (5, []) else match stepsP l.length [] l with
  | none => (3, [])
  | some out => (0, out)
end Go.Proofs.YtfpajgmdejlaeaaGreatDoor

/-
  The pieces of a text, as functions on lists of bytes. No program in sight.
-/
namespace Go.Proofs.YtfpajgmdejlaeaaGreatDoor
open Go.RowKit

/-- may a byte stand in a word? -/
def plainN (n : Nat) : Bool := decide (32 < n) && decide (n ≤ 126) && !decide (n = 123 ∨ n = 125 ∨ n = 59 ∨ n = 34 ∨ n = 35 ∨ n = 92)
def plainB (c : UInt8) : Bool := plainN c.toNat
/-- does a byte stand between pieces? -/
def blankB (c : UInt8) : Bool := decide (c.toNat = 32 ∨ c.toNat = 9 ∨ c.toNat = 13 ∨ c.toNat = 10)
/-- may a text be a word? -/
def wordyP (l : List UInt8) : Bool := decide (l ≠ []) && l.all plainB
/-- what stands between pieces is passed -/
def skipP : Bool → Int → List UInt8 → Int × List UInt8
  | _, line, [] => (line, [])
  | note, line, c :: t => if c.toNat = 10 then skipP false (line + 1) t else if note || blankB c then skipP note line t else if c.toNat = 35 then skipP true line t else (line, c :: t)
/-- a text within quotes, from behind the first quote on -/
def quoteP : List UInt8 → List UInt8 → Option (List UInt8 × List UInt8)
  | _, [] => none
  | acc, c :: t => if c.toNat = 34 then some (acc, t) else if c.toNat = 92 then (match t with | d :: u => if d.toNat = 34 ∨ d.toNat = 92 then quoteP (acc ++ [d]) u else none | [] => none) else if c.toNat < 32 ∨ 126 < c.toNat then none else quoteP (acc ++ [c]) t
/-- a piece: its kind, what it says, its line -/
structure Pc where
  kind : Int
  text : ByteArray
  line : Int
def pcR (x : Pc) : List Value := [.int .i64 x.kind, .string x.text, .int .i64 x.line]
theorem pcR_len (x : Pc) : (pcR x).length = 3 := rfl
theorem pcR_one (x : Pc) : ∀ u ∈ pcR x, u.oneCell' = true := by
  intro u hu; simp [pcR] at hu; rcases hu with rfl | rfl | rfl <;> rfl
/-- the piece that begins there: kind, text, rest -/
def oneP : List UInt8 → Option (Int × List UInt8 × List UInt8)
  | [] => none
  | c :: t => if c.toNat = 123 then some (3, [], t) else if c.toNat = 125 then some (4, [], t) else if c.toNat = 59 then some (5, [], t)
    else if c.toNat = 34 then (quoteP [] t).map fun x => (2, x.1, x.2)
    else if plainB c then some (1, (c :: t).takeWhile plainB, (c :: t).dropWhile plainB) else none
/-- all pieces behind those that are there; or the code, and the line -/
def readP : Nat → Int → List UInt8 → List Pc → (Int × Int) ⊕ List Pc
  | 0, _, _, out => .inr out
  | f + 1, line, l, out =>
    let (line, l) := skipP false line l
    if l = [] then .inr out
    else if out.length = 8192 then .inl (15, line)
    else match oneP l with
      | none => .inl (3, line)
      | some (k, t, r) => readP f line r (out ++ [⟨k, str t, line⟩])
/-- the pieces of a text -/
def lexP (s : List UInt8) : (Int × Int) ⊕ List Pc := if 65536 < s.length then .inl (5, 0) else readP (s.length + 1) 1 s []
/-- a text within quotes, as it is put -/
def quotedP (l : List UInt8) : List UInt8 := l.flatMap fun c => if c.toNat = 34 ∨ c.toNat = 92 then [92, c] else [c]
def seenB (c : UInt8) : Bool := decide (32 ≤ c.toNat ∧ c.toNat ≤ 126)
/-- a piece as text: text and code -/
def putP_lexm (kind : Int) (t : List UInt8) : List UInt8 × Int :=
  if kind = 1 then (if wordyP t then (t, 0) else ([], 3))
  else if kind = 2 then (if t.all seenB then (34 :: (quotedP t ++ [34]), 0) else ([], 3))
  else if 3 ≤ kind ∧ kind ≤ 5 then (if t = [] then ([([123, 125, 59] : List UInt8).getD (kind - 3).toNat 0], 0) else ([], 3))
  else ([], 1)

theorem quoteP_nil (acc : List UInt8) : quoteP acc [] = none := by unfold quoteP; rfl
theorem quoteP_cons (acc : List UInt8) (c : UInt8) (t : List UInt8) : quoteP acc (c :: t) = if c.toNat = 34 then some (acc, t) else if c.toNat = 92 then (match t with | d :: u => if d.toNat = 34 ∨ d.toNat = 92 then quoteP (acc ++ [d]) u else none | [] => none) else if c.toNat < 32 ∨ 126 < c.toNat then none else quoteP (acc ++ [c]) t := by
  conv => lhs; unfold quoteP
theorem skipP_len (l : List UInt8) : ∀ (note : Bool) (line : Int), (skipP note line l).2.length ≤ l.length := by
  induction l with
  | nil => intro note line; simp [skipP]
  | cons c t ih =>
    intro note line
    unfold skipP
    split
    · have := ih false (line + 1); simp; omega
    · split
      · have := ih note line; simp; omega
      · split
        · have := ih true line; simp; omega
        · simp
theorem skipP_line (l : List UInt8) : ∀ (note : Bool) (line : Int), line ≤ (skipP note line l).1 ∧ (skipP note line l).1 + (skipP note line l).2.length ≤ line + l.length := by
  induction l with
  | nil => intro note line; simp [skipP]
  | cons c t ih =>
    intro note line
    unfold skipP
    split
    · have := ih false (line + 1); simp; omega
    · split
      · have := ih note line; simp; omega
      · split
        · have := ih true line; simp; omega
        · simp
theorem quoteP_len : ∀ (l acc : List UInt8) (x : List UInt8 × List UInt8), quoteP acc l = some x → x.2.length < l.length ∧ x.1.length ≤ acc.length + l.length
  | [], acc, x, h => by simp [quoteP] at h
  | c :: t, acc, x, h => by
    unfold quoteP at h
    split at h
    · injection h with h; subst h; simp
    · split at h
      · match t, h with
        | [], h => simp at h
        | d :: u, h =>
          simp only at h
          split at h
          · have := quoteP_len u (acc ++ [d]) x h
            simp at this ⊢; omega
          · simp at h
      · split at h
        · simp at h
        · have := quoteP_len t (acc ++ [c]) x h
          simp at this ⊢; omega
theorem drop_while_len (p : UInt8 → Bool) (l : List UInt8) : (l.dropWhile p).length ≤ l.length ∧ (l.takeWhile p).length ≤ l.length := by
  induction l with
  | nil => simp
  | cons c t ih => simp only [List.dropWhile_cons, List.takeWhile_cons]; split <;> simp <;> omega
theorem oneP_len (l : List UInt8) (k : Int) (t r : List UInt8) (h : oneP l = some (k, t, r)) : r.length < l.length ∧ t.length ≤ l.length := by
  cases l with
  | nil => simp [oneP] at h
  | cons c u =>
    simp only [oneP] at h
    repeat' (split at h)
    all_goals first | (simp at h; done) | skip
    · injection h with h; injection h with _ h; injection h with h1 h2; subst h1 h2; simp
    · injection h with h; injection h with _ h; injection h with h1 h2; subst h1 h2; simp
    · injection h with h; injection h with _ h; injection h with h1 h2; subst h1 h2; simp
    · rw [Option.map_eq_some_iff] at h
      obtain ⟨x, hx, h⟩ := h
      injection h with _ h; injection h with h1 h2; subst h1 h2
      have := quoteP_len u [] x hx
      simp at this ⊢; omega
    · rename_i hp
      injection h with h; injection h with _ h; injection h with h1 h2; subst h1 h2
      have h3 := drop_while_len plainB u
      rw [List.dropWhile_cons, List.takeWhile_cons, hp]
      simp; omega
end Go.Proofs.YtfpajgmdejlaeaaGreatDoor

/-
  The statements of a text, plainly: what a text's pieces are as_ statements; a line of notes ahead makes all lines one more. No program in sight.
-/
namespace Go.Proofs.YtfpajgmdejlaeaaGreatDoor
open Go.RowKit

/-- a statement: its key, its arguments, whether it has a block, the statements of that, its line -/
inductive Nd where
  | mk (key : ByteArray) (args : List ByteArray) (block : Bool) (list : List Nd) (line : Int)
def kindP (l : List Pc) : Int := match l with | x :: _ => x.kind | [] => 0
def lineP (last : Int) (l : List Pc) : Int := match l with | x :: _ => x.line | [] => last
/-- arguments, behind those that are there -/
def argsP : List ByteArray → List Pc → (Int × Int) ⊕ (List ByteArray × List Pc)
  | acc, [] => .inr (acc, [])
  | acc, x :: t => if x.kind = 1 ∨ x.kind = 2 then (if acc.length = 16 then .inl (15, x.line) else argsP (acc ++ [x.text]) t) else .inr (acc, x :: t)
def doneP (depth : Nat) (l : List Pc) : Bool := decide ((kindP l = 0 ∧ depth = 0) ∨ (kindP l = 4 ∧ 0 < depth))
/-- a statement, where what comes behind an opened block is read by 'go' -/
def oneP_t (last : Int) (go : List Pc → (Int × Int) ⊕ (List Nd × List Pc)) (depth : Nat) : List Pc → (Int × Int) ⊕ (Nd × List Pc)
  | [] => .inl (3, last)
  | x :: t =>
    if x.kind ≠ 1 then .inl (3, x.line)
    else match argsP [] t with
      | .inl e => .inl e
      | .inr (as_, t2) =>
        if kindP t2 = 5 then .inr (.mk x.text as_ false [] x.line, t2.tail)
        else if kindP t2 = 3 then
          (if depth = 4 then .inl (15, lineP last t2)
          else match go t2.tail with
            | .inl e => .inl e
            | .inr (l, t3) => .inr (.mk x.text as_ true l x.line, t3.tail))
        else .inl (3, lineP last t2)
/-- statements, up to the end of a block, or of all, behind those that are there -/
def listP (last : Int) : Nat → Nat → List Nd → List Pc → (Int × Int) ⊕ (List Nd × List Pc)
  | 0, _, out, l => .inr (out, l)
  | f + 1, depth, out, l =>
    if doneP depth l then .inr (out, l)
    else match oneP_t last (listP last f (depth + 1) []) depth l with
      | .inl e => .inl e
      | .inr (x, t) => listP last f depth (out ++ [x]) t
def lastP (l : List Pc) : Int := match l.getLast? with | some x => x.line | none => 0
def treeP (s : List UInt8) : (Int × Int) ⊕ List Nd := match lexP s with
  | .inl e => .inl e
  | .inr l => match listP (lastP l) (l.length + 1) 0 [] l with
    | .inl e => .inl e
    | .inr (out, _) => .inr out

theorem argsP_len : ∀ (l : List Pc) (acc as_ : List ByteArray) (t : List Pc), argsP acc l = .inr (as_, t) → t.length ≤ l.length
  | [], acc, as_, t, h => by rw [argsP] at h; injection h with h; injection h with _ h; subst h; exact Nat.le_refl _
  | x :: l, acc, as_, t, h => by
    rw [argsP] at h
    split at h
    · split at h
      · cases h
      · have := argsP_len l _ _ _ h
        rw [List.length_cons]; omega
    · injection h with h; injection h with _ h; subst h; exact Nat.le_refl _
theorem argsP_many : ∀ (l : List Pc) (acc as_ : List ByteArray) (t : List Pc), acc.length ≤ 16 → argsP acc l = .inr (as_, t) → as_.length ≤ 16
  | [], acc, as_, t, h0, h => by rw [argsP] at h; injection h with h; injection h with h _; subst h; exact h0
  | x :: l, acc, as_, t, h0, h => by
    rw [argsP] at h
    split at h
    · split at h
      · cases h
      · exact argsP_many l _ _ _ (by rw [List.length_append]; simp only [List.length_cons, List.length_nil]; omega) h
    · injection h with h; injection h with h _; subst h; exact h0
theorem tail_len {α : Type} (l : List α) : l.tail.length ≤ l.length := by cases l <;> simp
/-- what a statement leaves is shorter, if what 'go' leaves is not longer -/
theorem oneP_t_len {last : Int} {go : List Pc → (Int × Int) ⊕ (List Nd × List Pc)} {depth : Nat} {l : List Pc} {x : Nd} {t : List Pc} (hg : ∀ a b c, go a = .inr (b, c) → c.length ≤ a.length) (h : oneP_t last go depth l = .inr (x, t)) : t.length < l.length := by
  cases l with
  | nil => cases h
  | cons y l =>
    rw [oneP_t] at h
    split at h
    · cases h
    · cases ha : argsP [] l with
      | inl e => rw [ha] at h; cases h
      | inr p =>
        obtain ⟨as_, t2⟩ := p
        rw [ha] at h
        have h1 := argsP_len _ _ _ _ ha
        have h2 := tail_len t2
        rw [List.length_cons]
        simp only at h
        split at h
        · injection h with h; injection h with _ h; subst h; omega
        · split at h
          · split at h
            · cases h
            · cases hq : go t2.tail with
              | inl e => rw [hq] at h; cases h
              | inr p =>
                obtain ⟨b, t3⟩ := p
                rw [hq] at h
                have h3 := hg _ _ _ hq
                have h4 := tail_len t3
                simp only at h
                injection h with h; injection h with _ h; subst h; omega
          · cases h
theorem listP_len (last : Int) : ∀ (f depth : Nat) (out : List Nd) (l : List Pc) (xs : List Nd) (t : List Pc), listP last f depth out l = .inr (xs, t) → t.length ≤ l.length
  | 0, depth, out, l, xs, t, h => by rw [listP] at h; injection h with h; injection h with _ h; subst h; exact Nat.le_refl _
  | f + 1, depth, out, l, xs, t, h => by
    rw [listP] at h
    split at h
    · injection h with h; injection h with _ h; subst h; exact Nat.le_refl _
    · cases ho : oneP_t last (listP last f (depth + 1) []) depth l with
      | inl e => rw [ho] at h; cases h
      | inr p =>
        obtain ⟨x, t2⟩ := p
        rw [ho] at h
        have h1 := oneP_t_len (fun a b c hh => listP_len last f _ _ _ _ _ hh) ho
        have h2 := listP_len last f _ _ _ _ _ h
        omega
/-- enough is enough -/
theorem oneP_t_congr {last : Int} {go go' : List Pc → (Int × Int) ⊕ (List Nd × List Pc)} {depth : Nat} {l : List Pc} (h : ∀ t, t.length < l.length → go t = go' t) : oneP_t last go depth l = oneP_t last go' depth l := by
  cases l with
  | nil => rfl
  | cons y l =>
    rw [oneP_t, oneP_t]
    cases ha : argsP [] l with
    | inl e => rfl
    | inr p =>
      obtain ⟨as_, t2⟩ := p
      have h1 := argsP_len _ _ _ _ ha
      have h2 := tail_len t2
      simp only
      rw [h t2.tail (by rw [List.length_cons]; omega)]
theorem listP_fuel (last : Int) : ∀ (n f g depth : Nat) (out : List Nd) (l : List Pc), l.length ≤ n → l.length + 1 ≤ f → l.length + 1 ≤ g → listP last f depth out l = listP last g depth out l
  | n, 0, g, depth, out, l, hn, hf, hg => by omega
  | n, f + 1, 0, depth, out, l, hn, hf, hg => by omega
  | 0, f + 1, g + 1, depth, out, l, hn, hf, hg => by
    obtain rfl := List.eq_nil_of_length_eq_zero (Nat.le_zero.1 hn)
    rw [listP, listP]
    rfl
  | n + 1, f + 1, g + 1, depth, out, l, hn, hf, hg => by
    rw [listP, listP]
    split
    · rfl
    · have hc : oneP_t last (listP last f (depth + 1) []) depth l = oneP_t last (listP last g (depth + 1) []) depth l := oneP_t_congr fun t ht => listP_fuel last n f g _ _ _ (by omega) (by omega) (by omega)
      rw [hc]
      cases ho : oneP_t last (listP last g (depth + 1) []) depth l with
      | inl e => rfl
      | inr p =>
        obtain ⟨x, t2⟩ := p
        have h1 := oneP_t_len (fun a b c hh => listP_len last g _ _ _ _ _ hh) ho
        exact listP_fuel last n f g _ _ _ (by omega) (by omega) (by omega)

/-! one line further on -/
mutual
/-- the same, but for lines -/
def sameN : Nd → Nd → Prop
  | .mk k a b l _, .mk k' a' b' l' _ => k = k' ∧ a = a' ∧ b = b' ∧ sameL l l'
def sameL : List Nd → List Nd → Prop
  | [], [] => True
  | x :: xs, y :: ys => sameN x y ∧ sameL xs ys
  | _, _ => False
end
theorem sameL_snoc : ∀ (xs ys : List Nd) (x y : Nd), sameL xs ys → sameN x y → sameL (xs ++ [x]) (ys ++ [y])
  | [], [], x, y, _, h => by simp [sameL, h]
  | a :: xs, b :: ys, x, y, h, hx => by
    rw [sameL] at h
    rw [List.cons_append, List.cons_append, sameL]
    exact ⟨h.1, sameL_snoc xs ys x y h.2 hx⟩
  | [], b :: ys, x, y, h, _ => by rw [sameL] at h; exact h.elim; simp; simp
  | a :: xs, [], x, y, h, _ => by rw [sameL] at h; exact h.elim; simp; simp
theorem sameL_len : ∀ (xs ys : List Nd), sameL xs ys → xs.length = ys.length
  | [], [], _ => rfl
  | a :: xs, b :: ys, h => by rw [sameL] at h; rw [List.length_cons, List.length_cons, sameL_len xs ys h.2]
  | [], b :: ys, h => by rw [sameL] at h; exact h.elim; simp; simp
  | a :: xs, [], h => by rw [sameL] at h; exact h.elim; simp; simp
def shP (x : Pc) : Pc := ⟨x.kind, x.text, x.line + 1⟩
theorem kindP_sh (l : List Pc) : kindP (l.map shP) = kindP l := by cases l <;> rfl
theorem lineP_sh (last : Int) (l : List Pc) : lineP (last + 1) (l.map shP) = lineP last l + 1 := by cases l <;> rfl
theorem argsP_sh : ∀ (l : List Pc) (acc : List ByteArray), argsP acc (l.map shP) = match argsP acc l with | .inl e => .inl (e.1, e.2 + 1) | .inr p => .inr (p.1, p.2.map shP)
  | [], acc => by rw [List.map_nil, argsP]; rfl
  | x :: l, acc => by
    rw [List.map_cons, argsP, argsP]
    by_cases h : x.kind = 1 ∨ x.kind = 2
    · rw [if_pos h, if_pos (show (shP x).kind = 1 ∨ (shP x).kind = 2 from h)]
      by_cases h2 : acc.length = 16
      · rw [if_pos h2, if_pos h2]; rfl
      · rw [if_neg h2, if_neg h2]
        exact argsP_sh l _
    · rw [if_neg h, if_neg (show ¬ ((shP x).kind = 1 ∨ (shP x).kind = 2) from h)]
      rfl
/-- one line further on, and the same -/
def Far {α : Type} (R : α → α → Prop) (a b : (Int × Int) ⊕ (α × List Pc)) : Prop := match a, b with
  | .inl e, .inl e' => e' = (e.1, e.2 + 1)
  | .inr p, .inr q => R p.1 q.1 ∧ q.2 = p.2.map shP
  | _, _ => False
theorem map_tail (l : List Pc) : (l.map shP).tail = l.tail.map shP := by cases l <;> rfl
theorem oneP_sh {last : Int} {go go' : List Pc → (Int × Int) ⊕ (List Nd × List Pc)} {depth : Nat} {l : List Pc} (hg : ∀ t, Far sameL (go t) (go' (t.map shP))) : Far sameN (oneP_t last go depth l) (oneP_t (last + 1) go' depth (l.map shP)) := by
  cases l with
  | nil => rfl
  | cons x l =>
    rw [List.map_cons, oneP_t, oneP_t]
    by_cases h1 : x.kind = 1
    · rw [if_neg (by simp [h1]), if_neg (by simp [shP, h1]), argsP_sh]
      cases ha : argsP [] l with
      | inl e => rfl
      | inr p =>
        obtain ⟨as_, t2⟩ := p
        simp only
        rw [kindP_sh, lineP_sh]
        by_cases h5 : kindP t2 = 5
        · rw [if_pos h5, if_pos h5]
          exact ⟨by simp [sameN, sameL, shP], map_tail t2⟩
        · rw [if_neg h5, if_neg h5]
          by_cases h3 : kindP t2 = 3
          · rw [if_pos h3, if_pos h3]
            by_cases h4 : depth = 4
            · rw [if_pos h4, if_pos h4]; rfl
            · rw [if_neg h4, if_neg h4, map_tail]
              have := hg t2.tail
              cases hq : go t2.tail with
              | inl e =>
                rw [hq] at this
                cases hq' : go' (t2.tail.map shP) with
                | inl e' => rw [hq'] at this; exact this
                | inr p' => rw [hq'] at this; exact this.elim
              | inr p =>
                rw [hq] at this
                cases hq' : go' (t2.tail.map shP) with
                | inl e' => rw [hq'] at this; exact this.elim
                | inr p' =>
                  rw [hq'] at this
                  obtain ⟨q1, q2⟩ := p
                  obtain ⟨r1, r2⟩ := p'
                  simp only [Far] at this ⊢
                  exact ⟨by simp [sameN, shP, this.1], by rw [this.2, map_tail]⟩
          · rw [if_neg h3, if_neg h3]; rfl
    · rw [if_pos h1, if_pos (show (shP x).kind ≠ 1 from h1)]; rfl
theorem doneP_sh (depth : Nat) (l : List Pc) : doneP depth (l.map shP) = doneP depth l := by unfold doneP; rw [kindP_sh]
theorem listP_sh (last : Int) : ∀ (f depth : Nat) (out out' : List Nd) (l : List Pc), sameL out out' → Far sameL (listP last f depth out l) (listP (last + 1) f depth out' (l.map shP))
  | 0, depth, out, out', l, h => ⟨h, rfl⟩
  | f + 1, depth, out, out', l, h => by
    rw [listP, listP, doneP_sh]
    by_cases hd : doneP depth l = true
    · rw [if_pos hd, if_pos hd]; exact ⟨h, rfl⟩
    · rw [if_neg hd, if_neg hd]
      have := oneP_sh (last := last) (depth := depth) (l := l) (go := listP last f (depth + 1) []) (go' := listP (last + 1) f (depth + 1) []) (fun t => listP_sh last f (depth + 1) [] [] t (by simp [sameL]))
      cases hq : oneP_t last (listP last f (depth + 1) []) depth l with
      | inl e =>
        rw [hq] at this
        cases hq' : oneP_t (last + 1) (listP (last + 1) f (depth + 1) []) depth (l.map shP) with
        | inl e' => rw [hq'] at this; exact this
        | inr p' => rw [hq'] at this; exact this.elim
      | inr p =>
        rw [hq] at this
        cases hq' : oneP_t (last + 1) (listP (last + 1) f (depth + 1) []) depth (l.map shP) with
        | inl e' => rw [hq'] at this; exact this.elim
        | inr p' =>
          rw [hq'] at this
          obtain ⟨q1, q2⟩ := p
          obtain ⟨r1, r2⟩ := p'
          simp only [Far] at this ⊢
          obtain ⟨h1, rfl⟩ := this
          exact listP_sh last f depth _ _ q2 (sameL_snoc _ _ _ _ h h1)
/-- pieces, one line further on -/
theorem skipP_sh (l : List UInt8) : ∀ (note : Bool) (ln : Int), skipP note (ln + 1) l = ((skipP note ln l).1 + 1, (skipP note ln l).2) := by
  induction l with
  | nil => intro note ln; rw [skipP, skipP]
  | cons c t ih =>
    intro note ln
    rw [skipP, skipP]
    split
    · exact ih false (ln + 1)
    · split
      · exact ih note ln
      · split
        · exact ih true ln
        · rfl
theorem readP_sh : ∀ (f : Nat) (ln : Int) (l : List UInt8) (out : List Pc), readP f (ln + 1) l (out.map shP) = match readP f ln l out with | .inl e => .inl (e.1, e.2 + 1) | .inr xs => .inr (xs.map shP)
  | 0, ln, l, out => rfl
  | f + 1, ln, l, out => by
    rw [readP, readP, skipP_sh]
    obtain ⟨q, hq⟩ : ∃ q, q = skipP false ln l := ⟨_, rfl⟩
    rw [← hq]
    obtain ⟨q1, q2⟩ := q
    simp only
    by_cases h1 : q2 = []
    · rw [if_pos h1, if_pos h1]
    · rw [if_neg h1, if_neg h1, List.length_map]
      by_cases h2 : out.length = 8192
      · rw [if_pos h2, if_pos h2]
      · rw [if_neg h2, if_neg h2]
        cases ho : oneP q2 with
        | none => rfl
        | some p =>
          obtain ⟨k, t, r⟩ := p
          simp only
          have := readP_sh f q1 r (out ++ [⟨k, str t, q1⟩])
          rw [List.map_append] at this
          exact this
theorem lastP_sh (l : List Pc) (h : l ≠ []) : lastP (l.map shP) = lastP l + 1 := by
  unfold lastP
  rw [List.getLast?_map]
  obtain ⟨x, hx⟩ : ∃ x, l.getLast? = some x := by
    cases hl : l.getLast? with
    | none => exact absurd (List.getLast?_eq_none_iff.1 hl) h
    | some x => exact ⟨x, rfl⟩
  rw [hx]
  rfl
end Go.Proofs.YtfpajgmdejlaeaaGreatDoor

/-
  Numbers in decimal, as lists of bytes. No program in sight.
-/
namespace Go.Proofs.YtfpajgmdejlaeaaGreatDoor
open Go.RowKit

/-- a digit's sign -/
def digc (n : Nat) : UInt8 := UInt8.ofNat (48 + n)
theorem digc_nat {n : Nat} (h : n < 10) : (digc n).toNat = 48 + n := by unfold digc; rw [UInt8.toNat_ofNat_of_lt' (by show 48 + n < 256; omega)]
/-- a number's digits -/
def decN (n : Nat) : List UInt8 := if n < 10 then [digc n] else decN (n / 10) ++ [digc (n % 10)]
theorem decN_small {n : Nat} (h : n < 10) : decN n = [digc n] := by rw [decN, if_pos h]
theorem decN_big {n : Nat} (h : 10 ≤ n) : decN n = decN (n / 10) ++ [digc (n % 10)] := by rw [decN, if_neg (by omega)]
/-- a number with its sign -/
def dec (n : Int) : List UInt8 := if n < 0 then 45 :: decN (-n).toNat else decN n.toNat
theorem dec_neg {n : Int} (h : n < 0) : dec n = 45 :: decN (-n).toNat := by rw [dec, if_pos h]
theorem dec_pos {n : Int} (h : 0 ≤ n) : dec n = decN n.toNat := by rw [dec, if_neg (by omega)]
theorem decN_pos (n : Nat) : 0 < (decN n).length := by rw [decN]; split <;> simp
theorem decN_len (n k : Nat) : n < 10 ^ (k + 1) → (decN n).length ≤ k + 1 := by
  induction k generalizing n with
  | zero => intro h; rw [decN_small (by simpa using h)]; simp
  | succ k ih =>
    intro h
    by_cases h1 : n < 10
    · rw [decN_small h1]; simp
    · rw [decN_big (by omega), List.length_append]
      have := ih (n / 10) (by rw [Nat.pow_succ] at h; omega)
      simp; omega
theorem decN_le {n : Nat} (h : n ≤ 9223372036854775808) : (decN n).length ≤ 19 := decN_len n 18 (by omega)
theorem dec_le {n : Int} (h1 : -9223372036854775808 ≤ n) (h2 : n ≤ 9223372036854775807) : (dec n).length ≤ 20 := by
  unfold dec; split
  · have := decN_le (n := (-n).toNat) (by omega); simp; omega
  · have := decN_le (n := n.toNat) (by omega); omega
theorem dec_ne (n : Int) : dec n ≠ [] := by
  unfold dec; split
  · simp
  · intro h; have := decN_pos n.toNat; rw [h] at this; simp at this
/-- digits are digits -/
theorem decN_dig (n : Nat) : ∀ c ∈ decN n, 48 ≤ c.toNat ∧ c.toNat ≤ 57 := by
  induction n using Nat.strongRecOn with
  | _ n ih =>
    intro c hc
    by_cases h : n < 10
    · rw [decN_small h] at hc
      rw [List.mem_singleton] at hc; subst hc
      rw [digc_nat h]; omega
    · rw [decN_big (by omega)] at hc
      rcases List.mem_append.1 hc with hc | hc
      · exact ih (n / 10) (by omega) c hc
      · rw [List.mem_singleton] at hc; subst hc
        rw [digc_nat (by omega)]; omega
theorem dec_sign (n : Int) : ∀ c ∈ dec n, 45 ≤ c.toNat ∧ c.toNat ≤ 57 := by
  intro c hc
  unfold dec at hc
  split at hc
  · rcases List.mem_cons.1 hc with rfl | hc
    · decide
    · have := decN_dig _ c hc; omega
  · have := decN_dig _ c hc; omega

/-- the last digit put ahead of what was put: a round of the loop that fills a row from its end -/
theorem dec_round (N at_ : Nat) (L : List UInt8) (h1 : at_ ≤ L.length) (h0 : 0 < at_) :
    (L.set (at_ - 1) (digc (N % 10))).drop (at_ - 1) = digc (N % 10) :: L.drop at_ := by
  obtain ⟨k, rfl⟩ : ∃ k, at_ = k + 1 := ⟨at_ - 1, by omega⟩
  simp only [Nat.add_sub_cancel]
  rw [List.drop_eq_getElem_cons (by simp; omega)]
  simp [List.drop_set_of_lt]
theorem tmod_neg (N : Nat) : (-(N : Int)).tmod 10 = -((N % 10 : Nat) : Int) := by
  rw [Int.neg_tmod, Int.tmod_eq_emod_of_nonneg (by omega)]; simp
theorem tdiv_neg (N : Nat) : (-(N : Int)).tdiv 10 = -((N / 10 : Nat) : Int) := by
  rw [Int.neg_tdiv, Int.tdiv_eq_ediv_of_nonneg (by omega)]; simp
theorem bv_set (L : List UInt8) (i : Nat) (c : UInt8) : (bv L).setIfInBounds i (.int .u8 c.toNat) = bv (L.set i c) := by
  unfold bv
  apply Array.ext'
  simp [List.map_set]
end Go.Proofs.YtfpajgmdejlaeaaGreatDoor

/-
  digit.small and digit.Put, and the document's Put: a number in decimal.
-/
namespace Go.Proofs.YtfpajgmdejlaeaaGreatDoor
open Go.RowKit

/-- a scope with one label to which the run jumps back: what follows the label is walked once -/
theorem wp_scope_both {P : Program} {a : Act} {w : World} {Q : Exit → Act → World → Prop} {c rest : Code} (l : Nat) (J : Act → World → Prop) (μ : Act → World → Nat) (hf : findLabel c l = some (.seq .skip rest))
    (pass : ∀ a w, J a w → rest.wp P (Exit.jump l (fun a' w' => J a' w' ∧ μ a' w' < μ a w) Q) a w)
    (first : Hid (∀ a w, J a w → rest.wp P (Exit.jump l J Q) a w) → c.wp P (Exit.jump l J Q) a w) : (Code.scope c).wp P Q a w :=
  wp_scope_jumps l J μ hf (first fun a w h => wp_mono (pass a w h) fun e a' w' hq => by
    cases e <;> first | exact hq | exact ⟨hq.1, hq.2.1⟩) fun a w h => wp_seq (wp_skip (pass a w h))

theorem add_plain' (b off k : Nat) : (⟨b, off, none⟩ : Addr).add k = ⟨b, off + k, none⟩ := by
  unfold Addr.add
  split <;> simp_all
/-- a slice of an array of one-cell values, from l on -/
theorem arr_from (P : Program) (w : World) (t : TypeId) (g n : Nat) (l : Int) {e : TypeId} (hu : P.underlying t = some (.array n e)) (hs : (P.info? e).map (·.size) = some 1) (h0 : 0 ≤ l) (h1 : l < n) :
    (Instr.sliceAt t (.pointer (some ⟨g, 0, none⟩)) (some (.int .i64 l)) none none).run P w = .ok (.slice (some ⟨g, l.toNat, none⟩) (n - l.toNat) (n - l.toNat)) w := by
  have hl : P.arrayLen t = n := by simp [Program.arrayLen, hu]
  have he : P.elem t = e := by simp [Program.elem, hu]
  cases hq : P.info? e with
  | none => simp [hq] at hs
  | some i =>
    have hi : i.size = 1 := by simpa [hq] using hs
    rw [run_sliceAt_array_l w t ⟨g, 0, none⟩ (by rw [hl, he]; exact hu) .i64 l h0 (by rw [hl]; omega), he, hl]
    simp [sizeOf, typeInfo, hq, hi, slicedAt, add_plain']
    omega

theorem append_str' (a b : ByteArray) : (a ++ b).data.toList = a.data.toList ++ b.data.toList := by simp

def SmallJ (w : World) (g : Nat) (R : List UInt8) (a : Act) (w' : World) : Prop :=
  ∃ (N k : Nat) (L : List UInt8) (u0 u4 u1 u2 u5 u6 u7 u8 u9 u10 u11 u12 u13 u14 u15 u16 u17 u18 u19 : Value),
    a = ⟨#[u0, u1, u2, .pointer (some ⟨g, 0, none⟩), u4, u5, u6, u7, u8, u9, u10, u11, u12, u13, u14, u15, u16, u17, u18, u19], []⟩ ∧ u0 = .int .i64 (-(N : Int)) ∧ u4 = .int .i64 k ∧
    N ≤ 9223372036854775808 ∧ 1 ≤ k ∧ k ≤ 20 ∧ L.length = 20 ∧ N < 10 ^ k ∧ decN N ++ L.drop k = R ∧ Blk w' g 163 (bv L) ∧ Keeps (fun _ => False) w w' ∧ w.heap.size ≤ g
def SmallM (a : Act) (_w : World) : Nat := (intOf (a.tmps.getD 4 undef)).toNat

set_option maxRecDepth 100000 in
set_option maxHeartbeats 1000000 in
theorem small_any (w : World) (N : Nat) (hN : N ≤ 9223372036854775808) :
    Calls Tryz.prog 56 #[.int .i64 (-(N : Int))] w fun e w' => e = .returned (.string (str (decN N))) ∧ Keeps (fun _ => False) w w' := by
  go_enter Tryz.func56, Tryz.ntmps56
  go_wp2_with fail
  obtain ⟨g0, hg0⟩ : ∃ g0, g0 = w.heap.size := ⟨_, rfl⟩
  have HG := Lib.hid hg0
  clear hg0
  refine wp_scope_both 0 (SmallJ w g0 (decN N)) SmallM rfl ?pass ?first
  case pass =>
    rintro a w1 ⟨M, k, L, u0, u4, u1, u2, u5, u6, u7, u8, u9, u10, u11, u12, u13, u14, u15, u16, u17, u18, u19, rfl, rfl, rfl, hM, hk1, hk2, hL, hp, hR, hB, hK, hg⟩
    have hr := dec_round M k L (by omega) (by omega)
    have h1 := tmod_neg M
    have h2 := tdiv_neg M
    obtain ⟨c0, hc⟩ : ∃ c0, w1.cell? ⟨g0, k - 1, none⟩ = some c0 := ⟨_, bv_cell hB (k - 1) L[k - 1] (List.getElem?_eq_getElem (by omega))⟩
    have hf := hB.frozen (k - 1)
    have hp1 : 10 ^ k = 10 ^ (k - 1) * 10 := by rw [← Nat.pow_succ]; congr 1; omega
    have hB2 := hB.set_ (k - 1) (.int .u8 ((digc (M % 10)).toNat : Nat))
    rw [bv_set] at hB2
    have he : (((digc (M % 10)).toNat : Nat) : Int) = 48 + (M : Int) % 10 := by
      rw [digc_nat (by omega)]; omega
    rw [he] at hB2
    have hK2 := hK.setCell (p := ⟨g0, k - 1, none⟩) (fun h => absurd h (by show ¬ g0 < w.heap.size; omega)) (.int .u8 (48 + (M : Int) % 10))
    have hrest : (M / 10 ≠ 0) → 1 ≤ k - 1 ∧ M / 10 < 10 ^ (k - 1) ∧ decN (M / 10) ++ (L.set (k - 1) (digc (M % 10))).drop (k - 1) = decN N := fun h => by
      have h4 : M / 10 < 10 ^ (k - 1) := by omega
      refine ⟨?_, h4, ?_⟩
      · rcases Nat.eq_zero_or_pos (k - 1) with h5 | h5
        · rw [h5] at h4; simp at h4; omega
        · exact h5
      · rw [hr, ← hR, decN_big (n := M) (by omega)]; simp
    have hlast : M / 10 = 0 → (L.set (k - 1) (digc (M % 10))).drop (k - 1) = decN N := fun h => by
      rw [hr, ← hR, decN_small (n := M) (by omega)]; simp [Nat.mod_eq_of_lt (show M < 10 by omega)]
    have HR := Lib.hid hrest
    have HL := Lib.hid hlast
    have H20 : Hid ((L.set (k - 1) (digc (M % 10))).length = 20) := Lib.hid (by simp [hL])
    have HB := Lib.hid hB2
    clear hr hp1 hB2 he hrest hlast hp hR hL hB
    by_cases hz : M / 10 = 0
    · have ht : (-((M : Int) / 10) != 0) = false := by simp; omega
      have hs := fun W => arr_from Tryz.prog W 163 g0 20 (k - 1 : Int) Tryz.underlying163 (by kernel_rfl) (by omega) (by omega)
      rw [show ((k : Int) - 1).toNat = k - 1 by omega] at hs
      have hcs : ((L.set (k - 1) (digc (M % 10))).drop (k - 1)).length = 20 - (k - 1) := by rw [List.length_drop, H20.out]
      have hcs2 := bv_at HB.out (k - 1) ((L.set (k - 1) (digc (M % 10))).drop (k - 1)) (fun j c hj => by rw [List.getElem?_drop] at hj; exact hj)
      rw [HL.out hz] at hcs hcs2
      have HC := Lib.hid hcs
      have HC2 := Lib.hid hcs2
      clear hcs hcs2
      go_wp2_with (with_reducible show wpList _ _ _ (⟨some 19, _, _, _, _, _⟩ :: _) _ _; go_must (refine wpList_string_bytes _ rfl (.tmp 18) _ _ rfl 5 Tryz.underlying90 Tryz.underlying5 Tryz.underlying9 g0 (k - 1) (20 - (k - 1)) (20 - (k - 1)) rfl (decN N) HC.out (fun j v hj => by have := HC2.out j v hj; rw [add_plain'] at this; exact this) ?_))
      simp only [Exit.jump]
      go_ret
      exact ⟨rfl, hK2⟩
    · have ht : (-((M : Int) / 10) != 0) = true := by simp; omega
      go_wp2_with fail
      go_step3
      have hq := HR.out hz
      refine And.intro rfl (And.intro ⟨M / 10, k - 1, _, _, _, _, _, _, _, _, _, _, _, _, _, _, _, _, _, _, _, _, rfl, int_eq (by omega), int_eq (by omega), by omega, hq.1, by omega, H20.out, hq.2.1, hq.2.2, HB.out, hK2, hg⟩ ?_)
      simp [SmallM, intOf]
      omega
  case first =>
    intro hpass
    go_wp2_with fail
    obtain rfl := HG.out
    refine wp_label ?_
    rename_i hk
    refine hk _ _ (hpass.out _ _ ⟨N, 20, List.replicate 20 0, _, _, _, _, _, _, _, _, _, _, _, _, _, _, _, _, _, _, _, rfl, rfl, rfl, hN, by omega, by omega, by simp, by omega, by simp, ?_, (Keeps.refl _ _).alloc _, by omega⟩)
    exact Blk.new _ _ _

set_option maxRecDepth 100000 in
theorem put_any (w : World) (n : Int) (h1 : -9223372036854775808 ≤ n) (h2 : n ≤ 9223372036854775807) :
    Calls Tryz.prog 23 #[.int .i64 n] w fun e w' => e = .returned (.string (str (dec n))) ∧ Keeps (fun _ => False) w w' := by
  by_cases h : n < 0
  · obtain ⟨N, rfl⟩ : ∃ N : Nat, n = -(N : Int) := ⟨(-n).toNat, by omega⟩
    have hd := dec_neg h
    rw [show (- -(N : Int)).toNat = N by omega] at hd
    have HD := Lib.hid hd
    clear hd
    have hsz : ((str (decN N)).size : Int) ≤ 19 := by rw [str_size]; have := decN_le (n := N) (by omega); omega
    go_enter Tryz.func23, Tryz.ntmps23
    go_wp2_with (go_at_call 56; refine (small_any _ N (by omega)).mono ?_; rintro e w2 ⟨rfl, k2⟩)
    go_ret
    exact ⟨by rw [HD.out]; exact congrArg (fun s => Ending.returned (Value.string s)) (ba_ext (by rw [append_str', str_list, str_list]; rfl)), k2⟩
  · obtain ⟨N, rfl⟩ : ∃ N : Nat, n = (N : Int) := ⟨n.toNat, by omega⟩
    have hd := dec_pos (n := (N : Int)) (by omega)
    rw [Int.toNat_natCast] at hd
    have HD := Lib.hid hd
    clear hd
    go_enter Tryz.func23, Tryz.ntmps23
    go_wp2_with (go_at_call 56; refine (small_any _ N (by omega)).mono ?_; rintro e w2 ⟨rfl, k2⟩)
    go_ret
    exact ⟨by rw [HD.out]; rfl, k2⟩

theorem hex_at : ∀ n : Nat, n < 10 → ({ data := #[48, 49, 50, 51, 52, 53, 54, 55, 56, 57, 97, 98, 99, 100, 101, 102] } : ByteArray).extract n (n + 1) = str [digc n]
  | 0, _ => rfl | 1, _ => rfl | 2, _ => rfl | 3, _ => rfl | 4, _ => rfl | 5, _ => rfl | 6, _ => rfl | 7, _ => rfl | 8, _ => rfl | 9, _ => rfl
  | n + 10, h => by omega
/-- the document's digit -/
theorem rdigit_any (w : World) (n : Int) (h0 : 0 ≤ n) (h1 : n < 10) :
    Calls Tryz.prog 61 #[.int .i64 n] w fun e w' => e = .returned (.string (str [digc n.toNat])) ∧ Keeps (fun _ => False) w w' := by
  have hh := hex_at n.toNat (by omega)
  rw [show n.toNat + 1 = (n + 1).toNat by omega] at hh
  have HH := Lib.hid hh
  clear hh
  go_enter Tryz.func61, Tryz.ntmps61
  go_wp2
  go_ret
  exact ⟨congrArg (fun s => Ending.returned (Value.string s)) HH.out, Keeps.refl _ _⟩

theorem dec_last (n : Int) (h : n < -9 ∨ 9 < n) (r : Int) (hr : r = (n.tmod 10).natAbs) : dec n = dec (n.tdiv 10) ++ [digc r.toNat] := by
  rcases h with h | h
  · obtain ⟨N, rfl⟩ : ∃ N : Nat, n = -(N : Int) := ⟨(-n).toNat, by omega⟩
    rw [tmod_neg] at hr
    rw [tdiv_neg, dec_neg (by omega), dec_neg (by omega), show (-(-(N : Int))).toNat = N by omega, show (-(-((N / 10 : Nat) : Int))).toNat = N / 10 by omega, decN_big (by omega)]
    rw [show r.toNat = N % 10 by omega]; simp
  · obtain ⟨N, rfl⟩ : ∃ N : Nat, n = (N : Int) := ⟨n.toNat, by omega⟩
    rw [show ((10 : Int)) = ((10 : Nat) : Int) from rfl, tmod_nat] at hr
    rw [Int.tdiv_eq_ediv_of_nonneg (by omega), dec_pos (by omega), dec_pos (by omega), show ((N : Int)).toNat = N by omega, show ((N : Int) / 10).toNat = N / 10 by omega, decN_big (by omega)]
    rw [show r.toNat = N % 10 by omega]

set_option maxRecDepth 100000 in
/-- the document's Put -/
theorem rput_any : ∀ (k : Nat) (w : World) (n : Int), n.natAbs ≤ k → -9223372036854775808 ≤ n → n ≤ 9223372036854775807 →
    Calls Tryz.prog 35 #[.int .i64 n] w fun e w' => e = .returned (.string (str (dec n))) ∧ Keeps (fun _ => False) w w' := by
  intro k
  induction k with
  | zero =>
    intro w n hk h1 h2
    obtain rfl : n = 0 := by omega
    go_enter Tryz.func35, Tryz.ntmps35
    go_wp2_with (go_at_call 61; refine (rdigit_any _ _ (by omega) (by omega)).mono ?_; rintro e w2 ⟨rfl, k2⟩)
    go_ret
    exact ⟨congrArg (fun s => Ending.returned (Value.string s)) (ba_ext (by rw [dec_pos (by omega), decN_small (by omega)]; rfl)), k2⟩
  | succ k ih =>
    intro w n hk h1 h2
    by_cases ha : 0 ≤ n ∧ n < 10
    · obtain ⟨ha1, ha2⟩ := ha
      have hd := dec_pos ha1
      rw [decN_small (by omega)] at hd
      have HD := Lib.hid hd
      clear hd ih
      go_enter Tryz.func35, Tryz.ntmps35
      go_wp2_with (go_at_call 61; refine (rdigit_any _ _ (by omega) (by omega)).mono ?_; rintro e w2 ⟨rfl, k2⟩)
      go_ret
      exact ⟨by rw [HD.out]; rfl, k2⟩
    · by_cases hb : n < 0 ∧ -10 < n
      · obtain ⟨hb1, hb2⟩ := hb
        have hd := dec_neg hb1
        rw [decN_small (by omega)] at hd
        have HD := Lib.hid hd
        have hn0 : decide (0 ≤ n) = false := by simp; omega
        clear hd ih ha
        go_enter Tryz.func35, Tryz.ntmps35
        go_wp2_with (go_at_call 61; refine (rdigit_any _ _ (by omega) (by omega)).mono ?_; rintro e w2 ⟨rfl, k2⟩)
        go_ret
        exact ⟨by rw [HD.out]; exact congrArg (fun s => Ending.returned (Value.string s)) (ba_ext (by rw [append_str', str_list, str_list]; rfl)), k2⟩
      · have hc : n < -9 ∨ 9 < n := by omega
        have hd : ∀ r, r = ((n.tmod 10).natAbs : Int) → dec n = dec (n.tdiv 10) ++ [digc r.toNat] := fun r => dec_last n hc r
        have hq : (n.tdiv 10).natAbs ≤ k := by rw [Int.natAbs_tdiv]; show n.natAbs / 10 ≤ k; omega
        have hq1 : -9223372036854775808 ≤ n.tdiv 10 ∧ n.tdiv 10 ≤ 9223372036854775807 := by
          rcases hc with hc | hc
          · obtain ⟨N, rfl⟩ : ∃ N : Nat, n = -(N : Int) := ⟨(-n).toNat, by omega⟩
            rw [tdiv_neg]; omega
          · rw [Int.tdiv_eq_ediv_of_nonneg (by omega)]; omega
        have hm : -10 < n.tmod 10 ∧ n.tmod 10 < 10 := by
          rcases hc with hc | hc
          · obtain ⟨N, rfl⟩ : ∃ N : Nat, n = -(N : Int) := ⟨(-n).toNat, by omega⟩
            rw [tmod_neg]; omega
          · rw [Int.tmod_eq_emod_of_nonneg (by omega)]; omega
        obtain ⟨q, hqq⟩ : ∃ q, n.tdiv 10 = q := ⟨_, rfl⟩
        obtain ⟨m, hmm⟩ : ∃ m, n.tmod 10 = m := ⟨_, rfl⟩
        rw [hqq] at hd hq hq1
        rw [hmm] at hd hm
        obtain ⟨hq1, hq2⟩ := hq1
        obtain ⟨hm1, hm2⟩ := hm
        have HD := Lib.hid hd
        have HI := Lib.hid (ih · q hq hq1 hq2)
        have hsz : ((str (dec q)).size : Int) ≤ 20 := by rw [str_size]; have := dec_le hq1 hq2; omega
        have hX : (0 ≤ n ∧ n < 10) = False := eq_false ha
        have hY : (n < 0 ∧ -10 < n) = False := eq_false hb
        have g1 : (decide (0 ≤ n) && decide (n < 10)) = false := by simp; omega
        have g2 : (decide (n < 0) && decide (-10 < n)) = false := by simp; omega
        have e1 : n.tmod 10 = m := hmm
        have e2 : n.tdiv 10 = q := hqq
        clear hd ih hX hY hk hq
        have hone : ∀ x : Nat, (str [digc x]).size = 1 := fun _ => rfl
        go_enter Tryz.func35, Tryz.ntmps35
        go_wp2_with (first
          | (go_at_call 61; go_must (refine (rdigit_any _ _ (by omega) (by omega)).mono ?_; rintro e w3 ⟨rfl, k3⟩))
          | (go_at_call 35; go_must (refine (HI.out _).mono ?_; rintro e w2 ⟨rfl, k2⟩)))
        all_goals go_ret
        all_goals exact ⟨congrArg (fun s => Ending.returned (Value.string s)) (ba_ext (by rw [append_str', str_list, str_list, str_list]; exact (HD.out _ (by omega)).symm)), k2.trans k3⟩
end Go.Proofs.YtfpajgmdejlaeaaGreatDoor

/-
  The number that a text tells in decimal: the document's Read, and digit.Read.
-/
namespace Go.Proofs.YtfpajgmdejlaeaaGreatDoor
open Go.RowKit

def valI (l : List UInt8) : Int := l.foldl (fun n c => 10 * n + (c.toNat : Int) - 48) 0
theorem valI_snoc (l : List UInt8) (c : UInt8) : valI (l ++ [c]) = 10 * valI l + (c.toNat : Int) - 48 := by simp [valI]
theorem valI_take {l : List UInt8} {i : Nat} {c : UInt8} (h : l[i]? = some c) : valI (l.take (i + 1)) = 10 * valI (l.take i) + (c.toNat : Int) - 48 := by
  rw [List.take_add_one, h, Option.toList_some, valI_snoc]
theorem valI_bound : ∀ (n : Nat) (l : List UInt8), l.length = n → -(23 * (10 ^ n - 1) : Int) ≤ valI l ∧ valI l ≤ 23 * (10 ^ n - 1)
  | 0, l, h => by
    obtain rfl := List.eq_nil_of_length_eq_zero h
    simp [valI]
  | n + 1, l, h => by
    obtain ⟨m, c, rfl⟩ : ∃ m c, l = m ++ [c] := ⟨l.dropLast, l.getLast (by intro e; rw [e] at h; cases h), (List.dropLast_concat_getLast _).symm⟩
    have hm : m.length = n := by simpa using h
    have ih := valI_bound n m hm
    have hc := c.toNat_lt
    rw [valI_snoc]
    have e : (10 : Int) ^ (n + 1) = 10 * 10 ^ n := by rw [Int.pow_succ]; omega
    rw [e]
    omega
theorem valI_le {l : List UInt8} (h : l.length ≤ 14) : -2300000000000000 ≤ valI l ∧ valI l ≤ 2300000000000000 := by
  have hb := valI_bound l.length l rfl
  have hp : (10 : Int) ^ l.length ≤ 10 ^ 14 := by
    have h2 := Nat.pow_le_pow_right (show 0 < 10 by omega) h
    have e : ((10 ^ l.length : Nat) : Int) = (10 : Int) ^ l.length := by simp
    have e2 : ((10 ^ 14 : Nat) : Int) = (10 : Int) ^ 14 := by simp
    rw [← e, ← e2]
    exact_mod_cast h2
  have e3 : (10 : Int) ^ 14 = 100000000000000 := by decide
  omega
/-- does a text tell a tick, and as it is put -/
def tickB (l : List UInt8) : Bool := decide (0 ≤ valI (l.take 14)) && decide (valI (l.take 14) ≤ 1099511627776) && decide (dec (valI (l.take 14)) = l)
def tickV (l : List UInt8) : Value := if tickB l then .tuple #[.int .i64 (valI (l.take 14)), .int .i64 0] else .tuple #[.int .i64 0, .int .i64 3]
theorem valI_dig : ∀ (n : Nat), valI (decN n) = n := by
  intro n
  induction n using Nat.strongRecOn with
  | ind n ih =>
    by_cases h : n < 10
    · rw [decN_small h]
      simp only [valI, List.foldl_cons, List.foldl_nil, digc_nat h]
      omega
    · rw [decN_big (by omega), valI_snoc, ih (n / 10) (by omega), digc_nat (show n % 10 < 10 by omega)]
      omega
/-- a tick that is put is read -/
theorem tick_dec {n : Nat} (h : n ≤ 1099511627776) : tickB (dec n) = true ∧ valI ((dec n).take 14) = n := by
  have hd : dec (n : Int) = decN n := by rw [dec_pos (by omega), Int.toNat_natCast]
  have hl := decN_len n 12 (by have e : 10 ^ (12 + 1) = 10000000000000 := by decide
                               omega)
  have ht : (decN n).take 14 = decN n := List.take_of_length_le (by omega)
  unfold tickB
  rw [hd, ht, valI_dig, hd]
  refine ⟨?_, rfl⟩
  rw [decide_eq_true (by omega : (0 : Int) ≤ n), decide_eq_true (by omega : (n : Int) ≤ 1099511627776), decide_eq_true rfl]
  rfl
theorem tickV_dec {n : Nat} (h : n ≤ 1099511627776) : tickV (dec n) = .tuple #[.int .i64 n, .int .i64 0] := by
  unfold tickV
  rw [if_pos (tick_dec h).1, (tick_dec h).2]
set_option maxRecDepth 100000 in
set_option maxHeartbeats 1000000 in
theorem r2read_any (w : World) (s : ByteArray) (hs : s.size ≤ 4611686018427387904) : Calls Tryz.prog 105 #[.string s] w fun e w' => e = .returned (tickV s.data.toList) ∧ Keeps (fun _ => False) w w' := by
  have hlen : s.data.toList.length = s.size := by simp
  obtain ⟨l, hl⟩ : ∃ l, l = s.data.toList := ⟨_, rfl⟩
  rw [← hl] at hlen ⊢
  have hget : ∀ (k : Nat) c, l[k]? = some c → ∀ h, s[k]'h = c := by
    intro k c hc h
    rw [hl] at hc
    rw [← (List.getElem?_eq_some_iff.1 hc).2]; rfl
  obtain ⟨V, hV⟩ : ∃ V, V = tickV l := ⟨_, rfl⟩
  rw [← hV]
  have HV := Lib.hid hV
  have HL := Lib.hid hl
  have HN := Lib.hid hlen
  have HG := Lib.hid hget
  clear hV hl hlen hget
  go_enter Tryz.func105, Tryz.ntmps105
  go_wp2_with fail
  go_loopw [4, 5] (fun u4 u5 wr => w = wr ∧ ∃ (i : Nat) (h : Int), u5 = .int .i64 i ∧ u4 = .int .i64 h ∧ i ≤ s.size ∧ i ≤ 14 ∧ -2300000000000000 ≤ h ∧ h ≤ 2300000000000000 ∧ Hid (h = valI (l.take i))) (fun _ u5 _ => s.size - (intOf u5).toNat)
  case atStart => exact ⟨rfl, 0, 0, rfl, rfl, Nat.zero_le _, by omega, by omega, by omega, Lib.hid rfl⟩
  case round =>
    obtain ⟨rfl, i, h, rfl, rfl, hi, hi14, hb1, hb2, HH⟩ := hrel
    by_cases hlt : i < s.size ∧ i < 14
    · obtain ⟨hlt, hlt2⟩ := hlt
      obtain ⟨c, hc⟩ : ∃ c, l[i]? = some c := ⟨_, List.getElem?_eq_getElem (by rw [HN.out]; exact hlt)⟩
      have hsc := HG.out i c hc
      have hst := valI_take hc
      have hbb := valI_le (l := l.take (i + 1)) (by rw [List.length_take]; omega)
      rw [← HH.out] at hst
      have hcl := c.toNat_lt
      have hcl2 : (c.toNat : Int) ≤ 255 := by omega
      have HST := Lib.hid hst
      have HBB := Lib.hid hbb
      clear hc hst hbb hcl
      go_wp2_with fail
      refine ⟨⟨trivial, i + 1, 10 * h + (c.toNat : Int) - 48, by go_num, by first | rfl | go_num, by omega, by omega, ?_, ?_, Lib.hid HST.out.symm⟩, by simp [intOf]; omega⟩
      · rw [← HST.out]; exact HBB.out.1
      · rw [← HST.out]; exact HBB.out.2
    · have ht : l.take i = l.take 14 := by
        by_cases h14 : i = 14
        · rw [h14]
        · rw [List.take_of_length_le (by rw [HN.out]; omega), List.take_of_length_le (by rw [HN.out]; omega)]
      have hh : h = valI (l.take 14) := by rw [HH.out, ht]
      have hV := HV.out
      unfold tickV tickB at hV
      rw [← hh] at hV
      have HV2 := Lib.hid hV
      clear ht hh hV
      have hoff : ¬ (i : Int) < s.size ∨ ((i : Int) < s.size ∧ ¬ (i : Int) < 14) := by omega
      clear hlt
      rcases hoff with ho | ⟨ho, ho2⟩
      all_goals
        by_cases h0 : h < 0
        · have HX := Lib.hid h0
          go_wp2_with fail
          go_ret2
          refine ⟨?_, Keeps.refl _ _⟩
          rw [HV2.out, if_neg (by simp; omega)]
          rfl
        · by_cases h1 : 1099511627776 < h
          · go_wp2_with fail
            go_ret2
            refine ⟨?_, Keeps.refl _ _⟩
            rw [HV2.out, if_neg (by simp; omega)]
            rfl
          · have HP := Lib.hid (fun W => rput_any h.natAbs W h (Nat.le_refl _) (by omega) (by omega))
            obtain ⟨sd, hsd⟩ : ∃ sd, sd = str (dec h) := ⟨_, rfl⟩
            rw [← hsd] at HP
            have hq : sd = s ↔ dec h = l := by
              rw [hsd, HL.out]
              constructor
              · intro e; rw [← e, str_list]
              · intro e; rw [e, str_of]
            have HQ := Lib.hid hq
            clear hq hsd
            by_cases he : sd = s
            · have hbq : (sd.toList == s.toList) = true := by rw [he]; exact beq_self_eq_true _
              have hde := HQ.out.1 he
              have HDE := Lib.hid hde
              have HB0 := Lib.hid h0
              have HB1 := Lib.hid h1
              clear he hde
              go_wp2_with fail
              refine (HP.out _).mono ?_
              rintro e w2 ⟨rfl, k2⟩
              have HK := Lib.hid k2
              clear k2
              go_wp2_with fail
              go_ret2
              refine ⟨?_, HK.out⟩
              rw [HV2.out, if_pos (by rw [HDE.out]; simp; have := HB0.out; have := HB1.out; omega)]
              rfl
            · have hbq : (sd.toList == s.toList) = false := by
                rw [beq_eq_false_iff_ne, ByteArray.toList_eq, ByteArray.toList_eq]
                exact fun e => he (ba_ext e)
              have hde := fun e => he (HQ.out.2 e)
              have HDE := Lib.hid hde
              clear he hde
              go_wp2_with fail
              refine (HP.out _).mono ?_
              rintro e w2 ⟨rfl, k2⟩
              have HK := Lib.hid k2
              clear k2
              go_wp2_with fail
              go_ret2
              refine ⟨?_, HK.out⟩
              rw [HV2.out, if_neg (by rw [decide_eq_false HDE.out]; simp)]
              rfl
end Go.Proofs.YtfpajgmdejlaeaaGreatDoor

/-
  Configurations, plainly: what statements say. No program in sight.
-/
namespace Go.Proofs.YtfpajgmdejlaeaaGreatDoor
open Go.RowKit

structure Con where
  name : ByteArray
  kind : Int
  lines : Int
  bytes : Int
  gens : Int
  size : Int
  base : Int
  cap : Int
  jitter : Int
  init : ByteArray
deriving DecidableEq
structure Grp where
  name : ByteArray
  pats : List ByteArray
deriving DecidableEq
structure Usr where
  name : ByteArray
  pass : ByteArray
deriving DecidableEq
structure Acc where
  con : ByteArray
  user : ByteArray
  level : Int
deriving DecidableEq
structure Cf where
  cons : List Con
  grps : List Grp
  usrs : List Usr
  accs : List Acc
  brks : List ByteArray
def Cf.empty : Cf := ⟨[], [], [], [], List.replicate 10 ⟨#[]⟩⟩
def usual0 : Con := ⟨⟨#[]⟩, 1, 20, 4096, 3, 4096, 1, 64, 4, ⟨#[]⟩⟩
def keyN : Nd → ByteArray | .mk k _ _ _ _ => k
def argsN : Nd → List ByteArray | .mk _ a _ _ _ => a
def blkN : Nd → Bool | .mk _ _ b _ _ => b
def subN : Nd → List Nd | .mk _ _ _ l _ => l
def lineN : Nd → Int | .mk _ _ _ _ n => n
/-! words -/
def letterB (c : UInt8) : Bool := (decide (97 ≤ c.toNat) && decide (c.toNat ≤ 122)) || (decide (65 ≤ c.toNat) && decide (c.toNat ≤ 90))
def innerB (c : UInt8) : Bool := letterB c || (decide (48 ≤ c.toNat) && decide (c.toNat ≤ 57)) || decide (c.toNat = 45) || decide (c.toNat = 95) || decide (c.toNat = 46)
def patB (c : UInt8) : Bool := innerB c || decide (c.toNat = 42) || decide (c.toNat = 63)
def isB (s : ByteArray) : Bool := match s.data.toList with | [] => false | c :: t => decide (s.size ≤ 32) && letterB c && (c :: t).all innerB
def fitsB (s : ByteArray) : Bool := decide (s.size ≠ 0) && decide (s.size ≤ 32) && s.data.toList.all patB
def secretB (s : ByteArray) : Bool := decide (s.size ≠ 0) && decide (s.size ≤ 32) && wordyP s.data.toList
/-! settings -/
def sB (l : List UInt8) : ByteArray := str l
def kConsole : ByteArray := ⟨#[99, 111, 110, 115, 111, 108, 101]⟩
def kGroup : ByteArray := ⟨#[103, 114, 111, 117, 112]⟩
def kUser : ByteArray := ⟨#[117, 115, 101, 114]⟩
def kAccess : ByteArray := ⟨#[97, 99, 99, 101, 115, 115]⟩
def kBreak : ByteArray := ⟨#[98, 114, 101, 97, 107]⟩
def kDefault : ByteArray := ⟨#[100, 101, 102, 97, 117, 108, 116]⟩
def kLines : ByteArray := ⟨#[108, 105, 110, 101, 115]⟩
def kBytes : ByteArray := ⟨#[98, 121, 116, 101, 115]⟩
def kGens : ByteArray := ⟨#[103, 101, 110, 115]⟩
def kSize : ByteArray := ⟨#[115, 105, 122, 101]⟩
def kRetry : ByteArray := ⟨#[114, 101, 116, 114, 121]⟩
def kKind : ByteArray := ⟨#[107, 105, 110, 100]⟩
def kInit : ByteArray := ⟨#[105, 110, 105, 116]⟩
def kLike : ByteArray := ⟨#[108, 105, 107, 101]⟩
def kSerial : ByteArray := ⟨#[115, 101, 114, 105, 97, 108]⟩
def kPty : ByteArray := ⟨#[112, 116, 121]⟩
def kinds15 : List ByteArray := [kSerial, kPty]
def levels15 : List ByteArray := [⟨#[110, 111, 110, 101]⟩, ⟨#[108, 111, 111, 107]⟩, ⟨#[104, 97, 110, 100]⟩, ⟨#[99, 104, 105, 101, 102]⟩]
def formP (x : Nd) (many : Nat) (b : Bool) : Bool := decide ((argsN x).length = many) && (blkN x == b)
/-- a number that lies between two; or the code -/
def numP (s : ByteArray) (lo hi : Int) : Int ⊕ Int := if tickB s.data.toList then (if valI (s.data.toList.take 14) < lo ∨ hi < valI (s.data.toList.take 14) then .inl 2 else .inr (valI (s.data.toList.take 14))) else .inl 3
def argN (x : Nd) (i : Nat) : ByteArray := (argsN x).getD i ⟨#[]⟩
def mapS (r : Int ⊕ Int) (f : Int → Con) : Int ⊕ Con := match r with | .inl e => .inl e | .inr v => .inr (f v)
theorem formP_true {x : Nd} {many : Nat} {b : Bool} (h : (argsN x).length = many ∧ blkN x = b) : formP x many b = true := by unfold formP; rw [decide_eq_true h.1, h.2]; simp
theorem formP_false {x : Nd} {many : Nat} {b : Bool} (h : ¬ ((argsN x).length = many ∧ blkN x = b)) : formP x many b = false := by
  unfold formP
  rw [Bool.and_eq_false_iff, decide_eq_false_iff_not, beq_eq_false_iff_ne]
  exact Classical.not_and_iff_not_or_not.1 h
def oneS (x : Nd) (lo hi : Int) (f : Int → Con) : Int ⊕ Con := if formP x 1 false then mapS (numP (argN x 0) lo hi) f else .inl 3
def tk (s : ByteArray) : Int := valI (s.data.toList.take 14)
def retryS (c : Con) (x : Nd) : Int ⊕ Con :=
  if formP x 3 false then
    (if (argsN x).all (fun s => tickB s.data.toList) then
      (if tk (argN x 0) < 1 ∨ 3600 < tk (argN x 0) ∨ tk (argN x 1) < tk (argN x 0) ∨ 86400 < tk (argN x 1) ∨ 3600 < tk (argN x 2) then .inl 2
       else .inr { c with base := tk (argN x 0), cap := tk (argN x 1), jitter := tk (argN x 2) })
     else .inl 3)
  else .inl 3
/-- the place of the first that is so -/
def idx {α : Type} (p : α → Bool) : List α → Option Nat
  | [] => none
  | x :: l => if p x then some 0 else (idx p l).map (· + 1)
def findC (l : List Con) (nm : ByteArray) : Option Nat := idx (fun c => decide (c.name = nm)) l
def wordS (cs : List Con) (c : Con) (x : Nd) : Int ⊕ Con :=
  if formP x 1 false then
    (if keyN x = kKind then (match idx (fun s => decide (s = argN x 0)) kinds15 with | none => .inl 3 | some k => .inr { c with kind := k + 1 })
     else if keyN x = kInit then (if (brkP (argN x 0).data.toList).1 ≠ 0 then .inl (brkP (argN x 0).data.toList).1 else .inr { c with init := argN x 0 })
     else match findC cs (argN x 0) with | none => .inl 7 | some i => .inr { (cs.getD i usual0) with name := c.name })
  else .inl 3
/-- a setting -/
def setS (cs : List Con) (c : Con) (x : Nd) : Int ⊕ Con :=
  if keyN x = kLines then oneS x 1 1024 (fun v => { c with lines := v })
  else if keyN x = kBytes then oneS x 1 65536 (fun v => { c with bytes := v })
  else if keyN x = kGens then oneS x 1 16 (fun v => { c with gens := v })
  else if keyN x = kSize then oneS x 64 1048576 (fun v => { c with size := v })
  else if keyN x = kRetry then retryS c x
  else if keyN x = kKind ∨ keyN x = kInit ∨ keyN x = kLike then wordS cs c x
  else .inl 3
/-- all settings of a block; or the code, and the line -/
def setsS (cs : List Con) : Con → List Nd → (Int × Int) ⊕ Con
  | c, [] => .inr c
  | c, x :: l => match setS cs c x with
    | .inl e => .inl (e, lineN x)
    | .inr c' => setsS cs c' l
/-! statements -/
/-- why something can not be named so -/
def freshS (nm : ByteArray) (there : Bool) (many : Nat) : Int := if isB nm then (if there then 8 else if 4096 ≤ many then 15 else 0) else 3
def stmtS (c : Cf) (u : Con) (x : Nd) : (Int × Int) ⊕ (Cf × Con) :=
  if keyN x = kConsole then
    (if formP x 1 true then
      (let e := freshS (argN x 0) ((findC c.cons (argN x 0)).isSome) c.cons.length
       if e ≠ 0 then .inl (e, lineN x) else match setsS c.cons { u with name := argN x 0 } (subN x) with
        | .inl e => .inl e
        | .inr y => .inr ({ c with cons := c.cons ++ [y] }, u))
     else .inl (3, lineN x))
  else if keyN x = kGroup then
    (if decide (2 ≤ (argsN x).length) && !blkN x then
      (if (argsN x).tail.all fitsB then
        (let e := freshS (argN x 0) (c.grps.any fun g => decide (g.name = argN x 0)) c.grps.length
         if e ≠ 0 then .inl (e, lineN x) else .inr ({ c with grps := c.grps ++ [⟨argN x 0, (argsN x).tail⟩] }, u))
       else .inl (3, lineN x))
     else .inl (3, lineN x))
  else if keyN x = kUser then
    (if formP x 2 false then
      (if secretB (argN x 1) then
        (let e := freshS (argN x 0) (c.usrs.any fun g => decide (g.name = argN x 0)) c.usrs.length
         if e ≠ 0 then .inl (e, lineN x) else .inr ({ c with usrs := c.usrs ++ [⟨argN x 0, argN x 1⟩] }, u))
       else .inl (3, lineN x))
     else .inl (3, lineN x))
  else if keyN x = kAccess then
    (if formP x 3 false then
      (if fitsB (argN x 0) && fitsB (argN x 1) then
        (match idx (fun s => decide (s = argN x 2)) levels15 with
         | none => .inl (3, lineN x)
         | some k => if 4096 ≤ c.accs.length then .inl (15, lineN x) else .inr ({ c with accs := c.accs ++ [⟨argN x 0, argN x 1, k⟩] }, u))
       else .inl (3, lineN x))
     else .inl (3, lineN x))
  else if keyN x = kBreak then
    (if formP x 2 false then
      (match numP (argN x 0) 1 9 with
       | .inl e => .inl (e, lineN x)
       | .inr i =>
         (let e := if (brkP (argN x 1).data.toList).1 = 0 then (if (argN x 1).size = 0 then 3 else 0) else (brkP (argN x 1).data.toList).1
          if e ≠ 0 then .inl (e, lineN x)
          else if (c.brks.getD i.toNat ⟨#[]⟩).size ≠ 0 then .inl (8, lineN x) else .inr ({ c with brks := c.brks.set i.toNat (argN x 1) }, u)))
     else .inl (3, lineN x))
  else if keyN x = kDefault then
    (if formP x 0 true then (match setsS c.cons u (subN x) with
      | .inl e => .inl e
      | .inr y => .inr (c, y))
     else .inl (3, lineN x))
  else .inl (3, lineN x)
def stmtsS : Cf → Con → List Nd → (Int × Int) ⊕ Cf
  | c, _, [] => .inr c
  | c, u, x :: l => match stmtS c u x with
    | .inl e => .inl e
    | .inr (c', u') => stmtsS c' u' l
/-- the configuration of a text; or the code, and the line -/
def loadS (s : List UInt8) : (Int × Int) ⊕ Cf := match treeP s with
  | .inl e => .inl e
  | .inr l => stmtsS Cf.empty usual0 l
end Go.Proofs.YtfpajgmdejlaeaaGreatDoor

/-
  A slice that the call itself makes and appends to, as a list of one-cell values. No program in sight.
-/
namespace Go.Proofs.YtfpajgmdejlaeaaGreatDoor
open Go.RowKit

/-- the slice value v, of element type e, owns the cells vs, in blocks from B on -/
def OwnL (w : World) (B : Nat) (e : TypeId) (v : Value) (vs : List Value) : Prop := w.ownsRow B e 1 v vs.length vs

theorem OwnL.none_ (w : World) (B : Nat) (e : TypeId) : OwnL w B e (.slice none 0 0) [] := World.ownsRow_nil w B e 1

theorem OwnL.keeps {w w' : World} {B : Nat} {e : TypeId} {v : Value} {vs : List Value} {S : Nat → Prop} (h : OwnL w B e v vs) (k : Keeps S w w') (hS : ∀ i, B ≤ i → i < w.heap.size → ¬ S i) : OwnL w' B e v vs := by
  refine ⟨h.1, ?_⟩
  rcases h.2 with h2 | ⟨g, cap, cur, hv, hg, hh, r⟩
  · exact .inl h2
  · have hlt : g < w.heap.size := by
      rcases Nat.lt_or_ge g w.heap.size with hlt | hge
      · exact hlt
      · rw [Array.getElem?_eq_none hge] at hh; cases hh
    exact .inr ⟨g, cap, cur, hv, hg, (k.block g hlt (hS g hg hlt)).trans hh, r⟩

/-- its shape, and its cells -/
theorem OwnL.shape {w : World} {B : Nat} {e : TypeId} {v : Value} {vs : List Value} (h : OwnL w B e v vs) :
    ∃ a cap, v = .slice a vs.length cap ∧ vs.length ≤ cap ∧ cap ≤ maxLen ∧ (0 < vs.length → ∃ g, a = some ⟨g, 0, none⟩ ∧ B ≤ g ∧ g < w.heap.size) ∧
      ∀ g, a = some ⟨g, 0, none⟩ → ∀ j u, vs[j]? = some u → w.cell? ⟨g, j, none⟩ = some u ∧ w.frozen? ⟨g, j, none⟩ = false := by
  rcases h.2 with ⟨rfl, h2⟩ | ⟨g, cap, cur, rfl, hg, hh, h1, h2, h3, h4⟩
  · refine ⟨none, 0, by rw [h2], by omega, by unfold maxLen; omega, fun h => by omega, fun g hg => by cases hg⟩
  · have hlt : g < w.heap.size := by
      rcases Nat.lt_or_ge g w.heap.size with hlt | hge
      · exact hlt
      · rw [Array.getElem?_eq_none hge] at hh; cases hh
    refine ⟨some ⟨g, 0, none⟩, cap, rfl, h1, h2, fun _ => ⟨g, rfl, hg, hlt⟩, fun g' hg' j u hu => ?_⟩
    injection hg' with hg'
    injection hg' with hg'
    subst hg'
    have hj : j < vs.length := (List.getElem?_eq_some_iff.1 hu).1
    refine ⟨?_, frozen_of_row w g j cur e hh⟩
    rw [cell_of_row w g j cur e (0, 0) hh, ← hu, ← h4, List.getElem?_take, if_pos (by omega)]
    simp

theorem OwnL.ownBlk {w : World} {B : Nat} {e : TypeId} {v : Value} {vs : List Value} (h : OwnL w B e v vs) : ∀ k, v.ownBlock = some k → ∃ cs, Blk w k e cs := by
  intro k hk
  rcases h.2 with ⟨rfl, h2⟩ | ⟨g, cap, cur, rfl, hg, hh, _⟩
  · simp [Value.ownBlock] at hk
  · simp [Value.ownBlock] at hk
    subst hk
    exact ⟨_, hh⟩

section
variable {P : Program}
theorem OwnL.made (w : World) (e : TypeId) (cs : Array Value) (cap : Nat) (hs : cs.size = cap) (hm : cap ≤ maxLen) : OwnL (w.alloc (.cells cs e)) w.heap.size e (.slice (some ⟨w.heap.size, 0, none⟩) 0 cap) [] :=
  World.ownsRow_made w cs cap (Nat.le_refl _) hm (by omega)
theorem OwnL.more {w : World} {B B' : Nat} {e : TypeId} {v : Value} {vs : List Value} (h : OwnL w B e v vs) (hB : B' ≤ B) : OwnL w B' e v vs := by
  refine ⟨h.1, ?_⟩
  rcases h.2 with h2 | ⟨g, cap, cur, hv, hg, r⟩
  · exact .inl h2
  · exact .inr ⟨g, cap, cur, hv, by omega, r⟩

/-- append of one value, the frame by types; one value, which lies in a block of its own -/
theorem wpList_append_onet {w : World} {ops : Array Oper} {rest : List Oper} {o : Oper} {a : Act} {Q : Exit → Act → World → Prop} (hgd : o.guard = none) (s x : Operand) (t : TypeId)
    (ho : o.op = .call { callee := .builtin .append, args := #[s, x], argTypes := #[t, t] }) (B : Nat) (e : TypeId) (z : Value) (bytes : Nat) (ht : P.underlying t = some (.slice e))
    (hi : (P.info? e).map (fun i => (i.zero, i.size, i.bytes)) = some (some z, 1, bytes)) (hz : z.cells.size = 1) (hb16 : bytes ≤ 4096)
    (v : Value) (vs : List Value) (hs : a.eval s = v) (hown : OwnL w B e v vs) (ad : Addr) (c : Nat) (u : Value) (hx : a.eval x = .slice (some ad) 1 c) (hu : w.cell? ad = some u) (h1 : u.oneCell' = true)
    (hlen : vs.length ≤ 17179869184) (hbase : B ≤ w.heap.size)
    (h : ∀ v' w', OwnL w' B e v' (vs ++ [u]) → Keeps (fun i => B ≤ i ∧ ∃ cs, Blk w i e cs) w w' → wpList P ops Q rest (a.put o.dst v') w') : wpList P ops Q (o :: rest) a w := by
  refine wpList_plain hgd fun K hK => ?_
  obtain ⟨i, hi0, hzi, hsi, hbi⟩ := info_parts hi
  obtain ⟨v', w', hrun, h2, h3, -⟩ := run_append_own (P := P) w B t o.type e i z 1 bytes ht hi0 hzi hsi hbi hz (by omega) v vs.length vs hown ad 1 c [u] rfl (by
    intro j y hj
    match j, hj with
    | 0, hj => simp at hj; subst hj; simpa [Addr.add] using hu
    | j + 1, hj => simp at hj) (by intro y hy; simp at hy; subst hy; exact h1) (by unfold maxLen; omega) (by
      have := Nat.mul_le_mul (show vs.length + 1 ≤ 17179869185 by omega) hb16
      omega) hbase
  unfold Oper.wp
  simp only [execOp, ho, resolve, invoke, builtin, Sem.run_bind, Sem.run_pure, Result.andThen_ok, List.map_toArray, List.map_cons, List.map_nil, hs, hx, hrun]
  refine hK _ _ (h v' w' (by unfold OwnL; simpa using h2) ((Keeps.refl _ _).grown h3 (fun k hk _ => ?_)))
  exact ⟨(hown.lt k hk).1, hown.ownBlk k hk⟩

/-- append of one value, which lies in a block of its own -/
theorem wpList_append_one {w : World} {ops : Array Oper} {rest : List Oper} {o : Oper} {a : Act} {Q : Exit → Act → World → Prop} (hgd : o.guard = none) (s x : Operand) (t : TypeId)
    (ho : o.op = .call { callee := .builtin .append, args := #[s, x], argTypes := #[t, t] }) (B : Nat) (e : TypeId) (z : Value) (bytes : Nat) (ht : P.underlying t = some (.slice e))
    (hi : (P.info? e).map (fun i => (i.zero, i.size, i.bytes)) = some (some z, 1, bytes)) (hz : z.cells.size = 1) (hb16 : bytes ≤ 4096)
    (v : Value) (vs : List Value) (hs : a.eval s = v) (hown : OwnL w B e v vs) (ad : Addr) (c : Nat) (u : Value) (hx : a.eval x = .slice (some ad) 1 c) (hu : w.cell? ad = some u) (h1 : u.oneCell' = true)
    (hlen : vs.length ≤ 17179869184) (hbase : B ≤ w.heap.size)
    (h : ∀ v' w', OwnL w' B e v' (vs ++ [u]) → Keeps (fun i => B ≤ i) w w' → wpList P ops Q rest (a.put o.dst v') w') : wpList P ops Q (o :: rest) a w :=
  wpList_append_onet hgd s x t ho B e z bytes ht hi hz hb16 v vs hs hown ad c u hx hu h1 hlen hbase fun v' w' ho k => h v' w' ho (k.mono fun _ _ h => h.1)

/-- make of an empty slice with room for c elements -/
theorem wpList_make_empty {w : World} {ops : Array Oper} {rest : List Oper} {o : Oper} {a : Act} {Q : Exit → Act → World → Prop}
    (hg : o.guard = none) (l c : Operand) (t : TypeId) (hop : o.op = Op.makeSlice t l c) (e : TypeId) (z : Value) (bytes : Nat)
    (h1 : P.underlying t = some (.slice e)) (h2 : (P.info? e).map (fun i => (i.zero, i.size, i.bytes)) = some (some z, 1, bytes)) (hb : bytes ≤ 4096)
    (C : Int) (kl : IntKind) (hl : a.eval l = .int kl 0) (hc : a.eval c = .int .i64 C) (h0 : 0 ≤ C) (b2 : C ≤ 17179869184)
    (hK : ∀ w', OwnL w' w.heap.size e (.slice (some ⟨w.heap.size, 0, none⟩) 0 C.toNat) [] → Keeps (fun _ => False) w w' → w'.heap.size = w.heap.size + 1 → wpList P ops Q rest (a.put o.dst (.slice (some ⟨w.heap.size, 0, none⟩) 0 C.toNat)) w') :
    wpList P ops Q (o :: rest) a w := by
  refine wpList_plain hg fun K hK' => ?_
  obtain ⟨i, hi, hzz, hs, hbb⟩ := info_parts h2
  have hmul : (i.bytes : Int) * C ≤ 281474976710656 := by
    rw [hbb]
    have h3 : (bytes : Int) * C ≤ (4096 : Int) * C := Int.mul_le_mul_of_nonneg_right (by omega) h0
    omega
  have hrun := run_make (P := P) w t e i z h1 hi hzz kl .i64 0 C (by omega) (by omega) hmul (by omega)
  rw [hs] at hrun
  unfold Oper.wp
  simp only [execOp, hop, hl, hc, hrun, Sem.run_bind, Sem.run_pure, Result.andThen_ok]
  refine hK' _ _ (hK _ (OwnL.made w e _ _ (by simp [madeCells]) (by unfold maxLen; omega)) ((Keeps.refl _ _).alloc _) (by simp))

/-- a string out of bytes that the call itself gathered -/
theorem wpList_string_own {w : World} {ops : Array Oper} {rest : List Oper} {o : Oper} {a : Act} {Q : Exit → Act → World → Prop}
    (hg : o.guard = none) (x : Operand) (src dst : TypeId) (hop : o.op = Op.convert src dst x) (e : TypeId) (hs : P.underlying src = some (.slice e)) (he : P.underlying e = some (.int .u8)) (hd : P.underlying dst = some .string)
    (B : Nat) (v : Value) (cs : List UInt8) (hx : a.eval x = v) (hown : OwnL w B e v (cs.map fun c => Value.int .u8 c.toNat))
    (hK : wpList P ops Q rest (a.put o.dst (.string (str cs))) w) :
    wpList P ops Q (o :: rest) a w := by
  refine wpList_plain hg fun K hK' => ?_
  obtain ⟨ad, cap, hv, h1, h2, h3, h4⟩ := hown.shape
  have hrun : (convert src dst v).run P w = .ok (.string (str cs)) w := by
    rw [hv]
    rcases Nat.eq_zero_or_pos cs.length with h0 | h0
    · obtain rfl : cs = [] := List.eq_nil_of_length_eq_zero h0
      rw [run_convert_bytes_string w src dst e _ _ cap hs he hd]
      cases ad with
      | none => rfl
      | some q => rfl
    · obtain ⟨g, rfl, hB, hlt⟩ := h3 (by simpa using h0)
      refine run_string_bytes w src dst e ⟨g, 0, none⟩ _ cap cs hs he hd (by simp) (fun j c hj => ?_)
      have := (h4 g rfl j (.int .u8 c.toNat) (by simp [hj])).1
      by_cases hz : j = 0
      · subst hz; simpa [Addr.add] using this
      · simpa [Addr.add, hz] using this
  unfold Oper.wp
  simp only [execOp, hop, hx, hrun, Sem.run_bind, Sem.run_pure, Result.andThen_ok]
  exact hK' _ _ hK
end
end Go.Proofs.YtfpajgmdejlaeaaGreatDoor
