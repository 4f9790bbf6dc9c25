/-
  Plain words for memory that all texts of this claim use: a result that only reads; blocks known whole; what a call may change. No program in sight.
-/
import Derived.WalkKit
import Derived.WalkSpells
import Derived.WalkLawsBesides
import Derived.BigQuiet
import Derived.Deep.QuietTactic
import Derived.Deep.RegionHeld3
import Derived.StillTailTactics
import Derived.Deep.DeepMust
import Derived.Deep.LoopGhost
import Derived.Laws.CopyOwn
import Derived.Lib.Hide
namespace Go.Proofs.YtemjbblehiaobaaDoor
open Go.RowKit

/-- a call that only reads: it hands back v, the world may have drawn -/
def Qt (v : Value) (w : World) : Ending → World → Prop := fun e w' => e = .returned v ∧ ∃ n, w' = w.drewN n

theorem Qt.quiet {P : Program} {f : FuncId} {args : Array Value} {w : World} {n : Nat} {v : Value}
    (h : Calls P f args (w.drewN n) (Qt v (w.drewN n))) : Calls P f args (w.drewN n) fun e w'' => e = .returned v ∧ ∃ m, w'' = w.drewN m :=
  h.mono fun _ _ ⟨he, m, hm⟩ => ⟨he, n + m, by rw [hm, World.drewN_drewN]⟩

theorem Qt.of {v v' : Value} {w : World} {n : Nat} (h : v' = v) : Qt v w (.returned v') (w.drewN n) := ⟨by rw [h], n, rfl⟩
theorem Qt.of2 {v v' : Value} {w : World} {n m : Nat} (h : v' = v) : Qt v w (.returned v') ((w.drewN n).drewN m) := ⟨by rw [h], _, World.drewN_drewN _ _ _⟩
theorem Qt.of0 {v v' : Value} {w : World} (h : v' = v) : Qt v w (.returned v') w := ⟨by rw [h], 0, rfl⟩
theorem int_eq {k : IntKind} {a b : Int} (h : a = b) : Value.int k a = .int k b := by rw [h]
theorem wrap_in {x : Int} (h : -4611686018427387904 ≤ x) (h' : x ≤ 4611686018427387904) : IntKind.i64.wrap x = x := IntWalk.i64_in _ (by omega)
theorem tmod_nat (a b : Nat) : ((a : Int)).tmod (b : Int) = ((a % b : Nat) : Int) := by
  rw [Int.tmod_eq_emod_of_nonneg (by omega)]; simp

/-- what a call may change: of the blocks that were there, those of S alone -/
structure Keeps (S : Nat → Prop) (w w' : World) : Prop where
  os : w'.os = w.os
  tape : w'.tape = w.tape
  output : w'.output = w.output
  size : w.heap.size ≤ w'.heap.size
  block : ∀ k, k < w.heap.size → ¬ S k → w'.heap[k]? = w.heap[k]?

section
variable {S T : Nat → Prop} {a b c w w' : World}
theorem Keeps.refl (S : Nat → Prop) (w : World) : Keeps S w w := ⟨rfl, rfl, rfl, Nat.le_refl _, fun _ _ _ => rfl⟩
theorem Keeps.trans (h : Keeps S a b) (k : Keeps S b c) : Keeps S a c :=
  ⟨k.os.trans h.os, k.tape.trans h.tape, k.output.trans h.output, Nat.le_trans h.size k.size, fun i hi hn => (k.block i (Nat.lt_of_lt_of_le hi h.size) hn).trans (h.block i hi hn)⟩
theorem Keeps.and_ (h : Keeps S a b) (k : Keeps T b c) (hT : ∀ i, i < a.heap.size → T i → S i) : Keeps S a c :=
  ⟨k.os.trans h.os, k.tape.trans h.tape, k.output.trans h.output, Nat.le_trans h.size k.size, fun i hi hn => (k.block i (Nat.lt_of_lt_of_le hi h.size) (fun ht => hn (hT i hi ht))).trans (h.block i hi hn)⟩
theorem Keeps.mono (h : Keeps S a b) (hs : ∀ k, k < a.heap.size → S k → T k) : Keeps T a b := ⟨h.os, h.tape, h.output, h.size, fun i hi hn => h.block i hi fun hS => hn (hs i hi hS)⟩
theorem Keeps.drewN (h : Keeps S a b) (n : Nat) : Keeps S a (b.drewN n) := ⟨h.os, h.tape, h.output, h.size, h.block⟩
theorem Keeps.drew (h : Keeps S a b) : Keeps S a b.drew := ⟨h.os, h.tape, h.output, h.size, h.block⟩
theorem Keeps.alloc (h : Keeps S a b) (o : Obj) : Keeps S a (b.alloc o) :=
  ⟨h.os, h.tape, h.output, Nat.le_trans h.size (by simp), fun i hi hn => (Below.heap_alloc b o i (Nat.lt_of_lt_of_le hi h.size)).trans (h.block i hi hn)⟩
theorem Keeps.setCell (h : Keeps S a b) {p : Addr} (hp : p.block < a.heap.size → S p.block) (u : Value) : Keeps S a (b.setCell p u) :=
  ⟨h.os, h.tape, h.output, by simpa [World.setCell] using h.size, fun i hi hn => (Below.heap_setCell b p u i (fun e => hn (by subst e; exact hp hi))).trans (h.block i hi hn)⟩
theorem Keeps.setRow (h : Keeps S a b) {g : Nat} (hp : g < a.heap.size → S g) (cs : Array Value) : Keeps S a (b.setRow g cs) :=
  ⟨h.os, h.tape, h.output, by simpa using h.size, fun i hi hn => by
    have hne : g ≠ i := fun e => hn (by subst e; exact hp hi)
    rw [← h.block i hi hn]
    simp [World.setRow, Array.getElem?_modify, hne]⟩
theorem Keeps.grown (h : Keeps S a b) {row : Option Nat} (hg : b.grownBy c row) (hr : ∀ k, row = some k → k < a.heap.size → S k) : Keeps S a c :=
  ⟨hg.os.trans h.os, hg.tape.trans h.tape, hg.output.trans h.output, Nat.le_trans h.size hg.size, fun i hi hn => (hg.block i (Nat.lt_of_lt_of_le hi h.size) (fun e => hn (hr i e.symm hi))).trans (h.block i hi hn)⟩
theorem Keeps.from_drewN {n : Nat} (h : Keeps S (a.drewN n) b) : Keeps S a b := ⟨h.os, h.tape, h.output, h.size, h.block⟩
theorem Keeps.from_drew (h : Keeps S a.drew b) : Keeps S a b := ⟨h.os, h.tape, h.output, h.size, h.block⟩
theorem Keeps.none_ (h : Keeps (fun _ => False) a b) : Keeps S a b := h.mono fun _ _ h => h.elim
theorem Keeps.below (h : Keeps S w w') (hS : ∀ k, k < w.heap.size → ¬ S k) : Below w.heap.size w w' := ⟨h.os, h.tape, h.output, h.size, fun k hk => h.block k hk (hS k hk)⟩
theorem Keeps.of_below (h : Below w.heap.size w w') : Keeps S w w' := ⟨h.os, h.tape, h.output, h.size, fun k hk _ => h.block k hk⟩
end

/-- a call that only reads, said by 'Keeps' -/
theorem Qt.k {P : Program} {f : FuncId} {args : Array Value} {w : World} {v : Value} (h : Calls P f args w (Qt v w)) : Calls P f args w fun e w' => e = .returned v ∧ Keeps (fun _ => False) w w' :=
  h.mono fun _ _ ⟨he, n, hn⟩ => ⟨he, by rw [hn]; exact (Keeps.refl _ _).drewN n⟩

/-- a block known whole, nothing of it frozen -/
def Blk (w : World) (g : Nat) (t : TypeId) (cs : Array Value) : Prop := w.heap[g]? = some (.cells cs t (0, 0))

section
variable {w w' : World} {g : Nat} {t : TypeId} {cs : Array Value}
theorem Blk.lt (h : Blk w g t cs) : g < w.heap.size := by
  rcases Nat.lt_or_ge g w.heap.size with hlt | hge
  · exact hlt
  · unfold Blk at h; rw [Array.getElem?_eq_none hge] at h; cases h
theorem Blk.cell (h : Blk w g t cs) (i : Nat) : w.cell? ⟨g, i, none⟩ = cs[i]? := cell_of_row w g i cs t (0, 0) h
theorem Blk.frozen (h : Blk w g t cs) (i : Nat) : w.frozen? ⟨g, i, none⟩ = false := by
  unfold Blk at h
  simp [World.frozen?, h]
theorem Blk.new (w : World) (t : TypeId) (cs : Array Value) : Blk (w.alloc (.cells cs t)) w.heap.size t cs := heap_alloc_new w _
theorem Blk.drew (h : Blk w g t cs) : Blk w.drew g t cs := h
theorem Blk.drewN (h : Blk w g t cs) (n : Nat) : Blk (w.drewN n) g t cs := h
theorem Blk.alloc (h : Blk w g t cs) (o : Obj) : Blk (w.alloc o) g t cs := (Below.heap_alloc w o g h.lt).trans h
theorem Blk.set_ (h : Blk w g t cs) (i : Nat) (u : Value) : Blk (w.setCell ⟨g, i, none⟩ u) g t (cs.setIfInBounds i u) := by
  unfold Blk at h ⊢
  simp [World.setCell, Array.getElem?_modify, h]
theorem Blk.far (h : Blk w g t cs) {p : Addr} (hp : g ≠ p.block) (u : Value) : Blk (w.setCell p u) g t cs := (Below.heap_setCell w p u g hp).trans h
theorem Blk.keeps {S : Nat → Prop} (h : Blk w g t cs) (hb : Keeps S w w') (hg : ¬ S g) : Blk w' g t cs := (hb.block g h.lt hg).trans h
theorem Blk.row (h : Blk w g t cs) (ds : Array Value) : Blk (w.setRow g ds) g t ds := by
  unfold Blk at h ⊢
  simp [World.setRow, Array.getElem?_modify, h]
theorem Blk.farRow (h : Blk w g t cs) {g' : Nat} (hp : g' ≠ g) (ds : Array Value) : Blk (w.setRow g' ds) g t cs := by
  unfold Blk at h ⊢
  simp [World.setRow, Array.getElem?_modify, h, hp]
theorem Blk.ne_ {g' : Nat} {t' : TypeId} {cs' : Array Value} (h : Blk w g t cs) (h' : Blk w g' t' cs') (hne : t ≠ t') : g ≠ g' := by
  rintro rfl
  unfold Blk at h h'
  rw [h] at h'
  injection h' with h'
  injection h' with _ ht
  exact hne ht
end

theorem drew_mk (w : World) : ({ heap := w.heap, tape := w.tape, drawn := w.drawn + 1, os := w.os, output := w.output } : World) = w.drew := rfl
/-- three cells of a block, as facts that the walk reads -/
theorem Blk.cells3 {w : World} {g : Nat} {t : TypeId} {a b c : Value} (h : Blk w g t #[a, b, c]) : w.cell? ⟨g, 0, none⟩ = some a ∧ w.cell? ⟨g, 1, none⟩ = some b ∧ w.cell? ⟨g, 2, none⟩ = some c := ⟨h.cell 0, h.cell 1, h.cell 2⟩
theorem Blk.all3 {w : World} {g : Nat} {t : TypeId} {a b c : Value} (h : Blk w g t #[a, b, c]) : (w.cell? ⟨g, 0, none⟩ = some a ∧ w.cell? ⟨g, 1, none⟩ = some b ∧ w.cell? ⟨g, 2, none⟩ = some c) ∧ w.frozen? ⟨g, 0, none⟩ = false ∧ w.frozen? ⟨g, 1, none⟩ = false ∧ w.frozen? ⟨g, 2, none⟩ = false :=
  ⟨h.cells3, h.frozen 0, h.frozen 1, h.frozen 2⟩
/-- w' is w with the block g filled anew by cs (kept behind a name) -/
def Rowed (w w' : World) (g : Nat) (cs : Array Value) : Prop := w' = w.setRow g cs
section
variable {w w' : World} {g : Nat} {t : TypeId} {cs ds : Array Value}
theorem Rowed.blk (h : Rowed w w' g ds) (hb : Blk w g t cs) : Blk w' g t ds := by rw [h]; exact hb.row ds
theorem Rowed.far (h : Rowed w w' g ds) {g' : Nat} (hb : Blk w g' t cs) (hne : g ≠ g') : Blk w' g' t cs := by rw [h]; exact hb.farRow hne ds
theorem Rowed.keeps {S : Nat → Prop} {a : World} (h : Rowed w w' g ds) (k : Keeps S a w) (hS : g < a.heap.size → S g) : Keeps S a w' := by rw [h]; exact k.setRow hS ds
end

/-- bytes as cells -/
def bv (l : List UInt8) : Array Value := (l.map fun c => Value.int .u8 c.toNat).toArray
theorem bv_size (l : List UInt8) : (bv l).size = l.length := by simp [bv]
theorem bv_get (l : List UInt8) (i : Nat) (h : i < l.length) : (bv l)[i]? = some (.int .u8 (l[i].toNat : Int)) := by simp [bv, h]
theorem bv_list (l : List UInt8) : (bv l).toList = l.map fun c => Value.int .u8 c.toNat := by simp [bv]

theorem ext_list (s : ByteArray) (n : Nat) : (s.extract n s.size).data.toList = s.data.toList.drop n := by
  have h : s.data.toList.length = s.size := by simp
  simp only [ByteArray.data_extract, Array.toList_extract, List.extract_eq_take_drop]
  exact List.take_of_length_le (by rw [List.length_drop, h]; omega)
theorem ext_size (s : ByteArray) (n : Nat) : (s.extract n s.size).size = s.size - n := by simp
theorem ba_ext {a b : ByteArray} (h : a.data.toList = b.data.toList) : a = b := by
  cases a; cases b; simp at h; rw [h]
theorem ext_ext (a : ByteArray) (g m : Nat) (h : g + m ≤ a.size) : (a.extract g a.size).extract 0 m = a.extract g (g + m) := by
  apply ba_ext
  simp only [ByteArray.data_extract, Array.toList_extract, List.extract_eq_take_drop]
  have : a.data.toList.length = a.size := by simp
  rw [List.drop_zero, Nat.sub_zero, List.take_take]
  congr 1
  omega
theorem splice_get {α : Type} (L : List α) (o : Nat) (cs : List α) (h : o + cs.length ≤ L.length) (j : Nat) :
    (splice L o cs)[j]? = if o ≤ j ∧ j < o + cs.length then cs[j - o]? else L[j]? := by
  unfold splice
  rw [List.getElem?_append]
  simp only [List.length_take]
  by_cases h1 : j < o
  · rw [if_pos (by omega), if_neg (by omega), List.getElem?_take, if_pos h1]
  · rw [if_neg (by omega), List.getElem?_append]
    by_cases h2 : j < o + cs.length
    · rw [if_pos (by omega), if_pos (by omega)]; congr 1; omega
    · rw [if_neg (by omega), if_neg (by omega), List.getElem?_drop]; congr 1; omega
theorem splice_map {α β : Type} (f : α → β) (L : List α) (o : Nat) (cs : List α) : splice (L.map f) o (cs.map f) = (splice L o cs).map f := by
  unfold splice; simp
theorem splice_nil {α : Type} (L : List α) (o : Nat) : splice L o [] = L := by unfold splice; simp
theorem splice_len {α : Type} (L : List α) (o : Nat) (cs : List α) (h : o + cs.length ≤ L.length) : (splice L o cs).length = L.length := by simp [splice]; omega

section
variable {P : Program}
theorem firstCells_string (s : ByteArray) (n : Nat) (w : World) :
    (Builtin.firstCells 1 n (.string s)).run P w = .ok ((s.data.toList.take n).map fun c => Value.int .u8 c.toNat).toArray w := by
  have h : ((s.extract 0 n).data.map fun b => Value.int .u8 b.toNat) = ((s.data.toList.take n).map fun c => Value.int .u8 c.toNat).toArray := by
    apply Array.ext'
    simp
  show (pure _ : Sem (Array Value)).run P w = _
  rw [h]
  rfl

/-- copy into a row of bytes known whole: from a string -/
theorem run_copy_str (w : World) (dT sT ty elem : TypeId) (dp : Option Addr) (dLen dCap : Nat) (s : ByteArray) (g o : Nat) (L : List UInt8) (t : TypeId)
    (hu : P.underlying dT = some (.slice elem)) (hs : (P.info? elem).map (·.size) = some 1) (hg : Blk w g t (bv L))
    (hd : 0 < min s.size dLen → dp = some ⟨g, o, none⟩) (hfit : o + min s.size dLen ≤ L.length) :
    (Builtin.copy_ #[dT, sT] ty #[.slice dp dLen dCap, .string s]).run P w =
      .ok (.int .i64 (min s.size dLen : Nat)) (w.setRow g (bv (splice L o (s.data.toList.take (min s.size dLen))))) := by
  have hl : (s.data.toList.take (min s.size dLen)).length = min s.size dLen := by simp
  have hm : Nat.min s.size dLen = min s.size dLen := rfl
  cases hq : P.info? elem with
  | none => simp [hq] at hs
  | some i =>
    have hi : i.size = 1 := by simpa [hq] using hs
    by_cases h0 : min s.size dLen = 0
    · have he : w.setRow g (bv (splice L o [])) = w := by rw [splice_nil]; exact setRow_self w g _ t (0, 0) hg
      have hc := firstCells_string (P := P) s 0 w
      simp only [List.take_zero, List.map_nil] at hc
      rw [h0, List.take_zero, he]
      cases dp with
      | none => simp [Builtin.copy_, run_underlying hu, Builtin.lenOf, sizeOf, typeInfo, hq, hi, hm, h0, hc, goInt]
      | some a => simp [Builtin.copy_, run_underlying hu, Builtin.lenOf, sizeOf, typeInfo, hq, hi, hm, h0, hc, goInt, storeCells]
    · obtain rfl := hd (by omega)
      have hst := run_storeCells_at P g o t ((s.data.toList.take (min s.size dLen)).map fun c => Value.int .u8 c.toNat) 0 (bv L) w hg (by simp [bv_size]; omega) (by
        intro v hv; simp only [List.mem_map] at hv; obtain ⟨c, _, rfl⟩ := hv; rfl)
      have hrow : ((bv L).toList.take (o + 0) ++ (s.data.toList.take (min s.size dLen)).map (fun c => Value.int .u8 c.toNat) ++ (bv L).toList.drop (o + 0 + ((s.data.toList.take (min s.size dLen)).map fun c => Value.int .u8 c.toNat).length)).toArray
          = bv (splice L o (s.data.toList.take (min s.size dLen))) := by
        rw [bv_list]
        unfold bv
        rw [← splice_map]
        unfold splice
        simp
      rw [hrow] at hst
      rw [List.map_take] at hst
      simp [Builtin.copy_, run_underlying hu, Builtin.lenOf, sizeOf, typeInfo, hq, hi, hm, firstCells_string, goInt, hst]

/-- .. from a slice of bytes whose cells are known -/
theorem run_copy_sl (w : World) (dT sT ty elem : TypeId) (dp sp : Option Addr) (dLen dCap sLen sCap : Nat) (g o : Nat) (L cs : List UInt8) (t : TypeId)
    (hu : P.underlying dT = some (.slice elem)) (hs : (P.info? elem).map (·.size) = some 1) (hg : Blk w g t (bv L)) (hn : cs.length = min sLen dLen)
    (hd : 0 < cs.length → dp = some ⟨g, o, none⟩ ∧ ∃ ad, sp = some ad ∧ ∀ j c, cs[j]? = some c → w.cell? (ad.add j) = some (.int .u8 c.toNat)) (hfit : o + cs.length ≤ L.length) :
    (Builtin.copy_ #[dT, sT] ty #[.slice dp dLen dCap, .slice sp sLen sCap]).run P w =
      .ok (.int .i64 cs.length) (w.setRow g (bv (splice L o cs))) := by
  by_cases h0 : cs.length = 0
  · obtain rfl : cs = [] := List.eq_nil_of_length_eq_zero h0
    have he : w.setRow g (bv (splice L o [])) = w := by rw [splice_nil]; exact setRow_self w g _ t (0, 0) hg
    rw [he, run_copy_none (P := P) w dT sT ty elem dp sp dLen dCap sLen sCap hu hs (by simpa using hn.symm)]
    rfl
  · obtain ⟨rfl, ad, rfl, hc⟩ := hd (by omega)
    have := run_copy_row (P := P) w dT sT ty elem g o dLen dCap ad sLen sCap (bv L) t (cs.map fun c => Value.int .u8 c.toNat) hu hs hg (by simpa using hn) (by
      intro j v hv
      simp only [List.getElem?_map, Option.map_eq_some_iff] at hv
      obtain ⟨c, hc', rfl⟩ := hv
      exact hc j c hc') (by simpa [bv_size] using hfit) (by intro v hv; simp only [List.mem_map] at hv; obtain ⟨c, _, rfl⟩ := hv; rfl)
    rw [this]
    have hrow : ((bv L).toList.take o ++ cs.map (fun c => Value.int .u8 c.toNat) ++ (bv L).toList.drop (o + (cs.map fun c => Value.int .u8 c.toNat).length)).toArray = bv (splice L o cs) := by
      rw [bv_list]
      unfold bv
      rw [← splice_map]
      unfold splice
      simp
    rw [hrow]
    simp [goInt]

theorem wpList_copy_str {ops : Array Oper} {rest : List Oper} {o : Oper} {a : Act} {Q : Exit → Act → World → Prop} {w : World} (hgd : o.guard = none) (d x : Operand) (dT sT : TypeId)
    (ho : o.op = .call { callee := .builtin .copy, args := #[d, x], argTypes := #[dT, sT] }) (elem : TypeId) (hu : P.underlying dT = some (.slice elem)) (hsz : (P.info? elem).map (·.size) = some 1)
    (dp : Option Addr) (dLen dCap : Nat) (s : ByteArray) (hd : a.eval d = .slice dp dLen dCap) (hx : a.eval x = .string s) (g off : Nat) (L : List UInt8) (t : TypeId) (hg : Blk w g t (bv L))
    (hpos : 0 < min s.size dLen → dp = some ⟨g, off, none⟩) (hfit : off + min s.size dLen ≤ L.length)
    (h : ∀ w', Rowed w w' g (bv (splice L off (s.data.toList.take (min s.size dLen)))) → wpList P ops Q rest (a.put o.dst (.int .i64 (min s.size dLen : Nat))) w') : wpList P ops Q (o :: rest) a w := by
  refine wpList_plain hgd fun K hK => ?_
  have hrun := run_copy_str (P := P) w dT sT o.type elem dp dLen dCap s g off L t hu hsz hg hpos hfit
  unfold Oper.wp
  simp only [execOp, ho, resolve, invoke, builtin, Sem.run_bind, Sem.run_pure, Result.andThen_ok, List.map_toArray, List.map_cons, List.map_nil, hd, hx, hrun]
  exact hK _ _ (h _ rfl)

theorem wpList_copy_sl {ops : Array Oper} {rest : List Oper} {o : Oper} {a : Act} {Q : Exit → Act → World → Prop} {w : World} (hgd : o.guard = none) (d x : Operand) (dT sT : TypeId)
    (ho : o.op = .call { callee := .builtin .copy, args := #[d, x], argTypes := #[dT, sT] }) (elem : TypeId) (hu : P.underlying dT = some (.slice elem)) (hsz : (P.info? elem).map (·.size) = some 1)
    (dp sp : Option Addr) (dLen dCap sLen sCap : Nat) (hd : a.eval d = .slice dp dLen dCap) (hx : a.eval x = .slice sp sLen sCap) (g off : Nat) (L cs : List UInt8) (t : TypeId) (hg : Blk w g t (bv L))
    (hn : cs.length = min sLen dLen)
    (hpos : 0 < cs.length → dp = some ⟨g, off, none⟩ ∧ ∃ ad, sp = some ad ∧ ∀ j c, cs[j]? = some c → w.cell? (ad.add j) = some (.int .u8 c.toNat)) (hfit : off + cs.length ≤ L.length)
    (h : ∀ w', Rowed w w' g (bv (splice L off cs)) → wpList P ops Q rest (a.put o.dst (.int .i64 cs.length)) w') : wpList P ops Q (o :: rest) a w := by
  refine wpList_plain hgd fun K hK => ?_
  have hrun := run_copy_sl (P := P) w dT sT o.type elem dp sp dLen dCap sLen sCap g off L cs t hu hsz hg hn hpos hfit
  unfold Oper.wp
  simp only [execOp, ho, resolve, invoke, builtin, Sem.run_bind, Sem.run_pure, Result.andThen_ok, List.map_toArray, List.map_cons, List.map_nil, hd, hx, hrun]
  exact hK _ _ (h _ rfl)
end

theorem bv_at {w : World} {b : Nat} {t : TypeId} {arr : List UInt8} (h : Blk w b t (bv arr)) (f : Nat) (cs : List UInt8) (hc : ∀ j c, cs[j]? = some c → arr[f + j]? = some c) :
    ∀ j c, cs[j]? = some c → w.cell? ((⟨b, f, none⟩ : Addr).add j) = some (.int .u8 c.toNat) := by
  intro j c hj
  have h1 := hc j c hj
  have h2 := h.cell (f + j)
  have hlt := (List.getElem?_eq_some_iff.1 h1).1
  rw [bv_get _ _ hlt] at h2
  have e : arr[f + j] = c := (List.getElem?_eq_some_iff.1 h1).2
  rw [e] at h2
  by_cases h0 : j = 0
  · subst h0; simpa [Addr.add] using h2
  · simpa [Addr.add, h0] using h2
theorem bv_cell {w : World} {b : Nat} {t : TypeId} {arr : List UInt8} (h : Blk w b t (bv arr)) (j : Nat) (c : UInt8) (hj : arr[j]? = some c) : w.cell? ⟨b, j, none⟩ = some (.int .u8 c.toNat) := by
  have h2 := h.cell j
  have hlt := (List.getElem?_eq_some_iff.1 hj).1
  rw [bv_get _ _ hlt] at h2
  have e : arr[j] = c := (List.getElem?_eq_some_iff.1 hj).2
  rw [e] at h2
  exact h2

/-- a string out of a list of bytes -/
def str (l : List UInt8) : ByteArray := ⟨l.toArray⟩
theorem str_list (l : List UInt8) : (str l).data.toList = l := rfl
theorem str_size (l : List UInt8) : (str l).size = l.length := rfl
theorem str_of (s : ByteArray) : str s.data.toList = s := rfl
theorem str_inj {a b : List UInt8} : str a = str b ↔ a = b := ⟨fun h => by have := congrArg (fun s : ByteArray => s.data.toList) h; simpa [str] using this, fun h => by rw [h]⟩

theorem foldl_push (l : List UInt8) : ∀ (r : ByteArray), (l.map fun c => ((c.toNat : Nat) : Int)).foldl (fun r n => r.push (UInt8.ofNat n.toNat)) r = str (r.data.toList ++ l) := by
  induction l with
  | nil => intro r; simp [str]
  | cons c l ih =>
    intro r
    simp only [List.map_cons, List.foldl_cons]
    rw [ih]
    simp [str, ByteArray.push]

section
variable {P : Program}
theorem run_string_bytes (w : World) (src dst e : TypeId) (a : Addr) (n c : Nat) (cs : List UInt8) (hs : P.underlying src = some (.slice e)) (he : P.underlying e = some (.int .u8)) (hd : P.underlying dst = some .string)
    (hn : cs.length = n) (hc : ∀ j v, cs[j]? = some v → w.cell? (a.add j) = some (.int .u8 v.toNat)) :
    (convert src dst (.slice (some a) n c)).run P w = .ok (.string (str cs)) w := by
  rw [run_convert_bytes_string w src dst e _ n c hs he hd]
  have hl := run_loadCells_list (P := P) w a (cs.map fun c => Value.int .u8 c.toNat) (by
    intro j v hv
    simp only [List.getElem?_map, Option.map_eq_some_iff] at hv
    obtain ⟨c, hc', rfl⟩ := hv
    exact hc j c hc')
  rw [run_bytesToString w a n c (cs.map fun c => ((c.toNat : Nat) : Int)) (by rw [← hn]; simpa [List.map_map, Function.comp_def] using hl), foldl_push]
  rfl

/-- a new row of bytes -/
def Made (w w' : World) (t : TypeId) (cs : Array Value) : Prop := w' = w.alloc (.cells cs t)
theorem Made.blk {w w' : World} {t : TypeId} {cs : Array Value} (h : Made w w' t cs) : Blk w' w.heap.size t cs := by rw [h]; exact Blk.new w t cs
theorem Made.old {w w' : World} {t t' : TypeId} {cs ds : Array Value} {g : Nat} (h : Made w w' t cs) (hb : Blk w g t' ds) : Blk w' g t' ds := by rw [h]; exact hb.alloc _
theorem Made.keeps {w w' a : World} {t : TypeId} {cs : Array Value} {S : Nat → Prop} (h : Made w w' t cs) (k : Keeps S a w) : Keeps S a w' := by rw [h]; exact k.alloc _
theorem Made.size {w w' : World} {t : TypeId} {cs : Array Value} (h : Made w w' t cs) : w'.heap.size = w.heap.size + 1 := by rw [h]; simp

theorem made_zero (n : Nat) : madeCells (Value.int .u8 0).cells (n * 1) = bv (List.replicate n 0) := by
  apply Array.ext
  · simp [madeCells, bv]
  · intro i h1 h2
    simp [madeCells, bv, Value.cells, Nat.mod_one]

theorem wpList_make_bytes (w : World) {ops : Array Oper} {rest : List Oper} {o : Oper} {a : Act} {Q : Exit → Act → World → Prop}
    (hg : o.guard = none) (l c : Operand) (t : TypeId) (hop : o.op = Op.makeSlice t l c) (e : TypeId)
    (h1 : P.underlying t = some (.slice e)) (h2 : (P.info? e).map (fun i => (i.zero, i.size, i.bytes)) = some (some (.int .u8 0), 1, 1))
    (m n : Nat) (hl : a.eval l = .int .i64 m) (hc : a.eval c = .int .i64 n) (hmn : m ≤ n) (b2 : n ≤ 281474976710656)
    (hK : ∀ w', Made w w' e (bv (List.replicate n 0)) → wpList P ops Q rest (a.put o.dst (.slice (some ⟨w.heap.size, 0, none⟩) m n)) w') :
    wpList P ops Q (o :: rest) a w := by
  refine wpList_plain hg fun K hK' => ?_
  obtain ⟨i, hi, hz, hs, hb⟩ := info_parts h2
  have hrun := run_make (P := P) w t e i (.int .u8 0) h1 hi hz .i64 .i64 m n (by omega) (by omega) (by rw [hb]; omega) (by omega)
  rw [hs, Int.toNat_natCast, Int.toNat_natCast, made_zero] at hrun
  unfold Oper.wp
  simp only [execOp, hop, hl, hc, hrun, Sem.run_bind, Sem.run_pure, Result.andThen_ok]
  exact hK' _ _ (hK _ rfl)

theorem wpList_string_bytes (w : World) {ops : Array Oper} {rest : List Oper} {o : Oper} {a : Act} {Q : Exit → Act → World → Prop}
    (hg : o.guard = none) (x : Operand) (src dst : TypeId) (hop : o.op = Op.convert src dst x) (e : TypeId) (hs : P.underlying src = some (.slice e)) (he : P.underlying e = some (.int .u8)) (hd : P.underlying dst = some .string)
    (b off n c : Nat) (hx : a.eval x = .slice (some ⟨b, off, none⟩) n c) (cs : List UInt8) (hn : cs.length = n) (hc : ∀ j v, cs[j]? = some v → w.cell? ⟨b, off + j, none⟩ = some (.int .u8 v.toNat))
    (hK : wpList P ops Q rest (a.put o.dst (.string (str cs))) w) :
    wpList P ops Q (o :: rest) a w := by
  refine wpList_plain hg fun K hK' => ?_
  have hrun := run_string_bytes (P := P) w src dst e ⟨b, off, none⟩ n c cs hs he hd hn (fun j v hv => by
    have := hc j v hv
    by_cases h0 : j = 0
    · subst h0; simpa [Addr.add] using this
    · simpa [Addr.add, h0] using this)
  unfold Oper.wp
  simp only [execOp, hop, hx, hrun, Sem.run_bind, Sem.run_pure, Result.andThen_ok]
  exact hK' _ _ hK
end

/-- a return of a struct that lies in a block known whole, and of one value more -/
theorem ret_cell_tmp {P : Program} {fn : Func} {p u : Tmp} {ty : TypeId} (h : fn.results = #[.cell p ty, .tmp u]) {a : Act} {w : World} {R : Ending → World → Prop} (g : Nat) (t : TypeId) (cs : Array Value) (d : TypeDesc)
    (hp : a.tmps.getD p undef = .pointer (some ⟨g, 0, none⟩)) (hb : Blk w g t cs) (hu : P.underlying ty = some d) (hd : (match d with | .struct _ | .array _ _ => true | _ => false) = true)
    (hi : (P.info? ty).map (·.size) = some cs.size) (hdf : a.defers = []) (hR : R (.returned (.tuple #[.agg cs, a.tmps.getD u undef])) w) : bodyPost P fn R .ret a w := by
  refine bodyPost_ret (v := .tuple #[.agg cs, a.tmps.getD u undef]) ?_ hdf hR
  rw [results_cell_tmp h, hp]
  simp [asAddr, run_loadVar_row w g t ty cs (0, 0) d hb hu hd hi]
theorem ret_cell {P : Program} {fn : Func} {p : Tmp} {ty : TypeId} (h : fn.results = #[.cell p ty]) {a : Act} {w : World} {R : Ending → World → Prop} (g : Nat) (t : TypeId) (cs : Array Value) (d : TypeDesc)
    (hp : a.tmps.getD p undef = .pointer (some ⟨g, 0, none⟩)) (hb : Blk w g t cs) (hu : P.underlying ty = some d) (hd : (match d with | .struct _ | .array _ _ => true | _ => false) = true)
    (hi : (P.info? ty).map (·.size) = some cs.size) (hdf : a.defers = []) (hR : R (.returned (.agg cs)) w) : bodyPost P fn R .ret a w :=
  bodyPost_ret (results_cell_row h _ w g t cs (0, 0) d hp hb hu hd hi) hdf hR
theorem Blk.new2 (w : World) (o : Obj) (t : TypeId) (cs : Array Value) : Blk ((w.alloc o).alloc (.cells cs t)) (w.heap.size + 1) t cs := by
  have := Blk.new (w.alloc o) t cs
  rwa [World.size_alloc] at this
theorem Keeps.setNew {S : Nat → Prop} {a b : World} (h : Keeps S a b) {g i : Nat} (hg : a.heap.size ≤ g) (u : Value) : Keeps S a (b.setCell ⟨g, i, none⟩ u) := h.setCell (fun hh => by have : g < a.heap.size := hh; omega) u
end Go.Proofs.YtemjbblehiaobaaDoor
