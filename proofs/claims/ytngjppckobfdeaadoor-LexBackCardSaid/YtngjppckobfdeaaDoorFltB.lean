/-
  fault: the code, the line and the text of an error, however often it was wrapped.
-/
import Derived.Test.YtngjppckobfdeaaDoorErrD
import Derived.Test.YtngjppckobfdeaaDoorFltA
import Derived.Test.YtngjppckobfdeaaDoorShelf
namespace Go.Proofs.YtngjppckobfdeaaDoor
open Go.RowKit

/-- a chain whose blocks lie below U -/
inductive ChainB (w : World) (U : Nat) : List (Int × ByteArray) → Int → Value → Prop
  | kind (c : Int) : ChainB w U [] c (.iface tKind (.int .i64 c))
  | layer (a : Nat) (n : Int) (s : ByteArray) (v : Value) (l : List (Int × ByteArray)) (c : Int) :
      a < U → Blk w a tFault #[.int .i64 n, .string s, v] → ChainB w U l c v → ChainB w U ((n, s) :: l) c (.iface tPFault (.pointer (some ⟨a, 0, none⟩)))
theorem ChainB.chain {w : World} {U : Nat} {l : List (Int × ByteArray)} {c : Int} {v : Value} (h : ChainB w U l c v) : Chain w l c v := by
  induction h with
  | kind c => exact .kind c
  | layer a n s v l c _ hb _ ih => exact .layer a n s v l c hb ih
theorem ChainB.more {w : World} {U U' : Nat} {l : List (Int × ByteArray)} {c : Int} {v : Value} (h : ChainB w U l c v) (hU : U ≤ U') : ChainB w U' l c v := by
  induction h with
  | kind c => exact .kind c
  | layer a n s v l c ha hb _ ih => exact .layer a n s v l c (by omega) hb ih
theorem Chain.b {w : World} {l : List (Int × ByteArray)} {c : Int} {v : Value} (h : Chain w l c v) : ChainB w w.heap.size l c v := by
  induction h with
  | kind c => exact .kind c
  | layer a n s v l c hb _ ih => exact .layer a n s v l c hb.lt hb ih
theorem ChainB.keeps {S : Nat → Prop} {w w' : World} {U : Nat} {l : List (Int × ByteArray)} {c : Int} {v : Value} (h : ChainB w U l c v) (k : Keeps S w w')
    (hS : ∀ a, a < U → ¬ S a) : ChainB w' U l c v := by
  induction h with
  | kind c => exact .kind c
  | layer a n s v l c ha hb _ ih => exact .layer a n s v l c ha (hb.keeps k (hS a ha)) ih
theorem ChainB.form {w : World} {U : Nat} {l : List (Int × ByteArray)} {c : Int} {v : Value} (h : ChainB w U l c v) : ∃ ty x, v = .iface ty x := h.chain.form

/-- the first line above 0 -/
def lineOf : List (Int × ByteArray) → Int
  | [] => 0
  | (n, _) :: l => if 0 < n then n else lineOf l

set_option maxRecDepth 100000 in
set_option maxHeartbeats 2000000 in
theorem find_placed (w : World) (U : Nat) (l : List (Int × ByteArray)) (c : Int) (v : Value) (h : ChainB w U l c v) (hU : U ≤ w.heap.size) (hg : Ety w) :
    Calls Tryd.prog 40 #[v, .func (.func 41) #[] #[]] w fun e w' => Keeps (fun _ => False) w w' ∧
      ((e = .returned (.pointer none) ∧ lineOf l = 0) ∨ ∃ a n s u, e = .returned (.pointer (some ⟨a, 0, none⟩)) ∧ Blk w' a tFault #[.int .i64 n, .string s, u] ∧ n = lineOf l ∧ 0 < n) := by
  have HG := Lib.hid hg
  clear hg
  go_enter Tryd.func40, Tryd.ntmps40
  go_wp2_with fail
  go_loopg [0] l.length (fun k u wr => ∃ l', k = l'.length ∧ lineOf l' = lineOf l ∧ ChainB w U l' c u ∧ Keeps (fun _ => False) w wr)
  case atStart => exact ⟨l, rfl, rfl, h, Keeps.refl _ _⟩
  case round =>
    obtain ⟨l', rfl, hl, hc, hK⟩ := hrel
    have HL := Lib.hid hl
    have hg := Lib.hid ((Ety.keeps HG hK id).keeps ((Keeps.refl (fun _ => False) wr).alloc (.cells #[.pointer none] tPFault)) id)
    have hch := (hc.keeps hK (fun _ _ => id)).keeps ((Keeps.refl (fun _ => False) wr).alloc (.cells #[.pointer none] tPFault)) (fun _ _ => id)
    have HA := Lib.hid (as_fault c (.pointer none) wr.heap.size l' _ _ hch.chain hg (Blk.new wr tPFault #[.pointer none]))
    have hlt : U ≤ wr.heap.size := by have := hK.size; omega
    clear hl hch
    cases hc with
    | kind =>
      go_wp2_with (go_at_call 39; go_must (refine HA.out.mono ?_; rintro e w2 ⟨-, hq, k2⟩; obtain ⟨rfl, hb⟩ := hq _ rfl; clear hq; have hcell := hb.cell 0; simp only [List.getElem?_toArray, List.getElem?_cons_zero] at hcell))
      go_ret
      refine ⟨(hK.alloc _).and_ k2 (fun i hi e => by have := hK.size; omega), .inl ⟨rfl, HL.out.symm⟩⟩
    | layer a n s u l2 _ ha hb hc =>
      have hbw := (hb.keeps hK id).alloc (.cells #[.pointer none] tPFault)
      obtain ⟨uty, ux, hux⟩ := hc.form
      have HX := Lib.hid (⟨hb, hc⟩ : Blk w a tFault #[.int .i64 n, .string s, u] ∧ ChainB w U l2 c u)
      have HW := Lib.hid hbw
      clear hb hc hbw
      subst hux
      go_wp2_with (go_at_call 39; go_must (refine HA.out.mono ?_; rintro e w2 ⟨hq, -, k2⟩; obtain ⟨rfl, hb⟩ := hq _ rfl; clear hq; have hcell := hb.cell 0; simp only [List.getElem?_toArray, List.getElem?_cons_zero] at hcell; have hb2 := Blk.keeps HW k2 (by omega)))
      have hp := placed_any w2 a n s _ hb2
      have kk : Keeps (fun _ => False) w w2 := (hK.alloc _).and_ k2 (fun i hi e => by have := hK.size; omega)
      obtain ⟨c0, c1, c2⟩ := hb2.cells3
      by_cases hpos : 0 < n
      · have hq : decide (0 < n) = true := by simpa using hpos
        rw [hq] at hp
        have HP := Lib.hid hp
        have HB2 := Lib.hid hb2
        clear hp hq hb2 hb
        refine HP.out.mono ?_
        rintro e w3 ⟨rfl, rfl⟩
        go_wp2_with fail
        go_ret
        exact ⟨kk, .inr ⟨a, n, s, _, rfl, HB2.out, by have := HL.out; rw [lineOf, if_pos hpos] at this; exact this, hpos⟩⟩
      · have hq : decide (0 < n) = false := by simpa using hpos
        rw [hq] at hp
        have HP := Lib.hid hp
        clear hp hq hb2 hb
        refine HP.out.mono ?_
        rintro e w3 ⟨rfl, rfl⟩
        go_wp2_with fail
        go_roundg l2.length
        case measure => simp
        case rel => exact ⟨l2, rfl, by have := HL.out; rw [lineOf, if_neg (by omega)] at this; exact this, HX.out.2, kk⟩
theorem tells_one (n : Int) (s : ByteArray) : (tellsOf n s).length ≤ 2 := by
  unfold tellsOf; split <;> split <;> simp
theorem tells_len (l : List (Int × ByteArray)) : (l.map fun x => tellsOf x.1 x.2).flatten.length ≤ 2 * l.length := by
  induction l with
  | nil => simp
  | cons x l ih =>
    simp only [List.map_cons, List.flatten_cons, List.length_append, List.length_cons]
    have := tells_one x.1 x.2
    omega

set_option maxRecDepth 100000 in
set_option maxHeartbeats 2000000 in
theorem find_tell (w : World) (U g : Nat) (ts : List ByteArray) (l : List (Int × ByteArray)) (c : Int) (v : Value) (h : ChainB w U l c v) (hU : U ≤ g) (hge : 0 < g) (hg : Ety w) (hT : IsTeller w g ts)
    (hl : ∀ x ∈ l, -9223372036854775808 ≤ x.1 ∧ x.1 ≤ 9223372036854775807) (hn : ts.length + 2 * l.length ≤ 17179869183) :
    Calls Tryd.prog 40 #[v, .func (.func 45) #[.pointer (some ⟨g, 0, none⟩)] #[]] w fun e w' => e = .returned (.pointer none) ∧ IsTeller w' g (ts ++ (l.map fun x => tellsOf x.1 x.2).flatten) ∧ Keeps (fun i => g ≤ i) w w' := by
  have hgw : g < w.heap.size := by obtain ⟨_, hb, _⟩ := hT; exact hb.lt
  have HG := Lib.hid hg
  have HN : Hid (∀ x ∈ l, -9223372036854775808 ≤ x.1 ∧ x.1 ≤ 9223372036854775807) := Lib.hid hl
  clear hg hl
  go_enter Tryd.func40, Tryd.ntmps40
  go_wp2_with fail
  go_loopg [0] l.length (fun k u wr => ∃ l1 l', k = l'.length ∧ l1 ++ l' = l ∧ ChainB w U l' c u ∧ IsTeller wr g (ts ++ (l1.map fun x => tellsOf x.1 x.2).flatten) ∧ Keeps (fun i => g ≤ i) w wr)
  case atStart => exact ⟨[], l, rfl, rfl, h, by simpa using hT, Keeps.refl _ _⟩
  case round =>
    obtain ⟨l1, l', rfl, hl, hc, hTr, hK⟩ := hrel
    have HL := Lib.hid hl
    have HT := Lib.hid hTr
    have hg := Lib.hid ((Ety.keeps HG hK (by omega)).keeps ((Keeps.refl (fun _ => False) wr).alloc (.cells #[.pointer none] tPFault)) id)
    have hch := (hc.keeps hK (fun _ _ => by omega)).keeps ((Keeps.refl (fun _ => False) wr).alloc (.cells #[.pointer none] tPFault)) (fun _ _ => id)
    have HA := Lib.hid (as_fault c (.pointer none) wr.heap.size l' _ _ hch.chain hg (Blk.new wr tPFault #[.pointer none]))
    have hlt : U ≤ wr.heap.size := by have := hK.size; omega
    have hgr : g < wr.heap.size := by have := hK.size; omega
    clear hl hch hTr
    cases hc with
    | kind =>
      go_wp2_with (go_at_call 39; go_must (refine HA.out.mono ?_; rintro e w2 ⟨-, hq, k2⟩; obtain ⟨rfl, hb⟩ := hq _ rfl; clear hq; have hcell := hb.cell 0; simp only [List.getElem?_toArray, List.getElem?_cons_zero] at hcell))
      go_ret
      refine ⟨rfl, ?_, (hK.alloc _).and_ k2 (fun i hi e => by omega)⟩
      have := IsTeller.keeps HT (S := fun _ => False) (((Keeps.refl _ wr).alloc _).and_ k2 (fun i hi e => by omega)) (fun _ _ => id)
      have hl := HL.out
      rw [List.append_nil] at hl
      rw [← hl]; exact this
    | layer a n s u l2 _ ha hb hc =>
      have hbw := (hb.keeps hK (by omega)).alloc (.cells #[.pointer none] tPFault)
      obtain ⟨uty, ux, hux⟩ := hc.form
      have HX := Lib.hid (⟨hb, hc⟩ : Blk w a tFault #[.int .i64 n, .string s, u] ∧ ChainB w U l2 c u)
      have HW := Lib.hid hbw
      clear hb hc hbw
      subst hux
      have hnl : (l1.length + (l2.length + 1) : Nat) = l.length := by have := congrArg List.length HL.out; simpa using this
      go_wp2_with (go_at_call 39; go_must (refine HA.out.mono ?_; rintro e w2 ⟨hq, -, k2⟩; obtain ⟨rfl, hb⟩ := hq _ rfl; clear hq; have hcell := hb.cell 0; simp only [List.getElem?_toArray, List.getElem?_cons_zero] at hcell; have hb2 := Blk.keeps HW k2 (by omega)))
      have k3 : Keeps (fun _ => False) wr w2 := ((Keeps.refl _ wr).alloc _).and_ k2 (fun i hi e => by omega)
      have hT2 := IsTeller.keeps HT k3 (fun _ _ => id)
      have hnn := HN.out (n, s) (by rw [← HL.out]; simp)
      have hlen : (ts ++ (l1.map fun x => tellsOf x.1 x.2).flatten).length ≤ 17179869183 := by
        rw [List.length_append]
        have := tells_len l1
        omega
      have HT2 := Lib.hid (tell_any w2 g a _ n s _ hT2 (by omega) hb2 hnn.1 hnn.2 hlen)
      have HF := Lib.hid hb
      clear hT2 hnn hlen hb2 hb
      refine HT2.out.mono ?_
      rintro e w3 ⟨rfl, h3, k4⟩
      have H3 := Lib.hid h3
      have hf3 := (Blk.keeps HW k2 (by omega)).keeps k4.up (by omega)
      obtain ⟨c0, c1, c2⟩ := hf3.cells3
      have hff := (Blk.keeps HF k4 (by
        rintro (h | ⟨_, cs, h⟩)
        · omega
        · exact absurd (Blk.typ h HF) (by decide))).cell 0
      simp only [List.getElem?_toArray, List.getElem?_cons_zero] at hff
      clear h3 hf3 hcell
      go_wp2_with fail
      go_roundg l2.length
      case measure => simp
      case rel => exact ⟨l1 ++ [(n, s)], l2, rfl, by rw [← HL.out]; simp, HX.out.2, by have := H3.out; simpa [List.append_assoc] using this, ((hK.trans k3.none_).trans k4.up)⟩
end Go.Proofs.YtngjppckobfdeaaDoor
