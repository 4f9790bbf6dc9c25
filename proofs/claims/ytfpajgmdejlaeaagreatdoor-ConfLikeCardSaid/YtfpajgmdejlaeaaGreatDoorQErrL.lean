/-
  fault.Line: the first line above 0 of an error, however often it was wrapped.
-/
import Derived.Test.YtfpajgmdejlaeaaGreatDoorQGround2
namespace Go.Proofs.YtfpajgmdejlaeaaGreatDoor
open Go.RowKit

theorem placed_any (w : World) (a : Nat) (n : Int) (s : ByteArray) (v : Value) (hb : Blk w a 98 #[.int .i64 n, .string s, v]) :
    Calls Tryz.prog 44 #[.pointer (some ⟨a, 0, none⟩)] w fun e w' => e = .returned (.bool (decide (0 < n))) ∧ w' = w := by
  obtain ⟨h0, h1, h2⟩ := hb.cells3
  go_enter Tryz.func44, Tryz.ntmps44
  go_wp2
  go_ret
  exact ⟨rfl, rfl⟩

/-- a chain whose blocks lie below U -/
inductive ChainB (w : World) (U : Nat) : List (Int × ByteArray) → Int → Value → Prop
  | kind (c : Int) : ChainB w U [] c (.iface tKind (.int .i64 c))
  | layer (a : Nat) (n : Int) (s : ByteArray) (v : Value) (l : List (Int × ByteArray)) (c : Int) :
      a < U → Blk w a tFault #[.int .i64 n, .string s, v] → ChainB w U l c v → ChainB w U ((n, s) :: l) c (.iface tPFault (.pointer (some ⟨a, 0, none⟩)))
theorem ChainB.chain {w : World} {U : Nat} {l : List (Int × ByteArray)} {c : Int} {v : Value} (h : ChainB w U l c v) : Chain w l c v := by
  induction h with
  | kind c => exact .kind c
  | layer a n s v l c _ hb _ ih => exact .layer a n s v l c hb ih
theorem ChainB.more {w : World} {U U' : Nat} {l : List (Int × ByteArray)} {c : Int} {v : Value} (h : ChainB w U l c v) (hU : U ≤ U') : ChainB w U' l c v := by
  induction h with
  | kind c => exact .kind c
  | layer a n s v l c ha hb _ ih => exact .layer a n s v l c (by omega) hb ih
theorem Chain.b {w : World} {l : List (Int × ByteArray)} {c : Int} {v : Value} (h : Chain w l c v) : ChainB w w.heap.size l c v := by
  induction h with
  | kind c => exact .kind c
  | layer a n s v l c hb _ ih => exact .layer a n s v l c hb.lt hb ih
theorem ChainB.keeps {S : Nat → Prop} {w w' : World} {U : Nat} {l : List (Int × ByteArray)} {c : Int} {v : Value} (h : ChainB w U l c v) (k : Keeps S w w')
    (hS : ∀ a, a < U → ¬ S a) : ChainB w' U l c v := by
  induction h with
  | kind c => exact .kind c
  | layer a n s v l c ha hb _ ih => exact .layer a n s v l c ha (hb.keeps k (hS a ha)) ih
theorem ChainB.form {w : World} {U : Nat} {l : List (Int × ByteArray)} {c : Int} {v : Value} (h : ChainB w U l c v) : ∃ ty x, v = .iface ty x := h.chain.form

/-- the first line above 0 -/
def lineOf : List (Int × ByteArray) → Int
  | [] => 0
  | (n, _) :: l => if 0 < n then n else lineOf l

set_option maxRecDepth 100000 in
set_option maxHeartbeats 2000000 in
theorem find_placed (w : World) (U : Nat) (l : List (Int × ByteArray)) (c : Int) (v : Value) (h : ChainB w U l c v) (hU : U ≤ w.heap.size) (hg : Ety w) :
    Calls Tryz.prog 43 #[v, .func (.func 44) #[] #[]] w fun e w' => Keeps (fun _ => False) w w' ∧
      ((e = .returned (.pointer none) ∧ lineOf l = 0) ∨ ∃ a n s u, e = .returned (.pointer (some ⟨a, 0, none⟩)) ∧ Blk w' a tFault #[.int .i64 n, .string s, u] ∧ n = lineOf l ∧ 0 < n) := by
  have HG := Lib.hid hg
  clear hg
  go_enter Tryz.func43, Tryz.ntmps43
  go_wp2_with fail
  go_loopg [0] l.length (fun k u wr => ∃ l', k = l'.length ∧ lineOf l' = lineOf l ∧ ChainB w U l' c u ∧ Keeps (fun _ => False) w wr)
  case atStart => exact ⟨l, rfl, rfl, h, Keeps.refl _ _⟩
  case round =>
    obtain ⟨l', rfl, hl, hc, hK⟩ := hrel
    have HL := Lib.hid hl
    have hg := Lib.hid ((Ety.keeps HG hK id).keeps ((Keeps.refl (fun _ => False) wr).alloc (.cells #[.pointer none] tPFault)) id)
    have hch := (hc.keeps hK (fun _ _ => id)).keeps ((Keeps.refl (fun _ => False) wr).alloc (.cells #[.pointer none] tPFault)) (fun _ _ => id)
    have HA := Lib.hid (as_fault c (.pointer none) wr.heap.size l' _ _ hch.chain hg (Blk.new wr tPFault #[.pointer none]))
    have hlt : U ≤ wr.heap.size := by have := hK.size; omega
    clear hl hch
    cases hc with
    | kind =>
      go_wp2_with (go_at_call 42; go_must (refine HA.out.mono ?_; rintro e w2 ⟨-, hq, k2⟩; obtain ⟨rfl, hb⟩ := hq _ rfl; clear hq; have hcell := hb.cell 0; simp only [List.getElem?_toArray, List.getElem?_cons_zero] at hcell))
      go_ret
      refine ⟨(hK.alloc _).and_ k2 (fun i hi e => by have := hK.size; omega), .inl ⟨rfl, HL.out.symm⟩⟩
    | layer a n s u l2 _ ha hb hc =>
      have hbw := (hb.keeps hK id).alloc (.cells #[.pointer none] tPFault)
      obtain ⟨uty, ux, hux⟩ := hc.form
      have HX := Lib.hid (⟨hb, hc⟩ : Blk w a tFault #[.int .i64 n, .string s, u] ∧ ChainB w U l2 c u)
      have HW := Lib.hid hbw
      clear hb hc hbw
      subst hux
      go_wp2_with (go_at_call 42; go_must (refine HA.out.mono ?_; rintro e w2 ⟨hq, -, k2⟩; obtain ⟨rfl, hb⟩ := hq _ rfl; clear hq; have hcell := hb.cell 0; simp only [List.getElem?_toArray, List.getElem?_cons_zero] at hcell; have hb2 := Blk.keeps HW k2 (by omega)))
      have hp := placed_any w2 a n s _ hb2
      have kk : Keeps (fun _ => False) w w2 := (hK.alloc _).and_ k2 (fun i hi e => by have := hK.size; omega)
      obtain ⟨c0, c1, c2⟩ := hb2.cells3
      by_cases hpos : 0 < n
      · have hq : decide (0 < n) = true := by simpa using hpos
        rw [hq] at hp
        have HP := Lib.hid hp
        have HB2 := Lib.hid hb2
        clear hp hq hb2 hb
        refine HP.out.mono ?_
        rintro e w3 ⟨rfl, rfl⟩
        go_wp2_with fail
        go_ret
        exact ⟨kk, .inr ⟨a, n, s, _, rfl, HB2.out, by have := HL.out; rw [lineOf, if_pos hpos] at this; exact this, hpos⟩⟩
      · have hq : decide (0 < n) = false := by simpa using hpos
        rw [hq] at hp
        have HP := Lib.hid hp
        clear hp hq hb2 hb
        refine HP.out.mono ?_
        rintro e w3 ⟨rfl, rfl⟩
        go_wp2_with fail
        go_roundg l2.length
        case measure => simp
        case rel => exact ⟨l2, rfl, by have := HL.out; rw [lineOf, if_neg (by omega)] at this; exact this, HX.out.2, kk⟩
theorem line_nil (w : World) : Calls Tryz.prog 17 #[.nilIface] w fun e w' => e = .returned (.int .i64 0) ∧ Keeps (fun _ => False) w w' := by
  have hf : ∀ w, Calls Tryz.prog 43 #[.nilIface, .func (.func 44) #[] #[]] w fun e w' => e = .returned (.pointer none) ∧ w' = w := by
    intro w
    go_enter Tryz.func43, Tryz.ntmps43
    go_wp2_with fail
    refine wp_loop_rounds 1 ?_
    rw [rounds_succ]
    go_wp2
    go_ret
    exact ⟨rfl, rfl⟩
  have HF := Lib.hid hf
  clear hf
  go_enter Tryz.func17, Tryz.ntmps17
  go_wp2_with (go_at_call 43; go_must (refine (HF.out _).mono ?_; rintro e w2 ⟨rfl, rfl⟩))
  go_ret
  exact ⟨rfl, Keeps.refl _ _⟩

set_option maxRecDepth 100000 in
theorem line_chain (w : World) (l : List (Int × ByteArray)) (c : Int) (v : Value) (h : Chain w l c v) (hg : Ety w) :
    Calls Tryz.prog 17 #[v] w fun e w' => e = .returned (.int .i64 (lineOf l)) ∧ Keeps (fun _ => False) w w' := by
  have HF := Lib.hid (find_placed w _ l c v h.b (Nat.le_refl _) hg)
  obtain ⟨ty, x, rfl⟩ := h.form
  clear h hg
  go_enter Tryz.func17, Tryz.ntmps17
  go_wp2_with fail
  refine HF.out.mono ?_
  rintro e w2 ⟨k2, ⟨rfl, hl⟩ | ⟨a, n, s, u, rfl, hb, hn, hp⟩⟩
  · have HL := Lib.hid hl
    clear hl
    go_wp2_with fail
    go_ret
    exact ⟨by rw [HL.out]; rfl, k2⟩
  · have HL := Lib.hid hn
    obtain ⟨c0, c1, c2⟩ := hb.cells3
    clear hn hb
    go_wp2_with fail
    go_ret
    exact ⟨by rw [← HL.out]; rfl, k2⟩
end Go.Proofs.YtfpajgmdejlaeaaGreatDoor
