/-
  The desk: Emit.
-/
import Derived.Test.YtcblaeleaebinaaDeskN
namespace Go.Proofs.Ytcblaeleaebinaa
open Go.RowKit

/-- what is sent so far: k of all -/
structure SentP (FL : Flow) (bg0 : List UInt8) (k : Nat) (bg : List UInt8) : Prop where
  le : k ≤ FL.length
  mark : ∀ c, 0 < k → FL[k - 1]? = some c → (bg = [] ↔ c.2 = true)
  zero : k = 0 → bg = bg0

theorem emit_step {FL rest fl : Flow} {bg0 bg : List UInt8} {k r : Nat} (hk : k ≤ FL.length) (h1 : FL.drop k = fl ++ rest) (h2 : fl.map Prod.fst = bg) (h3 : fl ≠ []) (h4 : fl = markP bg ∨ bg.length ≤ r) (h5 : ∀ c, fl.getLast? = some c → c.2 = true) (hr : 1 ≤ r) :
    SentP FL bg0 (k + min r bg.length) (bg.drop r) ∧ k < k + min r bg.length ∧ markP (bg.drop r) ++ rest = FL.drop (k + min r bg.length) ∧ (FL.take (k + min r bg.length)).map Prod.fst = (FL.take k).map Prod.fst ++ bg.take r := by
  have hlen : fl.length = bg.length := by rw [← h2]; simp
  have hpos : 1 ≤ fl.length := List.length_pos_iff.2 h3
  have hq : 1 ≤ min r bg.length := by omega
  have htot : FL.length - k = fl.length + rest.length := by rw [← List.length_drop, h1, List.length_append]
  have hget : ∀ j, j < fl.length → FL[k + j]? = fl[j]? := fun j hj => by
    rw [← List.getElem?_drop, h1, List.getElem?_append_left hj]
  refine ⟨⟨by omega, fun c _ hc => ?_, fun h => by omega⟩, by omega, ?_, ?_⟩
  · have e1 : k + min r bg.length - 1 = k + (min r bg.length - 1) := by omega
    rw [e1, hget _ (by omega)] at hc
    by_cases hle : bg.length ≤ r
    · have e2 : min r bg.length - 1 = fl.length - 1 := by omega
      rw [e2, ← List.getLast?_eq_getElem?] at hc
      have := h5 c hc
      rw [List.drop_eq_nil_of_le hle]
      simp [this]
    · rcases h4 with h4 | h4
      · rw [h4] at hc
        have := markP_get bg _ c hc
        have hd : bg.drop r ≠ [] := fun e => by have := congrArg List.length e; simp at this; omega
        constructor
        · intro e; exact absurd e hd
        · intro e; have := this.1 e; omega
      · omega
  · rw [← List.drop_drop, h1]
    by_cases hle : bg.length ≤ r
    · rw [List.drop_eq_nil_of_le hle, Nat.min_eq_right hle, ← hlen, List.drop_left]; rfl
    · rcases h4 with h4 | h4
      · rw [Nat.min_eq_left (by omega), List.drop_append_of_le_length (by omega), h4, markP_drop]
      · omega
  · rw [List.take_add, List.map_append, h1]
    congr 1
    rw [List.take_append_of_le_length (by omega), List.map_take, h2]
    rcases Nat.le_total r bg.length with h | h
    · rw [Nat.min_eq_left h]
    · rw [Nat.min_eq_right h, List.take_of_length_le h, List.take_of_length_le (Nat.le_refl _)]

/-- what Emit does -/
def Emitted (w : World) (E : Nat → PastD) (d : Nat) (F : Nat → Prop) (most : Nat) (torn : Bool) (bg : List UInt8) (l : List DPart) (n : Int) (e : Ending) (w' : World) : Prop :=
  ∃ k torn' bg' l' v', e = .returned (.string (str (((flowP E bg l).take k).map Prod.fst))) ∧ Keeps F w w' ∧ DeskAt w' E d F most torn' bg' l' v' ∧ FromL l' l ∧ k ≤ n.toNat ∧
    SentP (flowP E bg l) bg k bg' ∧ flowP E bg' l' = (flowP E bg l).drop k ∧ (k = min n.toNat (flowP E bg l).length ∧ torn' = torn ∨ torn' = true ∧ ¬ (∀ q ∈ l, q.kept E))
/-- Emit at a round's head: k bytes are sent -/
structure EmitAt (w0 w : World) (E : Nat → PastD) (d B : Nat) (F : Nat → Prop) (most : Nat) (torn : Bool) (bg : List UInt8) (l : List DPart) (n : Int) (k : Nat) (bg' : List UInt8) (l' : List DPart) (v' : Value) (bs : List Value) : Prop where
  kk : Keeps (fun i => F i ∧ i < B) w0 w
  at_ : DeskZ w E d (fun i => F i ∧ i < B) most torn bg' l' v' k
  from_ : FromL l' l
  sent : SentP (flowP E bg l) bg k bg'
  flow : flowP E bg' l' = (flowP E bg l).drop k
  le : k ≤ n.toNat
  bs_ : bs = Lib.byteCells (((flowP E bg l).take k).map Prod.fst)
  bld : Lib.IsBuilder 84 5 B B bs w
  sz : B = w0.heap.size

section
variable {w0 w w' : World} {E : Nat → PastD} {d B : Nat} {F : Nat → Prop} {most : Nat} {torn : Bool} {bg : List UInt8} {l : List DPart} {n : Int} {k : Nat} {bg' : List UInt8} {l' : List DPart} {v' : Value} {bs : List Value}
theorem EmitAt.len (h : EmitAt w0 w E d B F most torn bg l n k bg' l' v' bs) : bs.length = k := by
  rw [h.bs_, Lib.byteCells_length]; simp; exact Nat.min_eq_left h.sent.le
/-- a round's end: what is begun is sent, as far as there is room -/
theorem EmitAt.step {bg2 : List UInt8} {l2 : List DPart} {v2 : Value} {fl : Flow} {w2 w3 w4 : World} (h : EmitAt w0 w E d B F most torn bg l n k bg' l' v' bs) (K2 : Keeps (fun i => F i ∧ i < B) w w2)
    (h2 : DeskZ w2 E d (fun i => F i ∧ i < B) most torn bg2 l2 v2 k) (hF : FromL l2 l') (h1 : flowP E bg' l' = fl ++ l2.flatMap (DPart.flow E)) (hf : fl.map Prod.fst = bg2) (hne : fl ≠ []) (h4 : fl = markP bg2 ∨ (bg2.length : Int) ≤ n - k) (h5 : ∀ c, fl.getLast? = some c → c.2 = true)
    (hk : (k : Int) < n) (K3 : Keeps (fun i => i = d) w2 w3) (hb : Blk w3 d 72 #[.string (str (bg2.drop (n - k).toNat)), v2, .int .i64 ((flowP E bg2 l2).length + k : Nat), .int .i64 most, .bool torn])
    (K4 : Keeps (fun i => B ≤ i) w3 w4) (hI : Lib.IsBuilder 84 5 B B (bs ++ Lib.strCells (str (bg2.take (n - k).toNat))) w4) :
    k < k + min (n - k).toNat bg2.length ∧ EmitAt w0 w4 E d B F most torn bg l n (k + min (n - k).toNat bg2.length) (bg2.drop (n - k).toNat) l2 v2 (bs ++ Lib.strCells (str (bg2.take (n - k).toNat))) := by
  have hs := emit_step (bg0 := bg) (rest := l2.flatMap (DPart.flow E)) (fl := fl) (bg := bg2) (r := (n - k).toNat) h.sent.le (by rw [← h.flow]; exact h1) hf hne (h4.imp id fun h => by omega) h5 (by omega)
  have hd := h2.took (n - k).toNat K3 hb
  refine ⟨hs.2.1, ?_⟩
  exact {
    kk := ((h.kk.trans K2).trans (K3.mono fun i _ e => e ▸ h2.inD)).and_ K4 (fun i hi e => absurd hi (by have := h.sz; omega))
    at_ := hd.keeps K4 fun i hi e => by omega
    from_ := hF.trans h.from_
    sent := hs.1
    flow := hs.2.2.1
    le := by omega
    bs_ := by rw [hs.2.2.2, Lib.byteCells_append, h.bs_]; rfl
    bld := hI
    sz := h.sz }
/-- the end -/
theorem EmitAt.done (h : EmitAt w0 w E d B F most torn bg l n k bg' l' v' bs) {torn2 : Bool} {v2 : Value} {w2 w3 w4 : World} (K2 : Keeps (fun i => F i ∧ i < B) w w2) (h2 : DeskZ w2 E d (fun i => F i ∧ i < B) most torn2 bg' l' v2 k)
    (ht : k = min n.toNat (flowP E bg l).length ∧ torn2 = torn ∨ torn2 = true ∧ ¬ (∀ q ∈ l', q.kept E)) (K3 : Keeps (fun i => i = d) w2 w3) (hb : Blk w3 d 72 #[.string (str bg'), v2, .int .i64 (flowP E bg' l').length, .int .i64 most, .bool torn2])
    (K4 : Keeps (fun i => B ≤ i) w3 w4) : Emitted w0 E d F most torn bg l n (.returned (.string (str (((flowP E bg l).take k).map Prod.fst)))) w4 := by
  refine ⟨k, torn2, bg', l', v2, rfl, ?_, ?_, h.from_, h.le, h.sent, h.flow, ?_⟩
  · exact (((h.kk.trans K2).trans (K3.mono fun i _ e => e ▸ h2.inD)).and_ K4 (fun i hi e => absurd hi (by have := h.sz; omega))).mono fun i _ e => e.1
  · have := (h2.done K3 hb).keeps K4 (fun i hi e => by omega)
    exact this.more fun i hi => hi.1
  · refine ht.imp id fun ⟨h1, h2⟩ => ⟨h1, fun hall => h2 (h.from_.kept hall)⟩
end
end Go.Proofs.Ytcblaeleaebinaa
