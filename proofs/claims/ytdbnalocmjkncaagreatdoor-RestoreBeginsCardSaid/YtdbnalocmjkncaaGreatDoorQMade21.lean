/-
  'Made' of law21: a store with files of a log's generations, and one besides, and the document's.
-/
import Derived.Test.YtdbnalocmjkncaaGreatDoorQWorks21
import Derived.Test.YtdbnalocmjkncaaGreatDoorQPair
import Derived.Deep.Fields
namespace Go.Proofs.YtdbnalocmjkncaaGreatDoor
open Go.RowKit Go.Maps Go.ChangeShapes Go.WideShapes Go.Deep
attribute [local instance] noRes

structure File21 where
  gen : Nat
  s : ByteArray
  sure : Bool
def fileR (x : File21) : List Value := [.int .u8 x.gen, .string x.s, .bool x.sure]
def File21.good (x : File21) : Prop := x.gen ≤ 255 ∧ x.s.size ≤ maxLen
section
variable {H : Type} {enc : TypeId × Value → H} {P : Program} {w : World} {base : Nat} {spare : Nat → Bool} {held : Bool}
theorem files21_of {t e : TypeId} {a : Option Addr} {n c : Nat} {d : DataW H} {ps : List MemPlace} {f0 f1 f2 : Field} (ht : P.underlying t = some (.slice e)) (he : P.underlying e = some (.struct #[f0, f1, f2])) (hone : oneCellFields P #[f0, f1, f2] = true)
    (hc : P.cellsOf e = 3) (h0 : P.underlying f0.type = some (.int .u8)) (h1 : P.underlying f1.type = some .string) (h2 : P.underlying f2.type = some .bool)
    (h : DataW.Trod enc P w base spare held t (.slice a n c) d ps) : ∃ l : List File21, SlAt fileR 3 w a n l ∧ ∀ x ∈ l, x.good :=
  sl_of fileR File21.good 3 ht hc (by omega) (fun _ => rfl) (fun fuel cs y hd => by
    obtain ⟨xs, k, _, _, hlen, hxl, hf⟩ := DataW.trod_struct he hd
    have hxl : xs.length = 3 := hxl
    rw [hc] at hlen
    match cs, hlen with
    | [v0, v1, v2], _ =>
      obtain ⟨o0, k0⟩ := hone_of hone 0 f0 rfl
      obtain ⟨o1, k1⟩ := hone_of hone 1 f1 rfl
      obtain ⟨o2, k2⟩ := hone_of hone 2 f2 rfl
      have e0 := hf 0 f0 rfl
      have e1 := hf 1 f1 rfl
      have e2 := hf 2 f2 rfl
      rw [o0, k0] at e0
      rw [o1, k1] at e1
      rw [o2, k2] at e2
      simp only [List.drop_zero, List.drop_succ_cons, List.take_succ_cons, List.take_zero] at e0 e1 e2
      rw [List.getElem?_eq_getElem (by omega)] at e0 e1 e2
      obtain ⟨n0, hv0, _, w0⟩ := DataW.trod_int h0 e0
      obtain ⟨s1, hv1, _, w1⟩ := DataW.trod_string h1 e1
      obtain ⟨b2, hv2, _⟩ := DataW.trod_bool h2 e2
      have hb : 0 ≤ n0 ∧ n0 ≤ 255 := by simpa [Lit.wf, IntKind.min, IntKind.max, IntKind.signed, IntKind.bits] using w0
      injection hv0 with hv0
      injection hv1 with hv1
      injection hv2 with hv2
      subst hv0 hv1 hv2
      obtain ⟨m0, rfl⟩ := Int.eq_ofNat_of_zero_le hb.1
      exact ⟨⟨m0, s1, b2⟩, rfl, by show m0 ≤ 255; omega, w1⟩) h
end
theorem fileAt {w : World} {a : Option Addr} {n : Nat} {l : List File21} (h : SlAt fileR 3 w a n l) {i : Nat} (hi : i < n) : ∃ x b off, x ∈ l ∧ a = some ⟨b, off, none⟩ ∧ b < w.heap.size ∧ ∀ W, Keeps (fun _ => False) w W →
    (W.cell? ⟨b, off + i * 3, none⟩ = some (.int .u8 x.gen) ∧ W.cell? ⟨b, off + i * 3 + 1, none⟩ = some (.string x.s) ∧ W.cell? ⟨b, off + i * 3 + 2, none⟩ = some (.bool x.sure)) := by
  obtain ⟨b, off, ha, hb, _⟩ := h.2 (by omega)
  have hl : i < l.length := by rw [h.1]; exact hi
  refine ⟨l[i], b, off, List.getElem_mem hl, ha, hb, fun W k => ?_⟩
  obtain ⟨b', off', ha', _, hc⟩ := (h.keeps k (fun _ _ => id)).2 (by omega)
  rw [ha] at ha'
  injection ha' with ha'
  injection ha' with e1 e2
  subst e1 e2
  have hx := List.getElem?_eq_getElem hl
  exact ⟨hc i _ 0 _ hx rfl, hc i _ 1 _ hx rfl, hc i _ 2 _ hx rfl⟩

/-! what is beside the log stays -/
abbrev cOther : ByteArray := ⟨#[111, 116, 104, 101, 114]⟩
abbrev cLog : ByteArray := ⟨#[108, 111, 103]⟩
theorem log_ne (i : Int) : cOther ≠ genName cLog i := fun e => by
  have hl : cOther.data.toList = (genName cLog i).data.toList := by rw [← e]
  by_cases hi : i ≤ 0
  · rw [genName_zero hi] at hl; simp at hl
  · rw [genName_list (by omega)] at hl; simp at hl
theorem append_ne {most : Int} {l : List SFile} (hr : Rise SFile.name l) {nm b : ByteArray} {x : ByteArray} (hne : x ≠ nm) : getG SFile.name x (appendP most 0 l nm b).2.2 = getG SFile.name x l ∧ (appendP most 0 l nm b).2.1 = 0 := by
  have hb : (beginC 0 nm).2 = 0 := by have := begin_bad 0 nm; omega
  unfold appendP
  by_cases h0 : (beginC 0 nm).1 ≠ 0
  · rw [if_pos h0]; exact ⟨rfl, hb⟩
  · rw [if_neg h0]
    by_cases h1 : most < (totF l : Int) + b.size
    · rw [if_pos h1]; exact ⟨rfl, hb⟩
    · rw [if_neg h1]
      cases hg : getG SFile.name nm l with
      | none => exact ⟨get_put_ne hr hne, hb⟩
      | some f => exact ⟨get_put_ne hr hne, hb⟩
theorem sync_ne {l : List SFile} (hr : Rise SFile.name l) {nm : ByteArray} {x : ByteArray} (hne : x ≠ nm) : getG SFile.name x (syncP 0 l nm).2.2 = getG SFile.name x l ∧ (syncP 0 l nm).2.1 = 0 := by
  have hb : (beginC 0 nm).2 = 0 := by have := begin_bad 0 nm; omega
  unfold syncP
  by_cases h0 : (beginC 0 nm).1 ≠ 0
  · rw [if_pos h0]; exact ⟨rfl, hb⟩
  · rw [if_neg h0]
    cases hg : getG SFile.name nm l with
    | none => exact ⟨rfl, hb⟩
    | some f => exact ⟨get_put_ne hr hne, hb⟩
/-- what Made makes -/
def MadeSt (w0 wr : World) (s M xb n : Nat) (L : List SRep) (v : Value) : Prop := Pair w0 wr s M 10000 0 L v xb n ∧ getG SFile.name cOther (L.map SRep.f) = some ⟨cOther, ⟨#[111]⟩, 0⟩

section
variable {w0 w w3 wx : World} {s M bad n xb : Nat} {most : Int} {L L3 : List SRep} {v v3 : Value}
/-- the store has acted (w3), the document's variable not yet -/
structure Half (w0 wr : World) (s M : Nat) (most : Int) (bad : Nat) (L : List SRep) (l : List SFile) (v : Value) (b0 xb n : Nat) : Prop where
  sto : Sto w0 wr s M most bad L n
  doc : DocL wr v l
  xat : Blk wr xb 27 #[v, .int .i64 most, .int .i64 b0]
  xlo : w0.heap.size ≤ xb
theorem Pair.half (h : Pair w0 w s M most bad L v xb n) {bad3 m : Nat} (hS : Sto w0 w3 s M most bad3 L3 m) (k3 : Keeps (fun i => w0.heap.size ≤ i ∧ StR w i) w w3) : Half w0 w3 s M most bad3 L3 (L.map SRep.f) v bad xb m :=
  ⟨hS, Sto.doc h.doc k3, h.xat.other k3 (by decide) (by decide) (by decide), h.xlo⟩
theorem Half.same {l : List SFile} {b0 : Nat} {w' : World} (h : Half w0 w s M most bad L l v b0 xb n) (k : Keeps (fun _ => False) w w') : Half w0 w' s M most bad L l v b0 xb n := ⟨h.sto.same k, h.doc.keeps k, h.xat.keeps k id, h.xlo⟩
theorem Half.fin {l : List SFile} {b0 : Nat} (h : Half w0 w s M most bad L l v b0 xb n) (hd : DocL w v3 (L.map SRep.f)) (kx : Keeps (fun i => i = xb) w wx) (hx : Blk wx xb 27 #[v3, .int .i64 most, .int .i64 bad]) : Pair w0 wx s M most bad L v3 xb n := by
  have hlo := h.xlo
  refine ⟨h.sto.beside kx (fun i e => by subst e; exact ⟨hlo, _, _, h.xat, by decide, by decide, by decide⟩), ?_, hx, hlo⟩
  exact OwnS.keeps hd kx (fun i _ _ ⟨cs, hb⟩ e => Blk.ne_ hb (e ▸ h.xat) (by decide) rfl)
end
end Go.Proofs.YtdbnalocmjkncaaGreatDoor
