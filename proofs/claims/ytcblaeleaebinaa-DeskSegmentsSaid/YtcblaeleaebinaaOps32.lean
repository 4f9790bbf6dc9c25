/-
  The acts of law32's statements, and what a desk, a past and the document's desk are while they go on.
-/
import Derived.Test.YtcblaeleaebinaaBenchF
import Derived.Test.YtcblaeleaebinaaRef32C
import Derived.Test.YtcblaeleaebinaaArgs
namespace Go.Proofs.Ytcblaeleaebinaa
open Go.RowKit

structure Op32 where
  kind : Nat
  s : ByteArray
  n : Int
def opR32 (x : Op32) : List Value := [.int .u8 x.kind, .string x.s, .int .i64 x.n]
def Op32.good (x : Op32) : Prop := x.kind ≤ 255 ∧ x.s.size ≤ maxLen ∧ -9223372036854775808 ≤ x.n ∧ x.n ≤ 9223372036854775807

structure Sends (w0 wr : World) (p g b d xb : Nat) (F : Nat → Prop) (all : ByteArray) (AF : Flow) (k most : Nat) (bg : List UInt8) : Prop where
  bench : BenchF w0 wr p g b 8000 d F all.data.toList most bg (AF.drop k)
  xat : Blk wr xb 38 #[.string (str (AF.map Prod.fst)), .string (str (emark AF)), .int .i64 k, .int .i64 most]
  xF : ¬ F xb
  xlo : w0.heap.size ≤ xb
  xne : xb ≠ p ∧ xb ≠ g ∧ xb ≠ b
  sent : SentP AF [] k bg

section
variable {w0 wr wo : World} {p g b d xb : Nat} {F : Nat → Prop} {all : ByteArray} {AF : Flow} {k most : Nat} {bg : List UInt8}
theorem Sends.same {w' : World} (h : Sends w0 wr p g b d xb F all AF k most bg) (kk : Keeps (fun _ => False) wr w') : Sends w0 w' p g b d xb F all AF k most bg :=
  { h with bench := h.bench.same kk, xat := h.xat.keeps kk id }
theorem Sends.below (h : Sends w0 wr p g b d xb F all AF k most bg) : Sends w0 wr p g b d xb (fun i => F i ∧ i < wr.heap.size) all AF k most bg :=
  { h with bench := h.bench.below, xF := fun e => h.xF e.1 }
/-- behind a desk's step (w3), and a store of what the document says (wx) -/
theorem Sends.fin {w3 wx : World} {F2 : Nat → Prop} {all2 : ByteArray} {AF2 FL2 : Flow} {k2 : Nat} {bg2 : List UInt8} (h : Sends w0 wo p g b d xb F all AF k most bg)
    (hB : BenchF w0 w3 p g b 8000 d F2 all2.data.toList most bg2 FL2) (hF2 : ∀ i, F2 i → F i ∨ wo.heap.size ≤ i) (kx : Keeps (fun i => i = xb) w3 wx)
    (hx : Blk wx xb 38 #[.string (str (AF2.map Prod.fst)), .string (str (emark AF2)), .int .i64 k2, .int .i64 most]) (hf : AF2.drop k2 = FL2) (hs : SentP AF2 [] k2 bg2) :
    Sends w0 wx p g b d xb F2 all2 AF2 k2 most bg2 := by
  have hxl := h.xat.lt
  have hxF : ¬ F2 xb := fun e => (hF2 _ e).elim h.xF (by omega)
  have hxlo := h.xlo
  have hxne := h.xne
  exact {
    bench := by
      rw [hf]
      exact hB.keeps kx (fun i hi e => by omega) (fun i hi e => hxF (e ▸ hi)) ⟨fun e => hxne.1 e.symm, fun e => hxne.2.1 e.symm, fun e => hxne.2.2 e.symm⟩
    xat := hx
    xF := hxF
    xlo := hxlo
    xne := hxne
    sent := hs }
theorem Sends.len (h : Sends w0 wr p g b d xb F all AF k most bg) : (AF.drop k).length = AF.length - k ∧ k ≤ AF.length := ⟨List.length_drop, h.sent.le⟩
end
theorem str_fst_size (AF : Flow) : (str (AF.map Prod.fst)).size = AF.length := by rw [str_size, List.length_map]
theorem emark_size (AF : Flow) : (str (emark AF)).size = AF.length := by rw [str_size, emark_len]
theorem str_cat (a : List UInt8) (b : List UInt8) : str a ++ str b = str (a ++ b) := by apply ba_ext; simp [str]
theorem emark_told (s : List UInt8) : List.replicate ((toldP s).length - 1) 46 ++ [101] = emark (markP (toldP s)) := by
  have h : ∀ l : List UInt8, l ≠ [] → List.replicate (l.length - 1) 46 ++ [101] = emark (markP l) := fun l => by
    induction l with
    | nil => intro h; exact absurd rfl h
    | cons a t ih =>
      intro _
      cases t with
      | nil => rfl
      | cons c r =>
        have := ih (by simp)
        simp only [List.length_cons, Nat.add_sub_cancel] at this ⊢
        rw [List.replicate_succ, List.cons_append, this]
        rfl
  refine h _ (fun e => ?_)
  have h1 := toldP_len s
  rw [e] at h1
  simp at h1
theorem str_ext (l : List UInt8) (i j : Nat) : (str l).extract i j = str ((l.drop i).take (j - i)) := by
  apply ba_ext
  simp [str, List.extract_eq_take_drop]

section
variable {H : Type} {enc : TypeId × Value → H} {P : Program} {w : World} {base : Nat} {spare : Nat → Bool} {held : Bool}
open Go.ChangeShapes Go.WideShapes Go.Deep
theorem ops32_of {t e : TypeId} {a : Option Addr} {n c : Nat} {d : DataW H} {ps : List MemPlace} {f0 f1 f2 : Field} (ht : P.underlying t = some (.slice e)) (he : P.underlying e = some (.struct #[f0, f1, f2])) (hone : oneCellFields P #[f0, f1, f2] = true)
    (hc : P.cellsOf e = 3) (h0 : P.underlying f0.type = some (.int .u8)) (h1 : P.underlying f1.type = some .string) (h2 : P.underlying f2.type = some (.int .i64))
    (h : DataW.Trod enc P w base spare held t (.slice a n c) d ps) : ∃ l : List Op32, SlAt opR32 3 w a n l ∧ ∀ x ∈ l, x.good :=
  sl_of opR32 Op32.good 3 ht hc (by omega) (fun _ => rfl) (fun fuel cs y hd => by
    obtain ⟨xs, k, _, _, hlen, hxl, hf⟩ := DataW.trod_struct he hd
    have hxl : xs.length = 3 := hxl
    rw [hc] at hlen
    match cs, hlen with
    | [v0, v1, v2], _ =>
      obtain ⟨o0, k0⟩ := hone_of hone 0 f0 rfl
      obtain ⟨o1, k1⟩ := hone_of hone 1 f1 rfl
      obtain ⟨o2, k2⟩ := hone_of hone 2 f2 rfl
      have e0 := hf 0 f0 rfl
      have e1 := hf 1 f1 rfl
      have e2 := hf 2 f2 rfl
      rw [o0, k0] at e0
      rw [o1, k1] at e1
      rw [o2, k2] at e2
      simp only [List.drop_zero, List.drop_succ_cons, List.take_succ_cons, List.take_zero] at e0 e1 e2
      rw [List.getElem?_eq_getElem (by omega)] at e0 e1 e2
      obtain ⟨n0, hv0, _, w0⟩ := DataW.trod_int h0 e0
      obtain ⟨s1, hv1, _, w1⟩ := DataW.trod_string h1 e1
      obtain ⟨n2, hv2, _, w2⟩ := DataW.trod_int h2 e2
      have hb : 0 ≤ n0 ∧ n0 ≤ 255 := by simpa [Lit.wf, IntKind.min, IntKind.max, IntKind.signed, IntKind.bits] using w0
      have hb2 : -9223372036854775808 ≤ n2 ∧ n2 ≤ 9223372036854775807 := by simpa [Lit.wf, IntKind.min, IntKind.max, IntKind.signed, IntKind.bits] using w2
      injection hv0 with hv0
      injection hv1 with hv1
      injection hv2 with hv2
      subst hv0 hv1 hv2
      obtain ⟨m0, rfl⟩ := Int.eq_ofNat_of_zero_le hb.1
      exact ⟨⟨m0, s1, n2⟩, rfl, by show m0 ≤ 255; omega, w1, hb2⟩) h
end
end Go.Proofs.Ytcblaeleaebinaa
