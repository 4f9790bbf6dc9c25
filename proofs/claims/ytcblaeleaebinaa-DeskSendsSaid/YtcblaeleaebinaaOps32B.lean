/-
  The document's desk over all that was to be sent, with its marks.
-/
import Derived.Test.YtcblaeleaebinaaOps32
namespace Go.Proofs.Ytcblaeleaebinaa
open Go.RowKit
section
variable (w : World) (AF : Flow) (k : Nat) (m : Int)
theorem emark_get (AF : Flow) (j : Nat) : (emark AF)[j]? = (AF[j]?).map fun c => if c.2 then 101 else 46 := by unfold emark; rw [List.getElem?_map]

theorem rwaitsAF (hk : k ≤ AF.length) (ha : AF.length ≤ 1099511627776) : Calls Try.prog 23 #[.agg #[.string (str (AF.map Prod.fst)), .string (str (emark AF)), .int .i64 k, .int .i64 m]] w fun x w' => x = .returned (.int .i64 (AF.drop k).length) ∧ Keeps (fun _ => False) w w' := by
  have := rwaits32 w (str (AF.map Prod.fst)) (str (emark AF)) k m (by rw [str_fst_size]; exact hk) (by rw [str_fst_size]; exact ha)
  rw [str_fst_size, ← List.length_drop] at this
  exact this
theorem rtellAF (s : ByteArray) (hs : s.size ≤ 1048576) (ha : AF.length ≤ 1073741824) :
    Calls Try.prog 20 #[.agg #[.string (str (AF.map Prod.fst)), .string (str (emark AF)), .int .i64 k, .int .i64 m], .string s] w fun x w' => ∃ AF2, AF2 = AF ++ markP (toldP s.data.toList) ∧ x = .returned (.agg #[.string (str (AF2.map Prod.fst)), .string (str (emark AF2)), .int .i64 k, .int .i64 m]) ∧ Keeps (fun _ => False) w w' := by
  refine (rtell32 w (str (AF.map Prod.fst)) (str (emark AF)) k m s hs (by rw [str_fst_size]; omega) (by rw [emark_size]; omega)).mono ?_
  rintro x w' ⟨rfl, kk⟩
  refine ⟨_, rfl, ?_, kk⟩
  unfold D32
  rw [str_cat, str_list, emark_told, ← emark_app, List.map_append, markP_fst]
theorem rshowAF (s : ByteArray) (hs : s.size ≤ 1048576) (ha : AF.length ≤ 1073741824) :
    Calls Try.prog 18 #[.agg #[.string (str (AF.map Prod.fst)), .string (str (emark AF)), .int .i64 k, .int .i64 m], .string s] w fun x w' => ∃ AF2, AF2 = AF ++ dblF s.data.toList ∧ x = .returned (.agg #[.string (str (AF2.map Prod.fst)), .string (str (emark AF2)), .int .i64 k, .int .i64 m]) ∧ Keeps (fun _ => False) w w' := by
  refine (rshow32 w (str (AF.map Prod.fst)) (str (emark AF)) k m s hs (by rw [str_fst_size]; omega) (by rw [emark_size]; omega)).mono ?_
  rintro x w' ⟨rfl, kk⟩
  refine ⟨_, rfl, ?_, kk⟩
  unfold D32
  rw [str_cat, str_list, ← emark_app, List.map_append, dblF_fst]
theorem remitAF (n : Int) (hk : k ≤ AF.length) (ha : AF.length ≤ 1099511627776) :
    Calls Try.prog 21 #[.agg #[.string (str (AF.map Prod.fst)), .string (str (emark AF)), .int .i64 k, .int .i64 m], .int .i64 n] w fun x w' => ∃ kk snt, kk = min n.toNat (AF.drop k).length ∧ snt = str (((AF.drop k).take n.toNat).map Prod.fst) ∧ x = .returned (.tuple #[.agg #[.string (str (AF.map Prod.fst)), .string (str (emark AF)), .int .i64 ((k + kk : Nat) : Int), .int .i64 m], .string snt]) ∧ Keeps (fun _ => False) w w' := by
  refine (remit32 w (str (AF.map Prod.fst)) (str (emark AF)) k m n (min n.toNat (AF.drop k).length) (by rw [str_fst_size, List.length_drop]; omega) (by rw [str_fst_size]; exact hk) (by rw [str_fst_size]; exact ha)).mono ?_
  rintro x w' ⟨rfl, kk⟩
  refine ⟨_, _, rfl, rfl, ?_, kk⟩
  unfold D32
  rw [str_ext, Nat.add_sub_cancel_left, List.map_take, List.map_drop]
  congr 5
  have hl : ((AF.drop k).map Prod.fst).length = (AF.drop k).length := by simp
  rcases Nat.le_total n.toNat (AF.drop k).length with h | h
  · rw [Nat.min_eq_left h]
  · rw [Nat.min_eq_right h, List.take_of_length_le (by rw [← List.map_drop, hl]; omega), List.take_of_length_le (by rw [← List.map_drop, hl]; omega)]
theorem rcutAF {bg : List UInt8} {rest : Flow} (hs : SentP AF [] k bg) (hf : AF.drop k = markP bg ++ rest) (ha : AF.length ≤ 1099511627776) :
    Calls Try.prog 17 #[.agg #[.string (str (AF.map Prod.fst)), .string (str (emark AF)), .int .i64 k, .int .i64 m]] w fun x w' => ∃ AF2, (AF2.drop k = markP bg ∧ SentP AF2 [] k bg ∧ AF2.length ≤ AF.length) ∧ x = .returned (.agg #[.string (str (AF2.map Prod.fst)), .string (str (emark AF2)), .int .i64 k, .int .i64 m]) ∧ Keeps (fun _ => False) w w' := by
  refine (rcut32 w (str (AF.map Prod.fst)) (str (emark AF)) k m (by rw [str_fst_size]; exact hs.le) (by rw [str_fst_size, emark_size]) (by rw [str_fst_size]; exact ha)).mono ?_
  rintro x w' ⟨q, h1, h2, h3, h4, rfl, kk⟩
  rw [str_fst_size] at h2 h4
  rw [str_list] at h3 h4
  have hc := cut_same hs hf h1 h2 (fun j h5 h6 => by
    obtain ⟨t1, t2⟩ := h3 j h5 h6
    refine ⟨t1, fun c hc => ?_⟩
    rw [emark_get, hc] at t2
    cases hb : c.2 with
    | false => rfl
    | true => simp [hb] at t2) (by
    rcases h4 with h4 | h4 | h4
    · exact .inl h4
    · exact .inr (.inl h4)
    · rw [emark_get] at h4
      obtain ⟨c, hc, hc2⟩ := Option.map_eq_some_iff.1 h4
      refine .inr (.inr ⟨c, hc, ?_⟩)
      cases hb : c.2 with
      | true => rfl
      | false => simp [hb] at hc2)
  refine ⟨AF.take q, ⟨hc.1, hc.2, by rw [List.length_take]; omega⟩, ?_, kk⟩
  unfold D32
  rw [str_ext0, str_ext0]
  unfold emark
  rw [List.map_take, List.map_take]
end

section
variable {w0 wo : World} {p g b d xb : Nat} {F : Nat → Prop} {all : ByteArray} {AF : Flow} {k most : Nat} {bg : List UInt8}
/-- the act's block ob, and the document's desk, at a world in which the desk's and the past's blocks may be others -/
structure Stage (w' : World) (ob xb : Nat) (x : Op32) (AF : Flow) (k most : Nat) : Prop where
  o0 : w'.cell? ⟨ob, 0, none⟩ = some (.int .u8 x.kind)
  o1 : w'.cell? ⟨ob, 1, none⟩ = some (.string x.s)
  o2 : w'.cell? ⟨ob, 2, none⟩ = some (.int .i64 x.n)
  c0 : w'.cell? ⟨xb, 0, none⟩ = some (.string (str (AF.map Prod.fst)))
  c1 : w'.cell? ⟨xb, 1, none⟩ = some (.string (str (emark AF)))
  c2 : w'.cell? ⟨xb, 2, none⟩ = some (.int .i64 k)
  c3 : w'.cell? ⟨xb, 3, none⟩ = some (.int .i64 most)
  f0 : w'.frozen? ⟨xb, 0, none⟩ = false
  f1 : w'.frozen? ⟨xb, 1, none⟩ = false
  f2 : w'.frozen? ⟨xb, 2, none⟩ = false
  f3 : w'.frozen? ⟨xb, 3, none⟩ = false
  lo : ob < w'.heap.size
  lx : xb < w'.heap.size
theorem Sends.stage {w' : World} {ob : Nat} {x : Op32} {t : TypeId} (h : Sends w0 wo p g b d xb F all AF k most bg) (OB : Blk wo ob t #[.int .u8 x.kind, .string x.s, .int .i64 x.n]) (hob : ¬ F ob ∧ ob ≠ p ∧ ob ≠ g ∧ ob ≠ b)
    (K : Keeps (fun i => F i ∨ i = p ∨ i = g ∨ i = b) wo w') : Stage w' ob xb x AF k most := by
  have h1 := OB.keeps K (fun e => by rcases e with e | e | e | e; exact hob.1 e; exact hob.2.1 e; exact hob.2.2.1 e; exact hob.2.2.2 e)
  have hx := h.xne
  have h2 := h.xat.keeps K (fun e => by rcases e with e | e | e | e; exact h.xF e; exact hx.1 e; exact hx.2.1 e; exact hx.2.2 e)
  exact ⟨h1.cell 0, h1.cell 1, h1.cell 2, h2.cell 0, h2.cell 1, h2.cell 2, h2.cell 3, h2.frozen 0, h2.frozen 1, h2.frozen 2, h2.frozen 3, h1.lt, h2.lt⟩
/-- a store of the document's desk -/
theorem xstore {w4 : World} {t : TypeId} {a0 a1 a2 a3 : Value} (h : Blk w4 xb t #[a0, a1, a2, a3]) (z0 z1 z2 z3 : Value) :
    Blk ((((w4.setCell ⟨xb, 0, none⟩ z0).setCell ⟨xb, 1, none⟩ z1).setCell ⟨xb, 2, none⟩ z2).setCell ⟨xb, 3, none⟩ z3) xb t #[z0, z1, z2, z3] ∧ Keeps (fun i => i = xb) w4 ((((w4.setCell ⟨xb, 0, none⟩ z0).setCell ⟨xb, 1, none⟩ z1).setCell ⟨xb, 2, none⟩ z2).setCell ⟨xb, 3, none⟩ z3) := by
  refine ⟨?_, ((((Keeps.refl (fun i => i = xb) w4).setCell (p := ⟨xb, 0, none⟩) (fun _ => rfl) _).setCell (p := ⟨xb, 1, none⟩) (fun _ => rfl) _).setCell (p := ⟨xb, 2, none⟩) (fun _ => rfl) _).setCell (p := ⟨xb, 3, none⟩) (fun _ => rfl) _⟩
  have := (((h.set_ 0 z0).set_ 1 z1).set_ 2 z2).set_ 3 z3
  simpa using this
theorem Sends.finx {w4 : World} {F2 : Nat → Prop} {all2 : ByteArray} {AF2 FL2 : Flow} {k2 : Nat} {bg2 : List UInt8} (h : Sends w0 wo p g b d xb F all AF k most bg)
    (K : Keeps (fun i => F i ∨ i = p ∨ i = g ∨ i = b) wo w4) (hB : BenchF w0 w4 p g b 8000 d F2 all2.data.toList most bg2 FL2) (hF2 : ∀ i, F2 i → F i ∨ wo.heap.size ≤ i)
    (hf : AF2.drop k2 = FL2) (hs : SentP AF2 [] k2 bg2) :
    Sends w0 ((((w4.setCell ⟨xb, 0, none⟩ (.string (str (AF2.map Prod.fst)))).setCell ⟨xb, 1, none⟩ (.string (str (emark AF2)))).setCell ⟨xb, 2, none⟩ (.int .i64 k2)).setCell ⟨xb, 3, none⟩ (.int .i64 most)) p g b d xb F2 all2 AF2 k2 most bg2 := by
  have hx := h.xne
  have h2 := h.xat.keeps K (fun e => by rcases e with e | e | e | e; exact h.xF e; exact hx.1 e; exact hx.2.1 e; exact hx.2.2 e)
  obtain ⟨t1, t2⟩ := xstore h2 (.string (str (AF2.map Prod.fst))) (.string (str (emark AF2))) (.int .i64 k2) (.int .i64 most)
  exact h.fin hB hF2 t2 t1 hf hs
end
end Go.Proofs.Ytcblaeleaebinaa
