/-
  LexBack returns true, whatever its arguments: the walk.
-/
import Derived.Test.YtngjppckobfdeaaDoorLexS
import Derived.Test.YtngjppckobfdeaaDoorLexBackM
import Derived.Test.YtngjppckobfdeaaDoorArgs
namespace Go.Proofs.YtngjppckobfdeaaDoor
open Go.RowKit

theorem Keeps.refl_drew {S : Nat → Prop} {a b : World} (_ : Keeps S a b) : Keeps (fun _ => False) b b.drew := (Keeps.refl _ _).drew
def partR (x : Part12) : List Value := [.int .i64 x.kind, .string x.text, .int .u8 x.gap]
theorem partR_len (x : Part12) : (partR x).length = 3 := rfl

theorem gap_any (w : World) (n : Nat) (_hn : n ≤ 255) : Calls Tryd.prog 19 #[.int .u8 n] w fun e w' => e = .returned (.tuple #[.string (str (gapP n).1), .int .i64 (gapP n).2]) ∧ w' = w := by
  have hm : ((n : Int)).tmod 4 = ((n % 4 : Nat) : Int) := tmod_nat n 4
  have hw : IntKind.u8.wrap ((n % 4 : Nat) : Int) = ((n % 4 : Nat) : Int) := IntWalk.u8_in _ (by omega)
  have h4 : n % 4 = 0 ∨ n % 4 = 1 ∨ n % 4 = 2 ∨ n % 4 = 3 := by omega
  rcases h4 with h | h | h | h
  all_goals
    rw [h] at hm hw
    have HG : Hid (gapP n = _) := Lib.hid (by unfold gapP; rw [h])
    clear h
    go_enter Tryd.func19, Tryd.ntmps19
    go_wp2
    go_ret2
    exact ⟨by rw [HG.out]; rfl, rfl⟩

set_option maxRecDepth 100000 in
set_option maxHeartbeats 4000000 in
theorem lexBack_walk (w : World) (a : Option Addr) (n cap : Nat) (l : List Part12) (hl : SlAt partR 3 w a n l ∧ ∀ x ∈ l, x.text.size ≤ maxLen ∧ x.gap ≤ 255) (hg : Ety w) :
    Calls Tryd.prog 5 #[.slice a n cap] w fun e w' => e = .returned (.bool true) ∧ Keeps (fun _ => False) w w' := by
  obtain ⟨⟨hln, hcs⟩, hfine⟩ := hl
  have HG := Lib.hid hg
  have HC := Lib.hid hcs
  have HF := Lib.hid hfine
  have W : ∀ wx, Keeps (fun _ => False) w wx → Calls Tryd.prog 9 #[] wx fun e w' => e = .returned (.bool true) ∧ Keeps (fun _ => False) wx w' := fun wx k => works12 wx (Ety.keeps HG k id)
  have HW := Lib.hid W
  clear hg hcs hfine W
  by_cases hbad : 30 < n
  · go_enter Tryd.func5, Tryd.ntmps5
    go_wp2_with fail
    refine (HW.out _ (Keeps.refl _ _)).mono ?_
    rintro e w4 ⟨rfl, k4⟩
    go_wp2_with fail
    go_ret
    exact ⟨rfl, k4⟩
  · have hn30 : n ≤ 30 := by omega
    clear hbad
    obtain ⟨TOT, hTOT⟩ : ∃ TOT, TOT = backP l 1 := ⟨_, rfl⟩
    have HTOT := Lib.hid hTOT
    clear hTOT
    go_enter Tryd.func5, Tryd.ntmps5
    go_wp2_with fail
    go_loopw [3, 4, 5, 6] (fun u3 u4 u5 u6 wr => ∃ (k : Nat) (tx : List UInt8) (ln : Int) (xs : List Pc), k ≤ n ∧ u6 = .int .i64 k ∧ u3 = .string (str tx) ∧ u4 = .int .i64 ln ∧ 0 ≤ ln ∧ ln ≤ 1 + 2 * k ∧ tx.length ≤ k * 200 ∧ xs.length ≤ k ∧ (∀ x ∈ l.take k, x.text.size ≤ 60) ∧
        tx ++ (backP (l.drop k) ln).1 = TOT.1 ∧ xs ++ (backP (l.drop k) ln).2 = TOT.2 ∧ OwnS pcR 3 wr w.heap.size 47 u5 xs ∧ Keeps (fun _ => False) w wr) (fun _ _ _ u6 _ => n - (intOf u6).toNat)
    case atStart => exact ⟨0, [], 1, [], by omega, rfl, rfl, rfl, by omega, by omega, by simp, by simp, by simp, by rw [HTOT.out]; rfl, by rw [HTOT.out]; rfl, OwnS.none_, Keeps.refl _ _⟩
    case round =>
      obtain ⟨k, tx, ln, xs, hk, rfl, rfl, rfl, hn0, hn1, htx, hxs, hsm, hT1, hT2, hO, hK⟩ := hrel
      have HS := Lib.hid hsm
      have HT1 := Lib.hid hT1
      have HT2 := Lib.hid hT2
      obtain ⟨av, cv, rfl⟩ := OwnS.sl hO
      have HO := Lib.hid hO
      clear hsm hT1 hT2 hO
      by_cases hlt : k < n
      · obtain ⟨b, off, rfl, hb, hcell⟩ := HC.out (by omega)
        obtain ⟨x, hx⟩ : ∃ x, l[k]? = some x := ⟨_, List.getElem?_eq_getElem (by omega)⟩
        have hcq : ∀ w', Keeps (fun i => w.heap.size ≤ i) w w' → w'.cell? ⟨b, off + k * 3, none⟩ = some (.int .i64 x.kind) ∧ w'.cell? ⟨b, off + k * 3 + 1, none⟩ = some (.string x.text) ∧ w'.cell? ⟨b, off + k * 3 + 2, none⟩ = some (.int .u8 x.gap) := fun w' kk => by
          have hbb := kk.block b hb (by omega)
          obtain ⟨c0, c1, c2⟩ := SlAt.cells3 hcell k x hx _ _ _ rfl
          exact ⟨(World.cell?_of_block (w := w) hbb).trans c0, (World.cell?_of_block (w := w) hbb).trans c1, (World.cell?_of_block (w := w) hbb).trans c2⟩
        have HCQ := Lib.hid hcq
        obtain ⟨d0, d1, d2⟩ := hcq wr hK.none_
        have hgap := (HF.out x (List.mem_of_getElem? hx)).2
        have hi0 : (0 : Int) ≤ (k : Int) := by omega
        have hi1 : (k : Int) < (n : Int) := by omega
        have HXK := Lib.hid hx
        clear hx hcell hcq
        by_cases hbig : 60 < x.text.size
        · go_wp2_with fail
          refine (HW.out _ hK).mono ?_
          rintro e w4 ⟨rfl, k4⟩
          go_wp2_with fail
          go_ret
          exact ⟨rfl, hK.trans k4⟩
        · have hsm : x.text.size ≤ 60 := by omega
          have hput := fun w => lput_any w x.kind 0 x.text (by omega)
          obtain ⟨tp, ce, hpv⟩ : ∃ tp ce, putP x.kind x.text.data.toList = (tp, ce) := ⟨_, _, rfl⟩
          have hpl := put_len x.kind x.text.data.toList
          rw [hpv] at hpl
          have hxtl : x.text.data.toList.length = x.text.size := by simp
          have htp : (str tp).size ≤ 130 := by rw [str_size]; simp only [] at hpl; omega
          have hpv2 : putV x.kind x.text.data.toList = .tuple #[.string (str tp), .int .i64 ce] := by unfold putV; rw [hpv]
          simp only [hpv2] at hput
          have HPUT := Lib.hid hput
          have hbk : (backP (l.drop k) ln) = if ce ≠ 0 then backP (l.drop (k + 1)) ln else (tp ++ (gapP x.gap).1 ++ (backP (l.drop (k + 1)) (ln + (gapP x.gap).2)).1, ⟨x.kind, x.text, ln⟩ :: (backP (l.drop (k + 1)) (ln + (gapP x.gap).2)).2) := by
            rw [drop_at' HXK.out, backP, hpv]
          have HBK := Lib.hid hbk
          have HSM : Hid (∀ y ∈ l.take (k + 1), y.text.size ≤ 60) := Lib.hid (by
            intro y hy
            rw [List.take_add_one, HXK.out] at hy
            rcases List.mem_append.1 hy with hy | hy
            · exact HS.out y hy
            · rw [Option.toList_some, List.mem_singleton] at hy; subst hy; exact hsm)
          have HTPL : Hid (tp.length ≤ 130) := Lib.hid (by rw [str_size] at htp; exact htp)
          clear hput hpv hpl hxtl hpv2 hbk
          go_wp2_with fail
          go_region_held3 (fun w' => (w'.cell? ⟨b, off + k * 3, none⟩ = some (.int .i64 x.kind) ∧ w'.cell? ⟨b, off + k * 3 + 1, none⟩ = some (.string x.text) ∧ w'.cell? ⟨b, off + k * 3 + 2, none⟩ = some (.int .u8 x.gap)) ∧ Keeps (fun i => w.heap.size ≤ i) w w')
            ((refine both (HCQ.out _) ?_; exact Keeps.none_ (by first | exact hK.drew | exact kk3)))
            ((go_at_call 15; rename_i hh _ _; refine (HPUT.out _).mono ?_; rintro e w3 ⟨rfl, k3⟩; have kk3 : Keeps (fun _ => False) w w3 := (hK.drew).trans k3))
          obtain ⟨e0, e1, e2⟩ := HCQ.out w3 kk3.none_
          have HO3 := Lib.hid (OwnS.keeps (S := fun _ => False) HO.out (hK.refl_drew.trans k3) (fun _ _ _ _ => id))
          clear k3
          by_cases hce : ce = 0
          · subst hce
            have hb2 := HBK.out
            rw [if_neg (by simp)] at hb2
            have HB2 := Lib.hid hb2
            have hgl := gap_len x.gap
            have hgp := fun w => gap_any w x.gap hgap
            obtain ⟨gt, gn, hgtn⟩ : ∃ gt gn, gapP x.gap = (gt, gn) := ⟨_, _, rfl⟩
            simp only [hgtn] at hgp hgl hb2
            have HB2 := Lib.hid hb2
            have HGP := Lib.hid hgp
            have hgs : (str gt).size ≤ 12 := by rw [str_size]; exact hgl.1
            have hts : (str tx).size ≤ 6000 := by rw [str_size]; omega
            have HGL := Lib.hid hgl.1
            obtain ⟨-, hgn1, hgn2⟩ := hgl
            clear hb2 hgp hgtn
            go_wp2_with (go_at_call 19; go_must (refine (HGP.out _).mono ?_; rintro e w4 ⟨rfl, rfl⟩))
            have hlx : xs.length ≤ 17179869184 := by omega
            have hz3 := kk3.size
            have hcq2 : ∀ w', Keeps (fun i => w.heap.size ≤ i) w4 w' → w'.cell? ⟨b, off + k * 3, none⟩ = some (.int .i64 x.kind) ∧ w'.cell? ⟨b, off + k * 3 + 1, none⟩ = some (.string x.text) := fun w' kk => ⟨(HCQ.out w' (kk3.none_.trans kk)).1, (HCQ.out w' (kk3.none_.trans kk)).2.1⟩
            have HCQ2 := Lib.hid hcq2
            clear hcq2
            go_region_held3 (fun w' => (w'.cell? ⟨b, off + k * 3, none⟩ = some (.int .i64 x.kind) ∧ w'.cell? ⟨b, off + k * 3 + 1, none⟩ = some (.string x.text)) ∧ Keeps (fun i => w.heap.size ≤ i) w4 w')
              ((refine both (HCQ2.out _) ?_; (repeat (first | (with_reducible assumption) | (with_reducible exact Keeps.refl _ _) | refine Keeps.drew ?_ | refine Keeps.drewN ?_ _ | refine Keeps.setCell ?_ (by simp) _ | refine Keeps.setRow ?_ (by simp) _ | refine Keeps.alloc ?_ _))))
              ((refine step_append_st pcR 3 pcR_len (by decide) rfl _ _ _ rfl w.heap.size 47 (.agg #[.int .i64 0, .string ⟨#[]⟩, .int .i64 0]) 32 Tryd.underlying28 (by kernel_rfl) rfl (by omega) _ xs rfl (by exact OwnS.keeps (S := fun _ => False) HO3.out (by (repeat (first | (with_reducible assumption) | (with_reducible exact Keeps.refl _ _) | refine Keeps.drew ?_ | refine Keeps.drewN ?_ _ | refine Keeps.setCell ?_ (by simp) _ | refine Keeps.setRow ?_ (by simp) _ | refine Keeps.alloc ?_ _))) (fun _ _ _ _ => id)) w4.heap.size 1 ⟨x.kind, x.text, ln⟩ rfl (by first | exact Blk.new _ _ _ | exact (Blk.new _ _ _).drew) (pcR_one _) hlx (by simp; omega) ?_; intro g7 cap7 w7 O7 k7 hat7; have kk7 : Keeps (fun i => w.heap.size ≤ i) w4 w7 := (Keeps.and_ (by (repeat (first | (with_reducible assumption) | (with_reducible exact Keeps.refl _ _) | refine Keeps.drew ?_ | refine Keeps.drewN ?_ _ | refine Keeps.setCell ?_ (by simp) _ | refine Keeps.setRow ?_ (by simp) _ | refine Keeps.alloc ?_ _))) k7 (fun i _ h => (World.ownsRow.lt HO3.out i h).1)); clear k7 hat7))
            have OO := Lib.hid O7
            clear O7
            go_wp2_with fail
            go_roundw
            case rel =>
              refine ⟨k + 1, tx ++ tp ++ gt, ln + gn, xs ++ [⟨x.kind, x.text, ln⟩], by omega, by go_num, congrArg Value.string (ba_ext (by rw [append_str, append_str, str_list, str_list, str_list, str_list])), rfl, by omega, by omega, ?_, by simp; omega, HSM.out, ?_, ?_, OO.out, kk3.and_ kk7 (fun i hi h => by omega)⟩
              · have := HTPL.out; have := HGL.out; simp only [List.length_append]; omega
              · rw [← HT1.out, HB2.out]; simp
              · rw [← HT2.out, HB2.out]; simp
            case measure => simp [intOf] <;> omega
          · have hce' : (ce != 0) = true := by simpa using hce
            have hb2 := HBK.out
            rw [if_pos hce] at hb2
            have HB2 := Lib.hid hb2
            clear hb2 hce
            go_wp2_with fail
            go_roundw
            case rel => exact ⟨k + 1, tx, ln, xs, by omega, by go_num, rfl, rfl, hn0, by omega, by omega, by omega, HSM.out, by rw [← HT1.out, HB2.out], by rw [← HT2.out, HB2.out], HO3.out, kk3⟩
            case measure => simp [intOf] <;> omega
      · have hke : k = n := by omega
        subst hke
        have hd0 : l.drop k = [] := List.drop_of_length_le (by omega)
        have hsz := HS.out
        rw [List.take_of_length_le (by omega)] at hsz
        have hlex := lex_back l (by omega) hsz
        have h1 := HT1.out
        have h2 := HT2.out
        rw [hd0, show (backP [] ln).1 = [] from rfl, List.append_nil] at h1
        rw [hd0, show (backP [] ln).2 = [] from rfl, List.append_nil] at h2
        rw [← HTOT.out, ← h1, ← h2] at hlex
        have HLX := Lib.hid hlex
        have htl : (str tx).size ≤ 6000 := by rw [str_size]; omega
        have HRD := Lib.hid fun w => lread_any w (str tx) (by omega)
        clear hd0 hsz hlex h1 h2
        go_wp2_with fail
        refine (HRD.out _).mono ?_
        rintro e w4 ⟨p1, -, k4⟩
        obtain ⟨v4, rfl, hO4⟩ := p1 xs HLX.out
        obtain ⟨a4, c4, rfl, hS4⟩ := hO4.slAt' pcR_len
        obtain ⟨a5, c5, hv5, hS5⟩ := HO.out.slAt' pcR_len
        injection hv5 with hv5 _ hc5
        subst hv5
        subst hc5
        have HS4 := Lib.hid hS4
        have HS5 := Lib.hid (SlAt.keeps hS5 k4 (fun _ _ => id))
        have kk4 := hK.trans k4
        clear p1 hO4 hS4 hS5
        go_wp2_with fail
        refine (same_eq w4 a4 _ _ c4 _ xs HS4.out HS5.out (by omega)).mono ?_
        rintro e w5 ⟨rfl, q5, rfl⟩
        go_wp2_with fail
        refine (HW.out _ (kk4.drewN q5)).mono ?_
        rintro e w6 ⟨rfl, k6⟩
        go_wp2_with fail
        go_ret
        exact ⟨rfl, (kk4.drewN q5).trans k6⟩

section
variable {H : Type} {enc : TypeId × Value → H} {P : Program} {w : World} {base : Nat} {spare : Nat → Bool} {held : Bool}
open Go.ChangeShapes Go.WideShapes Go.Deep
/-- a slice of parts among the arguments -/
theorem parts_of {t e : TypeId} {a : Option Addr} {n c : Nat} {d : DataW H} {ps : List MemPlace} {f0 f1 f2 : Field} (ht : P.underlying t = some (.slice e)) (he : P.underlying e = some (.struct #[f0, f1, f2])) (hone : oneCellFields P #[f0, f1, f2] = true)
    (hc : P.cellsOf e = 3) (h0 : P.underlying f0.type = some (.int .i64)) (h1 : P.underlying f1.type = some .string) (h2 : P.underlying f2.type = some (.int .u8))
    (h : DataW.Trod enc P w base spare held t (.slice a n c) d ps) : ∃ l : List Part12, SlAt partR 3 w a n l ∧ ∀ x ∈ l, x.text.size ≤ maxLen ∧ x.gap ≤ 255 :=
  sl_of partR (fun x => x.text.size ≤ maxLen ∧ x.gap ≤ 255) 3 ht hc (by omega) (fun _ => rfl) (fun fuel cs y hd => by
    obtain ⟨xs, k, _, _, hlen, hxl, hf⟩ := DataW.trod_struct he hd
    have hxl : xs.length = 3 := hxl
    rw [hc] at hlen
    match cs, hlen with
    | [v0, v1, v2], _ =>
      obtain ⟨o0, k0⟩ := hone_of hone 0 f0 rfl
      obtain ⟨o1, k1⟩ := hone_of hone 1 f1 rfl
      obtain ⟨o2, k2⟩ := hone_of hone 2 f2 rfl
      have e0 := hf 0 f0 rfl
      have e1 := hf 1 f1 rfl
      have e2 := hf 2 f2 rfl
      rw [o0, k0] at e0
      rw [o1, k1] at e1
      rw [o2, k2] at e2
      simp only [List.drop_zero, List.drop_succ_cons, List.take_succ_cons, List.take_zero] at e0 e1 e2
      rw [List.getElem?_eq_getElem (by omega)] at e0 e1 e2
      obtain ⟨n0, hv0, _, w0⟩ := DataW.trod_int h0 e0
      obtain ⟨s1, hv1, _, w1⟩ := DataW.trod_string h1 e1
      obtain ⟨n2, hv2, _, w2⟩ := DataW.trod_int h2 e2
      have hb : 0 ≤ n2 ∧ n2 ≤ 255 := by simpa [Lit.wf, IntKind.min, IntKind.max, IntKind.signed, IntKind.bits] using w2
      injection hv0 with hv0
      injection hv1 with hv1
      injection hv2 with hv2
      subst hv0 hv1 hv2
      obtain ⟨m2, rfl⟩ := Int.eq_ofNat_of_zero_le hb.1
      exact ⟨⟨n0, s1, m2⟩, rfl, w1, by show m2 ≤ 255; omega⟩) h
end
end Go.Proofs.YtngjppckobfdeaaDoor
