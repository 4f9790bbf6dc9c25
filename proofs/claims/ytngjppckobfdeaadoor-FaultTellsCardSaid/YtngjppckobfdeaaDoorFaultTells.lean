/-
  FaultTells returns true, whatever its arguments: the walk.
-/
import Derived.Test.YtngjppckobfdeaaDoorFaultWraps
import Derived.Test.YtngjppckobfdeaaDoorMade09
import Derived.Test.YtngjppckobfdeaaDoorArgs
namespace Go.Proofs.YtngjppckobfdeaaDoor
open Go.RowKit

/-- layers without codes -/
def bare (x : L09) : L09 := ⟨0, x.line, x.what⟩
/-- what a layer says, as lists of bytes -/
theorem tells_ne (n : Int) (s : ByteArray) : ∀ x ∈ (tellsOf n s).map (·.data.toList), x ≠ [] := by
  intro x hx
  unfold tellsOf at hx
  rw [List.map_append] at hx
  rcases List.mem_append.1 hx with hx | hx
  · split at hx
    · rw [List.map_cons, List.map_nil, List.mem_singleton] at hx; subst hx; rw [str_list]; simp
    · simp at hx
  · split at hx
    · simp at hx
    · rename_i h; rw [List.map_cons, List.map_nil, List.mem_singleton] at hx; subst hx; exact h
theorem tells_step (A : List (List UInt8)) (hA : ∀ x ∈ A, x ≠ []) (n : Int) (s : ByteArray) :
    withP (if 0 < n then withP (Lib.join A [58, 32]) ([108, 105, 110, 101, 32] ++ dec n) else Lib.join A [58, 32]) s.data.toList = Lib.join (A ++ (tellsOf n s).map (·.data.toList)) [58, 32] := by
  unfold tellsOf
  by_cases hn : 0 < n
  · rw [if_pos hn, if_pos hn, withP_join A _ hA, if_neg (by simp), withP_join _ _ (by
      intro x hx
      rcases List.mem_append.1 hx with hx | hx
      · exact hA x hx
      · rw [List.mem_singleton] at hx; subst hx; simp)]
    congr 1
    rw [List.map_append, ← List.append_assoc]
    congr 1
    split <;> rfl
  · rw [if_neg hn, if_neg hn, withP_join A _ hA]
    congr 1
    congr 1
    rw [List.nil_append]
    split <;> rfl
theorem rfold_bare (l : List L09) : ∀ (A : List (List UInt8)), (∀ x ∈ A, x ≠ []) →
    (l.map bare).foldl rstep (Lib.join A [58, 32]) = Lib.join (A ++ (((l.map bare).map fun x => tellsOf x.line x.what).flatten).map (·.data.toList)) [58, 32] := by
  induction l with
  | nil => intro A _; simp
  | cons x l ih =>
    intro A hA
    rw [List.map_cons, List.foldl_cons]
    have h1 : rstep (Lib.join A [58, 32]) (bare x) = Lib.join (A ++ (tellsOf x.line x.what).map (·.data.toList)) [58, 32] := by
      rw [← tells_step A hA]; rfl
    rw [h1, ih _ (by
      intro y hy
      rcases List.mem_append.1 hy with hy | hy
      · exact hA y hy
      · exact tells_ne _ _ y hy)]
    rw [List.map_cons, List.flatten_cons, List.map_append, List.append_assoc]
    rfl
theorem rtext_eq (l : List L09) (z : L09) (hz : z.code ≠ 0) : (l.map bare ++ [z]).foldl rstep [] = textOf ((l.map bare ++ [z]).map fun x => (x.line, x.what)) z.code := by
  rw [List.foldl_append, List.foldl_cons, List.foldl_nil]
  have h0 := rfold_bare l [] (by simp)
  rw [List.nil_append] at h0
  rw [show ([] : List UInt8) = Lib.join [] [58, 32] from rfl, h0]
  have hne : ∀ x ∈ (((l.map bare).map fun x => tellsOf x.line x.what).flatten).map (·.data.toList), x ≠ [] := by
    intro x hx
    rw [List.mem_map] at hx
    obtain ⟨y, hy, rfl⟩ := hx
    obtain ⟨t, ht, hy⟩ := List.mem_flatten.1 hy
    rw [List.mem_map] at ht
    obtain ⟨q, _, rfl⟩ := ht
    exact tells_ne _ _ _ (List.mem_map.2 ⟨y, hy, rfl⟩)
  unfold rstep
  simp only []
  rw [if_pos hz, tells_step _ hne, withP_join _ _ (by
    intro y hy
    rcases List.mem_append.1 hy with hy | hy
    · exact hne y hy
    · exact tells_ne _ _ y hy)]
  unfold textOf saysOf
  rw [List.map_append, List.map_append, List.map_append, List.flatten_append, List.map_append]
  congr 1
  simp only [List.map_map, List.map_cons, List.map_nil, List.flatten_cons, List.flatten_nil, List.append_nil]
  congr 1
  split <;> rfl
theorem lineL_eq (l : List L09) : lineL l = lineOf (l.map fun x => (x.line, x.what)) := by
  induction l with
  | nil => rfl
  | cons x l ih => rw [List.map_cons, lineL, lineOf, ih]
theorem ofL_eq (l : List L09) (z : L09) (hz : z.code ≠ 0) : ofL (l.map bare ++ [z]) = z.code := by
  induction l with
  | nil => show ofL [z] = _; rw [ofL, if_pos hz]
  | cons x l ih => rw [List.map_cons, List.cons_append, ofL, if_neg (by simp [bare]), ih]
theorem hasL_eq (l : List L09) (z : L09) (d : Int) : hasL d (l.map bare ++ [z]) = decide (d ≠ 0 ∧ z.code = d) := by
  induction l with
  | nil =>
    show hasL d [z] = _
    rw [hasL, hasL]
    split
    · rename_i h; simp [h.1, h.2]
    · rename_i h; symm; rw [decide_eq_false_iff_not]; exact fun e => h ⟨e.2, e.1⟩
  | cons x l ih =>
    rw [List.map_cons, List.cons_append, hasL, if_neg (by rintro ⟨h1, h2⟩; exact h2 h1.symm), ih]
/-- one element's first cell set anew -/
theorem OwnS.set3 {w : World} {B : Nat} {e : TypeId} {g cap : Nat} {l : List L09} {z : L09} {n : Nat} (hn : n = l.length + 1) (h : OwnS layR 3 w B e (.slice (some ⟨g, 0, none⟩) n cap) (l ++ [z])) (c : Int) :
    SlAt layR 3 (w.setCell ⟨g, l.length * 3, none⟩ (.int .i64 c)) (some ⟨g, 0, none⟩) n (l ++ [⟨c, z.line, z.what⟩]) := by
  subst hn
  obtain ⟨a, cap', hv, h1, h2, h3, h4⟩ := h.shape layR_len
  injection hv with ha _ _
  subst ha
  obtain ⟨g', hg, _, hlt, _⟩ := h3 (by simp)
  injection hg with hg; injection hg with hg; subst hg
  refine ⟨by simp, fun _ => ⟨g, 0, rfl, by simpa [World.setCell] using hlt, fun i x j u hx hu => ?_⟩⟩
  rw [Nat.zero_add]
  have hj : j < 3 := by have := (List.getElem?_eq_some_iff.1 hu).1; rwa [layR_len] at this
  by_cases hi : i < l.length
  · rw [List.getElem?_append_left hi] at hx
    have := (h4 g rfl i x j u (by rw [List.getElem?_append_left hi]; exact hx) hu).1
    rw [← this]
    exact World.cell?_setCell_other (h := by intro e; injection e with _ e; omega) ..
  · have hi2 : i = l.length := by have := (List.getElem?_eq_some_iff.1 hx).1; simp at this; omega
    subst hi2
    rw [List.getElem?_append_right (Nat.le_refl _), Nat.sub_self] at hx
    simp at hx
    subst hx
    have hz := fun j u => h4 g rfl l.length z j u (by simp)
    match j, hj with
    | 0, _ =>
      simp [layR] at hu; subst hu
      obtain ⟨hc, _⟩ := hz 0 _ rfl
      exact World.cell?_setCell_same (h := hc) ..
    | 1, _ =>
      simp [layR] at hu; subst hu
      obtain ⟨hc, _⟩ := hz 1 _ rfl
      rw [← hc]
      exact World.cell?_setCell_other (h := by intro e; injection e with _ e; omega) ..
    | 2, _ =>
      simp [layR] at hu; subst hu
      obtain ⟨hc, _⟩ := hz 2 _ rfl
      rw [← hc]
      exact World.cell?_setCell_other (h := by intro e; injection e with _ e; omega) ..
theorem layR_one (x : L09) : ∀ u ∈ layR x, u.oneCell' = true := by
  intro u hu; simp [layR] at hu; rcases hu with rfl | rfl | rfl <;> rfl

set_option maxRecDepth 100000 in
set_option maxHeartbeats 4000000 in
theorem faultTells_walk (w : World) (c : Int) (a : Option Addr) (n cap : Nat) (l : List L09) (ask : Int) (hc : (Lit.int .i64 c).wf = true)
    (hl : SlAt layR 3 w a n l ∧ ∀ x ∈ l, ((Lit.int .i64 x.code).wf = true ∧ (Lit.int .i64 x.line).wf = true) ∧ x.what.size ≤ maxLen) (hask : (Lit.int .i64 ask).wf = true) (hg : Ety w) :
    Calls Tryd.prog 6 #[.int .i64 c, .slice a n cap, .int .i64 ask] w fun e w' => e = .returned (.bool true) ∧ Keeps (fun _ => False) w w' := by
  have hc := wf_i64 hc
  have hask := wf_i64 hask
  obtain ⟨⟨hln, hcs⟩, hfine⟩ := hl
  have HG := Lib.hid hg
  have HC := Lib.hid hcs
  have HF := Lib.hid hfine
  clear hg hcs hfine
  have W : ∀ wx, Keeps (fun _ => False) w wx → Calls Tryd.prog 20 #[] wx fun e w' => e = .returned (.bool true) ∧ Keeps (fun _ => False) wx w' := fun wx k => works09 wx (Ety.keeps HG k id)
  have HW := Lib.hid W
  clear W
  by_cases hbad : 12 < n ∨ n = 0
  · rcases hbad with hb | rfl
    all_goals
      go_enter Tryd.func6, Tryd.ntmps6
      go_wp2_with fail
      refine (HW.out _ (Keeps.refl _ _)).mono ?_
      rintro e w4 ⟨rfl, k4⟩
      go_wp2_with fail
      go_ret
      exact ⟨rfl, k4⟩
  · have hn12 : n ≤ 12 := by omega
    have hn0 : 0 < n := by omega
    have hne : ((n : Int) == 0) = false := by rw [beq_eq_false_iff_ne]; omega
    clear hbad
    obtain ⟨b, off, rfl, hb, hcell⟩ := HC.out hn0
    have HX := Lib.hid hcell
    clear HC hcell
    go_enter Tryd.func6, Tryd.ntmps6
    go_wp2_with fail
    go_loopw [7, 8] (fun u7 u8 wr => ∃ k : Nat, k ≤ n ∧ u8 = .int .i64 k ∧ OwnS layR 3 wr w.heap.size 51 u7 ((l.take k).map bare) ∧ (∀ x ∈ l.take k, x.what.size ≤ 100) ∧ Keeps (fun _ => False) w wr) (fun _ u8 _ => n - (intOf u8).toNat)
    case atStart => exact ⟨0, by omega, rfl, World.ownsRow_made (base := w.heap.size) (e := 51) (size := 3) w #[] 0 (Nat.le_refl _) (by decide) rfl, by simp, (Keeps.refl _ _).alloc _⟩
    case round =>
      obtain ⟨k, hk, rfl, hO, hsz, hK⟩ := hrel
      have HO := Lib.hid hO
      have HS := Lib.hid hsz
      clear hO hsz
      by_cases hlt : k < n
      · obtain ⟨x, hx⟩ : ∃ x, l[k]? = some x := ⟨_, List.getElem?_eq_getElem (by omega)⟩
        obtain ⟨c0, c1, c2⟩ := SlAt.cells3 HX.out k x hx _ _ _ rfl
        have hbb := hK.block b hb id
        have d1 := (World.cell?_of_block (w := w) (a := ⟨b, off + k * 3 + 1, none⟩) hbb).trans c1
        have d2 := (World.cell?_of_block (w := w) (a := ⟨b, off + k * 3 + 2, none⟩) hbb).trans c2
        have HXK := Lib.hid hx
        clear hbb c0 c1 c2 hx
        by_cases hbig : 100 < x.what.size
        · go_wp2_with fail
          refine (HW.out _ hK).mono ?_
          rintro e w4 ⟨rfl, k4⟩
          go_wp2_with fail
          go_ret
          exact ⟨rfl, hK.trans k4⟩
        · have hsm : x.what.size ≤ 100 := by omega
          obtain ⟨xs, hxs⟩ : ∃ xs, xs = (l.take k).map bare := ⟨_, rfl⟩
          have hO2 := HO.out
          rw [← hxs] at hO2
          have hlx : xs.length = k := by rw [hxs]; simp; omega
          obtain ⟨av, cv, rfl⟩ := OwnS.sl hO2
          rw [hlx] at hO2 ⊢
          have HXS := Lib.hid hxs
          have HO2 := Lib.hid hO2
          have HLX := Lib.hid hlx
          clear hO2 hxs hlx HO
          have hi0 : (0 : Int) ≤ (k : Int) := by omega
          have hi1 : (k : Int) < (n : Int) := by omega
          go_wp2_with fail
          have hcq : ∀ w', Keeps (fun i => w.heap.size ≤ i) wr w' → w'.cell? ⟨b, off + k * 3 + 1, none⟩ = some (.int .i64 x.line) ∧ w'.cell? ⟨b, off + k * 3 + 2, none⟩ = some (.string x.what) := fun w' kk => by
            have hb2 := kk.block b (Nat.lt_of_lt_of_le hb hK.size) (by omega)
            exact ⟨(World.cell?_of_block (w := wr) hb2).trans d1, (World.cell?_of_block (w := wr) hb2).trans d2⟩
          have HCQ := Lib.hid hcq
          clear hcq d1 d2
          go_region_held3 (fun w' => (w'.cell? ⟨b, off + k * 3 + 1, none⟩ = some (.int .i64 x.line) ∧ w'.cell? ⟨b, off + k * 3 + 2, none⟩ = some (.string x.what)) ∧ Keeps (fun i => w.heap.size ≤ i) wr w')
            ((refine both (HCQ.out _) ?_; (repeat (first | (with_reducible assumption) | (with_reducible exact Keeps.refl _ _) | refine Keeps.drew ?_ | refine Keeps.drewN ?_ _ | refine Keeps.setCell ?_ (by simp) _ | refine Keeps.setRow ?_ (by simp) _ | refine Keeps.alloc ?_ _))))
            ((refine step_append_st layR 3 layR_len (by decide) rfl _ _ _ rfl w.heap.size 51 (.agg #[.int .i64 0, .int .i64 0, .string ⟨#[]⟩]) 32 Tryd.underlying49 (by kernel_rfl) rfl (by omega) _ xs rfl (by exact OwnS.keeps (S := fun _ => False) HO2 (by (repeat (first | (with_reducible assumption) | (with_reducible exact Keeps.refl _ _) | refine Keeps.drew ?_ | refine Keeps.drewN ?_ _ | refine Keeps.setCell ?_ (by simp) _ | refine Keeps.setRow ?_ (by simp) _ | refine Keeps.alloc ?_ _))) (fun _ _ _ _ => id)) wr.heap.size 1 (bare x) rfl (by first | exact Blk.new _ _ _ | exact (Blk.new _ _ _).drew) (layR_one _) (by have := HLX.out; omega) (by have := hK.size; simp; omega) ?_; intro g7 cap7 w7 O7 k7 hat7; have kk7 : Keeps (fun i => w.heap.size ≤ i) wr w7 := (Keeps.and_ (by (repeat (first | (with_reducible assumption) | (with_reducible exact Keeps.refl _ _) | refine Keeps.drew ?_ | refine Keeps.drewN ?_ _ | refine Keeps.setCell ?_ (by simp) _ | refine Keeps.setRow ?_ (by simp) _ | refine Keeps.alloc ?_ _))) k7 (fun i _ h => (World.ownsRow.lt HO2 i h).1)); clear k7))
          have O8 : OwnS layR 3 w7 w.heap.size 51 (.slice (some ⟨g7, 0, none⟩) (xs.length + 1) cap7) ((l.take (k + 1)).map bare) := by
            rw [List.take_add_one, HXK.out, List.map_append, ← HXS.out]; exact O7
          have HO8 := Lib.hid O8
          clear O7 O8
          go_wp2_with fail
          go_roundw
          case rel =>
            refine ⟨k + 1, by omega, by go_num, HO8.out, ?_, hK.and_ kk7 (fun i hi h => by omega)⟩
            intro y hy
            rw [List.take_add_one, HXK.out] at hy
            rcases List.mem_append.1 hy with hy | hy
            · exact HS.out y hy
            · rw [Option.toList_some, List.mem_singleton] at hy; subst hy; omega
          case measure => simp [intOf] <;> omega
      · have hke : k = n := by omega
        subst hke
        have hsz := HS.out
        have hO := HO.out
        rw [List.take_of_length_le (by omega)] at hsz hO
        obtain ⟨l0, z, hz⟩ : ∃ l0 z, l = l0 ++ [z] := ⟨l.dropLast, l.getLast (by intro e; rw [e] at hln; simp at hln; omega), (List.dropLast_concat_getLast _).symm⟩
        have hlz : l.map bare = l0.map bare ++ [bare z] := by rw [hz]; simp
        rw [hlz] at hO
        have hnl : k = (l0.map bare).length + 1 := by rw [← hln, hz]; simp
        obtain ⟨a7, c7, rfl, q1, q2, q3, q4⟩ := hO.shape layR_len
        obtain ⟨g7, rfl, hg7, hgl, _⟩ := q3 (by simp)
        obtain ⟨hce, hfr⟩ := q4 g7 rfl (l0.map bare).length (bare z) 0 (.int .i64 0) (by simp) rfl
        rw [Nat.add_zero] at hce hfr
        have hlen2 : (l0.map bare ++ [bare z]).length = k := by rw [hnl]; simp
        rw [hlen2] at hO ⊢
        have hst := OwnS.set3 hnl hO c
        obtain ⟨m, hm⟩ : ∃ m, m = (l0.map bare).length := ⟨_, rfl⟩
        rw [← hm] at hce hfr hst hnl
        have HST := Lib.hid hst
        have HZ := Lib.hid hz
        have HSZ := Lib.hid hsz
        have HM := Lib.hid hm
        have HNL := Lib.hid hnl
        have hmi : ((k : Int) - 1) = (m : Int) := by omega
        have hm0 : (0 : Int) ≤ (m : Int) := by omega
        have hm1 : (m : Int) < (k : Int) := by omega
        clear hst hz hsz hO q1 q2 q3 q4 hm hlz hnl hlen2
        go_wp2_with fail
        have hmade := made_any (wr.setCell ⟨g7, m * 3, none⟩ (.int .i64 c)) (some ⟨g7, 0, none⟩) c7 (l0.map bare) ⟨c, z.line, z.what⟩ (by rw [← HM.out, ← HNL.out]; exact HST.out) (by have := HM.out; have := HNL.out; omega)
        rw [← HM.out, ← HNL.out] at hmade
        have hKs : Keeps (fun _ => False) w (wr.setCell ⟨g7, m * 3, none⟩ (.int .i64 c)) := hK.setCell (fun h => absurd h (by show ¬ g7 < w.heap.size; omega)) _
        have HMD := Lib.hid hmade
        clear hmade hce hfr
        refine HMD.out.mono ?_
        rintro e w9 ⟨k9, ⟨hc0, rfl⟩ | ⟨hc0, v9, rfl, hch⟩⟩
        · have hc0 : c = 0 := hc0
          subst hc0
          have q9 := hKs.trans k9
          go_wp2_with fail
          refine (of_nil _).mono ?_
          rintro e w10 ⟨rfl, k10⟩
          go_wp2_with fail
          refine (line_nil _).mono ?_
          rintro e w11 ⟨rfl, k11⟩
          go_wp2_with fail
          refine (text_nil _).mono ?_
          rintro e w12 ⟨rfl, k12⟩
          go_wp2_with fail
          refine (has_nil _ ask).mono ?_
          rintro e w13 ⟨rfl, k13⟩
          have q13 := (((q9.trans k10).trans k11).trans k12).trans k13
          go_wp2_with fail
          refine (HW.out _ q13).mono ?_
          rintro e w14 ⟨rfl, k14⟩
          go_wp2_with fail
          go_ret
          exact ⟨rfl, q13.trans k14⟩
        · have hc0 : c ≠ 0 := hc0
          have h1 : (c == 0) = false := by simpa using hc0
          have q9 := hKs.trans k9
          have hfin : ∀ x ∈ l, (-9223372036854775808 ≤ x.line ∧ x.line ≤ 9223372036854775807) ∧ x.what.size ≤ 100 := fun x hx => ⟨wf_i64 (HF.out x hx).1.2, HSZ.out x hx⟩
          obtain ⟨zs, hzs⟩ : ∃ zs, zs = l0.map bare ++ [⟨c, z.line, z.what⟩] := ⟨_, rfl⟩
          have hzl : zs.length = k := by rw [hzs, List.length_append, ← HM.out]; have := HNL.out; simp; omega
          have hch2 : Chain w9 (zs.map fun x => (x.line, x.what)) c v9 := by rw [hzs]; exact hch
          have hsl : SlAt layR 3 w9 (some ⟨g7, 0, none⟩) k zs := by rw [hzs]; exact SlAt.keeps HST.out k9 (fun _ _ => id)
          have e1 : ofL zs = c := by rw [hzs]; exact ofL_eq l0 ⟨c, z.line, z.what⟩ hc0
          have e2 : lineL zs = lineOf (zs.map fun x => (x.line, x.what)) := lineL_eq zs
          have e3 : zs.foldl rstep [] = textOf (zs.map fun x => (x.line, x.what)) c := by rw [hzs]; exact rtext_eq l0 ⟨c, z.line, z.what⟩ hc0
          have e4 : hasL ask zs = decide (ask ≠ 0 ∧ c = ask) := by rw [hzs]; exact hasL_eq l0 ⟨c, z.line, z.what⟩ ask
          have hzf : ∀ x ∈ zs, Fine x := by
            intro x hx
            rw [hzs] at hx
            have hzm : z ∈ l := by rw [HZ.out]; simp
            rcases List.mem_append.1 hx with hx | hx
            · obtain ⟨y, hy, rfl⟩ := List.mem_map.1 hx
              have := hfin y (by rw [HZ.out]; simp [hy])
              exact ⟨by simp [bare], this.1, by simp only [bare]; omega⟩
            · rw [List.mem_singleton] at hx; subst hx
              have := hfin z hzm
              exact ⟨hc, this.1, by show z.what.size ≤ 1000; omega⟩
          have hlp : ∀ x ∈ zs.map fun x => (x.line, x.what), (-9223372036854775808 ≤ x.1 ∧ x.1 ≤ 9223372036854775807) ∧ x.2.size ≤ 1000 := by
            intro x hx
            obtain ⟨y, hy, rfl⟩ := List.mem_map.1 hx
            exact (hzf y hy).2
          have htl := textOf_len (zs.map fun x => (x.line, x.what)) c 1000 hc hlp
          rw [List.length_map, hzl] at htl
          have ht47 : (textOf (zs.map fun x => (x.line, x.what)) c).length ≤ 140737488355328 := by
            have : (30 + 1000) * k ≤ (30 + 1000) * 12 := Nat.mul_le_mul_left _ hn12
            omega
          have E1 := Lib.hid e1
          have E2 := Lib.hid e2
          have E3 := Lib.hid e3
          have E4 := Lib.hid e4
          have HCH := Lib.hid hch2
          have HSL := Lib.hid hsl
          have HFZ := Lib.hid hzf
          have HLP : Hid (∀ x ∈ zs.map fun x => (x.line, x.what), -9223372036854775808 ≤ x.1 ∧ x.1 ≤ 9223372036854775807) := Lib.hid fun x hx => (hlp x hx).1
          have HT := Lib.hid ht47
          have HZL := Lib.hid hzl
          obtain ⟨ty, tx, rfl⟩ := hch.form
          clear hch hzs hch2 hsl e1 e2 e3 e4 hzf hlp htl ht47 hzl hfin
          go_wp2_with fail
          refine (of_chain _ _ c _ (Chain.keeps HCH (Keeps.refl _ _) (fun _ _ _ => id)) (Ety.keeps HG q9 id)).mono ?_
          rintro e w10 ⟨rfl, k10⟩
          go_wp2_with fail
          refine (rof_any _ _ k c7 zs (SlAt.keeps HSL.out k10 (fun _ _ => id)) (by omega)).mono ?_
          rintro e w11 ⟨rfl, rfl⟩
          rw [E1.out]
          go_wp2_with fail
          refine (line_chain _ _ c _ (Chain.keeps HCH k10 (fun _ _ _ => id)) (Ety.keeps HG (q9.trans k10) id)).mono ?_
          rintro e w12 ⟨rfl, k12⟩
          have q12 := k10.trans k12
          go_wp2_with fail
          refine (rline_any _ _ k c7 zs (SlAt.keeps HSL.out q12 (fun _ _ => id)) (by omega)).mono ?_
          rintro e w13 ⟨rfl, rfl⟩
          rw [E2.out]
          go_wp2_with fail
          refine (text_chain _ _ c _ (Chain.keeps HCH q12 (fun _ _ _ => id)) (Ety.keeps HG (q9.trans q12) id) hc HLP.out (by rw [List.length_map, HZL.out]; omega) HT.out).mono ?_
          rintro e w14 ⟨rfl, k14⟩
          have q14 := q12.trans k14
          go_wp2_with fail
          refine (rtext_any _ _ k c7 zs (SlAt.keeps HSL.out q14 (fun _ _ => id)) (by omega) HFZ.out).mono ?_
          rintro e w15 ⟨rfl, k15⟩
          have q15 := q14.trans k15
          rw [E3.out]
          go_wp2_with fail
          refine (has_chain _ _ c ask _ (Chain.keeps HCH q15 (fun _ _ _ => id))).mono ?_
          rintro e w16 ⟨rfl, k16⟩
          have q16 := q15.trans k16
          go_wp2_with fail
          refine (rhas_any _ _ k c7 zs ask (SlAt.keeps HSL.out q16 (fun _ _ => id)) (by omega)).mono ?_
          rintro e w17 ⟨rfl, rfl⟩
          rw [E4.out]
          go_wp2_with fail
          refine (HW.out _ (q9.trans q16)).mono ?_
          rintro e w18 ⟨rfl, k18⟩
          go_wp2_with fail
          go_ret
          exact ⟨rfl, (q9.trans q16).trans k18⟩

section
variable {H : Type} {enc : TypeId × Value → H} {P : Program} {w : World} {base : Nat} {spare : Nat → Bool} {held : Bool}
open Go.ChangeShapes Go.WideShapes Go.Deep
/-- a slice of layers among the arguments -/
theorem layers_of {t e : TypeId} {a : Option Addr} {n c : Nat} {d : DataW H} {ps : List MemPlace} {f0 f1 f2 : Field} (ht : P.underlying t = some (.slice e)) (he : P.underlying e = some (.struct #[f0, f1, f2])) (hone : oneCellFields P #[f0, f1, f2] = true)
    (hc : P.cellsOf e = 3) (h0 : P.underlying f0.type = some (.int .i64)) (h1 : P.underlying f1.type = some (.int .i64)) (h2 : P.underlying f2.type = some .string)
    (h : DataW.Trod enc P w base spare held t (.slice a n c) d ps) : ∃ l : List L09, SlAt layR 3 w a n l ∧ ∀ x ∈ l, ((Lit.int .i64 x.code).wf = true ∧ (Lit.int .i64 x.line).wf = true) ∧ x.what.size ≤ maxLen :=
  sl_of layR (fun x => ((Lit.int .i64 x.code).wf = true ∧ (Lit.int .i64 x.line).wf = true) ∧ x.what.size ≤ maxLen) 3 ht hc (by omega) (fun _ => rfl) (fun fuel cs y hd => by
    obtain ⟨xs, k, _, _, hlen, hxl, hf⟩ := DataW.trod_struct he hd
    have hxl : xs.length = 3 := hxl
    rw [hc] at hlen
    match cs, hlen with
    | [v0, v1, v2], _ =>
      obtain ⟨o0, k0⟩ := hone_of hone 0 f0 rfl
      obtain ⟨o1, k1⟩ := hone_of hone 1 f1 rfl
      obtain ⟨o2, k2⟩ := hone_of hone 2 f2 rfl
      have e0 := hf 0 f0 rfl
      have e1 := hf 1 f1 rfl
      have e2 := hf 2 f2 rfl
      rw [o0, k0] at e0
      rw [o1, k1] at e1
      rw [o2, k2] at e2
      simp only [List.drop_zero, List.drop_succ_cons, List.take_succ_cons, List.take_zero] at e0 e1 e2
      rw [List.getElem?_eq_getElem (by omega)] at e0 e1 e2
      obtain ⟨n0, hv0, _, w0⟩ := DataW.trod_int h0 e0
      obtain ⟨n1, hv1, _, w1⟩ := DataW.trod_int h1 e1
      obtain ⟨s2, hv2, _, w2⟩ := DataW.trod_string h2 e2
      injection hv0 with hv0
      injection hv1 with hv1
      injection hv2 with hv2
      subst hv0 hv1 hv2
      exact ⟨⟨n0, n1, s2⟩, rfl, ⟨w0, w1⟩, w2⟩) h
end
end Go.Proofs.YtngjppckobfdeaaDoor
