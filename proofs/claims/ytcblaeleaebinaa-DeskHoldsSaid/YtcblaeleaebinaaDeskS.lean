/-
  The desk: Hold, the walk.
-/
import Derived.Test.YtcblaeleaebinaaDeskR
namespace Go.Proofs.Ytcblaeleaebinaa
open Go.RowKit

theorem list_mid {α : Type} (l : List α) (i : Nat) (q : α) (h : l[i]? = some q) : ∃ pre post, l = pre ++ q :: post ∧ pre.length = i := by
  obtain ⟨hi, hq⟩ := List.getElem?_eq_some_iff.1 h
  refine ⟨l.take i, l.drop (i + 1), ?_, by simp; omega⟩
  rw [← hq, ← List.drop_eq_getElem_cons hi, List.take_append_drop]

section
variable (w : World) (E : Nat → PastD) (d : Nat) (F : Nat → Prop) (most : Nat) (torn : Bool) (bg : List UInt8) (l : List DPart) (v : Value)

set_option maxRecDepth 100000 in
set_option maxHeartbeats 2000000 in
theorem dhold_any (h : DeskAt w E d F most torn bg l v) (hP : PastsOk w E F l) (hk : ∀ q ∈ l, q.kept E) :
    Calls Try.prog 25 #[.pointer (some ⟨d, 0, none⟩)] w fun e w' => e = .returned (.tuple #[]) ∧ ∃ E' F' cur, HoldAt w w' E E' d (fun i => F i ∧ i < w.heap.size) F' most torn bg l cur v l.length := by
  have h0 : HoldAt w w E E d (fun i => F i ∧ i < w.heap.size) (fun i => F i ∧ i < w.heap.size) most torn bg l l v 0 := {
    desk := { h with
      inD := ⟨h.inD, h.top.lt⟩
      inV := h.z.below.inV
      inX := h.z.below.inX }
    flow := rfl
    past := hP.less fun _ h => h.1
    kept := hk
    len := rfl
    less := fun _ h => h
    more := fun _ h => .inl h
    kk := Keeps.refl _ _
    bel := fun _ h => h.2
    own := fun j hj => absurd hj (by omega) }
  have hm := Lib.hid (dmade_yes w E d F most torn bg l v h)
  obtain ⟨av, cv, hv⟩ := h.own.sl
  rw [List.length_map] at hv
  subst hv
  obtain ⟨m, hml⟩ : ∃ m, m = l.length := ⟨_, rfl⟩
  rw [← hml] at h0 ⊢
  have c1 := h.top.cell 1
  rw [← hml] at c1
  simp at c1
  have hmb : m ≤ 1099511627776 := by rw [hml]; exact h.fit.2
  have H0 := Lib.hid h0
  have HML := Lib.hid hml
  clear h hP hk h0 hml
  go_enter Try.func25, Try.ntmps25
  go_wp2_with fail
  refine hm.out.mono ?_
  rintro e w1 ⟨rfl, n1, rfl⟩
  go_wp2_with fail
  go_loopw [18] (fun u18 wr => ∃ i E' F' cur, u18 = .int .i64 ((i : Nat) : Int) ∧ i ≤ m ∧ HoldAt w wr E E' d (fun i => F i ∧ i < w.heap.size) F' most torn bg l cur (.slice av m cv) i) (fun u18 _ => m - (intOf u18).toNat)
  case atStart => exact ⟨0, _, _, _, rfl, Nat.zero_le _, H0.out.same ((Keeps.refl _ _).drewN n1)⟩
  case round =>
    obtain ⟨i, E', F', cur, rfl, him, hH⟩ := hrel
    have HH := Lib.hid hH
    clear hH
    by_cases hlt : i < m
    · obtain ⟨q, hq⟩ : ∃ q, cur[i]? = some q := ⟨_, List.getElem?_eq_getElem (by have := HH.out.len; have := HML.out; omega)⟩
      have hcl := HH.out.desk.own.cell (j := i) (u := q.val) (by rw [List.getElem?_map, hq]; rfl)
      obtain ⟨g, off, cap, hvg, hcl, -, hgl, hgb⟩ := hcl
      injection hvg with hav hmm hcv
      subst hav; subst hcv
      have HGB := Lib.hid hgb
      have HQ := Lib.hid hq
      clear hmm hq hgb
      cases q with
      | rep s =>
        have hcell : wr.cell? ⟨g, off + i, none⟩ = some (.iface 92 (.agg #[.string (str s)])) := hcl
        have ht := ta_piece_no
        clear hcl
        go_wp2_with fail
        go_roundw
        case rel => exact ⟨i + 1, E', F', cur, by go_num, by omega, HH.out.rep HQ.out⟩
        case measure => simp [intOf]; omega
      | pc x p f t =>
        have hcell : wr.cell? ⟨g, off + i, none⟩ = some (.iface 76 (.pointer (some ⟨x, 0, none⟩))) := hcl
        have ht := ta_piece_yes
        obtain ⟨pre, post, hcur, hpre⟩ := list_mid cur i _ HQ.out
        have hmem : DPart.pc x p f t ∈ cur := List.mem_of_getElem? HQ.out
        have PB : Blk wr x 81 #[.pointer (some ⟨p, 0, none⟩), .int .i64 f, .int .i64 t, .int .i64 (dblF (((E' p).A.drop f).take (t - f))).length] := (HH.out.desk.pcs _ hmem).1
        have hok : f < t ∧ t ≤ (E' p).A.length := (HH.out.desk.pcs _ hmem).2
        have hkept : (E' p).A.length - (E' p).m ≤ f := HH.out.kept _ hmem
        obtain ⟨hp1, hp2, -, -, -⟩ := HH.out.past _ _ _ _ hmem
        have hpos := hp1.pos
        obtain ⟨many, hmany⟩ : ∃ many, many = (dblF (((E' p).A.drop f).take (t - f))).length := ⟨_, rfl⟩
        rw [← hmany] at PB
        obtain ⟨sg, hsg⟩ : ∃ sg, sg = ((E' p).A.drop f).take (t - f) := ⟨_, rfl⟩
        have hsl : sg.length = t - f := by rw [hsg]; simp; omega
        have hy : ∀ w1, Keeps (fun _ => False) wr w1 → Calls Try.prog 33 #[.pointer (some ⟨p, 0, none⟩), .int .i64 f, .int .i64 t] w1 fun e w' => e = .returned (.tuple #[.string (str sg), .bool true]) ∧ Keeps (fun _ => False) w1 w' := fun w1 k1 => by
          have := pslice_yes w1 p _ _ _ _ (f : Int) (t : Int) (hp1.keeps k1 id id id) hp2 (by omega) (by omega) (by omega)
          rw [Int.toNat_natCast, Int.toNat_natCast, ← hsg] at this
          exact this
        have hfit := HH.out.desk.fit
        have B := HH.out.desk.top
        have hgd : g ≠ d := by obtain ⟨cs, hb⟩ := HGB.out; exact hb.ne_ B (by decide)
        have hgx : g ≠ x := by obtain ⟨cs, hb⟩ := HGB.out; exact hb.ne_ PB (by decide)
        have hxd : x ≠ d := PB.ne_ B (by decide)
        have htl : t - f ≤ 1048576 ∧ 1 ≤ t - f := by omega
        have htb : t ≤ 2305843009213693952 := by omega
        have HY := Lib.hid hy
        have p0 := PB.cell 0
        have p1 := PB.cell 1
        have p2 := PB.cell 2
        simp at p0 p1 p2
        have HPB := Lib.hid PB
        have HB := Lib.hid B
        have HCUR := Lib.hid hcur
        have HPRE := Lib.hid hpre
        have HSG := Lib.hid hsg
        have HSL := Lib.hid hsl
        have HMANY := Lib.hid hmany
        clear hcl hcur hpre hmem hkept hp1 hp2 hpos hmany hsg hsl hy hfit B PB
        go_wp2_with fail
        refine wp_region_noPanic ?_
        go_region_held3 (fun w' => w'.cell? ⟨x, 0, none⟩ = some (.pointer (some ⟨p, 0, none⟩)) ∧ w'.cell? ⟨x, 1, none⟩ = some (.int .i64 f) ∧ w'.cell? ⟨x, 2, none⟩ = some (.int .i64 t) ∧ Keeps (fun _ => False) wr w')
          ((first | exact ⟨p0, p1, p2, ((Keeps.refl _ _).drewN _).drew⟩ | exact ⟨p0, p1, p2, (Keeps.refl _ _).drew⟩ | (have bb := HPB.out.keeps kk id; exact ⟨bb.cell 0, bb.cell 1, bb.cell 2, kk⟩)))
          ((go_at_call 33; rename_i hh _ _; have hk := hh.2.2.2; refine (HY.out _ hk).mono ?_; rintro e w3 ⟨rfl, k3⟩; have kk := hk.trans k3))
        rename_i hh
        have kk := hh.2.2.2
        clear hh
        refine NoPanic.normal ?_
        have hss : (str sg).size = t - f := by rw [str_size]; exact HSL.out
        go_wp2_with fail
        refine (pnew_ok _ (t - f) htl.2 htl.1).mono ?_
        rintro e w4 ⟨p', g', b', rfl, l1, l2, l3, k4, hp4⟩
        go_wp2_with fail
        refine (padd_any w4 p' g' b' (t - f) [] (str sg) hp4 (by rw [hss]; unfold maxLen; omega) (by rw [hss]; show 0 + _ ≤ _; omega)).mono ?_
        rintro e w5 ⟨rfl, k5, hp5⟩
        have hp6 : IsPast w5 p' g' b' (t - f) (((E' p).A.drop f).take (t - f)) := by rw [← HSG.out]; exact hp5
        have hks := kk.size
        have K5 : Keeps (fun _ => False) wr w5 := (kk.trans k4).and_ k5 (fun i hi e => by omega)
        have B5 := HB.out.keeps K5 id
        have P5 := HPB.out.keeps K5 id
        have O5 := HH.out.desk.own.keeps K5 (fun _ _ _ => id)
        obtain ⟨g2, off2, cap2, hvg2, hc5, hf5, hgl5, -⟩ := O5.cell (j := i) (u := DPart.val (.pc x p f t)) (by rw [List.getElem?_map, HQ.out]; rfl)
        injection hvg2 with hav2 hm2 hc2
        subst hc2
        clear hm2
        injection hav2 with hav2
        injection hav2 with hg2 ho2
        subst hg2; subst ho2
        have hc5 : w5.cell? ⟨g, off + i, none⟩ = some (.iface 76 (.pointer (some ⟨x, 0, none⟩))) := hc5
        have d1 := B5.cell 1
        have x3 := P5.cell 3
        simp at d1 x3
        have hdl5 := B5.lt
        have hxl5 := P5.lt
        have HK5 := Lib.hid K5
        have HP6 := Lib.hid hp6
        have HO5 := Lib.hid O5
        clear hp4 k4 hp5 k5 K5 B5 P5 O5 hp6 kk
        go_wp2_with fail
        go_region
        all_goals
          go_wp2_with fail
          go_roundw
          case rel =>
            obtain ⟨wx, hwx⟩ : ∃ wx, wx = ((w5.setCell ⟨g, off + i, none⟩ (.iface 76 (.pointer (some ⟨w5.heap.size, 0, none⟩)))).alloc (.cells #[.pointer (some ⟨p', 0, none⟩), .int .i64 0, .int .i64 ((t - f : Nat) : Int), .int .i64 many] 81)).drew := ⟨_, rfl⟩
            rw [← hwx]
            have K4 : Keeps (fun j => j = g) w5 wx := by
              rw [hwx]
              exact (((Keeps.refl (fun j => j = g) w5).setCell (p := ⟨g, off + i, none⟩) (fun _ => rfl) _).alloc _).drew
            have hcv : 0 < cv := by
              rcases HO5.out with ⟨h1, _⟩ | ⟨g3, off3, cap3, cur3, hv3, _, h1, _⟩
              · have h2 := congrArg List.length h1
                simp at h2
                have := List.mem_of_getElem? HQ.out
                rw [h2] at this; cases this
              · injection hv3 with _ _ hc3
                subst hc3
                have := (List.getElem?_eq_some_iff.1 HQ.out).1
                rw [List.length_map] at h1; omega
            have hB4 : Blk wx w5.heap.size 81 #[.pointer (some ⟨p', 0, none⟩), .int .i64 0, .int .i64 ((t - f : Nat) : Int), .int .i64 (dblF (((E' p).A.drop f).take (t - f))).length] := by
              rw [← HMANY.out, hwx]
              exact (blk_new (by simp)).drew
            have hO4 : OwnQ wx 79 (.slice (some ⟨g, off, none⟩) m cv) ((pre ++ .pc w5.heap.size p' 0 (t - f) :: post).map DPart.val) := by
              have h1 := HO5.out
              rw [HCUR.out, List.map_append, List.map_cons] at h1
              have h2 := h1.set_ (DPart.val (.pc w5.heap.size p' 0 (t - f)))
              rw [List.length_map, HPRE.out] at h2
              rw [List.map_append, List.map_cons, hwx]
              exact h2.keeps (((Keeps.refl (fun _ => False) _).alloc _).drew) (fun _ _ _ => id)
            have hH2 : HoldAt w wr E E' d (fun i => F i ∧ i < w.heap.size) F' most torn bg l (pre ++ .pc x p f t :: post) (.slice (some ⟨g, off, none⟩) m cv) i := by
              have := HH.out
              rw [HCUR.out] at this
              exact this
            have hhld := HoldAt.held (g := g) (x' := w5.heap.size) (w4 := wx) hH2 HPRE.out HK5.out HP6.out ⟨by omega, by omega, by omega⟩ K4 (rowB_some _ _ _ _ hcv) (Nat.le_refl _) hB4 hO4
            exact ⟨i + 1, _, _, _, by go_num, by omega, hhld⟩
          case measure => simp [intOf]; omega
    · go_wp2_with fail
      go_end0
      obtain rfl : i = m := by omega
      exact ⟨rfl, _, _, _, HH.out⟩
end
end Go.Proofs.Ytcblaeleaebinaa
