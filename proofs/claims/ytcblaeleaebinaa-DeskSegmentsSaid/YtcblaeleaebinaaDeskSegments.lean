/-
  DeskSegments returns true, whatever its arguments: the walk.
-/
import Derived.Test.YtcblaeleaebinaaSegB
import Derived.Deep.DeepCutAuto
import Derived.Deep.CutBlock
namespace Go.Proofs.Ytcblaeleaebinaa
open Go.RowKit

theorem feed_a4 (st : FS) (s : List UInt8) (h : st.1 ≤ 4) : (feedP st s).1 ≤ 4 := by
  induction s generalizing st with
  | nil => exact h
  | cons c t ih =>
    refine ih (feed1 st c) ?_
    have := (stepP_le st.2.1 c h).1
    unfold feed1
    simp only
    split <;> exact this
/-- the parts at index j -/
theorem parts_at {P : List (List UInt8 × Bool)} {A : List UInt8} {T : List (List UInt8)} (h1 : ∃ x, consP P ++ x = A) (h2 : ∃ y, repP P ++ y = T) {j : Nat} {x : List UInt8 × Bool} (hx : P[j]? = some x) :
    (consP (P.take j)).length ≤ A.length ∧ (consP (P.take (j + 1))).length ≤ A.length ∧ (repP (P.take j)).length ≤ T.length ∧
    (x.2 = false → consP (P.take (j + 1)) = consP (P.take j) ++ x.1 ∧ repP (P.take (j + 1)) = repP (P.take j)) ∧
    (x.2 = true → T[(repP (P.take j)).length]? = some x.1 ∧ consP (P.take (j + 1)) = consP (P.take j) ∧ (repP (P.take (j + 1))).length = (repP (P.take j)).length + 1) := by
  obtain ⟨t1, h1⟩ := h1
  obtain ⟨t2, h2⟩ := h2
  have hstep := take_one hx
  have hc1 : consP (P.take (j + 1)) = consP (P.take j) ++ consP [x] := by rw [hstep, consP_app]
  have hr1 : repP (P.take (j + 1)) = repP (P.take j) ++ repP [x] := by rw [hstep, repP_app]
  have hlen : ∀ m, (consP (P.take m)).length ≤ A.length := fun m => by rw [← h1, ← consP_take P m, List.length_append, List.length_append]; omega
  refine ⟨hlen j, hlen (j + 1), by rw [← h2, ← repP_take P j, List.length_append, List.length_append]; omega, fun hf => ?_, fun ht => ?_⟩
  · have e1 : consP [x] = x.1 := by simp [consP, hf]
    have e2 : repP [x] = [] := by simp [repP, hf]
    exact ⟨by rw [hc1, e1], by rw [hr1, e2, List.append_nil]⟩
  · have e1 : consP [x] = [] := by simp [consP, ht]
    have e2 : repP [x] = [x.1] := by simp [repP, ht]
    refine ⟨?_, by rw [hc1, e1, List.append_nil], by rw [hr1, e2]; simp⟩
    rw [← h2, ← repP_take P j, List.append_assoc, List.getElem?_append_right (Nat.le_refl _), Nat.sub_self, drop_one hx]
    show ((repP ([x] ++ P.drop (j + 1))) ++ t2)[0]? = _
    rw [repP_app, e2]; rfl

set_option maxRecDepth 100000 in
set_option maxHeartbeats 4000000 in
theorem deskSegments_walk (w : World) (pre : ByteArray) (ad : Option Addr) (n cap : Nat) (l : List Op32) (_hpre : pre.size ≤ maxLen) (hl : SlAt opR32 3 w ad n l ∧ ∀ x ∈ l, x.good) :
    Calls Try.prog 7 #[.string pre, .slice ad n cap] w fun e w' => e = .returned (.bool true) ∧ Keeps (fun _ => False) w w' := by
  obtain ⟨hl, hl2⟩ := hl
  have hln := hl.1
  have fin : ∀ w' : World, Keeps (fun i => w.heap.size ≤ i) w w' → Keeps (fun _ => False) w w' := fun w' k => k.mono fun i hi e => by omega
  have FIN := Lib.hid fin
  have HL2 := Lib.hid hl2
  clear fin hl2
  by_cases hbn : 50 < n
  · go_enter Try.func7, Try.ntmps7
    go_wp2_with (go_at_call 10; refine (works32 _).mono ?_; rintro e w3 ⟨rfl, k3⟩)
    go_ret
    exact ⟨rfl, k3⟩
  by_cases hbl : 200 < pre.size
  · go_enter Try.func7, Try.ntmps7
    go_wp2_with (go_at_call 10; refine (works32 _).mono ?_; rintro e w3 ⟨rfl, k3⟩)
    go_ret
    exact ⟨rfl, k3⟩
  go_enter Try.func7, Try.ntmps7
  go_wp2_with fail
  refine (dnew_ok w (E1 0 0 0 []) 1048576 (by decide) (by decide)).mono ?_
  rintro e w1 ⟨rfl, k1, hd1⟩
  obtain ⟨d, hd⟩ : ∃ d, d = w.heap.size := ⟨_, rfl⟩
  rw [← hd] at hd1 ⊢
  have HD := Lib.hid hd
  clear hd
  go_wp2_with fail
  refine (pnew_ok w1 8000 (by decide) (by decide)).mono ?_
  rintro e w2 ⟨p, g, b, rfl, l1, l2, l3, k2, hp⟩
  have hn40 : n ≤ 50 := by omega
  have hl100 : pre.size ≤ 200 := by omega
  have hb0 : BenchF w w2 p g b 8000 d (fun i => i = d) [] 1048576 [] [] := by
    have hpl := hp.lt
    have hdd := HD.out
    have hs1 := k1.size
    have hdl := hd1.top.lt
    exact {
      kk := (k1.trans k2).none_
      past := hp
      lo := by omega
      lim := Nat.zero_le _
      nF := by omega
      F0 := fun i hi => by omega
      desk := ⟨[], _, (hd1.keeps k2 (fun _ _ => id)).anyE' _, rfl, fun x p' f t hq => by cases hq⟩ }
  have HB0 := Lib.hid hb0
  clear k1 k2 hd1 hp l1 l2 l3 hbn hbl hb0
  go_wp2_with fail
  refine (baddF pre HB0.out (by show 0 + _ ≤ _; omega)).mono ?_
  rintro e w3 ⟨rfl, k3, h3⟩
  rw [List.nil_append] at h3
  obtain ⟨sp, hsp⟩ : ∃ sp, sp = w3.heap.size := ⟨_, rfl⟩
  have HSP := Lib.hid hsp
  have HH3 := Lib.hid h3
  clear k3 h3
  go_wp2_with fail
  rw [← hsp]
  clear hsp
  go_loopw [9, 10, 12, 13] (fun u9 u10 u12 u13 wr => ∃ (i : Nat) (all : ByteArray) (F : Nat → Prop) (its : List It) (k : Nat) (bg : List UInt8) (a : Nat) (op : List UInt8) (vs : Value) (told : List ByteArray) (got : List (List UInt8 × Bool)), i ≤ n ∧ u13 = .int .i64 i ∧ u9 = .string all ∧ Hid (all.size ≤ 100 * i ∧ (flI its).length ≤ 204 * i ∧ told.length ≤ i ∧ got.length ≤ 120 * i ∧ op.length ≤ 60 * i ∧ Seg w wr p g b d sp F pre all its k bg a op vs u10 u12 told got)) (fun _ _ _ u13 _ => n - (intOf u13).toNat)
  case atStart =>
    have k0 : Keeps (fun _ => False) w3 (w3.alloc (.cells #[.int .i64 0, .slice none 0 0] 57)) := (Keeps.refl _ _).alloc _
    obtain ⟨F1, h4, h5⟩ := (HH3.out.same k0).typed
    have hpl := HH3.out.past.lt
    have hsp := HSP.out
    have hk0 := HH3.out.kk.size
    refine ⟨0, ⟨#[]⟩, F1, [], 0, [], 0, [], .slice none 0 0, [], [], by omega, rfl, rfl, Lib.hid ⟨by decide, by decide, by decide, by decide, by decide, {
      bench := by rw [show pre.data.toList ++ (⟨#[]⟩ : ByteArray).data.toList = pre.data.toList from List.append_nil _]; exact h4
      typed := h5
      side := {
        sp_ := blk_new hsp
        op_ := OwnQ.none_
        row := OwnQ.none_
        gots := OwnS.none_
        splo := by omega
        vslo := fun r hr => by rw [rowB_zero] at hr; cases hr
        tvlo := fun r hr => by rw [rowB_zero] at hr; cases hr
        gvlo := fun r hr => by cases hr
        a4 := by omega }
      le := Nat.le_refl _
      cons := rfl
      reps := rfl
      mach := rfl }⟩⟩
  case round =>
    obtain ⟨i, all, F, its, k, bg, a, op, vs, told, got, hin, rfl, rfl, HH⟩ := hrel
    by_cases hlt : i < n
    · obtain ⟨x, hx⟩ : ∃ x, l[i]? = some x := ⟨l[i]'(by omega), List.getElem?_eq_getElem (by omega)⟩
      have hgood := HL2.out x (List.mem_of_getElem? hx)
      obtain ⟨b2, off, rfl, hb2, hc⟩ := hl.2 (by omega)
      have hcq := (FIN.out _ HH.out.2.2.2.2.2.bench.kk).cellq
      have hcell0 : wr.cell? ⟨b2, off + i * 3, none⟩ = some (.int .u8 x.kind) := by rw [hcq _ _ hb2]; exact hc i x 0 _ hx rfl
      have hcell1 : wr.cell? ⟨b2, off + i * 3 + 1, none⟩ = some (.string x.s) := by rw [hcq _ _ hb2]; exact hc i x 1 _ hx rfl
      have hcell2 : wr.cell? ⟨b2, off + i * 3 + 2, none⟩ = some (.int .i64 x.n) := by rw [hcq _ _ hb2]; exact hc i x 2 _ hx rfl
      have HGOOD := Lib.hid hgood
      clear hc hcq hgood
      by_cases hbs : 100 < x.s.size
      · go_wp2_with fail
        go_roundw
        case rel =>
          obtain ⟨F1, hfin⟩ := HH.out.2.2.2.2.2.same ((Keeps.refl _ _).alloc _)
          exact ⟨i + 1, all, F1, its, k, bg, a, op, vs, told, got, by omega, by go_num, rfl, Lib.hid ⟨by have := HH.out.1; omega, by have := HH.out.2.1; omega, by have := HH.out.2.2.1; omega, by have := HH.out.2.2.2.1; omega, by have := HH.out.2.2.2.2.1; omega, hfin⟩⟩
        case measure => simp [intOf]; omega
      · have hbs2 : x.s.size ≤ 100 := by omega
        clear hbs
        go_upto_block 2 with (fail)
        obtain ⟨wo, hwo⟩ : ∃ wo, wo = wr.alloc (.cells #[.int .u8 x.kind, .string x.s, .int .i64 x.n] 40) := ⟨_, rfl⟩
        rw [← hwo]
        obtain ⟨ob, hob⟩ : ∃ ob, ob = wr.heap.size := ⟨_, rfl⟩
        rw [← hob]
        have hOB : Blk wo ob 40 #[.int .u8 x.kind, .string x.s, .int .i64 x.n] := by rw [hwo]; exact blk_new hob
        have kwo : Keeps (fun _ => False) wr wo := by rw [hwo]; exact (Keeps.refl _ _).alloc _
        obtain ⟨F1, h0⟩ := HH.out.2.2.2.2.2.same kwo
        have hobS : ¬ (F1 ob ∨ ob = p ∨ ob = g ∨ ob = b) := by
          have hpl := HH.out.2.2.2.2.2.bench.past.lt
          intro e
          rcases e with e | e | e | e
          · exact h0.typed.not hOB (by decide) (by decide) (by decide) e
          · omega
          · omega
          · omega
        have OB := Lib.hid hOB
        have H0 := Lib.hid h0
        have HOBS := Lib.hid hobS
        have HSZ := Lib.hid (show all.size ≤ 100 * i ∧ (flI its).length ≤ 204 * i ∧ told.length ≤ i ∧ got.length ≤ 120 * i ∧ op.length ≤ 60 * i from ⟨HH.out.1, HH.out.2.1, HH.out.2.2.1, HH.out.2.2.2.1, HH.out.2.2.2.2.1⟩)
        have hallb : all.size ≤ 5000 := by have := HSZ.out; omega
        have hAFb : (flI its).length ≤ 10200 := by have := HSZ.out; omega
        have htb : told.length ≤ 50 := by have := HSZ.out; omega
        have hgb : got.length ≤ 6000 := by have := HSZ.out; omega
        have hob1 : op.length ≤ 3000 := by have := HSZ.out; omega
        have hAl : all.data.toList.length = all.size := by simp
        have hPl : pre.data.toList.length = pre.size := by simp
        have HAL := Lib.hid (show all.data.toList.length = all.size ∧ pre.data.toList.length = pre.size from ⟨hAl, hPl⟩)
        have o0 := hOB.cell 0
        have o1 := hOB.cell 1
        have o2 := hOB.cell 2
        simp at o0 o1 o2
        have lo := hOB.lt
        have hspo : ob ≠ sp := hOB.ne_ h0.side.sp_ (by decide)
        clear hwo hob hOB kwo h0 hobS hAl hPl hcell0 hcell1 hcell2
        go_cut [9, 10, 12] (fun s9 s10 s12 wx => ∃ (all' : ByteArray) (F' : Nat → Prop) (its' : List It) (k' : Nat) (bg' : List UInt8) (a' : Nat) (op' : List UInt8) (vs' : Value) (told' : List ByteArray) (got' : List (List UInt8 × Bool)), s9 = .string all' ∧ Hid (all'.size ≤ 100 * (i + 1) ∧ (flI its').length ≤ 204 * (i + 1) ∧ told'.length ≤ i + 1 ∧ got'.length ≤ 120 * (i + 1) ∧ op'.length ≤ 60 * (i + 1) ∧ Seg w wx p g b d sp F' pre all' its' k' bg' a' op' vs' s10 s12 told' got'))
        case first =>
          rcases (show x.kind % 6 = 0 ∨ x.kind % 6 = 1 ∨ x.kind % 6 = 2 ∨ (x.kind % 6 = 3 ∨ x.kind % 6 = 4 ∨ x.kind % 6 = 5) from by omega) with h7 | h7 | h7 | h7
          · as_aux_lemma =>
            have e0 : ((x.kind : Int) % 6 == 0) = true := by rw [beq_iff_eq]; omega
            clear h7
            obtain ⟨all2, hall⟩ : ∃ all2, all ++ x.s = all2 := ⟨_, rfl⟩
            have hsz2 : all2.size = all.size + x.s.size := by rw [← hall]; simp
            have hdat : all2.data.toList = all.data.toList ++ x.s.data.toList := by rw [← hall]; simp
            have hSl : x.s.data.toList.length = x.s.size := by simp
            have hseg : ((pre.data.toList ++ all2.data.toList).drop (pre.size + all.size)).take (pre.size + all.size + x.s.size - (pre.size + all.size)) = x.s.data.toList := by
              rw [hdat, ← List.append_assoc, show pre.size + all.size = (pre.data.toList ++ all.data.toList).length by rw [List.length_append, HAL.out.1, HAL.out.2], List.drop_left, List.take_of_length_le (by omega)]
            have hA2 : (pre.data.toList ++ all2.data.toList).length = pre.size + all.size + x.s.size := by rw [hdat]; simp; omega
            have hdl : (dblF x.s.data.toList).length ≤ 200 := by rw [dblF_len]; have := dblP_len x.s.data.toList; omega
            have hadd := baddF x.s H0.out.bench (by rw [List.length_append, HAL.out.1, HAL.out.2]; omega)
            rw [List.append_assoc, ← hdat] at hadd
            have HADD := Lib.hid hadd
            have HSEG := Lib.hid hseg
            have HA2 := Lib.hid hA2
            have HSZ2 := Lib.hid hsz2
            have HDL := Lib.hid hdl
            have HDAT := Lib.hid hdat
            have hwa1 : IntKind.i64.wrap ((pre.size : Int) + (all.size : Int)) = (pre.size : Int) + all.size := wrap_in (by omega) (by omega)
            have hwa : IntKind.i64.wrap ((pre.size : Int) + (all.size : Int) + (x.s.size : Int)) = (pre.size : Int) + all.size + x.s.size := wrap_in (by omega) (by omega)
            clear hadd hseg hA2 hSl hdat hsz2 hdl
            go_wp2_with fail
            refine HADD.out.mono ?_
            rintro e w3 ⟨rfl, k3, h3⟩
            have KK3 : Keeps (fun i => F1 i ∨ i = p ∨ i = g ∨ i = b) wo w3 := k3.mono fun i _ e => .inr e
            have o1 := (OB.out.keeps (KK3) HOBS.out).cell 1; have o2 := (OB.out.keeps (KK3) HOBS.out).cell 2; simp at o1 o2
            have hsh := bshowF (pre.size + all.size) (pre.size + all.size + x.s.size) h3 (by omega) (by rw [HA2.out]; omega) (by rw [List.length_drop]; omega)
            rw [HSEG.out, Int.natCast_add, Int.natCast_add] at hsh
            have HSH := Lib.hid hsh
            clear hsh
            go_wp2_with fail
            refine HSH.out.mono ?_
            rintro e w4 ⟨rfl, k4, h4⟩
            have KK4 : Keeps (fun i => F1 i ∨ i = p ∨ i = g ∨ i = b) wo w4 := KK3.trans (k4.mono fun i _ e => .inl e)
            have o1 := (OB.out.keeps (KK4) HOBS.out).cell 1; have o2 := (OB.out.keeps (KK4) HOBS.out).cell 2; simp at o1 o2
            obtain ⟨F2, hfin⟩ := H0.out.shown x.s KK4 HDAT.out h4
            have HFIN := Lib.hid hfin
            clear hfin
            go_wp2_with fail
            go_meet
            case rel => exact ⟨all2, F2, its ++ [.con x.s.data.toList], k, bg, a, op, vs, told, got, rfl, Lib.hid ⟨by have := HSZ2.out; have := HSZ.out; omega, by rw [flI_app, List.length_append]; have := HDL.out; have := HSZ.out; have e0 : (flI [It.con x.s.data.toList]).length = (dblF x.s.data.toList).length := (by simp [flI, It.fl]); omega, by have := HSZ.out; omega, by have := HSZ.out; omega, by have := HSZ.out; omega, HFIN.out⟩⟩
          · as_aux_lemma =>
            have e0 : ((x.kind : Int) % 6 == 0) = false := by rw [beq_eq_false_iff_ne]; omega
            have e1 : ((x.kind : Int) % 6 == 1) = true := by rw [beq_iff_eq]; omega
            clear h7
            obtain ⟨all2, hall⟩ : ∃ all2, all ++ x.s = all2 := ⟨_, rfl⟩
            have hsz2 : all2.size = all.size + x.s.size := by rw [← hall]; simp
            have hdat : all2.data.toList = all.data.toList ++ x.s.data.toList := by rw [← hall]; simp
            have hSl : x.s.data.toList.length = x.s.size := by simp
            have hseg : ((pre.data.toList ++ all2.data.toList).drop (pre.size + all.size)).take (pre.size + all.size + x.s.size - (pre.size + all.size)) = x.s.data.toList := by
              rw [hdat, ← List.append_assoc, show pre.size + all.size = (pre.data.toList ++ all.data.toList).length by rw [List.length_append, HAL.out.1, HAL.out.2], List.drop_left, List.take_of_length_le (by omega)]
            have hA2 : (pre.data.toList ++ all2.data.toList).length = pre.size + all.size + x.s.size := by rw [hdat]; simp; omega
            have hdl : (dblF x.s.data.toList).length ≤ 200 := by rw [dblF_len]; have := dblP_len x.s.data.toList; omega
            have hadd := baddF x.s H0.out.bench (by rw [List.length_append, HAL.out.1, HAL.out.2]; omega)
            rw [List.append_assoc, ← hdat] at hadd
            have HADD := Lib.hid hadd
            have HSEG := Lib.hid hseg
            have HA2 := Lib.hid hA2
            have HSZ2 := Lib.hid hsz2
            have HDL := Lib.hid hdl
            have HDAT := Lib.hid hdat
            have hwa1 : IntKind.i64.wrap ((pre.size : Int) + (all.size : Int)) = (pre.size : Int) + all.size := wrap_in (by omega) (by omega)
            have hwa : IntKind.i64.wrap ((pre.size : Int) + (all.size : Int) + (x.s.size : Int)) = (pre.size : Int) + all.size + x.s.size := wrap_in (by omega) (by omega)
            clear hadd hseg hA2 hSl hdat hsz2 hdl
            go_wp2_with fail
            refine HADD.out.mono ?_
            rintro e w3 ⟨rfl, k3, h3⟩
            have KK3 : Keeps (fun i => F1 i ∨ i = p ∨ i = g ∨ i = b) wo w3 := k3.mono fun i _ e => .inr e
            have o1 := (OB.out.keeps (KK3) HOBS.out).cell 1; have o2 := (OB.out.keeps (KK3) HOBS.out).cell 2; simp at o1 o2
            have hsh := bshowF (pre.size + all.size) (pre.size + all.size + x.s.size) h3 (by omega) (by rw [HA2.out]; omega) (by rw [List.length_drop]; omega)
            rw [HSEG.out, Int.natCast_add, Int.natCast_add] at hsh
            have HSH := Lib.hid hsh
            clear hsh
            go_wp2_with fail
            refine HSH.out.mono ?_
            rintro e w4 ⟨rfl, k4, h4⟩
            have KK4 : Keeps (fun i => F1 i ∨ i = p ∨ i = g ∨ i = b) wo w4 := KK3.trans (k4.mono fun i _ e => .inl e)
            have o1 := (OB.out.keeps (KK4) HOBS.out).cell 1; have o2 := (OB.out.keeps (KK4) HOBS.out).cell 2; simp at o1 o2
            obtain ⟨F2, hfin⟩ := H0.out.shown x.s KK4 HDAT.out h4
            have HFIN := Lib.hid hfin
            clear hfin
            go_wp2_with fail
            go_meet
            case rel => exact ⟨all2, F2, its ++ [.con x.s.data.toList], k, bg, a, op, vs, told, got, rfl, Lib.hid ⟨by have := HSZ2.out; have := HSZ.out; omega, by rw [flI_app, List.length_append]; have := HDL.out; have := HSZ.out; have e0 : (flI [It.con x.s.data.toList]).length = (dblF x.s.data.toList).length := (by simp [flI, It.fl]); omega, by have := HSZ.out; omega, by have := HSZ.out; omega, by have := HSZ.out; omega, HFIN.out⟩⟩
          · as_aux_lemma =>
            have e0 : ((x.kind : Int) % 6 == 0) = false := by rw [beq_eq_false_iff_ne]; omega
            have e1 : ((x.kind : Int) % 6 == 1) = false := by rw [beq_eq_false_iff_ne]; omega
            have e2 : ((x.kind : Int) % 6 == 2) = true := by rw [beq_iff_eq]; omega
            clear h7
            have hdl : (markP (toldP x.s.data.toList)).length ≤ 204 := by
              rw [markP_len, toldP_len]
              have := dblP_len x.s.data.toList
              have hSl : x.s.data.toList.length = x.s.size := by simp
              omega
            have HDL := Lib.hid hdl
            clear hdl
            obtain ⟨a7, n7, c7, hu10⟩ := H0.out.side.row.sl3
            subst hu10
            have hvl : (told.map Value.string).length ≤ 17179869184 := by rw [List.length_map]; omega
            have HVL := Lib.hid hvl
            clear hvl
            go_wp2_with (first
              | (go_at_call 19; go_must (refine (btellF x.s H0.out.bench (by omega) (by rw [List.length_drop]; omega)).mono ?_; rintro e w3 ⟨rfl, k3, h3⟩; have KK3 : Keeps (fun i => F1 i ∨ i = p ∨ i = g ∨ i = b) wo w3 := k3.mono fun i _ e => .inl e; have o1 := (OB.out.keeps (KK3) HOBS.out).cell 1; have o2 := (OB.out.keeps (KK3) HOBS.out).cell 2; simp at o1 o2; have hro := (H0.out.side.keeps H0.out.typed KK3).row; have HRO := Lib.hid hro; clear hro))
              | (with_reducible show wpList _ _ _ (⟨some 109, _, _, _, _, _⟩ :: _) _ _; go_must (refine wpList_append_q rfl _ _ _ rfl 9 (.string ⟨#[]⟩) 16 Try.underlying22 (by kernel_rfl) rfl (by omega) (.slice a7 n7 c7) (told.map Value.string) rfl (HRO.out.keeps (S := fun _ => False) ((Keeps.refl _ _).alloc _) (fun _ _ _ => id)) _ _ (.string x.s) rfl (cell_new (by simp)) rfl HVL.out ?_; intro v8 w8 O8 k8 hv8; have HO8 := Lib.hid O8; have HK8 := Lib.hid k8; have HV8 := Lib.hid hv8; clear O8 k8 hv8)))
            go_meet
            case rel =>
              obtain ⟨F2, hfin⟩ := H0.out.told_ x.s k3 ((Keeps.refl _ _).alloc _) h3 HK8.out HO8.out HV8.out
              exact ⟨all, F2, its ++ [.rep x.s.data.toList], k, bg, a, op, vs, told ++ [x.s], got, rfl, Lib.hid ⟨by have := HSZ.out; omega, by rw [flI_app, List.length_append]; have := HDL.out; have := HSZ.out; have e0 : (flI [It.rep x.s.data.toList]).length = (markP (toldP x.s.data.toList)).length := (by simp [flI, It.fl]); omega, by have := HSZ.out; simp; omega, by have := HSZ.out; omega, by have := HSZ.out; omega, hfin⟩⟩
          · as_aux_lemma =>
            have e0 : ((x.kind : Int) % 6 == 0) = false := by rw [beq_eq_false_iff_ne]; omega
            have e1 : ((x.kind : Int) % 6 == 1) = false := by rw [beq_eq_false_iff_ne]; omega
            have e2 : ((x.kind : Int) % 6 == 2) = false := by rw [beq_eq_false_iff_ne]; omega
            clear h7
            have hn1 : -9223372036854775808 ≤ x.n.tmod 60 ∧ x.n.tmod 60 ≤ 9223372036854775807 ∧ (x.n.tmod 60).toNat ≤ 59 := by
              have t1 := Int.tmod_lt_of_pos x.n (show (0 : Int) < 60 by decide)
              have t2 := Int.lt_tmod_of_pos x.n (show (0 : Int) < 60 by decide)
              omega
            have HN := Lib.hid hn1
            clear hn1
            go_wp2_with fail
            refine (bemitF (x.n.tmod 60) H0.out.bench ⟨HN.out.1, HN.out.2.1⟩).mono ?_
            rintro e w3 ⟨bg3, rfl, k3, h3, -⟩
            obtain ⟨Y, hY⟩ : ∃ Y, Y = (((flI its).drop k).take (x.n.tmod 60).toNat).map Prod.fst := ⟨_, rfl⟩
            rw [← hY]
            obtain ⟨y, hy⟩ : ∃ y, y = str Y := ⟨_, rfl⟩
            rw [← hy]
            have hys : y.size ≤ 59 := by rw [hy, str_size, hY, List.length_map, List.length_take]; have := HN.out; omega
            have hyd : y.data.toList = Y := by rw [hy]; rfl
            have HY := Lib.hid hY
            have HYD := Lib.hid hyd
            have HK3 := Lib.hid k3
            clear hY hy hyd
            have hs3 := H0.out.side.keeps H0.out.typed (k3.mono fun i _ e => .inl e)
            have HS3 := Lib.hid hs3
            have HH3 := Lib.hid h3
            clear hs3 h3
            go_wp2_with fail
            refine (feed_any w3 sp a vs op y HS3.out.sp_ HS3.out.op_ HS3.out.a4 (by omega) (by omega)).mono ?_
            rintro e w4 ⟨vo, vs4, rfl, hO4, hb4, ho4, hr4, k4⟩
            obtain ⟨st, hst⟩ : ∃ st, st = feedP (a, op, [], []) y.data.toList := ⟨_, rfl⟩
            rw [← hst] at hO4 hb4 ho4
            have hlen := feed_len (a, op, [], []) y.data.toList
            rw [← hst] at hlen
            have hyl : y.data.toList.length = y.size := by simp
            have hcl : (conP st.2.2.1).length ≤ 1 := by unfold conP; split <;> simp
            have hpl : (st.2.2.2 ++ conP st.2.2.1).length ≤ 2 * y.size + 1 ∧ st.2.1.length ≤ op.length + y.size := by
              simp only [List.length_nil] at hlen
              rw [List.length_append]
              omega
            have ha4 : st.1 ≤ 4 := by rw [hst]; exact feed_a4 _ _ HS3.out.a4
            have HO4 := Lib.hid hO4
            have HB4 := Lib.hid (show _ ∧ _ ∧ _ ∧ _ from ⟨hb4, ho4, hr4, k4⟩)
            have HPL := Lib.hid hpl
            have HST := Lib.hid hst
            have HA4 := Lib.hid ha4
            clear hO4 hb4 ho4 hr4 hst hlen hyl hcl hpl ha4
            go_wp2_with fail
            refine (parts_any w4 w3.heap.size vo _ HO4.out (by have := HPL.out; omega)).mono ?_
            rintro e w5 ⟨v5, rfl, hO5, k5⟩
            have hg5 := ((HS3.out.gots.keeps k4 (fun i _ _ ⟨cs, hc⟩ e => by
              rcases e with rfl | e
              · exact hc.ne_ HS3.out.sp_ (by decide) rfl
              · obtain ⟨cs2, hb2⟩ := HS3.out.op_.row i e
                exact hc.ne_ hb2 (by decide) rfl)).keeps k5 (fun _ _ _ _ => id))
            have hz5 : w.heap.size ≤ w5.heap.size := by
              have := HH3.out.kk.size
              have := k4.size
              have := k5.size
              omega
            have HG5 := Lib.hid hg5
            have HO5 := Lib.hid hO5
            have HK5 := Lib.hid k5
            clear hg5 hO5 k5 k4
            go_wp2_with (with_reducible show wpList _ _ _ (⟨some 73, _, _, _, _, _⟩ :: _) _ _; go_must (refine wpList_append_many partR 2 partR_len (by decide) partR_one rfl (.tmp 65) (.tmp 72) 48 rfl w.heap.size w4.heap.size 52 (.agg #[.string ⟨#[]⟩, .bool false]) 24 Try.underlying48 (by kernel_rfl) rfl (by omega) u12 v5 got (st.2.2.2 ++ conP st.2.2.1) rfl HG5.out rfl HO5.out (by have := HPL.out; omega) hz5 ?_; intro v6 w6 O6 k6; have HO6 := Lib.hid O6; have HK6 := Lib.hid k6; clear O6 k6))
            go_meet
            case rel =>
              have hst2 : st = feedP (a, op, [], []) ((((flI its).drop k).take (x.n.tmod 60).toNat).map Prod.fst) := by rw [HST.out, HYD.out, HY.out]
              obtain ⟨F2, hfin⟩ := H0.out.came (x.n.tmod 60).toNat HK3.out HH3.out hst2 HB4.out.2.2.2 HB4.out.1 HB4.out.2.1 HB4.out.2.2.1 HA4.out HK5.out HK6.out HO6.out
              exact ⟨all, F2, its, _, bg3, st.1, st.2.1, vs4, told, got ++ (st.2.2.2 ++ conP st.2.2.1), rfl, Lib.hid ⟨by have := HSZ.out; omega, by have := HSZ.out; omega, by have := HSZ.out; omega, by rw [List.length_append]; have := HSZ.out; have := HPL.out; omega, by have := HSZ.out; have := HPL.out; omega, hfin⟩⟩
        case rest =>
          obtain ⟨all', F', its', k', bg', a', op', vs', told', got', rfl, HC⟩ := hcut
          obtain ⟨f1, f2⟩ := HC.out.2.2.2.2.2.fine
          obtain ⟨a8, c8, hgv, -, -, hne, hcl⟩ := HC.out.2.2.2.2.2.side.gots.shape partR_len
          subst hgv
          obtain ⟨a7, c7, htv⟩ := HC.out.2.2.2.2.2.side.row.sl
          rw [List.length_map] at htv
          subst htv
          obtain ⟨nt, hnt⟩ : ∃ nt, nt = told'.length := ⟨_, rfl⟩
          obtain ⟨np, hnp⟩ : ∃ np, np = got'.length := ⟨_, rfl⟩
          rw [← hnt, ← hnp] at HC
          rw [← hnp] at hne
          rw [← hnt, ← hnp]
          have hntb : nt ≤ 51 := by have := HC.out.2.2.1; omega
          have hnpb : np ≤ 6120 := by have := HC.out.2.2.2.1; omega
          have hab : all'.size ≤ 5100 := by have := HC.out.1; omega
          have HNT := Lib.hid hnt
          have HNP := Lib.hid hnp
          have HF1 := Lib.hid f1
          have HF2 := Lib.hid f2
          have htold : ∀ (j : Nat) (s : ByteArray), told'[j]? = some s → ∃ gq oq, (Value.slice a7 nt c7 = .slice (some ⟨gq, oq, none⟩) nt c7) ∧ ∀ w', Keeps (fun _ => False) wc w' → w'.cell? ⟨gq, oq + j, none⟩ = some (.string s) := fun j s hs => by
            obtain ⟨gq, oq, capq, hv, hc, -, hgl, -⟩ := HC.out.2.2.2.2.2.side.row.cell (j := j) (u := .string s) (by rw [List.getElem?_map, hs]; rfl)
            injection hv with hv1 hv2 hv3
            refine ⟨gq, oq, by rw [hv1], fun w' kk => ?_⟩
            rw [kk.cellq _ _ hgl]
            exact hc
          have HNE := Lib.hid hne
          have HCL := Lib.hid hcl
          have HTOLD := Lib.hid htold
          clear f1 f2 hne hcl htold hnt hnp o0 o1 o2
          go_wp2_with fail
          go_loopw [16, 17, 18] (fun u16 u17 u18 wr => ∃ j : Nat, u18 = .int .i64 j ∧ u16 = .string (str (consP (got'.take j))) ∧ u17 = .int .i64 ((repP (got'.take j)).length : Nat) ∧ Hid (j ≤ np ∧ Keeps (fun _ => False) wc wr)) (fun _ _ u18 _ => np - (intOf u18).toNat)
          case atStart => exact ⟨0, rfl, rfl, rfl, Lib.hid ⟨Nat.zero_le _, Keeps.refl _ _⟩⟩
          case round =>
            obtain ⟨j, rfl, rfl, rfl, HJ⟩ := hrel
            have hAl : all'.data.toList.length = all'.size := by simp
            by_cases hjl : j < np
            · obtain ⟨x2, hx2⟩ : ∃ x2, got'[j]? = some x2 := ⟨_, List.getElem?_eq_getElem (by have := HNP.out; omega)⟩
              obtain ⟨p1, p2, p4, p5, p6⟩ := parts_at HF1.out HF2.out hx2
              rw [hAl] at p1 p2
              rw [List.length_map, ← HNT.out] at p4
              obtain ⟨g8, rfl, -, hg8, -⟩ := HNE.out (by omega)
              have hcx : wr.cell? ⟨g8, j * 2, none⟩ = some (.string (str x2.1)) := by rw [HJ.out.2.cellq _ _ hg8]; exact (HCL.out g8 rfl j x2 0 _ hx2 rfl).1
              have hcx1 : wr.cell? ⟨g8, j * 2 + 1, none⟩ = some (.bool x2.2) := by rw [HJ.out.2.cellq _ _ hg8]; exact (HCL.out g8 rfl j x2 1 _ hx2 rfl).1
              obtain ⟨S, hS⟩ : ∃ S, S = consP (got'.take j) := ⟨_, rfl⟩
              obtain ⟨q, hq⟩ : ∃ q, q = (repP (got'.take j)).length := ⟨_, rfl⟩
              rw [← hS] at p1 p5 ⊢
              rw [← hq] at p4 p6 ⊢
              have hsS : (str S).size = S.length := rfl
              have P2 := Lib.hid p2
              have P5 := Lib.hid p5
              have P6 := Lib.hid p6
              have HS := Lib.hid hS
              have HQ := Lib.hid hq
              clear p2 p5 p6 hS hq hx2 hAl
              cases hb2 : x2.2 with
              | false =>
                rw [hb2] at hcx1
                obtain ⟨t2, t3⟩ := P5.out hb2
                have hcat : str S ++ str x2.1 = str (S ++ x2.1) := str_cat1 _ _
                have hs1 : (str x2.1).size = x2.1.length := rfl
                have hs2 : (str (S ++ x2.1)).size = S.length + x2.1.length := by rw [str_size, List.length_append]
                have hs3 : S.length + x2.1.length ≤ 5100 := by
                  have := P2.out
                  rw [t2, List.length_append] at this
                  omega
                have T2 := Lib.hid t2
                have T3 := Lib.hid t3
                clear t2 t3 hb2
                go_wp2_with fail
                go_roundw
                case rel => exact ⟨j + 1, by go_num, by rw [T2.out], by rw [T3.out, ← HQ.out], Lib.hid ⟨by omega, HJ.out.2⟩⟩
                case measure => simp [intOf]; omega
              | true =>
                rw [hb2] at hcx1
                obtain ⟨t2, t3, t4⟩ := P6.out hb2
                have t2' : ∃ s0 : ByteArray, told'[q]? = some s0 ∧ s0 = str x2.1 := by
                  rw [List.getElem?_map] at t2
                  obtain ⟨s0, h1, h2⟩ := Option.map_eq_some_iff.1 t2
                  exact ⟨s0, h1, by rw [← h2]; exact (str_of s0).symm⟩
                obtain ⟨s0, h1, h2⟩ := t2'
                rw [h2] at h1
                obtain ⟨gq, oq, hv, hct⟩ := HTOLD.out q _ h1
                injection hv with hv
                subst hv
                have hqn : q < nt := by have := (List.getElem?_eq_some_iff.1 h1).1; have := HNT.out; omega
                have hqn2 : ¬ (nt : Int) ≤ (q : Int) := by omega
                have hqn3 : (q : Int) < (nt : Int) := by omega
                have hqd1 : decide ((nt : Int) ≤ (q : Int)) = false := decide_eq_false hqn2
                have hqd2 : decide (nt ≤ q) = false := decide_eq_false (by omega)
                have hct2 : wr.cell? ⟨gq, oq + q, none⟩ = some (.string (str x2.1)) := hct wr HJ.out.2
                have T3 := Lib.hid t3
                have T4 := Lib.hid t4
                clear t2 t3 t4 h1 h2 hct hb2
                go_wp2_with fail
                go_quiet (fail)
                go_wp2
                go_roundw
                case rel => exact ⟨j + 1, by go_num, by rw [T3.out, ← HS.out], by rw [T4.out]; go_num, Lib.hid ⟨by omega, HJ.out.2.drewN _⟩⟩
                case measure => simp [intOf]; omega
            · have hjn : got'.take j = got' := List.take_of_length_le (by have := HNP.out; have := HJ.out.1; omega)
              obtain ⟨t1, h1⟩ := HF1.out
              have hcl1 : (consP got').length ≤ all'.size := by rw [← hAl, ← h1, List.length_append]; omega
              have hpre : all'.extract 0 (consP got').length = str (consP got') := by
                have h2 := str_ext0 all'.data.toList (consP got').length
                rw [← h1, List.take_left, h1, str_of] at h2
                exact h2
              rw [hjn]
              obtain ⟨S, hS⟩ : ∃ S, S = consP got' := ⟨_, rfl⟩
              rw [← hS] at hcl1 hpre ⊢
              have hsS : (str S).size = S.length := rfl
              have hcl2 : (S.length : Int) ≤ (all'.size : Int) := by omega
              have hcl3 : ¬ (all'.size : Int) < (S.length : Int) := by omega
              clear hS h1 hjn hAl
              go_wp2_with fail
              go_roundw
              case rel =>
                obtain ⟨F3, hfin⟩ := HC.out.2.2.2.2.2.same HJ.out.2
                exact ⟨i + 1, all', F3, its', k', bg', a', op', vs', told', got', by omega, by go_num, rfl, Lib.hid ⟨HC.out.1, HC.out.2.1, by rw [← HNT.out]; exact HC.out.2.2.1, by rw [← HNP.out]; exact HC.out.2.2.2.1, HC.out.2.2.2.2.1, hfin⟩⟩
              case measure => simp [intOf]; omega
    · have hC := HH.out.2.2.2.2.2
      have hsz : all.size ≤ 5000 ∧ (flI its).length ≤ 10200 ∧ told.length ≤ 50 ∧ got.length ≤ 6000 ∧ op.length ≤ 3000 := by have := HH.out; omega
      obtain ⟨z1, z2, z3, z4, z5⟩ := hsz
      have HC := Lib.hid hC
      clear hC HH
      go_wp2_with fail
      refine (bemitF 1048576 HC.out.bench (by decide)).mono ?_
      rintro e w3 ⟨bg3, rfl, k3, h3, -⟩
      obtain ⟨Y, hY⟩ : ∃ Y, Y = (((flI its).drop k).take (1048576 : Int).toNat).map Prod.fst := ⟨_, rfl⟩
      rw [← hY]
      obtain ⟨y, hy⟩ : ∃ y, y = str Y := ⟨_, rfl⟩
      rw [← hy]
      have hys : y.size ≤ 10200 := by rw [hy, str_size, hY, List.length_map, List.length_take, List.length_drop]; omega
      have hyd : y.data.toList = Y := by rw [hy]; rfl
      have HY := Lib.hid hY
      have HYD := Lib.hid hyd
      have HK3 := Lib.hid k3
      clear hY hy hyd
      have hs3 := HC.out.side.keeps HC.out.typed (k3.mono fun i _ e => .inl e)
      have HS3 := Lib.hid hs3
      have HH3 := Lib.hid h3
      clear hs3 h3
      go_wp2_with fail
      refine (feed_any w3 sp a vs op y HS3.out.sp_ HS3.out.op_ HS3.out.a4 (by omega) (by omega)).mono ?_
      rintro e w4 ⟨vo, vs4, rfl, hO4, hb4, ho4, hr4, k4⟩
      obtain ⟨st, hst⟩ : ∃ st, st = feedP (a, op, [], []) y.data.toList := ⟨_, rfl⟩
      rw [← hst] at hO4 hb4 ho4
      have hlen := feed_len (a, op, [], []) y.data.toList
      rw [← hst] at hlen
      have hyl : y.data.toList.length = y.size := by simp
      have hcl : (conP st.2.2.1).length ≤ 1 := by unfold conP; split <;> simp
      have hpl : (st.2.2.2 ++ conP st.2.2.1).length ≤ 2 * y.size + 1 ∧ st.2.1.length ≤ op.length + y.size := by
        simp only [List.length_nil] at hlen
        rw [List.length_append]
        omega
      have ha4 : st.1 ≤ 4 := by rw [hst]; exact feed_a4 _ _ HS3.out.a4
      have HO4 := Lib.hid hO4
      have HB4 := Lib.hid (show _ ∧ _ ∧ _ ∧ _ from ⟨hb4, ho4, hr4, k4⟩)
      have HPL := Lib.hid hpl
      have HST := Lib.hid hst
      have HA4 := Lib.hid ha4
      clear hO4 hb4 ho4 hr4 hst hlen hyl hcl hpl ha4
      go_wp2_with fail
      refine (parts_any w4 w3.heap.size vo _ HO4.out (by have := HPL.out; omega)).mono ?_
      rintro e w5 ⟨v5, rfl, hO5, k5⟩
      have hg5 := ((HS3.out.gots.keeps k4 (fun i _ _ ⟨cs, hc⟩ e => by
        rcases e with rfl | e
        · exact hc.ne_ HS3.out.sp_ (by decide) rfl
        · obtain ⟨cs2, hb2⟩ := HS3.out.op_.row i e
          exact hc.ne_ hb2 (by decide) rfl)).keeps k5 (fun _ _ _ _ => id))
      have hz5 : w.heap.size ≤ w5.heap.size := by
        have := HH3.out.kk.size
        have := k4.size
        have := k5.size
        omega
      have HG5 := Lib.hid hg5
      have HO5 := Lib.hid hO5
      have HK5 := Lib.hid k5
      clear hg5 hO5 k5 k4
      go_wp2_with (with_reducible show wpList _ _ _ (⟨some 165, _, _, _, _, _⟩ :: _) _ _; go_must (refine wpList_append_many partR 2 partR_len (by decide) partR_one rfl (.tmp 160) (.tmp 164) 48 rfl w.heap.size w4.heap.size 52 (.agg #[.string ⟨#[]⟩, .bool false]) 24 Try.underlying48 (by kernel_rfl) rfl (by omega) u12 v5 got (st.2.2.2 ++ conP st.2.2.1) rfl HG5.out rfl HO5.out (by have := HPL.out; omega) hz5 ?_; intro v6 w6 O6 k6; have HO6 := Lib.hid O6; have HK6 := Lib.hid k6; clear O6 k6))

      have hst2 : st = feedP (a, op, [], []) ((((flI its).drop k).take (1048576 : Int).toNat).map Prod.fst) := by rw [HST.out, HYD.out, HY.out]
      obtain ⟨F6, hS⟩ := HC.out.came (1048576 : Int).toNat HK3.out HH3.out hst2 HB4.out.2.2.2 HB4.out.1 HB4.out.2.1 HB4.out.2.2.1 HA4.out HK5.out HK6.out HO6.out
      have hk2 : k + min (1048576 : Int).toNat ((flI its).drop k).length = (flI its).length := by
        have := HC.out.le
        rw [List.length_drop, show (1048576 : Int).toNat = 1048576 from rfl]
        omega
      rw [hk2] at hS
      obtain ⟨P, hP⟩ : ∃ P, P = got ++ (st.2.2.2 ++ conP st.2.2.1) := ⟨_, rfl⟩
      rw [← hP] at hS
      have hm := hS.mach
      rw [List.take_of_length_le (Nat.le_refl _), mrun_items] at hm
      injection hm with m1 m2
      injection m2 with m2 m3
      injection m3 with m3 m4
      rw [List.nil_append, hS.cons] at m3
      rw [List.nil_append, hS.reps] at m4
      have hbl : BenchF w w6 p g b 8000 d F6 (pre.data.toList ++ all.data.toList) 1048576 bg3 [] := by
        have := hS.bench
        rw [List.drop_eq_nil_of_le (Nat.le_refl _)] at this
        exact this
      have hsp6 : Blk w6 sp 57 #[.int .i64 0, vs4] := by
        have := hS.side.sp_
        rw [← m1] at this
        exact this
      have hg6 := hS.side.gots
      obtain ⟨a8, c8, hgv, -, -, hne, hcl⟩ := hg6.shape partR_len
      subst hgv
      obtain ⟨a7, c7, htv⟩ := hS.side.row.sl
      rw [List.length_map] at htv
      subst htv
      have hPn : P.length ≤ 40000 := by
        have := HPL.out
        rw [hP, List.length_append]
        omega
      have hAl : all.data.toList.length = all.size := by simp
      obtain ⟨np, hnp⟩ : ∃ np, np = P.length := ⟨_, rfl⟩
      obtain ⟨nt, hnt⟩ : ∃ nt, nt = told.length := ⟨_, rfl⟩
      rw [← hnp] at hPn hne
      rw [← hnt] at z3
      have M3 := Lib.hid m3
      have M4 := Lib.hid m4
      have HBL := Lib.hid hbl
      have HSP6 := Lib.hid hsp6
      have HNE := Lib.hid hne
      have HCL := Lib.hid hcl
      have HNP := Lib.hid hnp
      have HNT := Lib.hid hnt
      have HALL := Lib.hid hAl
      have hk6 := hS.bench.kk
      have HK66 := Lib.hid (FIN.out _ hk6)
      rw [← hnp, ← hnt]
      clear hst2 hS hk2 hP m1 m3 m4 hbl hsp6 hg6 hne hcl hk6 hnp hnt hAl
      go_wp2_with fail
      go_loopw [19, 20, 21] (fun u19 u20 u21 wr => ∃ j : Nat, u21 = .int .i64 j ∧ u19 = .string (str (consP (P.take j))) ∧ u20 = .int .i64 ((repP (P.take j)).length : Nat) ∧ Hid (j ≤ np ∧ Keeps (fun _ => False) w6 wr)) (fun _ _ u21 _ => np - (intOf u21).toNat)
      case atStart => exact ⟨0, rfl, rfl, rfl, Lib.hid ⟨Nat.zero_le _, Keeps.refl _ _⟩⟩
      case round =>
        obtain ⟨j, rfl, rfl, rfl, HJ⟩ := hrel
        by_cases hjl : j < np
        · obtain ⟨x2, hx2⟩ : ∃ x2, P[j]? = some x2 := ⟨_, List.getElem?_eq_getElem (by have := HNP.out; omega)⟩
          obtain ⟨p1, p2, p4, p5, p6⟩ := parts_at (P := P) (A := all.data.toList) (T := told.map fun s => s.data.toList) ⟨[], by rw [List.append_nil, ← M3.out]⟩ ⟨[], by rw [List.append_nil, ← M4.out]⟩ hx2
          rw [HALL.out] at p1 p2
          rw [List.length_map, ← HNT.out] at p4
          obtain ⟨g8, rfl, -, hg8, -⟩ := HNE.out (by omega)
          have hcx : wr.cell? ⟨g8, j * 2, none⟩ = some (.string (str x2.1)) := by rw [HJ.out.2.cellq _ _ hg8]; exact (HCL.out g8 rfl j x2 0 _ hx2 rfl).1
          have hcx1 : wr.cell? ⟨g8, j * 2 + 1, none⟩ = some (.bool x2.2) := by rw [HJ.out.2.cellq _ _ hg8]; exact (HCL.out g8 rfl j x2 1 _ hx2 rfl).1
          obtain ⟨S, hS⟩ : ∃ S, S = consP (P.take j) := ⟨_, rfl⟩
          obtain ⟨q, hq⟩ : ∃ q, q = (repP (P.take j)).length := ⟨_, rfl⟩
          rw [← hS] at p1 p5 ⊢
          rw [← hq] at p4 p6 ⊢
          have hsS : (str S).size = S.length := rfl
          have P2 := Lib.hid p2
          have P5 := Lib.hid p5
          have P6 := Lib.hid p6
          have HS := Lib.hid hS
          have HQ := Lib.hid hq
          clear p2 p5 p6 hS hq hx2
          cases hb2 : x2.2 with
          | false =>
            rw [hb2] at hcx1
            obtain ⟨t2, t3⟩ := P5.out hb2
            have hcat : str S ++ str x2.1 = str (S ++ x2.1) := str_cat1 _ _
            have hs1 : (str x2.1).size = x2.1.length := rfl
            have hs2 : (str (S ++ x2.1)).size = S.length + x2.1.length := by rw [str_size, List.length_append]
            have hs3 : S.length + x2.1.length ≤ 5100 := by
              have := P2.out
              rw [t2, List.length_append] at this
              omega
            have T2 := Lib.hid t2
            have T3 := Lib.hid t3
            clear t2 t3 hb2
            go_wp2_with fail
            go_roundw
            case rel => exact ⟨j + 1, by go_num, by rw [T2.out], by rw [T3.out, ← HQ.out], Lib.hid ⟨by omega, HJ.out.2⟩⟩
            case measure => simp [intOf]; omega
          | true =>
            rw [hb2] at hcx1
            obtain ⟨t2, t3, t4⟩ := P6.out hb2
            have T3 := Lib.hid t3
            have T4 := Lib.hid t4
            clear t2 t3 t4 hb2
            go_wp2_with fail
            go_roundw
            case rel => exact ⟨j + 1, by go_num, by rw [T3.out, ← HS.out], by rw [T4.out]; go_num, Lib.hid ⟨by omega, HJ.out.2⟩⟩
            case measure => simp [intOf]; omega
        · have hjn : P.take j = P := List.take_of_length_le (by have := HNP.out; have := HJ.out.1; omega)
          have hfs : str (consP (P.take j)) = all := by rw [hjn, ← M3.out]; exact str_of all
          have hfq : (repP (P.take j)).length = nt := by rw [hjn, ← M4.out, List.length_map, HNT.out]
          rw [hfs, hfq]
          have HJK := Lib.hid HJ.out.2
          clear hjn hfs hfq
          go_wp2_with (first
            | (go_at_call 29; go_must (refine (check_ok wr sp vs4 (HSP6.out.keeps HJK.out id)).mono ?_; rintro e w9 ⟨rfl, n9, rfl⟩))
            | (go_at_call 22; go_must (refine (bwaitsF (HBL.out.same (HJK.out.drewN _))).mono ?_; rintro e w10 ⟨rfl, n10, rfl⟩))
            | (go_at_call 10; refine (works32 _).mono ?_; rintro e w11 ⟨rfl, k11⟩))
          go_ret
          exact ⟨rfl, ((HK66.out.trans HJK.out).trans ((Keeps.refl _ _).drewN _)).trans k11⟩
end Go.Proofs.Ytcblaeleaebinaa
