/-
  DeskSends returns true, whatever its arguments: the walk.
-/
import Derived.Test.YtcblaeleaebinaaOps32B
import Derived.Deep.DeepCutAuto
import Derived.Deep.CutBlock
namespace Go.Proofs.Ytcblaeleaebinaa
open Go.RowKit

set_option maxRecDepth 100000 in
set_option maxHeartbeats 4000000 in
theorem sends_loop (w : World) (most : Nat) (a : Option Addr) (n cap : Nat) (l : List Op32) (hm : 1 ≤ most ∧ most ≤ 1048576) (hn : n ≤ 60) (hl : SlAt opR32 3 w a n l) (hl2 : ∀ x ∈ l, x.good) :
    Calls Try.prog 4 #[.int .i64 most, .slice a n cap] w fun e w' => e = .returned (.bool true) ∧ Keeps (fun _ => False) w w' := by
  obtain ⟨hm1, hm2⟩ := hm
  have hln := hl.1
  have fin : ∀ w' : World, Keeps (fun i => w.heap.size ≤ i) w w' → Keeps (fun _ => False) w w' := fun w' k => k.mono fun i hi e => by omega
  have FIN := Lib.hid fin
  have HL2 := Lib.hid hl2
  clear fin hl2
  go_enter Try.func4, Try.ntmps4
  go_wp2_with fail
  refine (dnew_ok w (E1 0 0 0 []) most hm1 hm2).mono ?_
  rintro e w1 ⟨rfl, k1, hd1⟩
  obtain ⟨d, hd⟩ : ∃ d, d = w.heap.size := ⟨_, rfl⟩
  rw [← hd] at hd1 ⊢
  have HD := Lib.hid hd
  clear hd
  go_wp2_with fail
  refine (pnew_ok w1 8000 (by decide) (by decide)).mono ?_
  rintro e w2 ⟨p, g, b, rfl, l1, l2, l3, k2, hp⟩
  have hsz1 := k1.size
  have hdl := hd1.top.lt
  have HK := Lib.hid (k1.trans k2)
  have HD1 := Lib.hid (hd1.keeps k2 (fun _ _ => id))
  have HPA := Lib.hid hp
  have HLP := Lib.hid (show w1.heap.size ≤ p ∧ w1.heap.size ≤ g ∧ w1.heap.size ≤ b from ⟨l1, l2, l3⟩)
  clear k1 k2 hd1 hp l1 l2 l3
  go_wp2_with fail
  obtain ⟨xb, hxb⟩ : ∃ xb, xb = w2.heap.size := ⟨_, rfl⟩
  rw [← hxb]
  have HXB := Lib.hid hxb
  clear hxb
  go_loopw [10, 11] (fun u10 u11 wr => ∃ (i : Nat) (all : ByteArray) (F : Nat → Prop) (AF : Flow) (k : Nat) (bg : List UInt8), i ≤ n ∧ u11 = .int .i64 i ∧ u10 = .string all ∧ Hid (all.size ≤ 100 * i ∧ AF.length ≤ 204 * i ∧ Sends w wr p g b d xb F all AF k most bg)) (fun _ u11 _ => n - (intOf u11).toNat)
  case atStart =>
    refine ⟨0, ⟨#[]⟩, (fun i => i = d), [], 0, [], by omega, rfl, rfl, Lib.hid ⟨by decide, by decide, ?_⟩⟩
    have hpl := HPA.out.lt
    have hlp := HLP.out
    have hx := HXB.out
    have hdd := HD.out
    have B0 : Blk (w2.alloc (Obj.cells #[Value.string ⟨#[]⟩, Value.string ⟨#[]⟩, Value.int .i64 0, Value.int .i64 most] 38)) xb 38 #[.string ⟨#[]⟩, .string ⟨#[]⟩, .int .i64 0, .int .i64 most] := blk_new hx
    exact {
      bench := {
        kk := (HK.out.alloc _).none_
        past := HPA.out.keeps ((Keeps.refl (fun _ => False) w2).alloc _) id id id
        lo := by omega
        lim := Nat.zero_le _
        nF := by omega
        F0 := fun i hi => by omega
        desk := ⟨[], _, (HD1.out.keeps ((Keeps.refl (fun _ => False) w2).alloc _) (fun _ _ => id)).anyE' _, rfl, fun x p' f t hq => by cases hq⟩ }
      xat := B0
      xF := by omega
      xlo := by have := HK.out.size; omega
      xne := by omega
      sent := ⟨Nat.le_refl _, fun c h => absurd h (by omega), fun _ => rfl⟩ }
  case round =>
    obtain ⟨i, all, F, AF, k, bg, hin, rfl, rfl, HH⟩ := hrel
    by_cases hlt : i < n
    · obtain ⟨x, hx⟩ : ∃ x, l[i]? = some x := ⟨l[i]'(by omega), List.getElem?_eq_getElem (by omega)⟩
      have hgood := HL2.out x (List.mem_of_getElem? hx)
      obtain ⟨b2, off, rfl, hb2, hc⟩ := hl.2 (by omega)
      have hcq := (FIN.out _ HH.out.2.2.bench.kk).cellq
      have hcell0 : wr.cell? ⟨b2, off + i * 3, none⟩ = some (.int .u8 x.kind) := by rw [hcq _ _ hb2]; exact hc i x 0 _ hx rfl
      have hcell1 : wr.cell? ⟨b2, off + i * 3 + 1, none⟩ = some (.string x.s) := by rw [hcq _ _ hb2]; exact hc i x 1 _ hx rfl
      have hcell2 : wr.cell? ⟨b2, off + i * 3 + 2, none⟩ = some (.int .i64 x.n) := by rw [hcq _ _ hb2]; exact hc i x 2 _ hx rfl
      have HGOOD := Lib.hid hgood
      clear hc hcq hgood
      by_cases hbs : 100 < x.s.size
      · go_wp2_with fail
        go_roundw
        case rel => exact ⟨i + 1, all, F, AF, k, bg, by omega, by go_num, rfl, Lib.hid ⟨by have := HH.out.1; omega, by have := HH.out.2.1; omega, HH.out.2.2.same ((Keeps.refl _ _).alloc _)⟩⟩
        case measure => simp [intOf]; omega
      · have hbs2 : x.s.size ≤ 100 := by omega
        clear hbs
        go_upto_block 2 with (fail)
        obtain ⟨wo, hwo⟩ : ∃ wo, wo = wr.alloc (.cells #[.int .u8 x.kind, .string x.s, .int .i64 x.n] 40) := ⟨_, rfl⟩
        rw [← hwo]
        obtain ⟨ob, hob⟩ : ∃ ob, ob = wr.heap.size := ⟨_, rfl⟩
        rw [← hob]
        have hOB : Blk wo ob 40 #[.int .u8 x.kind, .string x.s, .int .i64 x.n] := by rw [hwo]; exact blk_new hob
        have kwo : Keeps (fun _ => False) wr wo := by rw [hwo]; exact (Keeps.refl _ _).alloc _
        obtain ⟨F1, hF1⟩ : ∃ F1 : Nat → Prop, F1 = fun i => F i ∧ i < wr.heap.size := ⟨_, rfl⟩
        have h0 : Sends w wo p g b d xb F1 all AF k most bg := by rw [hF1]; exact HH.out.2.2.below.same kwo
        have hobF : ¬ F1 ob ∧ ob ≠ p ∧ ob ≠ g ∧ ob ≠ b := by
          have hpl := HH.out.2.2.bench.past.lt
          refine ⟨fun e => ?_, by omega, by omega, by omega⟩
          rw [hF1] at e
          have : F ob ∧ ob < wr.heap.size := e
          omega
        have hFw : ∀ i, F1 i → i < wo.heap.size := fun i hi => by
          rw [hF1] at hi
          exact Nat.lt_of_lt_of_le hi.2 kwo.size
        have OB := Lib.hid hOB
        have H0 := Lib.hid h0
        have HOBF := Lib.hid hobF
        have HSZ := Lib.hid (show all.size ≤ 100 * i ∧ AF.length ≤ 204 * i from ⟨HH.out.1, HH.out.2.1⟩)
        have hk := h0.sent.le
        have hallb : all.size ≤ 6000 := by have := HSZ.out; omega
        have hAFb : AF.length ≤ 12240 := by have := HSZ.out; omega
        have hobx : ob ≠ xb := by have := HH.out.2.2.xat.lt; omega
        have st := h0.stage hOB hobF (Keeps.refl _ _)
        obtain ⟨o0, o1, o2, c0, c1, c2, c3, f0, f1, f2, f3, lo, lx⟩ := st
        have HFW := Lib.hid hFw
        clear hwo hob hOB kwo hF1 h0 hobF hFw hcell0 hcell1 hcell2
        go_cut [10] (fun s10 wx => ∃ (all' : ByteArray) (F' : Nat → Prop) (AF' : Flow) (k' : Nat) (bg' : List UInt8), s10 = .string all' ∧ Hid (all'.size ≤ 100 * (i + 1) ∧ AF'.length ≤ 204 * (i + 1) ∧ Sends w wx p g b d xb F' all' AF' k' most bg'))
        case first =>
          rcases (show x.kind % 8 = 7 ∨ x.kind % 8 = 0 ∨ x.kind % 8 = 1 ∨ x.kind % 8 = 2 ∨ x.kind % 8 = 6 ∨ (x.kind % 8 = 3 ∨ x.kind % 8 = 4 ∨ x.kind % 8 = 5) from by omega) with h7 | h7 | h7 | h7 | h7 | h7
          · as_aux_lemma =>
            have e7 : ((x.kind : Int) % 8 == 7) = true := by rw [beq_iff_eq]; omega
            clear h7
            go_wp2_with (first
              | (go_at_call 16; go_must (refine (bcutF H0.out.bench).mono ?_; rintro e w3 ⟨rfl, k3, h3, rest, hrest⟩; have st := H0.out.stage OB.out HOBF.out (k3.mono fun i _ e => .inl e); obtain ⟨o0, o1, o2, c0, c1, c2, c3, f0, f1, f2, f3, lo, lx⟩ := st; have HREST := Lib.hid hrest; clear hrest))
              | (go_at_call 17; go_must (refine (rcutAF w3 AF k most H0.out.sent HREST.out (by omega)).mono ?_; rintro e w4 ⟨AF2, ⟨a1, a2, a3⟩, rfl, k4⟩; have KK : Keeps (fun i => F1 i ∨ i = p ∨ i = g ∨ i = b) wo w4 := (k3.mono fun i _ e => .inl e).trans k4.none_; have st := H0.out.stage OB.out HOBF.out (KK); obtain ⟨o0, o1, o2, c0, c1, c2, c3, f0, f1, f2, f3, lo, lx⟩ := st; have HA := Lib.hid a1; have HA2 := Lib.hid a2; clear a1 a2)))
            go_meet
            case rel => exact ⟨all, F1, AF2, k, bg, rfl, Lib.hid ⟨by have := HSZ.out; omega, by have := HSZ.out; omega, Sends.finx H0.out KK (h3.same k4) (fun i hi => .inl hi) HA.out HA2.out⟩⟩
          · as_aux_lemma =>
            have e7 : ((x.kind : Int) % 8 == 7) = false := by rw [beq_eq_false_iff_ne]; omega
            have e0 : ((x.kind : Int) % 8 == 0) = true := by rw [beq_iff_eq]; omega
            clear h7
            obtain ⟨all2, hall⟩ : ∃ all2, all ++ x.s = all2 := ⟨_, rfl⟩
            have hsz2 : all2.size = all.size + x.s.size := by rw [← hall]; simp
            have hdat : all2.data.toList = all.data.toList ++ x.s.data.toList := by rw [← hall]; simp
            have hAl : all.data.toList.length = all.size := by simp
            have hSl : x.s.data.toList.length = x.s.size := by simp
            have hseg : (all2.data.toList.drop all.size).take (all.size + x.s.size - all.size) = x.s.data.toList := by
              rw [hdat, ← hAl, List.drop_left, List.take_of_length_le (by omega)]
            have hA2 : all2.data.toList.length = all.size + x.s.size := by simp [hsz2]
            have hdl : (dblF x.s.data.toList).length ≤ 200 := by rw [dblF_len]; have := dblP_len x.s.data.toList; omega
            have hadd := baddF x.s H0.out.bench (by rw [hAl]; omega)
            rw [← hdat] at hadd
            have HADD := Lib.hid hadd
            have HSEG := Lib.hid hseg
            have HA2 := Lib.hid hA2
            have HSZ2 := Lib.hid hsz2
            have HDL := Lib.hid hdl
            have hwa : IntKind.i64.wrap ((all.size : Int) + (x.s.size : Int)) = (all.size : Int) + x.s.size := wrap_in (by omega) (by omega)
            clear hadd hseg hA2 hAl hSl hdat hsz2 hdl
            go_wp2_with fail
            refine HADD.out.mono ?_
            rintro e w3 ⟨rfl, k3, h3⟩
            have KK3 : Keeps (fun i => F1 i ∨ i = p ∨ i = g ∨ i = b) wo w3 := k3.mono fun i _ e => .inr e
            have st := H0.out.stage OB.out HOBF.out (KK3); obtain ⟨o0, o1, o2, c0, c1, c2, c3, f0, f1, f2, f3, lo, lx⟩ := st
            have hsh := bshowF all.size (all.size + x.s.size) h3 (by omega) (by rw [HA2.out]; omega) (by rw [List.length_drop]; omega)
            rw [HSEG.out, Int.natCast_add] at hsh
            have HSH := Lib.hid hsh
            clear hsh
            go_wp2_with fail
            refine HSH.out.mono ?_
            rintro e w4 ⟨rfl, k4, h4⟩
            have KK4 : Keeps (fun i => F1 i ∨ i = p ∨ i = g ∨ i = b) wo w4 := KK3.trans (k4.mono fun i _ e => .inl e)
            have st := H0.out.stage OB.out HOBF.out (KK4); obtain ⟨o0, o1, o2, c0, c1, c2, c3, f0, f1, f2, f3, lo, lx⟩ := st
            go_wp2_with (go_at_call 18; go_must (refine (rshowAF w4 AF k most x.s (by omega) (by omega)).mono ?_; rintro e w5 ⟨AF2, ha2, rfl, k5⟩; have KK5 : Keeps (fun i => F1 i ∨ i = p ∨ i = g ∨ i = b) wo w5 := KK4.trans k5.none_; have st := H0.out.stage OB.out HOBF.out (KK5); obtain ⟨o0, o1, o2, c0, c1, c2, c3, f0, f1, f2, f3, lo, lx⟩ := st; have HA := Lib.hid ha2; clear ha2))
            go_meet
            case rel => exact ⟨all2, _, AF2, k, bg, rfl, Lib.hid ⟨by have := HSZ2.out; have := HSZ.out; omega, by rw [HA.out, List.length_append]; have := HDL.out; have := HSZ.out; omega, Sends.finx H0.out KK5 (h4.same k5) (fun i hi => hi.imp id fun h => Nat.le_trans KK3.size h) (by rw [HA.out, List.drop_append_of_le_length hk]) (by rw [HA.out]; exact H0.out.sent.more _)⟩⟩
          · as_aux_lemma =>
            have e7 : ((x.kind : Int) % 8 == 7) = false := by rw [beq_eq_false_iff_ne]; omega
            have e0 : ((x.kind : Int) % 8 == 0) = false := by rw [beq_eq_false_iff_ne]; omega
            have e1 : ((x.kind : Int) % 8 == 1) = true := by rw [beq_iff_eq]; omega
            clear h7
            obtain ⟨all2, hall⟩ : ∃ all2, all ++ x.s = all2 := ⟨_, rfl⟩
            have hsz2 : all2.size = all.size + x.s.size := by rw [← hall]; simp
            have hdat : all2.data.toList = all.data.toList ++ x.s.data.toList := by rw [← hall]; simp
            have hAl : all.data.toList.length = all.size := by simp
            have hSl : x.s.data.toList.length = x.s.size := by simp
            have hseg : (all2.data.toList.drop all.size).take (all.size + x.s.size - all.size) = x.s.data.toList := by
              rw [hdat, ← hAl, List.drop_left, List.take_of_length_le (by omega)]
            have hA2 : all2.data.toList.length = all.size + x.s.size := by simp [hsz2]
            have hdl : (dblF x.s.data.toList).length ≤ 200 := by rw [dblF_len]; have := dblP_len x.s.data.toList; omega
            have hadd := baddF x.s H0.out.bench (by rw [hAl]; omega)
            rw [← hdat] at hadd
            have HADD := Lib.hid hadd
            have HSEG := Lib.hid hseg
            have HA2 := Lib.hid hA2
            have HSZ2 := Lib.hid hsz2
            have HDL := Lib.hid hdl
            have hwa : IntKind.i64.wrap ((all.size : Int) + (x.s.size : Int)) = (all.size : Int) + x.s.size := wrap_in (by omega) (by omega)
            clear hadd hseg hA2 hAl hSl hdat hsz2 hdl
            go_wp2_with fail
            refine HADD.out.mono ?_
            rintro e w3 ⟨rfl, k3, h3⟩
            have KK3 : Keeps (fun i => F1 i ∨ i = p ∨ i = g ∨ i = b) wo w3 := k3.mono fun i _ e => .inr e
            have st := H0.out.stage OB.out HOBF.out (KK3); obtain ⟨o0, o1, o2, c0, c1, c2, c3, f0, f1, f2, f3, lo, lx⟩ := st
            have hsh := bshowF all.size (all.size + x.s.size) h3 (by omega) (by rw [HA2.out]; omega) (by rw [List.length_drop]; omega)
            rw [HSEG.out, Int.natCast_add] at hsh
            have HSH := Lib.hid hsh
            clear hsh
            go_wp2_with fail
            refine HSH.out.mono ?_
            rintro e w4 ⟨rfl, k4, h4⟩
            have KK4 : Keeps (fun i => F1 i ∨ i = p ∨ i = g ∨ i = b) wo w4 := KK3.trans (k4.mono fun i _ e => .inl e)
            have st := H0.out.stage OB.out HOBF.out (KK4); obtain ⟨o0, o1, o2, c0, c1, c2, c3, f0, f1, f2, f3, lo, lx⟩ := st
            go_wp2_with (go_at_call 18; go_must (refine (rshowAF w4 AF k most x.s (by omega) (by omega)).mono ?_; rintro e w5 ⟨AF2, ha2, rfl, k5⟩; have KK5 : Keeps (fun i => F1 i ∨ i = p ∨ i = g ∨ i = b) wo w5 := KK4.trans k5.none_; have st := H0.out.stage OB.out HOBF.out (KK5); obtain ⟨o0, o1, o2, c0, c1, c2, c3, f0, f1, f2, f3, lo, lx⟩ := st; have HA := Lib.hid ha2; clear ha2))
            go_meet
            case rel => exact ⟨all2, _, AF2, k, bg, rfl, Lib.hid ⟨by have := HSZ2.out; have := HSZ.out; omega, by rw [HA.out, List.length_append]; have := HDL.out; have := HSZ.out; omega, Sends.finx H0.out KK5 (h4.same k5) (fun i hi => hi.imp id fun h => Nat.le_trans KK3.size h) (by rw [HA.out, List.drop_append_of_le_length hk]) (by rw [HA.out]; exact H0.out.sent.more _)⟩⟩
          · as_aux_lemma =>
            have e7 : ((x.kind : Int) % 8 == 7) = false := by rw [beq_eq_false_iff_ne]; omega
            have e0 : ((x.kind : Int) % 8 == 0) = false := by rw [beq_eq_false_iff_ne]; omega
            have e1 : ((x.kind : Int) % 8 == 1) = false := by rw [beq_eq_false_iff_ne]; omega
            have e2 : ((x.kind : Int) % 8 == 2) = true := by rw [beq_iff_eq]; omega
            clear h7
            have hdl : (markP (toldP x.s.data.toList)).length ≤ 204 := by
              rw [markP_len, toldP_len]
              have := dblP_len x.s.data.toList
              have hSl : x.s.data.toList.length = x.s.size := by simp
              omega
            have HDL := Lib.hid hdl
            clear hdl
            go_wp2_with (first
              | (go_at_call 19; go_must (refine (btellF x.s H0.out.bench (by omega) (by rw [List.length_drop]; omega)).mono ?_; rintro e w3 ⟨rfl, k3, h3⟩; have KK3 : Keeps (fun i => F1 i ∨ i = p ∨ i = g ∨ i = b) wo w3 := k3.mono fun i _ e => .inl e; have st := H0.out.stage OB.out HOBF.out (KK3); obtain ⟨o0, o1, o2, c0, c1, c2, c3, f0, f1, f2, f3, lo, lx⟩ := st))
              | (go_at_call 20; go_must (refine (rtellAF w3 AF k most x.s (by omega) (by omega)).mono ?_; rintro e w4 ⟨AF2, ha2, rfl, k4⟩; have KK4 : Keeps (fun i => F1 i ∨ i = p ∨ i = g ∨ i = b) wo w4 := KK3.trans k4.none_; have st := H0.out.stage OB.out HOBF.out (KK4); obtain ⟨o0, o1, o2, c0, c1, c2, c3, f0, f1, f2, f3, lo, lx⟩ := st; have HA := Lib.hid ha2; clear ha2)))
            go_meet
            case rel => exact ⟨all, _, AF2, k, bg, rfl, Lib.hid ⟨by have := HSZ.out; omega, by rw [HA.out, List.length_append]; have := HDL.out; have := HSZ.out; omega, Sends.finx H0.out KK4 (h3.same k4) (fun i hi => hi) (by rw [HA.out, List.drop_append_of_le_length hk]) (by rw [HA.out]; exact H0.out.sent.more _)⟩⟩
          · as_aux_lemma =>
            have e7 : ((x.kind : Int) % 8 == 7) = false := by rw [beq_eq_false_iff_ne]; omega
            have e0 : ((x.kind : Int) % 8 == 0) = false := by rw [beq_eq_false_iff_ne]; omega
            have e1 : ((x.kind : Int) % 8 == 1) = false := by rw [beq_eq_false_iff_ne]; omega
            have e2 : ((x.kind : Int) % 8 == 2) = false := by rw [beq_eq_false_iff_ne]; omega
            have e6 : ((x.kind : Int) % 8 == 6) = true := by rw [beq_iff_eq]; omega
            clear h7
            have hAl : all.data.toList.length = all.size := by simp
            obtain ⟨c6, hc6⟩ : ∃ c6 : Nat, (c6 : Int) = (all.size : Int) - max 0 (min x.n (min (all.size : Int) 50)) := ⟨((all.size : Int) - max 0 (min x.n (min (all.size : Int) 50))).toNat, by omega⟩
            have hc6b : c6 ≤ all.size := by omega
            have hc6c : all.size ≤ c6 + 50 := by omega
            have hw6 : IntKind.i64.wrap ((all.size : Int) - max 0 (min x.n (min (all.size : Int) 50))) = (c6 : Int) := by rw [hc6]; exact wrap_in (by omega) (by omega)
            have hw7 : IntKind.i64.wrap ((all.size : Int) + 1) = (all.size : Int) + 1 := wrap_in (by omega) (by omega)
            have hsh := bshowF c6 all.size H0.out.bench hc6b (by rw [hAl]; omega) (by rw [List.length_drop]; omega)
            rw [List.take_of_length_le (by rw [List.length_drop, hAl]; omega)] at hsh
            obtain ⟨sl, hsl⟩ : ∃ sl, all.extract c6 all.size = sl := ⟨_, rfl⟩
            have hsll : sl.data.toList = all.data.toList.drop c6 := by rw [← hsl]; exact ext_list all c6
            have hslz : sl.size ≤ 50 := by rw [← hsl, ext_size]; omega
            rw [← hsll] at hsh
            have hdl : (dblF sl.data.toList).length ≤ 100 := by
              rw [dblF_len]
              have := dblP_len sl.data.toList
              have hSl : sl.data.toList.length = sl.size := by simp
              omega
            have HSH := Lib.hid hsh
            have HC6 := Lib.hid hc6
            have HSLL := Lib.hid hsll
            have HAL := Lib.hid hAl
            have HDL := Lib.hid hdl
            clear hsh hc6 hsll hAl hdl
            go_wp2_with fail
            refine HSH.out.mono ?_
            rintro e w3 ⟨rfl, k3, h3⟩
            have KK3 : Keeps (fun i => F1 i ∨ i = p ∨ i = g ∨ i = b) wo w3 := k3.mono fun i _ e => .inl e
            have st := H0.out.stage OB.out HOBF.out (KK3); obtain ⟨o0, o1, o2, c0, c1, c2, c3, f0, f1, f2, f3, lo, lx⟩ := st
            go_wp2_with fail
            refine (bshow_noF (all.size : Int) ((all.size : Int) + 1) h3 (.inr (by rw [HAL.out]; omega))).mono ?_
            rintro e w4 ⟨rfl, n4, rfl⟩
            have KK4 : Keeps (fun i => F1 i ∨ i = p ∨ i = g ∨ i = b) wo (w3.drewN n4) := KK3.drewN n4
            have st := H0.out.stage OB.out HOBF.out (KK4); obtain ⟨o0, o1, o2, c0, c1, c2, c3, f0, f1, f2, f3, lo, lx⟩ := st
            go_wp2_with fail
            go_region_with ((go_at_call 18; go_must (refine (rshowAF _ AF k most sl (by omega) (by omega)).mono ?_; rintro e w5 ⟨AF2, ha2, rfl, k5⟩; have kk5 : Keeps (fun _ => False) w3 w5 := Keeps.trans (by (repeat (first | (with_reducible assumption) | (with_reducible exact Keeps.refl _ _) | refine Keeps.drew ?_ | refine Keeps.drewN ?_ _ | refine Keeps.setCell ?_ (by simp) _ | refine Keeps.setRow ?_ (by simp) _ | refine Keeps.alloc ?_ _))) k5; have KK5 : Keeps (fun i => F1 i ∨ i = p ∨ i = g ∨ i = b) wo w5 := KK3.trans kk5.none_; have st := H0.out.stage OB.out HOBF.out (KK5); obtain ⟨o0, o1, o2, c0, c1, c2, c3, f0, f1, f2, f3, lo, lx⟩ := st; have HA := Lib.hid ha2; have HKK5 := Lib.hid kk5; clear ha2 kk5)))
            all_goals (go_wp2_with fail; go_meet)
            all_goals exact ⟨all, _, AF2, k, bg, rfl, Lib.hid ⟨by have := HSZ.out; omega, by rw [HA.out, List.length_append]; have := HDL.out; have := HSZ.out; omega, Sends.finx H0.out KK5 (h3.same HKK5.out) (fun i hi => hi) (by rw [HA.out, List.drop_append_of_le_length hk]) (by rw [HA.out]; exact H0.out.sent.more _)⟩⟩
          · as_aux_lemma =>
            have e7 : ((x.kind : Int) % 8 == 7) = false := by rw [beq_eq_false_iff_ne]; omega
            have e0 : ((x.kind : Int) % 8 == 0) = false := by rw [beq_eq_false_iff_ne]; omega
            have e1 : ((x.kind : Int) % 8 == 1) = false := by rw [beq_eq_false_iff_ne]; omega
            have e2 : ((x.kind : Int) % 8 == 2) = false := by rw [beq_eq_false_iff_ne]; omega
            have e6 : ((x.kind : Int) % 8 == 6) = false := by rw [beq_eq_false_iff_ne]; omega
            clear h7
            have hn1 := HGOOD.out.2.2
            have HN := Lib.hid hn1
            clear hn1
            go_wp2_with fail
            refine (remitAF wo AF k most x.n hk (by omega)).mono ?_
            rintro e w3 ⟨kk, snt, hkk, hsnt, rfl, k3⟩
            have HKK := Lib.hid hkk
            have HSNT := Lib.hid hsnt
            clear hkk hsnt
            have KK3 : Keeps (fun i => F1 i ∨ i = p ∨ i = g ∨ i = b) wo w3 := k3.none_
            have st := H0.out.stage OB.out HOBF.out (KK3); obtain ⟨o0, o1, o2, c0, c1, c2, c3, f0, f1, f2, f3, lo, lx⟩ := st
            obtain ⟨t1, t2⟩ := xstore (H0.out.xat.keeps k3 id) (.string (str (AF.map Prod.fst))) (.string (str (emark AF))) (.int .i64 ((k : Int) + kk)) (.int .i64 most)
            have hx := H0.out.xne
            have hxF := H0.out.xF
            have hxlo := H0.out.xlo
            have hB5 := (H0.out.bench.same k3).keeps t2 (fun i hi e => by omega) (fun i hi e => hxF (e ▸ hi)) ⟨fun e => hx.1 e.symm, fun e => hx.2.1 e.symm, fun e => hx.2.2 e.symm⟩
            have HB5 := Lib.hid hB5
            have T1 := Lib.hid t1
            clear hB5 t1 t2
            go_wp2_with fail
            refine (bemitF x.n (HB5.out.same ((Keeps.refl (fun _ => False) _).alloc _)) HN.out).mono ?_
            rintro e w6 ⟨bg6, he, k6, h6, hs6⟩
            rw [← HSNT.out] at he
            subst he
            have hx6 := (T1.out.alloc _).keeps k6 hxF
            have HX6 := Lib.hid hx6
            have HS6 := Lib.hid hs6
            clear hx6 hs6
            go_wp2_with fail
            go_meet
            case rel =>
              refine ⟨all, F1, AF, k + kk, bg6, rfl, Lib.hid ⟨by have := HSZ.out; omega, by have := HSZ.out; omega, {
                bench := ?_
                xat := by rw [Int.natCast_add]; exact HX6.out
                xF := hxF
                xlo := hxlo
                xne := hx
                sent := by rw [HKK.out]; exact H0.out.sent.sent rfl HS6.out }⟩⟩
              have e2 : AF.drop (k + kk) = (AF.drop k).drop x.n.toNat := by
                rw [HKK.out, ← List.drop_drop]
                rcases Nat.le_total x.n.toNat (AF.drop k).length with h | h
                · rw [Nat.min_eq_left h]
                · rw [Nat.min_eq_right h, List.drop_eq_nil_of_le h, List.drop_eq_nil_of_le (Nat.le_refl _)]
              rw [e2]
              exact h6
        case rest =>
          obtain ⟨all', F', AF', k', bg', rfl, HC⟩ := hcut
          obtain ⟨W, hW⟩ : ∃ W, W = (AF'.drop k').length := ⟨_, rfl⟩
          have hwt : ∀ w', Keeps (fun _ => False) wc w' → Calls Try.prog 22 #[.pointer (some ⟨d, 0, none⟩)] w' (Qt (.int .i64 W) w') := fun w' kk => by
            have := bwaitsF (HC.out.2.2.bench.same kk)
            rw [← hW] at this
            exact this
          have hlt' : ∀ w', Keeps (fun _ => False) wc w' → Calls Try.prog 15 #[.pointer (some ⟨d, 0, none⟩)] w' (Qt (.bool (decide (most < W))) w') := fun w' kk => by
            have := blateF (HC.out.2.2.bench.same kk)
            rw [← hW] at this
            exact this
          have hrw : ∀ w', Calls Try.prog 23 #[.agg #[.string (str (AF'.map Prod.fst)), .string (str (emark AF')), .int .i64 k', .int .i64 most]] w' fun x w2 => x = .returned (.int .i64 W) ∧ Keeps (fun _ => False) w' w2 := fun w' => by
            have := rwaitsAF w' AF' k' most HC.out.2.2.sent.le (by have := HC.out.2.1; omega)
            rw [← hW] at this
            exact this
          have hx0 : ∀ w', Keeps (fun _ => False) wc w' → w'.cell? ⟨xb, 0, none⟩ = some (.string (str (AF'.map Prod.fst))) := fun w' kk => (HC.out.2.2.xat.keeps kk id).cell 0
          have hx1 : ∀ w', Keeps (fun _ => False) wc w' → w'.cell? ⟨xb, 1, none⟩ = some (.string (str (emark AF'))) := fun w' kk => (HC.out.2.2.xat.keeps kk id).cell 1
          have hx2 : ∀ w', Keeps (fun _ => False) wc w' → w'.cell? ⟨xb, 2, none⟩ = some (.int .i64 k') := fun w' kk => (HC.out.2.2.xat.keeps kk id).cell 2
          have hx3 : ∀ w', Keeps (fun _ => False) wc w' → w'.cell? ⟨xb, 3, none⟩ = some (.int .i64 most) := fun w' kk => (HC.out.2.2.xat.keeps kk id).cell 3
          have HWT := Lib.hid hwt
          have HRW := Lib.hid hrw
          clear hW hwt hrw o0 o1 o2 c0 c1 c2 c3 f0 f1 f2 f3
          by_cases hml : most < W
          · as_aux_lemma =>
            have hlz : ∀ w', Keeps (fun _ => False) wc w' → Calls Try.prog 15 #[.pointer (some ⟨d, 0, none⟩)] w' (Qt (.bool true) w') := fun w' kk => by
              have := hlt' w' kk
              rw [decide_eq_true hml] at this
              exact this
            have HLT := Lib.hid hlz
            have hml2 : (most : Int) < (W : Int) := by omega
            clear hlt' hlz hml
            go_wp2_with fail
            go_region_held3 (fun w' => Keeps (fun _ => False) wc w')
              ((first | exact (Keeps.refl _ _).drew | exact kk))
              (first
                | (go_at_call 22; rename_i hk _ _; refine (Qt.k (HWT.out _ hk)).mono ?_; rintro e w3 ⟨rfl, k3⟩; have kk := hk.trans k3)
                | (go_at_call 23; rename_i hk _ _; refine (HRW.out _).mono ?_; rintro e w3 ⟨rfl, k3⟩; have kk := hk.trans k3)
                | (go_at_call 15; rename_i hk _ _; refine (Qt.k (HLT.out _ hk)).mono ?_; rintro e w3 ⟨rfl, k3⟩; have kk := hk.trans k3))
            all_goals
              rename_i kk
              go_wp2
              go_roundw
              case rel => exact ⟨i + 1, all', F', AF', k', bg', by omega, by go_num, rfl, Lib.hid ⟨HC.out.1, HC.out.2.1, HC.out.2.2.same kk⟩⟩
              case measure => simp [intOf]; omega
          · as_aux_lemma =>
            have hlz : ∀ w', Keeps (fun _ => False) wc w' → Calls Try.prog 15 #[.pointer (some ⟨d, 0, none⟩)] w' (Qt (.bool false) w') := fun w' kk => by
              have := hlt' w' kk
              rw [decide_eq_false hml] at this
              exact this
            have HLT := Lib.hid hlz
            have hml2 : ¬ (most : Int) < (W : Int) := by omega
            clear hlt' hlz hml
            go_wp2_with fail
            go_region_held3 (fun w' => Keeps (fun _ => False) wc w')
              ((first | exact (Keeps.refl _ _).drew | exact kk))
              (first
                | (go_at_call 22; rename_i hk _ _; refine (Qt.k (HWT.out _ hk)).mono ?_; rintro e w3 ⟨rfl, k3⟩; have kk := hk.trans k3)
                | (go_at_call 23; rename_i hk _ _; refine (HRW.out _).mono ?_; rintro e w3 ⟨rfl, k3⟩; have kk := hk.trans k3)
                | (go_at_call 15; rename_i hk _ _; refine (Qt.k (HLT.out _ hk)).mono ?_; rintro e w3 ⟨rfl, k3⟩; have kk := hk.trans k3))
            all_goals
              rename_i kk
              go_wp2
              go_roundw
              case rel => exact ⟨i + 1, all', F', AF', k', bg', by omega, by go_num, rfl, Lib.hid ⟨HC.out.1, HC.out.2.1, HC.out.2.2.same kk⟩⟩
              case measure => simp [intOf]; omega
    · go_wp2_with (go_at_call 10; refine (works32 _).mono ?_; rintro e w8 ⟨rfl, k8⟩)
      go_ret
      exact ⟨rfl, (FIN.out _ HH.out.2.2.bench.kk).trans k8⟩
end Go.Proofs.Ytcblaeleaebinaa
