/-
  mux.Splitter.Feed, by walk.
-/
import Derived.Test.YtcblaeleaebinaaFeedB
import Derived.StillTailTactics
namespace Go.Proofs.Ytcblaeleaebinaa
open Go.RowKit

section
variable {P : Program}
/-- nothing is appended -/
theorem wpList_append_none {w : World} {ops : Array Oper} {rest : List Oper} {o : Oper} {a : Act} {Q : Exit → Act → World → Prop} (hgd : o.guard = none) (s x : Operand) (t : TypeId)
    (ho : o.op = .call { callee := .builtin .append, args := #[s, x], argTypes := #[t, t] }) (e : TypeId) (i : TypeInfo) (ht : P.underlying t = some (.slice e)) (hi : P.info? e = some i) (av : Option Addr) (nv cv : Nat) (hnc : nv ≤ cv)
    (hs : a.eval s = .slice av nv cv) (hx : a.eval x = .slice none 0 0) (h : wpList P ops Q rest (a.put o.dst (.slice av nv cv)) w) : wpList P ops Q (o :: rest) a w :=
  wpList_plain hgd fun _ hK => by
    have hr := run_append_nothing (P := P) w t t o.type e i ht hi av nv cv hnc (.slice none 0 0) (Src.ofNil w ht 0)
    unfold Oper.wp execOp
    simp only [ho, resolve, invoke, builtin, Sem.run_bind, Sem.run_pure, Result.andThen_ok, List.map_toArray, List.map_cons, List.map_nil, hs, hx, hr]
    exact hK _ _ h
end
theorem stepP_end (a : Nat) (op : List UInt8) (c : UInt8) (h : (stepP a op c).2.2 = true) : (stepP a op c).2.1 = [] := by
  unfold stepP at h ⊢
  repeat' split at h
  all_goals simp_all

/-- what Feed leaves -/
def Fed (w : World) (sp : Nat) (v0 : Value) (st : FS) (e : Ending) (w' : World) : Prop :=
  ∃ vo vs, e = .returned vo ∧ OwnS partR 2 w' w.heap.size 95 vo (st.2.2.2 ++ conP st.2.2.1) ∧ Blk w' sp 57 #[.int .i64 st.1, vs] ∧ OwnQ w' 5 vs (u8Vs st.2.1) ∧
    (rowB vs = rowB v0 ∨ (∃ r, rowB vs = some r ∧ w.heap.size ≤ r) ∨ rowB vs = none) ∧ Keeps (fun i => i = sp ∨ rowB v0 = some i) w w'

set_option maxRecDepth 100000 in
set_option maxHeartbeats 4000000 in
theorem feed_any (w : World) (sp a : Nat) (v : Value) (op : List UInt8) (s : ByteArray) (hb : Blk w sp 57 #[.int .i64 a, v]) (ho : OwnQ w 5 v (u8Vs op)) (ha : a ≤ 4) (hs : s.size ≤ 1048576) (hop : op.length ≤ 1048576) :
    Calls Try.prog 28 #[.pointer (some ⟨sp, 0, none⟩), .string s] w (Fed w sp v (feedP (a, op, [], []) s.data.toList)) := by
  have hl : s.data.toList.length = s.size := by simp
  obtain ⟨i0, hi0, hz0, hz1, hz2⟩ := info_parts (show (Try.prog.info? 5).map (fun i => (i.zero, i.size, i.bytes)) = some (some (.int .u8 0), 1, 1) by kernel_rfl)
  have hmf : ∀ (fn : Fn) (first cap : Array Value) (w : World), (Instr.makeFunc fn first cap).run Try.prog w = .ok (.func fn first cap) w := fun _ _ _ _ => rfl
  have HL := Lib.hid hl
  have HBB := Lib.hid hb
  have HOO := Lib.hid ho
  have HI0 := Lib.hid hi0
  have hlt := hb.lt
  clear hl hb ho hi0 hz0 hz1 hz2
  go_enter Try.func28, Try.ntmps28
  go_wp2_with fail
  obtain ⟨W0, hW0⟩ : ∃ W0, W0 = (w.alloc (.cells #[.slice none 0 0] 59)).alloc (.cells #[.slice none 0 0] 55) := ⟨_, rfl⟩
  rw [← hW0]
  obtain ⟨bo, hbo⟩ : ∃ bo, bo = w.heap.size := ⟨_, rfl⟩
  obtain ⟨bd, hbd⟩ : ∃ bd, bd = w.heap.size + 1 := ⟨_, rfl⟩
  rw [← hbd, ← hbo]
  have hst0 : FeedSt w W0 sp v bd bo (a, op, [], []) v (.slice none 0 0) (.slice none 0 0) := by
    have k0 : Keeps (fun _ => False) w W0 := by rw [hW0]; exact ((Keeps.refl _ _).alloc _).alloc _
    have hz : w.heap.size + 2 = W0.heap.size := by rw [hW0]; simp
    exact {
      sp_ := HBB.out.keeps k0 id
      op_ := HOO.out.keeps k0 (fun _ _ _ => id)
      fa := {
        dat := by rw [hW0, hbd]; exact blk_new (by simp)
        out_ := by rw [hW0, hbo]; exact (Blk.new _ _ _).alloc _
        own := OwnQ.none_
        parts := OwnS.none_
        row := fun r hr => by rw [rowB_zero] at hr; cases hr
        le := by omega }
      opr := .inl rfl
      dis := fun r _ hr => by rw [rowB_zero] at hr; cases hr
      kk := k0.none_
      a4 := ha }
  have HST0 := Lib.hid hst0
  clear hW0 hbo hbd hst0
  go_loopw [16] (fun u16 wr => ∃ (i : Nat) (st : FS) (vs vd vo : Value), u16 = .int .i64 i ∧ i ≤ s.size ∧ Hid (FeedSt w wr sp v bd bo st vs vd vo ∧ st = feedP (a, op, [], []) (s.data.toList.take i))) (fun u16 _ => s.size - (intOf u16).toNat)
  case atStart => exact ⟨0, _, _, _, _, rfl, Nat.zero_le _, Lib.hid ⟨HST0.out, rfl⟩⟩
  case round =>
    obtain ⟨i, st, vs, vd, vo, rfl, hi, HH⟩ := hrel
    have hlen := feed_len (a, op, [], []) (s.data.toList.take i)
    rw [← HH.out.2] at hlen
    have htk : (s.data.toList.take i).length ≤ i := by simp; omega
    have hl1 : st.2.1.length ≤ 2097152 ∧ st.2.2.1.length ≤ 1048576 ∧ st.2.2.2.length ≤ 2097152 := by
      simp only [List.length_nil] at hlen
      omega
    obtain ⟨hl1, hl2, hl3⟩ := hl1
    have HL1 := Lib.hid hl1
    have HL2 := Lib.hid hl2
    have HL3 := Lib.hid hl3
    clear hlen htk hl1 hl2 hl3
    by_cases hlt2 : i < s.size
    · obtain ⟨c, hc⟩ : ∃ c, s.data.toList[i]? = some c := ⟨_, List.getElem?_eq_getElem (by rw [HL.out]; omega)⟩
      obtain ⟨g1, g2⟩ := ba_get s i c hc
      have hnext : feedP (a, op, [], []) (s.data.toList.take (i + 1)) = feed1 st c := by rw [List.take_add_one, hc]; show feedP _ (_ ++ [c]) = _; rw [feed_snoc, ← HH.out.2]
      have HNX := Lib.hid hnext
      clear hc hnext
      go_wp2_with fail
      refine (step_any wr sp vs st.2.1 c st.1 HH.out.1.sp_ HH.out.1.op_ HH.out.1.a4 (by have := HL1.out; omega)).mono ?_
      rintro e w1 ⟨vb, vs1, rfl, hone, h2, h3, h4, k1⟩
      obtain ⟨t1, t2, t3⟩ := stepP_le st.2.1 c HH.out.1.a4
      have hS1 := HH.out.1.step t1 h2 h3 h4 k1
      obtain ⟨b1, hb1⟩ : ∃ b1, b1 = (stepP st.1 st.2.1 c).2.2 := ⟨_, rfl⟩
      rw [← hb1]
      obtain ⟨av, nv, cv, hvd⟩ := hS1.fa.own.sl3
      subst hvd
      have hnc : nv ≤ cv := by
        rcases hS1.fa.own with ⟨_, x1, hx⟩ | ⟨x1, x2, x3, x4, hx, _, hx2, _⟩
        · injection hx with _ h5 h6; omega
        · injection hx with _ h5 h6; omega
      have d0 := hS1.fa.dat.cell 0
      have e0 := hS1.fa.dat.frozen 0
      simp at d0
      obtain ⟨a1, ha1⟩ : ∃ a1, a1 = (stepP st.1 st.2.1 c).1.1 := ⟨_, rfl⟩
      obtain ⟨op1, hop1⟩ : ∃ op1, op1 = (stepP st.1 st.2.1 c).1.2 := ⟨_, rfl⟩
      obtain ⟨l1, hl1⟩ : ∃ l1, l1 = (stepP st.1 st.2.1 c).2.1 := ⟨_, rfl⟩
      have hf1 : feed1 st c = if b1 = true then (a1, [], [], st.2.2.2 ++ conP (st.2.2.1 ++ l1) ++ [(op1, true)]) else (a1, op1, st.2.2.1 ++ l1, st.2.2.2) := by rw [hb1, ha1, hop1, hl1]; rfl
      have hend : b1 = true → l1 = [] := fun h => by rw [hb1] at h; rw [hl1]; exact stepP_end _ _ _ h
      have hopl : op1.length ≤ 2097153 := by have := HL1.out; rw [hop1]; omega
      rw [← ha1, ← hop1] at hS1
      rw [← hl1] at hone
      have HF1 := Lib.hid hf1
      have HS1 := Lib.hid hS1
      have HOPL := Lib.hid hopl
      clear hb1 ha1 hop1 hl1 hf1 hS1 h2 h3 h4 k1 t1 t2 t3 hopl
      rcases hone with ⟨rfl, rfl⟩ | ⟨r, c', hr, rfl, rfl, hB⟩
      · cases b1 with
        | false =>
          go_wp2_with (with_reducible show wpList _ _ _ (⟨some 29, _, _, _, _, _⟩ :: _) _ _; go_must (refine wpList_append_none rfl (.tmp 27) (.tmp 28) 55 rfl 5 i0 Try.underlying55 HI0.out av nv cv hnc rfl rfl ?_))
          go_roundw
          case rel => exact ⟨i + 1, (a1, op1, st.2.2.1, st.2.2.2), vs1, .slice av nv cv, vo, by go_num, by omega, Lib.hid ⟨HS1.out.byte HS1.out.fa.own (Keeps.refl _ _) (.inl rfl), by rw [HNX.out, HF1.out]; simp⟩⟩
          case measure => simp [intOf]; omega
        | true =>
          have hS2 := HS1.out.byte HS1.out.fa.own (Keeps.refl _ w1) (.inl rfl)
          have HS2 := Lib.hid hS2
          clear hS2
          go_wp2_with (with_reducible show wpList _ _ _ (⟨some 29, _, _, _, _, _⟩ :: _) _ _; go_must (refine wpList_append_none rfl (.tmp 27) (.tmp 28) 55 rfl 5 i0 Try.underlying55 HI0.out av nv cv hnc rfl rfl ?_))
          refine (flush_any _ w.heap.size bd bo _ vo st.2.2.1 st.2.2.2 HS2.out.fa (by have := HL2.out; omega) (by have := HL3.out; omega)).mono ?_
          rintro e w3 ⟨rfl, vd3, vo3, hf3, hv3, k3⟩
          obtain ⟨xs, hxs⟩ : ∃ xs, xs = st.2.2.2 ++ conP st.2.2.1 := ⟨_, rfl⟩
          rw [← hxs] at hf3
          have HXS := Lib.hid hxs
          have hS3 := HS2.out.flushed hf3 hv3 k3
          have y0 := hS3.fa.out_.cell 0
          have y1 := hS3.fa.out_.frozen 0
          have x1 := hS3.sp_.cell 1
          have x2 := hS3.sp_.frozen 1
          simp at y0 x1
          have hcv : ∀ w', Keeps (fun _ => False) w3 w' → (convert 55 9 vs1).run Try.prog w' = .ok (.string (str op1)) w' := fun w' kk => run_string_q w' 55 9 5 vs1 op1 Try.underlying55 Try.underlying5 Try.underlying9 (hS3.op_.keeps kk (fun _ _ _ => id))
          have hcv1 := hcv w3 (Keeps.refl _ _)
          have hcv2 := hcv w3.drew (Keeps.refl _ _).drew
          have hw3 := hS3.fa.le.2.2
          have HS3 := Lib.hid hS3
          clear hS3 hf3 hv3 k3 hcv
          have hpl : xs.length ≤ 17179869184 := by
            have := HL3.out
            rw [hxs, List.length_append]
            unfold conP
            split <;> simp <;> omega
          have hb3 := HS3.out.fa.out_.lt
          have hp3 := HS3.out.sp_.lt
          have hsb : sp ≠ bo := HS3.out.sp_.ne_ HS3.out.fa.out_ (by decide)
          have hcw : ∀ w7, Keeps (fun i => w.heap.size ≤ i ∧ ∃ cs, Blk w3 i 95 cs) w3 w7 → (w7.cell? ⟨bo, 0, none⟩ = some vo3 ∧ w7.frozen? ⟨bo, 0, none⟩ = false) ∧ w7.cell? ⟨sp, 1, none⟩ = some vs1 ∧ w7.frozen? ⟨sp, 1, none⟩ = false := fun w7 k7 => by
            have q1 := HS3.out.fa.out_.keeps k7 (fun e => by obtain ⟨_, cs, hc⟩ := e; exact absurd rfl (hc.ne_ HS3.out.fa.out_ (by decide)))
            have q2 := HS3.out.sp_.keeps k7 (fun e => by obtain ⟨_, cs, hc⟩ := e; exact absurd rfl (hc.ne_ HS3.out.sp_ (by decide)))
            exact ⟨⟨q1.cell 0, q1.frozen 0⟩, q2.cell 1, q2.frozen 1⟩
          have HCW := Lib.hid hcw
          have HPL := Lib.hid hpl
          clear hcw hpl hxs
          go_wp2_with fail
          go_region_law ((refine step_append_st partR 2 partR_len (by decide) rfl _ _ _ rfl w.heap.size 95 (.agg #[.string ⟨#[]⟩, .bool false]) 24 Try.underlying59 (by kernel_rfl) rfl (by omega) vo3 xs rfl (by exact OwnS.keeps (S := fun _ => False) HS3.out.fa.parts (by (repeat (first | (with_reducible assumption) | (with_reducible exact Keeps.refl _ _) | refine Keeps.drew ?_ | refine Keeps.drewN ?_ _ | refine Keeps.setCell ?_ (by simp) _ | refine Keeps.setRow ?_ (by simp) _ | refine Keeps.alloc ?_ _))) (fun _ _ _ _ => id)) w3.heap.size 1 (op1, true) rfl (by first | exact Blk.new _ _ _ | exact (Blk.new _ _ _).drew) (partR_one _) HPL.out (by simp; omega) ?_; intro g7 cap7 w7 O7 k7 hat7; have kk7 : Keeps (fun i => w.heap.size ≤ i ∧ ∃ cs, Blk w3 i 95 cs) w3 w7 := (Keeps.and_ (by (repeat (first | (with_reducible assumption) | (with_reducible exact Keeps.refl _ _) | refine Keeps.drew ?_ | refine Keeps.drewN ?_ _ | refine Keeps.setCell ?_ (by simp) _ | refine Keeps.setRow ?_ (by simp) _ | refine Keeps.alloc ?_ _))) k7 (fun i _ h => ⟨(World.ownsRow.lt HS3.out.fa.parts i h).1, HS3.out.fa.parts.ownBlk i h⟩)); clear k7; obtain ⟨⟨z1, z2⟩, z3, z4⟩ := HCW.out _ kk7; have HO7 := Lib.hid O7; have HK7 := Lib.hid kk7; clear O7 kk7 hat7))
          all_goals
            go_wp2_with fail
            go_roundw
            case rel =>
              refine ⟨i + 1, (a1, [], [], xs ++ [(op1, true)]), .slice none 0 0, vd3, _, by go_num, by omega, Lib.hid ⟨HS3.out.reply HO7.out HK7.out, by rw [HNX.out, HF1.out, HXS.out]; simp⟩⟩
            case measure => simp [intOf]; omega
      · have hbf : b1 = false := by
          cases b1 with
          | false => rfl
          | true => exact absurd (hend rfl) (by simp)
        subst hbf
        have hr0 := hB.cell 0
        simp at hr0
        go_wp2_with (with_reducible show wpList _ _ _ (⟨some 29, _, _, _, _, _⟩ :: _) _ _; go_must (refine wpList_append_q rfl (.tmp 27) (.tmp 28) _ rfl 5 (.int .u8 0) 1 Try.underlying55 (by kernel_rfl) rfl (by omega) (.slice av nv cv) (u8Vs st.2.2.1) rfl HS1.out.fa.own ⟨r, 0, none⟩ 1 (.int .u8 c'.toNat) rfl hr0 rfl (by rw [u8Vs_len]; have := HL2.out; omega) ?_; intro v8 w8 O8 k8 hv8; obtain ⟨a8, n8, c8, rfl⟩ := O8.sl3; have y0 := (HS1.out.byte (data2 := st.2.2.1 ++ [c']) (by have := O8; unfold u8Vs at this ⊢; simpa using this) k8 hv8); have hd8 := HS1.out.fa.dat.keeps k8 (fun e => by obtain ⟨cs, hc⟩ := HS1.out.fa.own.row _ e; exact absurd rfl (hc.ne_ HS1.out.fa.dat (by decide))); have y1 := hd8.cell 0; have y2 := hd8.frozen 0; simp at y1; have HY0 := Lib.hid y0; clear y0 O8 k8 hv8 hd8))
        go_roundw
        case rel => exact ⟨i + 1, (a1, op1, st.2.2.1 ++ [c'], st.2.2.2), vs1, _, vo, by go_num, by omega, Lib.hid ⟨HY0.out, by rw [HNX.out, HF1.out]; simp⟩⟩
        case measure => simp [intOf]; omega
    · have hi2 : i = s.size := by omega
      have hfin : feedP (a, op, [], []) s.data.toList = st := by rw [HH.out.2, List.take_of_length_le (by rw [HL.out]; omega)]
      have HFIN := Lib.hid hfin
      have HI2 := Lib.hid hi2
      clear hfin hi2
      go_wp2_with fail
      refine (flush_any wr w.heap.size bd bo vd vo st.2.2.1 st.2.2.2 HH.out.1.fa (by have := HL2.out; omega) (by have := HL3.out; omega)).mono ?_
      rintro e w3 ⟨rfl, vd3, vo3, hf3, hv3, k3⟩
      have hS3 := HH.out.1.flushed hf3 hv3 k3
      have y0 := hS3.fa.out_.cell 0
      simp at y0
      have HS3 := Lib.hid hS3
      clear hS3 hf3 hv3 k3
      go_wp2_with fail
      go_ret
      rw [HFIN.out]
      exact ⟨vo3, vs, rfl, HS3.out.fa.parts, HS3.out.sp_, HS3.out.op_, HS3.out.opr, HS3.out.kk⟩
end Go.Proofs.Ytcblaeleaebinaa
