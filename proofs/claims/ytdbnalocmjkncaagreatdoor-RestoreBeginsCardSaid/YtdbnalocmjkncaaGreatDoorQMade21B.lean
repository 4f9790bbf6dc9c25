/-
  'Made' of law21: the walk.
-/
import Derived.Test.YtdbnalocmjkncaaGreatDoorQMade21
namespace Go.Proofs.YtdbnalocmjkncaaGreatDoor
open Go.RowKit Go.Maps
attribute [local instance] noRes

theorem results_tmp_cell {fn : Func} {p u : Tmp} {ty : TypeId} (h : fn.results = #[.tmp u, .cell p ty]) (tmps : Array Value) (P : Program) (w : World) :
    (results fn tmps).run P w =
      ((asAddr (tmps.getD p undef)).run P w).andThen fun a w₁ => ((loadVar ty a).run P w₁).andThen fun v w₂ => .ok (.tuple #[tmps.getD u undef, v]) w₂ := by
  simp only [results, h]
  simp [Sem.run_bind, Result.andThen]
theorem ret_tmp_cell {P : Program} {fn : Func} {p u : Tmp} {ty : TypeId} (h : fn.results = #[.tmp u, .cell p ty]) {a : Act} {w : World} {R : Ending → World → Prop} (g : Nat) (t : TypeId) (cs : Array Value) (d : TypeDesc)
    (hp : a.tmps.getD p undef = .pointer (some ⟨g, 0, none⟩)) (hb : Blk w g t cs) (hu : P.underlying ty = some d) (hd : (match d with | .struct _ | .array _ _ => true | _ => false) = true)
    (hi : (P.info? ty).map (·.size) = some cs.size) (hdf : a.defers = []) (hR : R (.returned (.tuple #[a.tmps.getD u undef, .agg cs])) w) : bodyPost P fn R .ret a w := by
  refine bodyPost_ret (v := .tuple #[a.tmps.getD u undef, .agg cs]) ?_ hdf hR
  rw [results_tmp_cell h, hp]
  simp [asAddr, run_loadVar_row w g t ty cs (0, 0) d hb hu hd hi]

section
variable {w0 w : World} {s M bad n xb : Nat} {most : Int} {L : List SRep} {l : List SFile} {v : Value} {b0 : Nat}
/-- what the document's act told, in letters -/
def Told (w : World) (most : Int) (l : List SFile) (e : Ending) (w' : World) : Prop :=
  ∃ a m c x1, e = .returned (.tuple #[.agg #[.slice a m c, .int .i64 most, .int .i64 0], .int .i64 x1]) ∧ DocL w' (.slice a m c) l ∧ Keeps (fun _ => False) w w'
theorem told_of {x : Int × Nat × List SFile} {e : Ending} {w' : World} (h : DocAfter w most x e w') (h0 : x.2.1 = 0) : Told w most x.2.2 e w' := by
  obtain ⟨v', rfl, hd, k⟩ := h
  obtain ⟨a, m, c, rfl⟩ := hd.slc
  exact ⟨a, m, c, x.1, by rw [h0]; rfl, hd, k⟩
theorem rappend0 {a0 : Option Addr} {n0 c0 : Nat} (h : Sto w0 w s M most bad L n) (hd : DocL w (.slice a0 n0 c0) l) (hsz : ∀ f ∈ l, f.data.size ≤ 1073741824) (ht : totF l ≤ 1099511627776) (hl : l.length ≤ 4294967296) (nm b : ByteArray) (hn : nm.size ≤ 4611686018427387904) (hb : b.size ≤ 1099511627776) :
    Calls Tryz.prog 30 #[.agg #[.slice a0 n0 c0, .int .i64 most, .int .i64 0], .string nm, .string b] w (Told w most (appendP most 0 l nm b).2.2) :=
  (rappend_any w (.slice a0 n0 c0) most 0 l nm b hd hl hn (by omega) hsz ht hb).mono fun _ _ ha => told_of ha (by
    have := h.hb
    unfold appendP
    have hb : (beginC 0 nm).2 = 0 := by have := begin_bad 0 nm; omega
    split
    · exact hb
    · split
      · exact hb
      · split <;> exact hb)
theorem rsync0 {a0 : Option Addr} {n0 c0 : Nat} (hd : DocL w (.slice a0 n0 c0) l) (hl : l.length ≤ 4294967296) (nm : ByteArray) (hn : nm.size ≤ 4611686018427387904) :
    Calls Tryz.prog 33 #[.agg #[.slice a0 n0 c0, .int .i64 most, .int .i64 0], .string nm] w (Told w most (syncP 0 l nm).2.2) :=
  (rsync_any w (.slice a0 n0 c0) most 0 l nm hd hl hn (by omega)).mono fun _ _ ha => told_of ha (by
    unfold syncP
    have hb : (beginC 0 nm).2 = 0 := by have := begin_bad 0 nm; omega
    split
    · exact hb
    · split <;> exact hb)
end

def cO : ByteArray := ⟨#[111]⟩
/-- what Made tells -/
def MadeEnd (w : World) (e : Ending) (w' : World) : Prop := ∃ s M L v, e = .returned (.tuple #[.pointer (some ⟨s, 0, none⟩), .agg #[v, .int .i64 10000, .int .i64 0]]) ∧ Sto w w' s M 10000 0 L 64 ∧ DocL w' v (L.map SRep.f) ∧ getG SFile.name cOther (L.map SRep.f) = some ⟨cOther, cO, 0⟩
/-- while files are made -/
def Making (w wr : World) (s M xb B0 i : Nat) : Prop := ∃ L a n c, Pair w wr s M 10000 0 L (.slice a n c) xb (1 + 2 * i) ∧ getG SFile.name cOther (L.map SRep.f) = some ⟨cOther, cO, 0⟩ ∧ Blk wr B0 27 #[.slice none 0 0, .int .i64 0, .int .i64 0]

set_option maxRecDepth 100000 in
set_option maxHeartbeats 2000000 in
theorem made21_any (w : World) (a : Option Addr) (n c : Nat) (l : List File21) (hl : SlAt fileR 3 w a n l ∧ ∀ x ∈ l, x.good) (he : Ety w) :
    Calls Tryz.prog 7 #[.slice a n c] w (MadeEnd w) := by
  have HFS := Lib.hid hl
  have HE := Lib.hid he
  clear hl he
  have hk0 : Keeps (fun _ => False) w (w.alloc (.cells #[.slice none 0 0, .int .i64 0, .int .i64 0] 27)) := by (repeat (first | (with_reducible assumption) | (with_reducible exact Keeps.refl _ _) | refine Keeps.drew ?_ | refine Keeps.drewN ?_ _ | refine Keeps.setCell ?_ (by simp) _ | refine Keeps.setRow ?_ (by simp) _ | refine Keeps.alloc ?_ _))
  have HK0 := Lib.hid hk0
  have HZ0 := Lib.hid (Blk.new w 27 #[.slice none 0 0, .int .i64 0, .int .i64 0])
  clear hk0
  go_enter Tryz.func7, Tryz.ntmps7
  go_wp2_with fail
  refine (snew_ok HE.out HK0.out (by decide) (by decide)).mono ?_
  rintro e w1 ⟨s, M, rfl, S1, k1⟩
  have HS1 := Lib.hid S1
  have HZ1 := Lib.hid (HZ0.out.keeps k1 id)
  have hz1 := HZ1.out.lt
  clear S1 k1
  go_wp2_with fail
  have HX1 := Lib.hid (Blk.new w1 27 #[.slice none 0 0, .int .i64 10000, .int .i64 0])
  have hP1 : Pair w (w1.alloc (.cells #[.slice none 0 0, .int .i64 10000, .int .i64 0] 27)) s M 10000 0 [] (.slice none 0 0) w1.heap.size 0 :=
    ⟨HS1.out.same ((Keeps.refl _ _).alloc _), OwnS.none_, Blk.new _ _ _, HS1.out.keeps.size⟩
  have HP1 := Lib.hid hP1
  have HZ2 := Lib.hid (HZ1.out.alloc (.cells #[.slice none 0 0, .int .i64 10000, .int .i64 0] 27))
  obtain ⟨xb, hxb⟩ : ∃ xb, xb = w1.heap.size := ⟨_, rfl⟩
  obtain ⟨B0, hB0⟩ : ∃ B0, B0 = w.heap.size := ⟨_, rfl⟩
  have HXB := Lib.hid hxb
  have HB0 := Lib.hid hB0
  rw [← hxb] at HP1 HX1 hz1 ⊢
  rw [← hB0] at HZ2 hz1 ⊢
  clear hP1 hxb hB0
  refine (sappend HP1.out.sto (by decide) cOther cO (by decide)).mono ?_
  rintro e w2 ⟨v2, L2, rfl, E, S, l2, k2⟩
  rw [show appendP 10000 0 (List.map SRep.f []) cOther cO = (0, 0, [⟨cOther, cO, 0⟩]) from by kernel_rfl] at E S l2
  obtain rfl := E.nil_
  have hH := HP1.out.half (bad3 := 0) S k2
  have HH := Lib.hid hH
  have HL2 := Lib.hid l2
  have HZ3 := Lib.hid (HZ2.out.other k2 (by decide) (by decide) (by decide))
  have hx : Blk w2 xb 27 #[.slice none 0 0, .int .i64 10000, .int .i64 0] := hH.xat
  obtain ⟨⟨x0, x1, x2⟩, xf0, xf1, xf2⟩ := hx.all3
  clear E S l2 k2 hH hx
  go_wp2_with fail
  refine (rappend0 (w0 := w) HH.out.sto HH.out.doc (fun f hf => by cases hf) (by decide) (by decide) cOther cO (by decide) (by decide)).mono ?_
  rw [show (appendP 10000 0 (List.map SRep.f []) cOther cO).2.2 = [⟨cOther, cO, 0⟩] from by kernel_rfl]
  rintro e w3 ⟨a3, m3, c3, x3, rfl, hd3, k3⟩
  have hH3 := HH.out.same k3
  have hx : Blk w3 xb 27 #[.slice none 0 0, .int .i64 10000, .int .i64 0] := hH3.xat
  clear x0 x1 x2 xf0 xf1 xf2
  obtain ⟨⟨x0, x1, x2⟩, xf0, xf1, xf2⟩ := hx.all3
  have hset : Keeps (fun i => i = xb) w3 (((w3.setCell ⟨xb, 0, none⟩ (.slice a3 m3 c3)).setCell ⟨xb, 1, none⟩ (.int .i64 10000)).setCell ⟨xb, 2, none⟩ (.int .i64 0)) := (((Keeps.refl (fun i => i = xb) w3).setCell (fun _ => rfl) _).setCell (fun _ => rfl) _).setCell (fun _ => rfl) _
  have hP3 := hH3.fin (v3 := .slice a3 m3 c3) (by rw [HL2.out]; exact hd3) hset (hx.set3 _ _ _)
  have hZ3 := (HZ3.out.keeps k3 id).keeps hset (by omega)
  have hM : Making w (((w3.setCell ⟨xb, 0, none⟩ (.slice a3 m3 c3)).setCell ⟨xb, 1, none⟩ (.int .i64 10000)).setCell ⟨xb, 2, none⟩ (.int .i64 0)) s M xb B0 0 := ⟨L2, a3, m3, c3, hP3, by rw [HL2.out]; rfl, hZ3⟩
  have HM := Lib.hid hM
  clear hH3 hx hset hP3 hZ3 hM hd3 k3
  go_wp2_with fail
  go_loopw [7] (fun u7 wr => ∃ i : Nat, u7 = .int .i64 i ∧ Hid (i ≤ n ∧ i ≤ 20 ∧ Making w wr s M xb B0 i)) (fun u7 _ => n - (intOf u7).toNat)
  case atStart => exact ⟨0, rfl, Lib.hid ⟨Nat.zero_le _, Nat.zero_le _, HM.out⟩⟩
  case round =>
    clear HM HH HP1 HZ3 HZ2 HZ1 HZ0 HX1 HL2 HS1
    obtain ⟨i, rfl, HI⟩ := hrel
    rename World => wr
    obtain ⟨hin, hi20, L, a0, n0, c0, hP, hO, hZ⟩ := HI.out
    have HP := Lib.hid hP
    have HO := Lib.hid hO
    have HZ := Lib.hid hZ
    clear HI hO
    by_cases hi : i < n ∧ i < 20
    · obtain ⟨hi1, hi2⟩ := hi
      obtain ⟨x, b, off, hxm, rfl, hbl, hcc⟩ := fileAt HFS.out.1 hi1
      have hgx := HFS.out.2 x hxm
      obtain ⟨o0, o1, o2⟩ := hcc wr hP.sto.keeps
      have HCC := Lib.hid hcc
      have hbw : b < wr.heap.size := Nat.lt_of_lt_of_le hbl hP.sto.keeps.size
      obtain ⟨gen, sb, sure⟩ := x
      simp only at o0 o1 o2
      have hgen : gen ≤ 255 := hgx.1
      clear hxm hgx hcc hP hZ
      by_cases h100 : 100 < sb.size
      · go_wp2_with fail
        go_roundw
        case rel => exact ⟨i + 1, by go_num, Lib.hid ⟨by omega, by omega, L, a0, n0, c0, by have := (HP.out.mono_n (by omega)).mono_n (by omega); exact this, HO.out, HZ.out⟩⟩
        case measure => simp [intOf]; omega
      · have hg18 : (gen : Int) % 18 = ((gen % 18 : Nat) : Int) := by omega
        have HN := Lib.hid (fun W => rgname_any W cLog ((gen : Int) % 18) (by decide) (by omega) (by omega))
        obtain ⟨nm, hnm⟩ : ∃ nm, nm = genName cLog ((gen : Int) % 18) := ⟨_, rfl⟩
        have hnz : nm.size ≤ 23 := by rw [hnm]; have := genName_size (base := cLog) (i := (gen : Int) % 18) (by omega); have e : cLog.size = 3 := rfl; omega
        have hne : cOther ≠ nm := by rw [hnm]; exact log_ne _
        rw [← hnm] at HN
        have HNE := Lib.hid hne
        have HG18 := Lib.hid hg18
        clear hnm hne hg18
        go_wp2_with fail
        refine (HN.out _).mono ?_
        rintro e w4 ⟨rfl, k4⟩
        have HK4 := Lib.hid (HP.out.sto.keeps.trans k4)
        have HP4 := Lib.hid (HP.out.same k4)
        have HZ4 := Lib.hid (HZ.out.keeps k4 id)
        clear o0 o1 o2
        obtain ⟨o0, o1, o2⟩ := HCC.out w4 HK4.out
        have hbw4 := Nat.lt_of_lt_of_le hbl HK4.out.size
        clear k4
        obtain ⟨x, hx⟩ : ∃ x, x = appendP 10000 0 (L.map SRep.f) nm sb := ⟨_, rfl⟩
        have hxo := append_ne (most := 10000) HP.out.sto.rise (nm := nm) (b := sb) HNE.out
        have hap := sappend HP4.out.sto (by omega) nm sb (by omega)
        rw [← hx] at hxo hap
        rw [HO.out] at hxo
        have HAP := Lib.hid hap
        have HXO := Lib.hid hxo
        have HX := Lib.hid hx
        clear hap hxo hx
        go_wp2_with fail
        refine HAP.out.mono ?_
        rintro e w5 ⟨v5, L5, rfl, E, S, l5, k5⟩
        rw [HXO.out.2] at S
        have HH5 := Lib.hid (HP4.out.half S k5)
        have HZ5 := Lib.hid (HZ4.out.other k5 (by decide) (by decide) (by decide))
        have HL5 := Lib.hid l5
        have hx5 : Blk w5 xb 27 #[.slice a0 n0 c0, .int .i64 10000, .int .i64 0] := HH5.out.xat
        have HX5 := Lib.hid hx5
        have HK5 := Lib.hid HH5.out.sto.keeps
        clear o0 o1 o2
        obtain ⟨o0, o1, o2⟩ := HCC.out w5 HK5.out
        obtain ⟨y0, y1, y2⟩ := hx5.cells3
        have hbw5 := Nat.lt_of_lt_of_le hbl HK5.out.size
        have hra := fun W (kk : Keeps (fun _ => False) w5 W) => rappend0 (w0 := w) (HH5.out.sto.same kk) (HH5.out.doc.keeps kk) (fun f hf => by obtain ⟨r, hr, rfl⟩ := List.mem_map.1 hf; have := HP4.out.sto.size hr; omega) (by have := HP4.out.sto.tot; rw [← tot_f] at this; omega) (by rw [List.length_map]; have := HP4.out.sto.len; omega) nm sb (by omega) (by omega)
        rw [← HX.out] at hra
        have HRA := Lib.hid hra
        clear E S l5 k5 hx5 hra
        go_wp2_with fail
        go_region_with ((go_at_call 30; go_must (refine (HRA.out _ (by (repeat (first | (with_reducible assumption) | (with_reducible exact Keeps.refl _ _) | refine Keeps.drew ?_ | refine Keeps.drewN ?_ _ | refine Keeps.setCell ?_ (by simp) _ | refine Keeps.setRow ?_ (by simp) _ | refine Keeps.alloc ?_ _)))).mono ?_; rintro e w6 ⟨a6, m6, c6, x6, rfl, hd6, k6⟩; have hkk : Keeps (fun _ => False) w5 w6 := (by first | exact k6 | exact k6.from_drew); have Z6 := HX5.out.keeps hkk id; obtain ⟨⟨z0, z1, z2⟩, zf0, zf1, zf2⟩ := Z6.all3; have HD6 := Lib.hid hd6; have HK6 := Lib.hid hkk; have HX6 := Lib.hid Z6; clear hd6 k6 hkk Z6)))
        all_goals
          have hset : Keeps (fun i => i = xb) w6 (((w6.setCell ⟨xb, 0, none⟩ (.slice a6 m6 c6)).setCell ⟨xb, 1, none⟩ (.int .i64 10000)).setCell ⟨xb, 2, none⟩ (.int .i64 0)) := (((Keeps.refl (fun i => i = xb) w6).setCell (fun _ => rfl) _).setCell (fun _ => rfl) _).setCell (fun _ => rfl) _
          have hP7 := (HH5.out.same HK6.out).fin (v3 := .slice a6 m6 c6) (by rw [HL5.out]; exact HD6.out) hset (HX6.out.set3 _ _ _)
          have hZ7 := (HZ5.out.keeps HK6.out id).keeps hset (by omega)
          obtain ⟨w7, hw7⟩ : ∃ w7, w7 = (((w6.setCell ⟨xb, 0, none⟩ (.slice a6 m6 c6)).setCell ⟨xb, 1, none⟩ (.int .i64 10000)).setCell ⟨xb, 2, none⟩ (.int .i64 0)) := ⟨_, rfl⟩
          rw [← hw7] at hP7 hZ7 ⊢
          have HP7 := Lib.hid hP7
          have HZ7 := Lib.hid hZ7
          have HO7 := Lib.hid (show getG SFile.name cOther (L5.map SRep.f) = some ⟨cOther, cO, 0⟩ by rw [HL5.out]; exact HXO.out.1)
          have HK7 := Lib.hid hP7.sto.keeps
          clear o0 o1 o2 y0 y1 y2 z0 z1 z2 zf0 zf1 zf2 hset hP7 hZ7 hw7
          obtain ⟨o0, o1, o2⟩ := HCC.out w7 HK7.out
          have hbw7 := Nat.lt_of_lt_of_le hbl HK7.out.size
          cases sure with
          | false =>
            go_wp2_with fail
            go_roundw
            case rel => exact ⟨i + 1, by go_num, Lib.hid ⟨by omega, by omega, L5, a6, m6, c6, by have := HP7.out.mono_n (by omega); exact this, HO7.out, HZ7.out⟩⟩
            case measure => simp [intOf]; omega
          | true =>
            obtain ⟨y, hy⟩ : ∃ y, y = syncP 0 (L5.map SRep.f) nm := ⟨_, rfl⟩
            have hyo := sync_ne HP7.out.sto.rise (nm := nm) HNE.out
            have hsy := ssync HP7.out.sto (by omega) nm
            rw [← hy] at hyo hsy
            rw [HO7.out] at hyo
            have HSY := Lib.hid hsy
            have HYO := Lib.hid hyo
            have HY := Lib.hid hy
            clear hsy hyo hy
            go_wp2_with fail
            refine HSY.out.mono ?_
            rintro e w8 ⟨v8, L8, rfl, E, S, l8, k8⟩
            rw [HYO.out.2] at S
            have HH8 := Lib.hid (HP7.out.half S k8)
            have HZ8 := Lib.hid (HZ7.out.other k8 (by decide) (by decide) (by decide))
            have HL8 := Lib.hid l8
            have hx8 : Blk w8 xb 27 #[.slice a6 m6 c6, .int .i64 10000, .int .i64 0] := HH8.out.xat
            have HX8 := Lib.hid hx8
            obtain ⟨y0, y1, y2⟩ := hx8.cells3
            have hrs := rsync0 (most := 10000) HH8.out.doc (by rw [List.length_map]; have := HP7.out.sto.len; omega) nm (by omega)
            rw [← HY.out] at hrs
            have HRS := Lib.hid hrs
            clear E S l8 k8 hx8 hrs o0 o1 o2
            go_wp2_with fail
            refine HRS.out.mono ?_
            rintro e w9 ⟨a9, m9, c9, x9, rfl, hd9, k9⟩
            have hset : Keeps (fun i => i = xb) w9 (((w9.setCell ⟨xb, 0, none⟩ (.slice a9 m9 c9)).setCell ⟨xb, 1, none⟩ (.int .i64 10000)).setCell ⟨xb, 2, none⟩ (.int .i64 0)) := (((Keeps.refl (fun i => i = xb) w9).setCell (fun _ => rfl) _).setCell (fun _ => rfl) _).setCell (fun _ => rfl) _
            have hx9 := HX8.out.keeps k9 id
            have hP9 := (HH8.out.same k9).fin (v3 := .slice a9 m9 c9) (by rw [HL8.out]; exact hd9) hset (hx9.set3 _ _ _)
            have hZ9 := (HZ8.out.keeps k9 id).keeps hset (by omega)
            obtain ⟨⟨z0, z1, z2⟩, zf0, zf1, zf2⟩ := hx9.all3
            have HM9 := Lib.hid (show Making w _ s M xb B0 (i + 1) from ⟨L8, a9, m9, c9, hP9, by rw [HL8.out]; exact HYO.out.1, hZ9⟩)
            clear hset hx9 hP9 hZ9 hd9 k9 y0 y1 y2
            go_wp2_with fail
            go_roundw
            case rel => exact ⟨i + 1, by go_num, Lib.hid ⟨by omega, by omega, HM9.out⟩⟩
            case measure => simp [intOf]; omega
    · have hx : Blk wr xb 27 #[.slice a0 n0 c0, .int .i64 10000, .int .i64 0] := hP.xat
      obtain ⟨x0, x1, x2⟩ := hx.cells3
      obtain ⟨⟨z0, z1, z2⟩, zf0, zf1, zf2⟩ := hZ.all3
      have hzl := hZ.lt
      have hlo : w.heap.size ≤ B0 := by rw [HB0.out]; exact Nat.le_refl _
      clear hP hZ hx
      by_cases hi1 : i < n
      · have hi2 : ¬ i < 20 := fun h => hi ⟨hi1, h⟩
        clear hi
        go_wp2_with fail
        go_region
        all_goals
          have hset : Keeps (fun i => i = B0) wr (((wr.setCell ⟨B0, 0, none⟩ (.slice a0 n0 c0)).setCell ⟨B0, 1, none⟩ (.int .i64 10000)).setCell ⟨B0, 2, none⟩ (.int .i64 0)) := (((Keeps.refl (fun i => i = B0) wr).setCell (fun _ => rfl) _).setCell (fun _ => rfl) _).setCell (fun _ => rfl) _
          have hS := (HP.out.sto.le_n (m := 64) (by omega) (by omega)).beside hset (fun i e => by subst e; exact ⟨hlo, _, _, HZ.out, by decide, by decide, by decide⟩)
          have hD : DocL _ (.slice a0 n0 c0) (L.map SRep.f) := OwnS.keeps HP.out.doc hset (fun i _ _ ⟨cs, hb⟩ e => Blk.ne_ hb (e ▸ HZ.out) (by decide) rfl)
          go_wp2_with fail
          try simp only [Exit.inBlock, Exit.then]
          refine ret_tmp_cell rfl B0 27 _ _ rfl (HZ.out.set3 _ _ _) Tryz.underlying27 rfl (by kernel_rfl) rfl ?_
          exact ⟨s, M, L, _, rfl, hS.same ((Keeps.refl _ _).drew), hD.drew, HO.out⟩
      · clear hi
        go_wp2_with fail
        go_region
        all_goals
          have hset : Keeps (fun i => i = B0) wr (((wr.setCell ⟨B0, 0, none⟩ (.slice a0 n0 c0)).setCell ⟨B0, 1, none⟩ (.int .i64 10000)).setCell ⟨B0, 2, none⟩ (.int .i64 0)) := (((Keeps.refl (fun i => i = B0) wr).setCell (fun _ => rfl) _).setCell (fun _ => rfl) _).setCell (fun _ => rfl) _
          have hS := (HP.out.sto.le_n (m := 64) (by omega) (by omega)).beside hset (fun i e => by subst e; exact ⟨hlo, _, _, HZ.out, by decide, by decide, by decide⟩)
          have hD : DocL _ (.slice a0 n0 c0) (L.map SRep.f) := OwnS.keeps HP.out.doc hset (fun i _ _ ⟨cs, hb⟩ e => Blk.ne_ hb (e ▸ HZ.out) (by decide) rfl)
          go_wp2_with fail
          try simp only [Exit.inBlock, Exit.then]
          refine ret_tmp_cell rfl B0 27 _ _ rfl (HZ.out.set3 _ _ _) Tryz.underlying27 rfl (by kernel_rfl) rfl ?_
          exact ⟨s, M, L, _, rfl, hS.same ((Keeps.refl _ _).drew), hD.drew, HO.out⟩
end Go.Proofs.YtdbnalocmjkncaaGreatDoor
