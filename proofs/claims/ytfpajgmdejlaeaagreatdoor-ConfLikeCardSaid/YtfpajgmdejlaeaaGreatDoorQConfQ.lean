/-
  conf: group.
-/
import Derived.Test.YtfpajgmdejlaeaaGreatDoorQConfM
import Derived.Test.YtfpajgmdejlaeaaGreatDoorQConfO
import Derived.Deep.DrawnRows
namespace Go.Proofs.YtfpajgmdejlaeaaGreatDoor
open Go.RowKit Go.Maps
attribute [local go_sem ↓] Go.wp_at_zero Go.wp_at_succ

def manyP (x : Nd) : Bool := decide (2 ≤ (argsN x).length) && !blkN x
theorem manyP_true {x : Nd} (h : 2 ≤ (argsN x).length ∧ blkN x = false) : manyP x = true := by unfold manyP; rw [decide_eq_true h.1, h.2]; rfl
theorem manyP_false {x : Nd} (h : ¬ (2 ≤ (argsN x).length ∧ blkN x = false)) : manyP x = false := by
  unfold manyP
  cases hb : blkN x with
  | true => simp
  | false => rw [decide_eq_false (fun h2 => h ⟨h2, hb⟩)]; rfl
def groupS (c : Cf) (u : Con) (x : Nd) : (Int × Int) ⊕ (Cf × Con) :=
  if manyP x then
    (if (argsN x).tail.all fitsB then
      (if freshS (argN x 0) (c.grps.any fun g => decide (g.name = argN x 0)) c.grps.length ≠ 0 then .inl (freshS (argN x 0) (c.grps.any fun g => decide (g.name = argN x 0)) c.grps.length, lineN x) else .inr ({ c with grps := c.grps ++ [⟨argN x 0, (argsN x).tail⟩] }, u))
     else .inl (3, lineN x))
  else .inl (3, lineN x)
theorem SlAt.tail {w : World} {ab ao n : Nat} {s : ByteArray} {l : List ByteArray} (h : SlAt strR 1 w (some ⟨ab, ao, none⟩) n (s :: l)) : SlAt strR 1 w (some ⟨ab, ao + 1, none⟩) (n - 1) l := by
  obtain ⟨h1, h2⟩ := h
  simp at h1
  refine ⟨by omega, fun hp => ?_⟩
  obtain ⟨b, off, e, hb, hc⟩ := h2 (by omega)
  injection e with e
  injection e with e1 e2
  subst e1 e2
  refine ⟨ab, ao + 1, rfl, hb, fun i x j v hx hv => ?_⟩
  have := hc (i + 1) x j v (by simpa using hx) hv
  rw [show ao + (i + 1) * 1 + j = ao + 1 + i * 1 + j by omega] at this
  exact this
theorem Ld.grpSl {w : World} {g M B : Nat} {cv gv uv av : Value} {b0 b1 b2 b3 b4 b5 b6 b7 b8 b9 : ByteArray} {c : Cf} {u : Con} {ks : List SK} (h : Ld w g M B cv gv uv av b0 b1 b2 b3 b4 b5 b6 b7 b8 b9 c u ks) : ∃ a cc, gv = .slice a c.grps.length cc := by
  obtain ⟨rs, h1, h2⟩ := h.grps
  obtain ⟨a, cc, e⟩ := h1.sl
  exact ⟨a, cc, by rw [e, h2.1]⟩
theorem StmtPost.grp {O : (Int × Int) ⊕ (Cf × Con)} {w w5 w6 w7 : World} {g M B n : Nat} {cv gv uv av v' : Value} {b0 b1 b2 b3 b4 b5 b6 b7 b8 b9 : ByteArray} {c : Cf} {u : Con} {ks : List SK} {s0 : ByteArray} {rest : List ByteArray} {rs : List GrV} {gb pn gcap : Nat}
    (hE : O = .inr ({ c with grps := c.grps ++ [⟨s0, rest⟩] }, u)) (hL : Ld w5 g M B cv gv uv av b0 b1 b2 b3 b4 b5 b6 b7 b8 b9 c u ks) (hG : OwnS grR 2 w5 B 65 gv rs ∧ GrAll w5 B c.grps rs) (hS : Seen { c with grps := c.grps ++ [⟨s0, rest⟩] } ks) (hn : ks.length ≤ n + 1) (kw : Keeps (fun i => B ≤ i) w w7) (kk7 : Keeps (fun i => ∃ cs, Blk w5 i 65 cs) w5 w7) (_kk6 : Keeps (fun _ => False) w5 w6) (kc7 : Keeps (fun i => ∃ cs, Blk w6 i 65 cs) w6 w7)
    (hC : SlAt strR 1 w6 (some ⟨gb, 0, none⟩) pn rest ∧ (w5.heap.size ≤ gb ∧ ∃ cs, Blk w6 gb 9 cs) ∧ pn ≤ gcap ∧ gcap ≤ maxLen) (O7 : OwnS grR 2 w7 B 65 v' (rs ++ [⟨s0, some ⟨gb, 0, none⟩, pn, gcap⟩])) : StmtPost O g M B n w (.returned .nilIface) (w7.setCell ⟨g, 1, none⟩ v') := by
  have hB : B ≤ gb := Nat.le_trans (Nat.le_trans hL.hg (Nat.le_of_lt hL.blk.lt)) hC.2.1.1
  have hok : GrOk w6 B ⟨s0, rest⟩ ⟨s0, some ⟨gb, 0, none⟩, pn, gcap⟩ := ⟨rfl, hC.1, fun _ => ⟨gb, 0, rfl, hB, hC.2.1.2⟩, hC.2.2⟩
  have hA := GrAll.snoc (hG.2.keeps kk7 (fun i cs hb ⟨_, e⟩ => Blk.ne_ hb e (by decide) rfl)) (hok.keeps kc7 (fun i cs hb ⟨_, e⟩ => Blk.ne_ hb e (by decide) rfl))
  exact .done hE (hL.addG kk7 O7 hA) hS hn (kw.and_ (Keeps.set1 w7 g 1 _) (fun i _ e => by subst e; exact hL.hg))
theorem two_more : ∀ {l : List ByteArray} {n : Nat}, l.length = n → 2 ≤ n → ∃ a l', l = a :: l' ∧ l'.length = n - 1
  | [], _, h, h2 => by simp at h; omega
  | a :: l, _, h, _ => ⟨a, l, rfl, by simp at h; omega⟩
set_option maxRecDepth 100000 in
set_option maxHeartbeats 2000000 in
theorem group_any (w : World) (S : Nat → Prop) (x : Nd) (r : NdV) (hM : NdM w S x r) (hkey : keyN x = kGroup) (hline : 0 < lineN x) (hmany : (argsN x).length ≤ 1099511627776) (hsz : ∀ s ∈ argsN x, s.size ≤ 1073741824)
    (g M B : Nat) (cv gv uv av : Value) (b0 b1 b2 b3 b4 b5 b6 b7 b8 b9 : ByteArray) (c : Cf) (u : Con) (ks : List SK) (hL : Ld w g M B cv gv uv av b0 b1 b2 b3 b4 b5 b6 b7 b8 b9 c u ks) (hSeen : Seen c ks) (hks : ks.length ≤ 1099511627776) (hSB : ∀ i, S i → i < B) (hBw : B ≤ w.heap.size) :
    Calls Tryz.prog 49 #[.pointer (some ⟨g, 0, none⟩), .agg (ndR r).toArray] w (StmtPost (groupS c u x) g M B ks.length w) := by
  obtain ⟨key, as_, bl, sub, line⟩ := x
  rw [NdM] at hM
  obtain ⟨hk1, hb1, hl1, ⟨ha1, hin, hrc, hrm⟩, -⟩ := hM
  simp only [argsN] at hsz hmany
  simp only [lineN] at hline
  simp only [keyN] at hkey
  have hal := ha1.1
  obtain ⟨O, hO⟩ : ∃ O, O = groupS c u (.mk key as_ bl sub line) := ⟨_, rfl⟩
  rw [← hO]
  unfold groupS at hO
  have HW3 := Lib.hid (fun W => wrong_any W 3 r (by decide))
  have HFT := Lib.hid (fun W a n cc l h hn hs => cfits_any W r a n cc l h hn hs)
  have HFR : Hid (∀ W nm, Ld W g M B cv gv uv av b0 b1 b2 b3 b4 b5 b6 b7 b8 b9 c u ks → nm.size ≤ 1073741824 → Calls Tryz.prog 86 #[.pointer (some ⟨g, 0, none⟩), .agg (ndR r).toArray, .string nm, .int .i64 (c.grps.length : Nat)] W fun e w' =>
      (freshS nm (c.grps.any fun g => decide (g.name = nm)) c.grps.length = 0 → e = .returned .nilIface ∧ SeenAt w' M (putG SK.nm ⟨fullK r.key nm, r.line.toNat⟩ ks)) ∧ (∀ cd, freshS nm (c.grps.any fun g => decide (g.name = nm)) c.grps.length = cd → cd ≠ 0 → Wrong cd r.line r.key e w') ∧ Keeps (fun i => i = M) W w') := Lib.hid (fun W nm hW hnm => by
    have hlen : c.grps.length ≤ 4611686018427387904 := by
      have := hSeen.few; omega
    have := fresh_any W r nm c.grps.length g M ks (hW.blk.cell 24) hW.blk.lt (map_ne15 hW.blk hW.seen.isMap) hW.seen hW.pos hks (by rw [hl1]; exact hline) (by rw [hk1, hkey]; decide) hnm hlen
    rw [hk1, hkey, hSeen.grp] at this
    rw [hk1, hkey]
    exact this)
  obtain ⟨rk, ra, rn, rc, rb, rla, rln, rlc, rli⟩ := r
  simp only at hk1 hb1 hl1 ha1 hin hal hrc hrm
  subst hk1 hb1 hl1 hkey
  simp only [ndR] at HW3 HFR HFT ⊢
  obtain ⟨wa, hwa⟩ : ∃ wa, wa = w.alloc (.cells #[.string kGroup, .slice ra rn rc, .bool rb, .slice rla rln rlc, .int .i64 rli] 60) := ⟨_, rfl⟩
  have hka : Keeps (fun _ => False) w wa := by rw [hwa]; exact (Keeps.refl _ _).alloc _
  have hN : Blk wa w.heap.size 60 #[.string kGroup, .slice ra rn rc, .bool rb, .slice rla rln rlc, .int .i64 rli] := by rw [hwa]; exact Blk.new _ _ _
  have HWA := Lib.hid hwa
  have HKA := Lib.hid hka
  have HN := Lib.hid hN
  obtain ⟨⟨x0, x1, x2, x3, x4⟩, -⟩ := hN.all5
  have hsa := hka.size
  have HL := Lib.hid hL
  have HSE := Lib.hid hSeen
  by_cases hfm : 2 ≤ rn
  · have h2i : ¬ (rn : Int) < 2 := by omega
    cases rb with
    | true =>
      have HE : Hid (O = .inl (3, rli)) := Lib.hid (by rw [hO, if_neg (by rw [manyP_false (x := .mk kGroup as_ true sub rli) (fun h => by cases h.2)]; simp)]; rfl)
      clear hO hwa hka hN ha1 hsz hfm hal hL hSeen hin
      go_enter Tryz.func49, Tryz.ntmps49
      go_wp2_with fail
      rw [← HWA.out]
      go_wp2_with fail
      refine (HW3.out _).mono ?_
      rintro e w6 ⟨⟨v, rfl, hc⟩, k6⟩
      have HCh := Lib.hid hc
      have HK6 := Lib.hid (HKA.out.trans k6)
      clear hc k6
      go_wp2_with fail
      go_ret
      exact .bad HE.out hline ⟨_, rfl, HCh.out⟩ HK6.out.none_
    | false =>
      rw [if_pos (manyP_true (x := .mk kGroup as_ false sub rli) ⟨by rw [show argsN (.mk kGroup as_ false sub rli) = as_ from rfl, hal]; exact hfm, rfl⟩)] at hO
      obtain ⟨s0, rest, hs, hrl⟩ := two_more hal hfm
      subst hs
      simp only [argN, argsN, List.getD_cons_zero, List.tail_cons, lineN] at hO
      obtain ⟨ab, ao, rfl, hab, hac⟩ := slat_one ha1 (i := 0) rfl
      rw [Nat.add_zero] at hac
      have hSL := ha1.tail
      have habB : ab < B := by
        obtain ⟨b', off', e, hS⟩ := hin (by omega)
        injection e with e
        injection e with e1 _
        subst e1
        exact hSB _ hS
      have HSLT := Lib.hid (fun W (k : Keeps (fun i => B ≤ i) w W) => (hSL.keepsS (S := fun i => i < B) (fun _ => ⟨ab, ao + 1, rfl, habB⟩) k (fun i _ h1 h2 => by omega)))
      have HAC := Lib.hid (fun W (k : Keeps (fun i => B ≤ i) w W) => (World.cell?_of_block (w := w) (k.block ab hab (by omega))).trans hac)
      have hss0 := hsz s0 (by simp)
      have HSR : Hid (∀ s ∈ rest, s.size ≤ 4611686018427387904) := Lib.hid (fun s hs => by have := hsz s (by simp [hs]); omega)
      have hm0 : rn ≤ 1099511627776 := by rw [← hal]; exact hmany
      have hi0 : (0 : Int) ≤ 1 := by omega
      have hi1 : (1 : Int) ≤ (rn : Int) := by omega
      have hi2 : (rn : Int) ≤ (rc : Int) := by omega
      have hrc1 : ¬ rc = 1 := by omega
      have hi3 : (0 : Int) < (rn : Int) := by omega
      have hi4 : 0 < rn := by omega
      have HO := Lib.hid hO
      obtain ⟨fb, hfb⟩ : ∃ fb, fb = rest.all fitsB := ⟨_, rfl⟩
      have HFB := Lib.hid hfb
      clear hO hwa hka hN ha1 hsz hal hin hac hL hSeen hSB hSL hfm hfb hmany hrm
      go_enter Tryz.func49, Tryz.ntmps49
      go_wp2_with fail
      rw [← HWA.out]
      go_wp2_with fail
      have HFT2 := Lib.hid (fun W (k : Keeps (fun _ => False) wa W) => HFT.out W (some ⟨ab, ao + 1, none⟩) (rn - 1) (rc - 1) rest ((HSLT.out wa HKA.out.none_).keeps k (fun _ _ => id)) (by omega) HSR.out)
      have HF5 := Lib.hid (fun W (k : Keeps (fun _ => False) wa W) => (HN.out.keeps k id).all5.1)
      go_region_held3 (fun W => (W.cell? ⟨w.heap.size, 0, none⟩ = some (.string kGroup) ∧ W.cell? ⟨w.heap.size, 1, none⟩ = some (.slice (some ⟨ab, ao, none⟩) rn rc) ∧ W.cell? ⟨w.heap.size, 2, none⟩ = some (.bool false) ∧ W.cell? ⟨w.heap.size, 3, none⟩ = some (.slice rla rln rlc) ∧ W.cell? ⟨w.heap.size, 4, none⟩ = some (.int .i64 rli)))
        (first | exact HF5.out _ (Keeps.refl _ _).drew | exact HF5.out _ kk)
        ((go_at_call 87; refine (HFT2.out _ (Keeps.refl _ _).drew).mono ?_; rintro e w4 hfp; obtain ⟨v4, hv4, hfq⟩ := err_ret hfp; clear hfp; subst hv4; have kk : Keeps (fun _ => False) wa w4 := ((Keeps.refl _ _).drew).trans hfq.2.2; have HFP := Lib.hid hfq; clear hfq))
      rename_i hh
      obtain ⟨x0, x1, x2, x3, x4⟩ := hh
      have HKK := Lib.hid (((Keeps.refl (fun _ => False) wa).drew).trans HFP.out.2.2)
      have HK4 := Lib.hid (HKA.out.trans HKK.out)
      have HN4 := Lib.hid (HN.out.keeps HKK.out id)
      cases hb : rest.all fitsB with
      | false =>
        have HE : Hid (O = .inl (3, rli)) := Lib.hid (by rw [HO.out, if_neg (by rw [hb]; simp)])
        obtain ⟨ty, vx, rfl, hc⟩ := HFP.out.2.1 hb
        have HCh := Lib.hid hc
        clear hc hb
        go_wp2_with fail
        go_ret
        exact .bad HE.out hline ⟨_, rfl, HCh.out⟩ HK4.out.none_
      | true =>
        obtain rfl := HFP.out.1 hb
        have HO2 : Hid (O = if freshS s0 (c.grps.any fun g => decide (g.name = s0)) c.grps.length ≠ 0 then .inl (freshS s0 (c.grps.any fun g => decide (g.name = s0)) c.grps.length, rli) else .inr ({ c with grps := c.grps ++ [⟨s0, rest⟩] }, u)) := Lib.hid (by rw [HO.out, if_pos hb])
        clear hb
        have hL4 := HL.out.same HK4.out
        obtain ⟨ga, gc, rfl⟩ := hL4.grpSl
        have HL4 := Lib.hid hL4
        have hgl := hL4.blk.lt
        have hgM := map_ne15 hL4.blk hL4.seen.isMap
        have hNM := map_ne15 HN4.out hL4.seen.isMap
        have hMB := hL4.hM
        have HF6 := Lib.hid (fun W (k : Keeps (fun i => i = M) w4 W) => (⟨(HN4.out.keeps k hNM).all5.1, HAC.out W (HK4.out.none_.and_ k (fun i _ e => by subst e; exact hMB)), (hL4.blk.keeps k hgM).cell 1⟩ : (W.cell? ⟨w.heap.size, 0, none⟩ = some (.string kGroup) ∧ W.cell? ⟨w.heap.size, 1, none⟩ = some (.slice (some ⟨ab, ao, none⟩) rn rc) ∧ W.cell? ⟨w.heap.size, 2, none⟩ = some (.bool false) ∧ W.cell? ⟨w.heap.size, 3, none⟩ = some (.slice rla rln rlc) ∧ W.cell? ⟨w.heap.size, 4, none⟩ = some (.int .i64 rli)) ∧ W.cell? ⟨ab, ao, none⟩ = some (.string s0) ∧ W.cell? ⟨g, 1, none⟩ = some (.slice ga c.grps.length gc)))
        clear hL4
        go_wp2_with fail
        go_region_held3 (fun W => (W.cell? ⟨w.heap.size, 0, none⟩ = some (.string kGroup) ∧ W.cell? ⟨w.heap.size, 1, none⟩ = some (.slice (some ⟨ab, ao, none⟩) rn rc) ∧ W.cell? ⟨w.heap.size, 2, none⟩ = some (.bool false) ∧ W.cell? ⟨w.heap.size, 3, none⟩ = some (.slice rla rln rlc) ∧ W.cell? ⟨w.heap.size, 4, none⟩ = some (.int .i64 rli)) ∧ W.cell? ⟨ab, ao, none⟩ = some (.string s0) ∧ W.cell? ⟨g, 1, none⟩ = some (.slice ga c.grps.length gc))
          (first | exact HF6.out _ (Keeps.refl _ _).drew | exact HF6.out _ kk)
          ((go_at_call 86; refine (HFR.out _ s0 (HL4.out.same (Keeps.refl _ _).drew) hss0).mono ?_; rintro e w5 hfp; obtain ⟨v5, hv5, hfq⟩ := fresh_ret hfp; clear hfp; subst hv5; have kk : Keeps (fun i => i = M) w4 w5 := ((Keeps.refl _ _).drew).trans hfq.2.2; have HFP2 := Lib.hid hfq; clear hfq))
        rename_i hh
        obtain ⟨⟨x0, x1, x2, x3, x4⟩, y0, -⟩ := hh
        have HKM := Lib.hid (((Keeps.refl (fun i => i = M) w4).drew).trans HFP2.out.2.2)
        have hkm : Keeps (fun i => B ≤ i) w w5 := HK4.out.none_.and_ HKM.out (fun i _ e => by subst e; exact hMB)
        have HK5 := Lib.hid hkm
        have hs5 := hkm.size
        clear hkm
        by_cases hfs : freshS s0 (c.grps.any fun g => decide (g.name = s0)) c.grps.length = 0
        · obtain ⟨rfl, hsn⟩ := HFP2.out.1 hfs
          have HE : Hid (O = .inr ({ c with grps := c.grps ++ [⟨s0, rest⟩] }, u)) := Lib.hid (by rw [HO2.out, if_neg (by simp [hfs])])
          have hfew := freshS_few hfs
          have hL5 := HL4.out.names HKM.out hsn (putG_pos HL4.out.pos (by show 0 < rli.toNat; omega))
          have HL5 := Lib.hid hL5
          have HS5 := Lib.hid (HSE.out.addG ⟨s0, rest⟩ rli.toNat hfew)
          have z1 : w5.cell? ⟨g, 1, none⟩ = some (.slice ga c.grps.length gc) := hL5.blk.cell 1
          have HLN := Lib.hid (putG_len ⟨fullK kGroup s0, rli.toNat⟩ ks)
          have HN5 := Lib.hid (HN4.out.keeps HKM.out hNM)
          have hgl5 := hL5.blk.lt
          obtain ⟨rs, hg1, hg2⟩ := hL5.grps
          have HG := Lib.hid (And.intro hg1 hg2)
          have hgl0 : rs.length = c.grps.length := hg2.1.symm
          have HCW := Lib.hid (fun W (k : Keeps (fun i => ∃ cs, Blk w5 i 65 cs) w5 W) => ((hL5.blk.keeps k (fun ⟨_, e⟩ => Blk.ne_ hL5.blk e (by decide) rfl)).frozen 1))
          have HAB := Lib.hid (fun W (kB : Keeps (fun i => B ≤ i) w5 W) => HAC.out W (HK5.out.trans kB))
          have HC1 := Lib.hid (fun W (k : Keeps (fun i => ∃ cs, Blk w5 i 65 cs) w5 W) => ((hL5.blk.keeps k (fun ⟨_, e⟩ => Blk.ne_ hL5.blk e (by decide) rfl)).cell 1 : W.cell? ⟨g, 1, none⟩ = some (.slice ga c.grps.length gc)))
          have HF7 := Lib.hid (fun W (k : Keeps (fun _ => False) w5 W) => (⟨(HN5.out.keeps k id).all5.1.2.1, HAB.out W k.none_, HC1.out W k.none_⟩ : W.cell? ⟨w.heap.size, 1, none⟩ = some (.slice (some ⟨ab, ao, none⟩) rn rc) ∧ W.cell? ⟨ab, ao, none⟩ = some (.string s0) ∧ W.cell? ⟨g, 1, none⟩ = some (.slice ga c.grps.length gc)))
          have HCLO := Lib.hid (fun W (k : Keeps (fun _ => False) w5 W) => gclone_any W (some ⟨ab, ao + 1, none⟩) (rn - 1) (rc - 1) rest ((HSLT.out w5 HK5.out).keeps k (fun _ _ => id)) (by omega) (by omega))
          have hBw5 : B ≤ w5.heap.size := by omega
          clear hfs hsn hL5 hg1 hg2
          go_wp2_with fail
          go_region_law (first
            | (refine step_append_st grR 2 grR_len (by decide) (by rfl) _ _ _ (by rfl) B 65 (.agg #[.string ⟨#[]⟩, .slice none 0 0]) 40 Tryz.underlying24 (by kernel_rfl) (by rfl) (by omega) (.slice ga c.grps.length gc) rs (by rfl) (by exact OwnS.keeps (S := fun _ => False) HG.out.1 (kk6.alloc _) (fun _ _ _ _ => id)) w6.heap.size 1 ⟨s0, some ⟨gb, 0, none⟩, rn - 1, gcap⟩ (by rfl) (by exact Blk.new _ _ _) (grR_one _) (by omega) (by have := kk6.size; simp; omega) ?_; intro g7 cap7 w7 O7 k7 hat7; have kk7 : Keeps (fun i => ∃ cs, Blk w5 i 65 cs) w5 w7 := (Keeps.and_ (kk6.alloc _).none_ k7 (fun i _ h => HG.out.1.ownBlk i h)); have kB7 : Keeps (fun i => B ≤ i) w5 w7 := (Keeps.and_ (kk6.alloc _).none_ k7 (fun i _ h => (World.ownsRow.lt HG.out.1 i h).1)); have kc7 : Keeps (fun i => ∃ cs, Blk w6 i 65 cs) w6 w7 := (Keeps.and_ ((Keeps.refl (fun _ => False) w6).alloc _).none_ k7 (fun i _ h => (OwnS.keeps (S := fun _ => False) HG.out.1 kk6 (fun _ _ _ _ => id)).ownBlk i h)); clear k7; have d1 : w7.cell? ⟨g, 1, none⟩ = some (.slice ga c.grps.length gc) := HC1.out _ kk7; have d2 : w7.frozen? ⟨g, 1, none⟩ = false := HCW.out _ kk7)
            | (go_simp; try go_at_call 88; refine (HCLO.out _ (Keeps.refl _ _).drew).mono ?_; rintro e w6 ⟨⟨gb, gcap, rfl, hsl, hbk, hcap⟩, k6⟩; have kk6 : Keeps (fun _ => False) w5 w6 := ((Keeps.refl _ _).drew).trans k6; have HCL := Lib.hid (And.intro hsl (And.intro hbk hcap)); clear hsl hbk hcap; obtain ⟨x1', y0', z1'⟩ := HF7.out _ kk6; have z2 : ∀ o, (w6.alloc o).cell? ⟨g, 1, none⟩ = some (.slice ga c.grps.length gc) := fun o => (HF7.out _ (kk6.alloc o)).2.2))
          all_goals rw [hgl0] at O7
          all_goals have HE7 := Lib.hid (StmtPost.grp HE.out HL5.out HG.out HS5.out HLN.out (HK5.out.trans kB7) kk7 kk6 kc7 HCL.out O7)
          all_goals clear O7 hat7
          all_goals go_wp2_with fail
          all_goals go_ret
          all_goals exact HE7.out
        · obtain ⟨ty, vx, rfl, hc⟩ := HFP2.out.2.1 hfs
          have HE : Hid (O = .inl (freshS s0 (c.grps.any fun g => decide (g.name = s0)) c.grps.length, rli)) := Lib.hid (by rw [HO2.out, if_pos hfs])
          have HCh := Lib.hid hc
          clear hfs hc
          go_wp2_with fail
          go_ret
          exact .bad HE.out hline ⟨_, rfl, HCh.out⟩ HK5.out
  · have HE : Hid (O = .inl (3, rli)) := Lib.hid (by rw [hO, if_neg (by rw [manyP_false (x := .mk kGroup as_ rb sub rli) (fun h => hfm (by rw [← hal]; exact h.1))]; simp)]; rfl)
    have h2i : (rn : Int) < 2 := by omega
    clear hO hwa hka hN ha1 hsz hfm hal hL hSeen hin
    go_enter Tryz.func49, Tryz.ntmps49
    go_wp2_with fail
    rw [← HWA.out]
    go_wp2_with fail
    refine (HW3.out _).mono ?_
    rintro e w6 ⟨⟨v, rfl, hc⟩, k6⟩
    have HCh := Lib.hid hc
    have HK6 := Lib.hid (HKA.out.trans k6)
    clear hc k6
    go_wp2_with fail
    go_ret
    exact .bad HE.out hline ⟨_, rfl, HCh.out⟩ HK6.out.none_
end Go.Proofs.YtfpajgmdejlaeaaGreatDoor
