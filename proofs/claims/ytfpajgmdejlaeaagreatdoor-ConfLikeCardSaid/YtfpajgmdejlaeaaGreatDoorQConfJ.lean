/-
  conf: fresh.
-/
import Derived.Test.YtfpajgmdejlaeaaGreatDoorQConfI
namespace Go.Proofs.YtfpajgmdejlaeaaGreatDoor
open Go.RowKit Go.Maps

def fullK (k nm : ByteArray) : ByteArray := k ++ ⟨#[32]⟩ ++ nm
set_option maxRecDepth 100000 in
set_option maxHeartbeats 1000000 in
theorem fresh_any (w : World) (r : NdV) (nm : ByteArray) (many g M : Nat) (ks : List SK) (hcell : w.cell? ⟨g, 24, none⟩ = some (.map (some M))) (hgl : g < w.heap.size) (_hgM : g ≠ M) (hS : SeenAt w M ks) (hpos : ∀ x ∈ ks, 0 < x.n) (hks : ks.length ≤ 1099511627776) (hline : 0 < r.line) (hkey : r.key.size ≤ 1073741824) (hnm : nm.size ≤ 1073741824) (hmany : many ≤ 4611686018427387904) :
    Calls Tryz.prog 86 #[.pointer (some ⟨g, 0, none⟩), .agg (ndR r).toArray, .string nm, .int .i64 many] w fun e w' =>
      (freshS nm (getG SK.nm (fullK r.key nm) ks).isSome many = 0 → e = .returned .nilIface ∧ SeenAt w' M (putG SK.nm ⟨fullK r.key nm, r.line.toNat⟩ ks)) ∧ (∀ c, freshS nm (getG SK.nm (fullK r.key nm) ks).isSome many = c → c ≠ 0 → Wrong c r.line r.key e w') ∧ Keeps (fun i => i = M) w w' := by
  obtain ⟨fc, hfc⟩ : ∃ fc, fc = freshS nm (getG SK.nm (fullK r.key nm) ks).isSome many := ⟨_, rfl⟩
  rw [← hfc]
  unfold freshS at hfc
  have HWR := Lib.hid (fun W c hc => wrong_any W c r hc)
  obtain ⟨rk, ra, rn, rc, rb, rla, rln, rlc, rli⟩ := r
  simp only at hfc hline hkey
  simp only [ndR] at HWR ⊢
  have HIS := Lib.hid (fun W => is_any W nm (by omega))
  obtain ⟨wa, hwa⟩ : ∃ wa, wa = w.alloc (.cells #[.string rk, .slice ra rn rc, .bool rb, .slice rla rln rlc, .int .i64 rli] 60) := ⟨_, rfl⟩
  have hka : Keeps (fun _ => False) w wa := by rw [hwa]; exact (Keeps.refl _ _).alloc _
  have hN : Blk wa w.heap.size 60 #[.string rk, .slice ra rn rc, .bool rb, .slice rla rln rlc, .int .i64 rli] := by rw [hwa]; exact Blk.new _ _ _
  have HWA := Lib.hid hwa
  have HKA := Lib.hid hka
  have HN := Lib.hid hN
  obtain ⟨⟨x0, x1, x2, x3, x4⟩, -⟩ := hN.all5
  have hsa := hka.size
  have hsz1 : (rk ++ (⟨#[32]⟩ : ByteArray)).size ≤ 1073741825 := by rw [ByteArray.size_append]; show rk.size + 1 ≤ _; omega
  have hsz2 : (rk ++ (⟨#[32]⟩ : ByteArray) ++ nm).size ≤ 2147483650 := by rw [ByteArray.size_append]; omega
  have hkl : (fullK rk nm).size ≤ maxLen := by unfold fullK maxLen; omega
  have y0 := (World.cell?_of_block (w := w) (hka.block g hgl id)).trans hcell
  have hSa : SeenAt wa M ks := hS.keeps hka id
  have l1 : (Instr.lookup 55 (.map (some M)) (.string (rk ++ (⟨#[32]⟩ : ByteArray) ++ nm)) false).run Tryz.prog wa = .ok (.int .i64 (seenN ks (fullK rk nm))) wa := hSa.look _ hkl
  have hSd : SeenAt wa.drew M ks := hSa.keeps (Keeps.refl (fun _ => False) wa).drew id
  have l2 : (Instr.lookup 55 (.map (some M)) (.string (rk ++ (⟨#[32]⟩ : ByteArray) ++ nm)) false).run Tryz.prog wa.drew = .ok (.int .i64 (seenN ks (fullK rk nm))) wa.drew := hSd.look _ hkl
  have HSP := Lib.hid (seenN_pos (nm := fullK rk nm) hpos)
  have HSA := Lib.hid hSa
  have HKS := Lib.hid hks
  obtain ⟨sn, hsn⟩ : ∃ sn, sn = seenN ks (fullK rk nm) := ⟨_, rfl⟩
  rw [← hsn] at l1 l2 HSP
  clear hwa hka hN hcell hS hpos hks hSa hSd hsn
  cases his : isB nm with
  | false =>
    rw [his] at hfc
    have HFC : Hid (fc = 3) := Lib.hid (by rw [hfc]; rfl)
    rw [his] at HIS
    clear his hfc
    go_enter Tryz.func86, Tryz.ntmps86
    go_wp2_with fail
    rw [← HWA.out]
    refine (HIS.out _).mono ?_
    rintro e w2 ⟨rfl, rfl⟩
    go_wp2_with fail
    refine (HWR.out _ 3 (by decide)).mono ?_
    rintro e w6 ⟨⟨v, rfl, hc⟩, k6⟩
    have HCh := Lib.hid hc
    clear hc
    go_wp2_with fail
    go_ret
    exact ⟨fun h => (by rw [HFC.out] at h; cases h), fun c h _ => ⟨_, rfl, by rw [← h, HFC.out]; exact HCh.out⟩, (HKA.out.trans k6).none_⟩
  | true =>
    rw [his, if_pos rfl] at hfc
    rw [his] at HIS
    clear his
    cases hg : (getG SK.nm (fullK rk nm) ks).isSome with
    | true =>
      rw [hg, if_pos rfl] at hfc
      have HFC := Lib.hid hfc
      have hsp : 0 < sn := by rw [HSP.out]; exact hg
      clear hfc hg
      go_enter Tryz.func86, Tryz.ntmps86
      go_wp2_with fail
      rw [← HWA.out]
      refine (HIS.out _).mono ?_
      rintro e w2 ⟨rfl, rfl⟩
      go_wp2_with fail
      go_region
      go_wp2_with fail
      refine (HWR.out _ 8 (by decide)).mono ?_
      rintro e w6 ⟨⟨v, rfl, hc⟩, k6⟩
      have HCh := Lib.hid hc
      clear hc
      go_wp2_with fail
      go_ret
      exact ⟨fun h => (by rw [HFC.out] at h; cases h), fun c h _ => ⟨_, rfl, by rw [← h, HFC.out]; exact HCh.out⟩, (HKA.out.drew.trans k6).none_⟩
    | false =>
      rw [hg, if_neg (by simp)] at hfc
      have hsp : ¬ 0 < sn := by rw [HSP.out, hg]; simp
      by_cases hm : 4096 ≤ many
      · rw [if_pos hm] at hfc
        have HFC := Lib.hid hfc
        have hm2 : (4096 : Int) ≤ many := by omega
        clear hfc hg hm
        go_enter Tryz.func86, Tryz.ntmps86
        go_wp2_with fail
        rw [← HWA.out]
        refine (HIS.out _).mono ?_
        rintro e w2 ⟨rfl, rfl⟩
        go_wp2_with fail
        go_region
        go_wp2_with fail
        refine (HWR.out _ 15 (by decide)).mono ?_
        rintro e w6 ⟨⟨v, rfl, hc⟩, k6⟩
        have HCh := Lib.hid hc
        clear hc
        go_wp2_with fail
        go_ret
        exact ⟨fun h => (by rw [HFC.out] at h; cases h), fun c h _ => ⟨_, rfl, by rw [← h, HFC.out]; exact HCh.out⟩, (HKA.out.drew.trans k6).none_⟩
      · rw [if_neg hm] at hfc
        have HFC := Lib.hid hfc
        have hm2 : ¬ (4096 : Int) ≤ many := by omega
        have hS2 : SeenAt wa.drew.drew M ks := HSA.out.keeps ((Keeps.refl (fun _ => False) wa).drew.drew) id
        obtain ⟨wu, hrun, hSu, ku⟩ := hS2.put ⟨fullK rk nm, rli.toNat⟩ hkl (by unfold maxLen; have := HKS.out; omega)
        have hrun2 : (Instr.mapUpdate 55 (.map (some M)) (.string (rk ++ (⟨#[32]⟩ : ByteArray) ++ nm)) (.int .i64 rli)).run Tryz.prog wa.drew.drew = .ok () wu := by
          have e : ((rli.toNat : Nat) : Int) = rli := by omega
          simp only [e] at hrun
          exact hrun
        have HSU := Lib.hid hSu
        have HKU := Lib.hid ku
        clear hfc hg hm hrun hSu ku hS2
        go_enter Tryz.func86, Tryz.ntmps86
        go_wp2_with fail
        rw [← HWA.out]
        refine (HIS.out _).mono ?_
        rintro e w2 ⟨rfl, rfl⟩
        go_wp2_with fail
        go_region
        go_wp2_with fail
        go_region
        go_wp2_with fail
        go_ret
        exact ⟨fun _ => ⟨rfl, HSU.out⟩, fun c h hne => absurd (h.symm.trans HFC.out) hne, HKA.out.drew.drew.none_.and_ HKU.out (fun _ _ h => h)⟩
end Go.Proofs.YtfpajgmdejlaeaaGreatDoor
