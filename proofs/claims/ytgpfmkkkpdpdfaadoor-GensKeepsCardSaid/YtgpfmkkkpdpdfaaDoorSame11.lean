/-
  'Same' of law11: a store that holds what the document's list holds is told to be the same.
-/
import Derived.Test.YtgpfmkkkpdpdfaaDoorBoth
import Derived.Test.YtgpfmkkkpdpdfaaDoorDocK
namespace Go.Proofs.YtgpfmkkkpdpdfaaDoor
open Go.RowKit Go.Maps

section
variable {w0 w w' : World} {s M bad n : Nat} {most : Int} {L : List SRep}
theorem sread (h : Sto w0 w s M most bad L n) {r : SRep} (hr : r ∈ L) : Calls Tryd.prog 16 #[.pointer (some ⟨s, 0, none⟩), .string r.f.name] w fun e w' => e = .returned (.tuple #[.string r.f.data, .bool true]) ∧ w' = w := by
  have := read_any h.store r.f.name (by have := h.size hr; unfold maxLen; omega)
  rwa [show getG SRep.nm r.f.name L = some r from getG_of_mem h.store.rise hr] at this
theorem ssize (h : Sto w0 w s M most bad L n) {r : SRep} (hr : r ∈ L) : Calls Tryd.prog 42 #[.pointer (some ⟨s, 0, none⟩), .string r.f.name] w fun e w' => e = .returned (.tuple #[.int .i64 (r.f.data.size : Nat), .int .i64 (r.f.sure : Nat)]) ∧ Keeps (fun _ => False) w w' := by
  have := size_any h.store r.f.name (by have := h.size hr; unfold maxLen; omega)
  rwa [show getG SRep.nm r.f.name L = some r from getG_of_mem h.store.rise hr] at this

theorem rtotal_k (w : World) (v : Value) (most bad : Int) (l : List SFile) (h : DocL w v l) (hl : l.length ≤ 4294967296) (hd : ∀ f ∈ l, f.data.size ≤ 1073741824) :
    Calls Tryd.prog 73 #[docS v most bad] w fun e w' => e = .returned (.int .i64 (totF l : Nat)) ∧ Keeps (fun _ => False) w w' :=
  (rtotal_any w v most bad l h hl hd).mono fun _ _ ⟨he, hw⟩ => ⟨he, by rw [hw]; exact (Keeps.refl _ _).alloc _⟩
set_option maxRecDepth 100000 in
set_option maxHeartbeats 1000000 in
theorem same11_any (h : Sto w0 w s M most bad L n) {v : Value} (hd : DocL w v (L.map SRep.f)) (mo bo : Int) :
    Calls Tryd.prog 36 #[.pointer (some ⟨s, 0, none⟩), docS v mo bo] w fun e w' => e = .returned (.bool true) ∧ Keeps (fun _ => False) w w' := by
  have HD := Lib.hid hd
  obtain ⟨a, c, rfl, hc⟩ := hd.cells
  have hll : (L.map SRep.f).length = L.length := List.length_map _
  have hnl : (namesV L).length = L.length := by simp [namesV]
  rw [hll] at HD ⊢
  obtain ⟨m, hm⟩ : ∃ m, m = L.length := ⟨_, rfl⟩
  have hmn : m ≤ 1048576 := by have := h.len; have := h.hn; omega
  rw [← hm] at HD hll hnl ⊢
  obtain ⟨T, hT⟩ : ∃ T : Nat, T = totL L := ⟨_, rfl⟩
  have HC := Lib.hid hc
  have HLL := Lib.hid hll
  have HNL := Lib.hid hnl
  have HM := Lib.hid hm
  have HTT := Lib.hid hT
  have htm : T ≤ 16777216 := by have := h.tot; have := h.m2; omega
  have HTF : Hid (totF (L.map SRep.f) = T) := Lib.hid (by rw [tot_f, hT])
  have H := Lib.hid h
  clear hc hd hll hnl hm hT h
  unfold docS
  go_enter Tryd.func36, Tryd.ntmps36
  go_wp2_with fail
  refine (names_any (H.out.same ((Keeps.refl _ w).alloc _)).store (by rw [← HM.out]; omega)).mono ?_
  rintro e w1 ⟨⟨nv, rfl, hO⟩, k1⟩
  obtain ⟨na, nc, rfl⟩ := hO.sl'
  rw [HNL.out]
  rw [HNL.out] at hO
  have bx := (Blk.new w 29 #[.slice a m c, .int .i64 mo, .int .i64 bo]).keeps k1 id
  have HBX := Lib.hid bx
  have HO := Lib.hid hO
  have hk1 : Keeps (fun _ => False) w w1 := Keeps.trans (by (repeat (first | (with_reducible assumption) | (with_reducible exact Keeps.refl _ _) | refine Keeps.drew ?_ | refine Keeps.drewN ?_ _ | refine Keeps.setCell ?_ (by simp) _ | refine Keeps.setRow ?_ (by simp) _ | refine Keeps.alloc ?_ _))) k1
  have HK1 := Lib.hid hk1
  obtain ⟨c0, c1, c2⟩ := bx.cells3
  have hz1 := bx.lt
  clear k1 hO hk1 bx
  go_wp2_with fail
  have HTM := Lib.hid htm
  go_region_held3 (fun w2 => w2.cell? ⟨w.heap.size, 0, none⟩ = some (.slice a m c) ∧ w2.cell? ⟨w.heap.size, 1, none⟩ = some (.int .i64 mo) ∧ w2.cell? ⟨w.heap.size, 2, none⟩ = some (.int .i64 bo) ∧ Keeps (fun _ => False) w1 w2)
    ((first | exact ⟨c0, c1, c2, (Keeps.refl _ _).drew⟩ | (have bb := (HBX.out.keeps kk id).cells3; exact ⟨bb.1, bb.2.1, bb.2.2, kk⟩)))
    (first
      | (go_at_call 46; rename_i hh _ _; have hk := hh.2.2.2; refine (total_any (H.out.same (HK1.out.trans hk)).store (by rw [← HTT.out]; omega)).mono ?_; rw [← HTT.out]; rintro e w3 ⟨rfl, k3⟩; have kk := hk.trans k3)
      | (go_at_call 73; rename_i hh _ _; have hk := hh.2.2.2; refine (rtotal_k _ (.slice a m c) mo bo (L.map SRep.f) (HD.out.keeps (HK1.out.trans hk)) (by rw [List.length_map, ← HM.out]; omega) (fun f hf => by obtain ⟨r, hr, rfl⟩ := List.mem_map.1 hf; have := H.out.size hr; omega)).mono ?_; rw [HTF.out]; rintro e w3 ⟨rfl, k3⟩; have kk := hk.trans k3))
  rename_i hh
  have kk := hh.2.2.2
  clear hh c0 c1 c2
  have HK2 := Lib.hid (HK1.out.trans kk)
  have HKK := Lib.hid kk
  rename World => w2
  clear kk
  go_wp2_with fail
  go_loopw [6] (fun u6 wr => ∃ i : Nat, u6 = .int .i64 i ∧ Hid (i ≤ m ∧ Keeps (fun _ => False) w2 wr)) (fun u6 _ => m - (intOf u6).toNat)
  case atStart => exact ⟨0, rfl, Lib.hid ⟨Nat.zero_le _, Keeps.refl _ _⟩⟩
  case round =>
    obtain ⟨i, rfl, HI⟩ := hrel
    rename World => wr
    by_cases hi : i < m
    · obtain ⟨r, hr⟩ : ∃ r, L[i]? = some r := ⟨_, List.getElem?_eq_getElem (by rw [← HM.out]; exact hi)⟩
      have hrm := List.mem_of_getElem? hr
      have hkr := HK2.out.trans HI.out.2
      have hs := H.out.same hkr
      obtain ⟨g, rfl, hgl, hcc⟩ := HC.out i r.f (getElem_map_f hr)
      obtain ⟨d0, d1, d2⟩ := hcc wr hkr
      obtain ⟨gv, qv, hvv, hcn, hBv, hlv⟩ := own_cell (HO.out.keeps (HKK.out.trans HI.out.2) (fun _ _ _ => id)) (namesV_at hr) HNL.out
      injection hvv with e1 e2 e3
      subst e1 e3
      obtain ⟨x0, x1, x2⟩ := ((HBX.out.keeps HKK.out id).keeps HI.out.2 id).cells3
      have HR := Lib.hid (sread hs hrm)
      have HS := Lib.hid (fun W (k : Keeps (fun _ => False) wr W) => ssize (hs.same k) hrm)
      have HX := Lib.hid ((HBX.out.keeps HKK.out id).keeps HI.out.2 id)
      have HCC := Lib.hid (fun W (k : Keeps (fun _ => False) wr W) => hcc W (hkr.trans k))
      have hgw : g < wr.heap.size := Nat.lt_of_lt_of_le hgl hkr.size
      have HCN := Lib.hid (fun W (k : Keeps (fun _ => False) wr W) => (World.cell?_of_block (w := wr) (w' := W) (a := ⟨gv, i, none⟩) (k.block gv hlv id)).trans hcn)
      obtain ⟨nm, hnm⟩ : ∃ nm, nm = r.f.name := ⟨_, rfl⟩
      obtain ⟨da, hda⟩ : ∃ da, da = r.f.data := ⟨_, rfl⟩
      obtain ⟨su, hsu⟩ : ∃ su, su = r.f.sure := ⟨_, rfl⟩
      rw [← hnm] at HR HS HCC HCN hcn d0
      rw [← hda] at HR HS HCC d1
      rw [← hsu] at HS HCC d2
      clear e2 hr hcc hs hrm hkr hnm hda hsu
      go_wp2_with fail
      refine HR.out.mono ?_
      rintro e w3 ⟨rfl, hw3⟩
      obtain rfl : wr = w3 := hw3.symm
      go_wp2_with fail
      refine (HS.out _ (Keeps.refl _ _)).mono ?_
      rintro e w4 ⟨rfl, k4⟩
      clear hcn d0 d1 d2 x0 x1 x2
      have hcn := HCN.out w4 k4
      obtain ⟨d0, d1, d2⟩ := HCC.out w4 k4
      obtain ⟨x0, x1, x2⟩ := (HX.out.keeps k4 id).cells3
      have HK4 := Lib.hid (HI.out.2.trans k4)
      clear k4
      have bnn : (nm.toList != nm.toList) = false := by simp
      have bdd : (da.toList != da.toList) = false := by simp
      go_wp2_with fail
      go_quiet (fail)
      go_wp2_with fail
      exact ⟨⟨i + 1, by go_num, Lib.hid ⟨by omega, HK4.out.drewN _⟩⟩, by simp [intOf]; omega⟩
    · have HI2 := HI.out.2
      have HIH := Lib.hid (HK2.out.trans HI2)
      clear HI2
      go_wp2_with fail
      go_ret
      exact ⟨rfl, HIH.out⟩
end
end Go.Proofs.YtgpfmkkkpdpdfaaDoor
