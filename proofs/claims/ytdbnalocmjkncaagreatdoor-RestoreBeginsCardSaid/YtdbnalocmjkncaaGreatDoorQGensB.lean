/-
  gens: All (what each generation holds), over a store.
-/
import Derived.Test.YtdbnalocmjkncaaGreatDoorQGens
namespace Go.Proofs.YtdbnalocmjkncaaGreatDoor
open Go.RowKit Go.Maps

section
variable [Res] {w0 w w' : World} {s M bad n : Nat} {most : Int} {L : List SRep}
omit [Res] in
theorem Keeps.inner {B1 : Nat} {S : Nat → Prop} {a b : World} (h : Keeps (fun i => S i ∨ B1 ≤ i) a b) (hB : a.heap.size ≤ B1) : Keeps S a b := h.mono fun i hi e => e.elim id (fun e => by omega)
set_option maxRecDepth 100000 in
set_option maxHeartbeats 1000000 in
theorem each_any (h : Sto w0 w s M most bad L n) (B0 : Nat) (a : Option Addr) (m c : Nat) (ns : List ByteArray) (hs : SlAt strR 1 w a m ns) (hsb : ∀ nm ∈ ns, nm.size ≤ maxLen) (hm : m ≤ 1048576)
    (hb : Blk w B0 44 #[.slice none 0 0]) (hlo : w0.heap.size ≤ B0) (hfar : 0 < m → ∀ g, a = some g → g.block ≠ B0) :
    Calls Tryz.prog 48 #[.pointer (some ⟨s, 0, none⟩), .func (.func 49) #[] #[.pointer (some ⟨B0, 0, none⟩)], .slice a m c] w fun e w' => e = .returned (.tuple #[]) ∧ (∃ v', Blk w' B0 44 #[v'] ∧ OwnL w' w.heap.size 9 v' ((ns.map (heldD (L.map SRep.f))).map Value.string)) ∧ Keeps (fun i => i = B0) w w' := by
  obtain ⟨l, hl⟩ : ∃ l, l = L.map SRep.f := ⟨_, rfl⟩
  have HL := Lib.hid hl
  rw [← hl]
  have H := Lib.hid h
  have HS := Lib.hid hs
  have HSB := Lib.hid hsb
  have HB := Lib.hid hb
  have HFAR := Lib.hid hfar
  have HNL := Lib.hid hs.1
  have hB0 := hb.lt
  clear hl h hs hsb hb hfar
  have hset : ∀ wr, Keeps (fun i => i = B0 ∨ w.heap.size ≤ i) w wr → Sto w0 wr s M most bad L n := fun wr k => H.out.beside (k.inner (S := fun i => i = B0) (Nat.le_refl _)) fun i e => by subst e; exact ⟨hlo, _, _, HB.out, by decide, by decide, by decide⟩
  have HSET := Lib.hid hset
  clear hset
  go_enter Tryz.func48, Tryz.ntmps48
  go_wp2_with fail
  go_loopw [12] (fun u12 wr => ∃ (i : Nat) (v : Value), u12 = .int .i64 i ∧ Hid (i ≤ m ∧ Blk wr B0 44 #[v] ∧ OwnL wr w.heap.size 9 v (((ns.take i).map (heldD l)).map Value.string) ∧ Keeps (fun i => i = B0 ∨ w.heap.size ≤ i) w wr)) (fun u12 _ => m - (intOf u12).toNat)
  case atStart => exact ⟨0, _, rfl, Lib.hid ⟨Nat.zero_le _, HB.out, OwnL.none_ _ _ _, Keeps.refl _ _⟩⟩
  case round =>
    obtain ⟨i, v, rfl, HI⟩ := hrel
    rename World => wr
    by_cases hi : i < m
    · obtain ⟨nm, hnm⟩ : ∃ nm, ns[i]? = some nm := ⟨_, List.getElem?_eq_getElem (by rw [HNL.out]; exact hi)⟩
      obtain ⟨b, off, rfl, hblt, hcc⟩ := HS.out.2 (by omega)
      have hbn : b ≠ B0 := HFAR.out (by omega) _ rfl
      have hcell := hcc i nm 0 (.string nm) hnm rfl
      rw [Nat.mul_one, Nat.add_zero] at hcell
      have hc2 : wr.cell? ⟨b, off + i, none⟩ = some (.string nm) := by
        rw [World.cell?_of_block (w := w) (HI.out.2.2.2.block b hblt (fun e => e.elim hbn (fun e => by omega)))]; exact hcell
      have hsto := HSET.out wr HI.out.2.2.2
      have hrd := sread_val hsto (nm := nm) (HSB.out nm (List.mem_of_getElem? hnm))
      rw [← HL.out] at hrd
      have htk := take_snoc10 hnm
      have HRD := Lib.hid hrd
      have HTK := Lib.hid htk
      have hbl2 : b < wr.heap.size := Nat.lt_of_lt_of_le hblt HI.out.2.2.2.size
      have hw2 := HI.out.2.2.2.size
      clear hnm hcc hcell hsto hrd htk
      go_wp2_with fail
      refine HRD.out.mono ?_
      rintro e w2 ⟨⟨ok, rfl⟩, hw⟩
      obtain rfl : wr = w2 := hw.symm
      go_wp2_with fail
      refine (all1_any wr B0 w.heap.size v ((ns.take i).map (heldD l)) (heldD l nm) HI.out.2.1 HI.out.2.2.1 hw2 hB0 (by rw [List.length_map, List.length_take]; omega)).mono ?_
      rintro e w3 ⟨rfl, ⟨v3, hb3, ho3⟩, k3⟩
      have HB3 := Lib.hid hb3
      have HO3 := Lib.hid ho3
      have HK3 := Lib.hid (HI.out.2.2.2.trans k3)
      clear hb3 ho3 k3
      go_wp2_with fail
      go_roundw
      case rel => exact ⟨i + 1, v3, by go_num, Lib.hid ⟨by omega, HB3.out, by rw [HTK.out, List.map_append]; exact HO3.out, HK3.out⟩⟩
      case measure => simp [intOf]; omega
    · have hh := HI.out.2.2.1
      rw [List.take_of_length_le (by rw [HNL.out]; omega)] at hh
      have HH := Lib.hid hh
      clear hh
      go_wp2_with fail
      refine bodyPost_end (results_none rfl _ _ _) rfl ⟨rfl, ⟨v, HI.out.2.1, HH.out⟩, HI.out.2.2.2.inner (S := fun i => i = B0) (Nat.le_refl _)⟩

omit [Res] in
theorem names_held (l : List SFile) (base : ByteArray) (k : Nat) : (namesP l base k).map (heldD l) = allP l base k := names_all l base k
set_option maxRecDepth 100000 in
set_option maxHeartbeats 1000000 in
theorem gall_any (h : Sto w0 w s M most bad L n) (base : ByteArray) (k : Int) (hb : base.size ≤ 1048576) :
    Calls Tryz.prog 15 #[.pointer (some ⟨s, 0, none⟩), .string base, .int .i64 k] w fun e w' => (∃ v, e = .returned v ∧ OwnL w' w.heap.size 9 v ((allP (L.map SRep.f) base (heldP k)).map Value.string)) ∧ Keeps (fun _ => False) w w' := by
  have hmf : ∀ (fn : Fn) (first cap : Array Value) (w : World), (Instr.makeFunc fn first cap).run Tryz.prog w = .ok (.func fn first cap) w := fun _ _ _ _ => rfl
  obtain ⟨l, hl⟩ : ∃ l, l = L.map SRep.f := ⟨_, rfl⟩
  have HL := Lib.hid hl
  rw [← hl]
  have H := Lib.hid h
  have hq := (heldP_le k).2
  have hnl := namesP_len l base (heldP k)
  obtain ⟨ns, hns⟩ : ∃ ns, ns = namesP l base (heldP k) := ⟨_, rfl⟩
  have hsb : ∀ nm ∈ ns, nm.size ≤ maxLen := fun nm hm => by
    rw [hns] at hm
    unfold namesP at hm
    obtain ⟨i, hi, he⟩ := List.mem_filterMap.1 hm
    cases hg : genF l base i with
    | none => rw [hg] at he; cases he
    | some f =>
      rw [hg] at he
      simp at he
      have hi2 : i < heldP k := by unfold downs at hi; simpa using hi
      have := genName_size (base := base) (i := i) (by omega)
      rw [← he]
      unfold maxLen
      omega
  have hlen : ns.length ≤ 16 := by rw [hns]; omega
  have hmap : ns.map (heldD l) = allP l base (heldP k) := by rw [hns]; exact names_held _ _ _
  have HSB := Lib.hid hsb
  have HMP := Lib.hid hmap
  have HNS := Lib.hid hns
  have hlo := h.keeps.size
  clear hl h hns hsb hmap hnl
  go_enter Tryz.func15, Tryz.ntmps15
  go_wp2_with fail
  have hgn := gnames_any (H.out.same ((Keeps.refl _ w).alloc (.cells #[.slice none 0 0] 44))) base k hb
  rw [← HL.out, ← HNS.out] at hgn
  refine hgn.mono ?_
  clear hgn
  rintro e w2 ⟨⟨v, rfl, hO⟩, k2⟩
  obtain ⟨na, nc, rfl⟩ := hO.sl'
  rw [List.length_map] at *
  have hsl := (slat_own hO).2
  have HB2 := Lib.hid ((Blk.new w 44 #[.slice none 0 0]).keeps k2 id)
  have HS2 := Lib.hid ((H.out.same ((Keeps.refl _ w).alloc (.cells #[.slice none 0 0] 44))).same k2)
  have hfar : ∀ g, na = some g → 0 < ns.length → g.block ≠ w.heap.size := fun g hg hp => by
    obtain ⟨a1, c1, hv, _, _, h1, _⟩ := hO.shape
    injection hv with e1 e2 e3
    subst e1
    obtain ⟨g', hg', hB, _⟩ := h1 (by rw [List.length_map]; exact hp)
    rw [hg] at hg'
    injection hg' with hg'
    subst hg'
    simp at hB
    simp; omega
  have HSL := Lib.hid hsl
  have HFAR := Lib.hid hfar
  have HK2 := Lib.hid k2
  clear hO hsl hfar k2
  go_wp2_with fail
  refine (each_any HS2.out w.heap.size na ns.length nc ns HSL.out HSB.out (by omega) HB2.out hlo (fun hp g hg => HFAR.out g hg hp)).mono ?_
  rw [← HL.out, HMP.out]
  rintro e w3 ⟨rfl, ⟨v3, hb3, ho3⟩, k3⟩
  have c0 := hb3.cell 0
  simp only [List.getElem?_toArray, List.getElem?_cons_zero] at c0
  have hz2 := HK2.out.size
  simp at hz2
  have HO3 := Lib.hid (ho3.more (B' := w.heap.size) (by omega))
  have HK3 := Lib.hid (Keeps.and_ (S := fun _ => False) (Keeps.trans (((Keeps.refl (fun _ => False) w).alloc (.cells #[.slice none 0 0] 44))) HK2.out) k3 (fun i hi e => by omega))
  clear hb3 ho3 k3
  go_wp2_with fail
  go_ret
  exact ⟨⟨v3, rfl, HO3.out⟩, HK3.out⟩
end
end Go.Proofs.YtdbnalocmjkncaaGreatDoor
