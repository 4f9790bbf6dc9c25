/-
  The document's item out of bytes (wheelhouseref08.Read).
-/
import Derived.Test.YtdbnalocmjkncaaGreatQRecD
import Derived.Deep.DeepCutAuto
import Derived.Deep.CutBlock
namespace Go.Proofs.YtdbnalocmjkncaaGreat
open Go.RowKit

theorem ret_ctt {P : Program} {fn : Func} {p u x : Tmp} {ty : TypeId} (h : fn.results = #[.cell p ty, .tmp u, .tmp x]) {a : Act} {w : World} {R : Ending → World → Prop} (g : Nat) (t : TypeId) (cs : Array Value) (d : TypeDesc)
    (hp : a.tmps.getD p undef = .pointer (some ⟨g, 0, none⟩)) (hb : Blk w g t cs) (hu : P.underlying ty = some d) (hd : (match d with | .struct _ | .array _ _ => true | _ => false) = true)
    (hi : (P.info? ty).map (·.size) = some cs.size) (hdf : a.defers = []) (hR : R (.returned (.tuple #[.agg cs, a.tmps.getD u undef, a.tmps.getD x undef])) w) : bodyPost P fn R .ret a w := by
  refine bodyPost_ret (v := .tuple #[.agg cs, a.tmps.getD u undef, a.tmps.getD x undef]) ?_ hdf hR
  have hp' : a.tmps[p]?.getD undef = .pointer (some ⟨g, 0, none⟩) := by simpa using hp
  simp only [results, h]
  simp [Result.andThen, hp', asAddr, run_loadVar_row w g t ty cs (0, 0) d hb hu hd hi]
theorem Keeps.setNewC {S : Nat → Prop} {a b : World} (h : Keeps S a b) {g i : Nat} (hg : a.heap.size ≤ g) (u : Value) : Keeps S a (b.setCell ⟨g, i, none⟩ u) := h.setCell (fun hh => by have : g < a.heap.size := hh; omega) u
theorem Keeps.setC3 {S : Nat → Prop} {a b : World} (h : Keeps S a b) {g : Nat} (hg : a.heap.size ≤ g) (x y z : Value) : Keeps S a (((b.setCell ⟨g, 0, none⟩ x).setCell ⟨g, 1, none⟩ y).setCell ⟨g, 2, none⟩ z) := ((h.setNewC hg _).setNewC hg _).setNewC hg _
theorem Blk.setC3 {w : World} {g : Nat} {t : TypeId} {a b c : Value} (h : Blk w g t #[a, b, c]) (x y z : Value) : Blk (((w.setCell ⟨g, 0, none⟩ x).setCell ⟨g, 1, none⟩ y).setCell ⟨g, 2, none⟩ z) g t #[x, y, z] := ((h.set_ 0 x).set_ 1 y).set_ 2 z
theorem Keeps.of_eq {S : Nat → Prop} {a b : World} (h : b = a) : Keeps S a b := by rw [h]; exact Keeps.refl _ _
theorem ext_part (s : ByteArray) (a b : Nat) : s.extract a b = str ((s.data.toList.drop a).take (b - a)) := by
  apply ba_ext
  simp only [ByteArray.data_extract, Array.toList_extract, List.extract_eq_take_drop, str_list]
/-- ahead of the sum all is as it may be, and the bytes are those of the item: it is whole -/
theorem whole_mk {l : List UInt8} (hk : 1 ≤ (l.getD 1 0).toNat ∧ (l.getD 1 0).toNat ≤ 15) (ha : unbe ((l.drop 2).take 6) ≤ 1099511627776) (hn : gotK l ≤ 4096) (ht : l.take (14 + gotK l) = recP (gotI l)) : Whole l := by
  have hok : (gotI l).ok := by
    refine ⟨?_, ?_, ?_⟩
    · unfold gotI; simp only; omega
    · unfold gotI; simp only; omega
    · unfold gotI; simp only [str_size, List.length_take, List.length_drop]; omega
  have h := (rec_whole hok (l.drop (14 + gotK l))).1
  rwa [← ht, List.take_append_drop] at h
/-- what Read tells of bytes that begin with no whole item -/
def noItem (e : Ending) : Prop := ∃ c, c ≠ 0 ∧ e = .returned (.tuple #[.agg #[.int .i64 0, .int .i64 0, .string ⟨#[]⟩], .int .i64 0, .int .i64 c])
def readEnd (l : List UInt8) (e : Ending) : Prop := (Whole l ∧ e = .returned (.tuple #[itmV (gotI l), .int .i64 (14 + gotK l : Nat), .int .i64 0])) ∨ (¬ Whole l ∧ noItem e)
set_option maxRecDepth 100000 in
set_option maxHeartbeats 1000000 in
theorem r8read_any (w : World) (s : ByteArray) (hs : s.size ≤ 1073741824) : Calls Tryz.prog 64 #[.string s] w fun e w' => readEnd s.data.toList e ∧ Keeps (fun _ => False) w w' := by
  have hlen : s.data.toList.length = s.size := by simp
  obtain ⟨l, hl⟩ : ∃ l, l = s.data.toList := ⟨_, rfl⟩
  rw [← hl] at hlen ⊢
  obtain ⟨E, hE⟩ : ∃ E, E = readEnd l := ⟨_, rfl⟩
  rw [← hE]
  have HE := Lib.hid hE
  have HL := Lib.hid hl
  have HN := Lib.hid hlen
  have hno : ∀ c, c ≠ 0 → ¬ Whole l → E (.returned (.tuple #[.agg #[.int .i64 0, .int .i64 0, .string ⟨#[]⟩], .int .i64 0, .int .i64 c])) := fun c hc h => by rw [HE.out]; exact .inr ⟨h, c, hc, rfl⟩
  have HNO := Lib.hid hno
  clear hE hl hlen hno
  by_cases h0 : s.size = 0
  · obtain rfl : s = ⟨#[]⟩ := by apply ba_ext; exact List.eq_nil_of_length_eq_zero (by simpa using h0)
    have hw : ¬ Whole l := fun h => by have := h.all; have := HN.out; omega
    have HW := Lib.hid hw
    clear hw h0
    go_enter Tryz.func64, Tryz.ntmps64
    go_wp2_with fail
    try simp only [Exit.inBlock, Exit.then]
    refine ret_ctt rfl w.heap.size 42 _ _ rfl (Blk.new w _ _) Tryz.underlying42 rfl (by kernel_rfl) rfl ⟨?_, by (repeat (first | (with_reducible assumption) | (with_reducible exact Keeps.refl _ _) | refine Keeps.drew ?_ | refine Keeps.drewN ?_ _ | refine Keeps.setCell ?_ (by simp) _ | refine Keeps.setRow ?_ (by simp) _ | refine Keeps.alloc ?_ _))⟩
    exact HNO.out 13 (by decide) HW.out
  · have hget : ∀ (k : Nat) c, l[k]? = some c → ∀ h, s[k]'h = c := by
      intro k c hc h
      rw [HL.out] at hc
      rw [← (List.getElem?_eq_some_iff.1 hc).2]; rfl
    obtain ⟨c, hc⟩ : ∃ c, l[0]? = some c := ⟨_, List.getElem?_eq_getElem (by rw [HN.out]; omega)⟩
    have hsc := hget 0 c hc
    have HC := Lib.hid hc
    have HG := Lib.hid hget
    have hsne : s.toList.isEmpty = false := by
      rw [ByteArray.toList_eq, ← HL.out]
      cases hq : l with
      | nil => rw [hq] at HN; exact absurd HN.out.symm h0
      | cons a t => rfl
    clear hc hget
    by_cases h87 : c = 87
    · subst h87
      by_cases h10 : s.size < 10
      · have hw : ¬ Whole l := fun h => by have := h.all; have := HN.out; omega
        have HW := Lib.hid hw
        clear hw
        go_enter Tryz.func64, Tryz.ntmps64
        go_wp2_with fail
        try simp only [Exit.inBlock, Exit.then]
        refine ret_ctt rfl w.heap.size 42 _ _ rfl (Blk.new w _ _) Tryz.underlying42 rfl (by kernel_rfl) rfl ⟨?_, by (repeat (first | (with_reducible assumption) | (with_reducible exact Keeps.refl _ _) | refine Keeps.drew ?_ | refine Keeps.drewN ?_ _ | refine Keeps.setCell ?_ (by simp) _ | refine Keeps.setRow ?_ (by simp) _ | refine Keeps.alloc ?_ _))⟩
        exact HNO.out 13 (by decide) HW.out
      · obtain ⟨d, hd⟩ : ∃ d, l[1]? = some d := ⟨_, List.getElem?_eq_getElem (by rw [HN.out]; omega)⟩
        have hsd := HG.out 1 d hd
        have hdd : l.getD 1 0 = d := by rw [List.getD_eq_getElem?_getD, hd]; rfl
        have e6 : s.extract 2 8 = str ((l.drop 2).take 6) := by rw [ext_part, ← HL.out]
        obtain ⟨s6, hs6⟩ : ∃ s6, s6 = s.extract 2 8 := ⟨_, rfl⟩
        have hz6 : s6.size ≤ 6 := by rw [hs6, e6, str_size, List.length_take]; omega
        have hR6 := fun W => rnumber_any W s6 hz6
        obtain ⟨tt, htt⟩ : ∃ tt, tt = unbe s6.data.toList := ⟨_, rfl⟩
        rw [← htt] at hR6
        have hta : tt = unbe ((l.drop 2).take 6) := by rw [htt, hs6, e6, str_list]
        have HR6 := Lib.hid hR6
        have h8 : (8 : Int) ≤ s.size := by omega
        have HTA := Lib.hid hta
        have HDD := Lib.hid hdd
        have hs6' := hs6.symm
        clear hR6 hta htt hd hdd e6 hs6
        go_enter Tryz.func64, Tryz.ntmps64
        go_wp2_with fail
        obtain ⟨w1, hw1⟩ : ∃ w1, w1 = w.alloc (.cells #[.int .i64 0, .int .i64 0, .string { data := #[] }] 42) := ⟨_, rfl⟩
        have HB1 := Lib.hid (show Blk w1 w.heap.size 42 _ by rw [hw1]; exact Blk.new w _ _)
        have HK1 := Lib.hid (show Keeps (fun _ => False) w w1 by rw [hw1]; (repeat (first | (with_reducible assumption) | (with_reducible exact Keeps.refl _ _) | refine Keeps.drew ?_ | refine Keeps.drewN ?_ _ | refine Keeps.setCell ?_ (by simp) _ | refine Keeps.setRow ?_ (by simp) _ | refine Keeps.alloc ?_ _)))
        rw [← hw1]
        have HZ1 := Lib.hid (show w1.heap.size = w.heap.size + 1 by rw [hw1]; simp)
        clear hw1
        have hwd : IntKind.i64.wrap (d.toNat : Int) = d.toNat := wrap_in (by omega) (by have := d.toNat_lt; omega)
        go_cut [5] (fun s5 wx => ∃ q : Nat, s5 = .pointer (some ⟨q, 0, none⟩) ∧ Hid (Blk wx q 42 #[.int .i64 d.toNat, .int .i64 tt, .string ⟨#[]⟩] ∧ w.heap.size < q ∧ Keeps (fun _ => False) w1 wx))
        case first =>
          go_region_held3 (fun w2 => Keeps (fun _ => False) w1 w2)
            ((repeat (first | (with_reducible assumption) | (with_reducible exact Keeps.refl _ _) | refine Keeps.drew ?_ | refine Keeps.drewN ?_ _ | refine Keeps.setCell ?_ (by simp) _ | refine Keeps.setRow ?_ (by simp) _ | refine Keeps.alloc ?_ _)))
            ((go_at_call 94; rename_i hk _ _; refine (HR6.out _).mono ?_; rintro e w3 ⟨rfl, hw3⟩; have k3 : Keeps (fun _ => False) _ w3 := Keeps.of_eq hw3; have kk : Keeps (fun _ => False) w1 w3 := hk.trans k3; have kz := kk.size; try (have bn := Blk.keeps (Blk.new w1 42 #[.int .i64 0, .int .i64 0, .string { data := #[] }]) k3.from_drew id; have be := bn.all3); clear hw3))
          all_goals (go_wp2_with fail; go_meet)
          all_goals
            refine ⟨_, rfl, Lib.hid ⟨?_, ?_, ?_⟩⟩
            · first
                | with_reducible exact (Blk.new w1 42 #[.int .i64 d.toNat, .int .i64 tt, .string { data := #[] }]).drew
                | with_reducible exact bn.setC3 _ _ _
            · have := HZ1.out; omega
            · first
                | with_reducible exact kk.setC3 (Nat.le_refl _) _ _ _
                | ((repeat (first | (with_reducible assumption) | (with_reducible exact Keeps.refl _ _) | refine Keeps.drew ?_ | refine Keeps.drewN ?_ _ | refine Keeps.setCell ?_ (by simp) _ | refine Keeps.setRow ?_ (by simp) _ | refine Keeps.alloc ?_ _)))
        case rest =>
          obtain ⟨q, rfl, HQ⟩ := hcut
          obtain ⟨⟨c0, c1, c2⟩, f0, f1, f2⟩ := HQ.out.1.all3
          have HK2 := Lib.hid (HK1.out.trans HQ.out.2.2)
          have hqs := HQ.out.2.1
          have hql := HQ.out.1.lt
          obtain ⟨kc, hkc⟩ : ∃ kc, kc = checkI 1 2 5 ⟨(d.toNat : Int), (tt : Int), ⟨#[]⟩⟩ := ⟨_, rfl⟩
          have hck := fun W => r8check_any W ⟨(d.toNat : Int), (tt : Int), ⟨#[]⟩⟩
          rw [← hkc] at hck
          unfold itmV at hck
          have HCK := Lib.hid hck
          have HKC := Lib.hid hkc
          clear hck hkc
          go_wp2_with fail
          refine (HCK.out _).mono ?_
          rintro e w3 ⟨rfl, k3⟩
          have HB3 := Lib.hid (HQ.out.1.keeps k3 id)
          have HK3 := Lib.hid (HK2.out.trans k3)
          have HR3 := Lib.hid ((HB1.out.keeps HQ.out.2.2 id).keeps k3 id)
          clear c0 c1 c2 f0 f1 f2 k3
          by_cases hk0 : kc = 0
          · subst hk0
            have hok0 : Itm.ok ⟨(d.toNat : Int), (tt : Int), ⟨#[]⟩⟩ := by
              by_cases hh : Itm.ok ⟨(d.toNat : Int), (tt : Int), ⟨#[]⟩⟩
              · exact hh
              · exact absurd HKC.out.symm (check_no (by decide) (by decide) (by decide) hh)
            have e2 : s.extract 8 10 = str ((l.drop 8).take 2) := by rw [ext_part, ← HL.out]
            obtain ⟨s2, hs2⟩ : ∃ s2, s2 = s.extract 8 10 := ⟨_, rfl⟩
            have hz2 : s2.size ≤ 2 := by rw [hs2, e2, str_size, List.length_take]; omega
            have hR2 := fun W => rnumber_any W s2 (by omega)
            obtain ⟨n, hn⟩ : ∃ n, n = unbe s2.data.toList := ⟨_, rfl⟩
            rw [← hn] at hR2
            have hnk : gotK l = n := by rw [hn, hs2, e2, str_list]; rfl
            have hn16 : n ≤ 65536 := by rw [hn]; have := unbe_lt s2.data.toList; have e : s2.data.toList.length = s2.size := by simp
                                        have : 256 ^ s2.data.toList.length ≤ 256 ^ 2 := Nat.pow_le_pow_right (by omega) (by omega)
                                        omega
            have hgi : gotI l = ⟨(d.toNat : Int), (tt : Int), str ((l.drop 10).take n)⟩ := by unfold gotI; rw [HDD.out, ← HTA.out, hnk]
            have HR2 := Lib.hid hR2
            have HNK := Lib.hid hnk
            have HGI := Lib.hid hgi
            have hs2' := hs2.symm
            have h10' : (10 : Int) ≤ s.size := by omega
            have HOK := Lib.hid hok0
            clear hR2 hs2 hnk hgi hn e2 hok0
            by_cases hnb : 4096 < n
            · have HW := Lib.hid (show ¬ Whole l from fun h => by have := h.len; rw [HNK.out] at this; omega)
              obtain ⟨⟨z0, z1, z2⟩, g0, g1, g2⟩ := HR3.out.all3
              go_wp2_with (go_at_call 94; refine (HR2.out _).mono ?_; rintro e w4 ⟨rfl, rfl⟩)
              try simp only [Exit.inBlock, Exit.then]
              refine ret_ctt rfl w.heap.size 42 _ _ rfl (HR3.out.setC3 _ _ _) Tryz.underlying42 rfl (by kernel_rfl) rfl ⟨?_, HK3.out.setC3 (by omega) _ _ _⟩
              exact HNO.out 5 (by decide) HW.out
            · by_cases hsz : s.size < 14 + n
              · have HW := Lib.hid (show ¬ Whole l from fun h => by have := h.all; rw [HNK.out, HN.out] at this; omega)
                obtain ⟨⟨z0, z1, z2⟩, g0, g1, g2⟩ := HR3.out.all3
                go_wp2_with (go_at_call 94; refine (HR2.out _).mono ?_; rintro e w4 ⟨rfl, rfl⟩)
                try simp only [Exit.inBlock, Exit.then]
                refine ret_ctt rfl w.heap.size 42 _ _ rfl (HR3.out.setC3 _ _ _) Tryz.underlying42 rfl (by kernel_rfl) rfl ⟨?_, HK3.out.setC3 (by omega) _ _ _⟩
                exact HNO.out 13 (by decide) HW.out
              · have eb : s.extract 10 (10 + n) = str ((l.drop 10).take n) := by rw [ext_part, ← HL.out]; congr 2; omega
                obtain ⟨sb, hsb⟩ : ∃ sb, sb = s.extract 10 (10 + n) := ⟨_, rfl⟩
                have hzb : sb.size ≤ 4096 := by rw [hsb, eb, str_size, List.length_take]; omega
                have hxe : gotI l = ⟨(d.toNat : Int), (tt : Int), sb⟩ := by rw [HGI.out, hsb, eb]
                have hxo : Itm.ok ⟨(d.toNat : Int), (tt : Int), sb⟩ := ⟨HOK.out.1, HOK.out.2.1, hzb⟩
                have hP := fun W => r8put_ok W _ hxo
                have hrl := recP_len ⟨(d.toNat : Int), (tt : Int), sb⟩
                obtain ⟨sp, hsp⟩ : ∃ sp, sp = str (recP ⟨(d.toNat : Int), (tt : Int), sb⟩) := ⟨_, rfl⟩
                rw [← hsp] at hP
                unfold itmV at hP
                have ea : s.extract 0 (14 + n) = str (l.take (14 + n)) := by rw [ext_part, ← HL.out]; simp
                obtain ⟨sa, hsa⟩ : ∃ sa, sa = s.extract 0 (14 + n) := ⟨_, rfl⟩
                have hiff : sa = sp ↔ Whole l := by
                  rw [hsa, ea, hsp, str_inj]
                  constructor
                  · intro hh
                    exact whole_mk (by rw [HDD.out]; have := HOK.out.1; simp only at this; omega) (by rw [← HTA.out]; have := HOK.out.2.1; simp only at this; omega) (by rw [HNK.out]; omega) (by rw [HNK.out, hxe]; exact hh)
                  · intro hh
                    have := hh.put
                    rw [HNK.out, hxe] at this
                    exact this
                have HP := Lib.hid hP
                have HIF := Lib.hid hiff
                have HXE := Lib.hid hxe
                have hsb' : s.extract 10 (10 + n) = sb := hsb.symm
                have hsa' : s.extract 0 (14 + n) = sa := hsa.symm
                obtain ⟨⟨c0, c1, c2⟩, f0, f1, f2⟩ := HB3.out.all3
                clear hP hiff hxe hxo hsp hsb hsa eb ea hrl
                go_wp2_with (go_at_call 94; refine (HR2.out _).mono ?_; rintro e w4 ⟨rfl, rfl⟩)
                refine (HP.out _).mono ?_
                rintro e w5 ⟨rfl, k5⟩
                have HBX := Lib.hid (((HB3.out.set_ 2 (.string sb)).keeps k5 id : Blk w5 q 42 #[.int .i64 d.toNat, .int .i64 tt, .string sb]))
                have HRX := Lib.hid ((HR3.out.far (p := ⟨q, 2, none⟩) (by show w.heap.size ≠ q; omega) (.string sb)).keeps k5 id)
                have HKX := Lib.hid ((HK3.out.setNewC (g := q) (i := 2) (by omega) (.string sb)).trans k5)
                clear c0 c1 c2 f0 f1 f2 k5
                obtain ⟨c0, c1, c2⟩ := HBX.out.cells3
                obtain ⟨⟨z0, z1, z2⟩, g0, g1, g2⟩ := HRX.out.all3
                by_cases hq : sa = sp
                · have HW := Lib.hid (HIF.out.1 hq)
                  have hb : (sa.toList == sp.toList) = true := by rw [hq]; exact beq_self_eq_true _
                  clear hq
                  go_wp2_with fail
                  try simp only [Exit.inBlock, Exit.then]
                  refine ret_ctt rfl w.heap.size 42 _ _ rfl (HRX.out.setC3 _ _ _) Tryz.underlying42 rfl (by kernel_rfl) rfl ⟨?_, HKX.out.setC3 (by omega) _ _ _⟩
                  rw [HE.out]
                  refine .inl ⟨HW.out, ?_⟩
                  rw [HXE.out, HNK.out]
                  rfl
                · have HW := Lib.hid (show ¬ Whole l from fun h => hq (HIF.out.2 h))
                  have hb : (sa.toList == sp.toList) = false := by
                    rw [beq_eq_false_iff_ne, ByteArray.toList_eq, ByteArray.toList_eq]
                    exact fun h => hq (ba_ext h)
                  clear hq
                  go_wp2_with fail
                  try simp only [Exit.inBlock, Exit.then]
                  refine ret_ctt rfl w.heap.size 42 _ _ rfl (HRX.out.setC3 _ _ _) Tryz.underlying42 rfl (by kernel_rfl) rfl ⟨?_, HKX.out.setC3 (by omega) _ _ _⟩
                  exact HNO.out 4 (by decide) HW.out
          · have hw : ¬ Whole l := fun h => hk0 (by
              rw [HKC.out]
              have hok := h.ok
              have hk1 := h.kind
              have ha1 := h.at_
              rw [HDD.out] at hk1
              rw [← HTA.out] at ha1
              exact check_ok (e1 := 1) (e2 := 2) (e3 := 5) (x := ⟨(d.toNat : Int), (tt : Int), ⟨#[]⟩⟩) ⟨⟨by show (1 : Int) ≤ d.toNat; omega, by show (d.toNat : Int) ≤ 15; omega⟩, ⟨by show (0 : Int) ≤ tt; omega, by show (tt : Int) ≤ 1099511627776; omega⟩, by show (0 : Nat) ≤ 4096; omega⟩)
            have HW := Lib.hid hw
            have bk0 : (kc == 0) = false := by rw [beq_eq_false_iff_ne]; exact hk0
            obtain ⟨⟨z0, z1, z2⟩, g0, g1, g2⟩ := HR3.out.all3
            clear hw
            go_wp2_with fail
            try simp only [Exit.inBlock, Exit.then]
            refine ret_ctt rfl w.heap.size 42 _ _ rfl (HR3.out.setC3 _ _ _) Tryz.underlying42 rfl (by kernel_rfl) rfl ⟨?_, HK3.out.setC3 (by omega) _ _ _⟩
            exact HNO.out _ hk0 HW.out
    · have hw : ¬ Whole l := fun h => by have := h.w; rw [HC.out] at this; exact h87 (Option.some.inj this)
      have b87 : ((c.toNat : Int) == 87) = false := by rw [beq_eq_false_iff_ne]; intro e; exact h87 (UInt8.toNat_inj.1 (by show c.toNat = 87; omega))
      have HW := Lib.hid hw
      clear hw h87
      go_enter Tryz.func64, Tryz.ntmps64
      go_wp2_with fail
      try simp only [Exit.inBlock, Exit.then]
      refine ret_ctt rfl w.heap.size 42 _ _ rfl (Blk.new w _ _) Tryz.underlying42 rfl (by kernel_rfl) rfl ⟨?_, by (repeat (first | (with_reducible assumption) | (with_reducible exact Keeps.refl _ _) | refine Keeps.drew ?_ | refine Keeps.drewN ?_ _ | refine Keeps.setCell ?_ (by simp) _ | refine Keeps.setRow ?_ (by simp) _ | refine Keeps.alloc ?_ _))⟩
      exact HNO.out 3 (by decide) HW.out
end Go.Proofs.YtdbnalocmjkncaaGreat
