/-
  The document's store (wheelhouseref11): Crash.
-/
import Derived.Test.YtgpfmkkkpdpdfaaDoorDocE
import Derived.Test.YtgpfmkkkpdpdfaaDoorStoK
import Derived.Test.YtgpfmkkkpdpdfaaDoorFitA
namespace Go.Proofs.YtgpfmkkkpdpdfaaDoor
open Go.RowKit Go.Maps

theorem crashP_step {keep : List Int} {l : List SFile} {i : Nat} {f : SFile} (h : l[i]? = some f) : crashP keep (l.take (i + 1)) = crashP keep (l.take i) ++ [crashF keep i f] := by
  have hi := (List.getElem?_eq_some_iff.1 h).1
  have ht : l.take (i + 1) = l.take i ++ [f] := by rw [List.take_add_one, h]; rfl
  unfold crashP
  rw [ht, List.mapIdx_append]
  simp [List.length_take, Nat.min_eq_left (Nat.le_of_lt hi)]
theorem crash_one {keep : List Int} {i su mo m : Nat} {f : SFile} (h1 : su = f.sure) (h2 : mo = moreC keep i f) (h3 : m = su + mo) : crashF keep i f = ⟨f.name, f.data.extract 0 m, m⟩ := by
  unfold crashF
  rw [← h2, ← h1, ← h3]
set_option maxRecDepth 100000 in
set_option maxHeartbeats 1000000 in
theorem rcrash_any (w : World) (v : Value) (most bad : Int) (l : List SFile) (keep : List Int) (a : Option Addr) (n c : Nat) (h : DocL w v l) (hl : l.length ≤ 4294967296) (hsure : ∀ f ∈ l, f.sure ≤ f.data.size ∧ f.data.size ≤ 1073741824)
    (hk : SlAt intR 1 w a n keep) (hkb : ∀ k ∈ keep, -9223372036854775808 ≤ k ∧ k ≤ 9223372036854775807) (hn : n ≤ 4611686018427387904) :
    Calls Tryd.prog 72 #[docS v most bad, .slice a n c] w fun e w' => ∃ v', e = .returned (docS v' most 0) ∧ DocL w' v' (crashP keep l) ∧ Keeps (fun _ => False) w w' := by
  obtain ⟨a0, c0, rfl, hc⟩ := h.cells
  have HC := Lib.hid hc
  have HSU := Lib.hid hsure
  have HK := Lib.hid hk
  have HKB := Lib.hid hkb
  clear hc h hsure hk hkb
  have bx := ((Blk.new w 29 #[.slice a0 l.length c0, .int .i64 most, .int .i64 bad]).alloc (.cells #[.slice none 0 0, .int .i64 0, .int .i64 0] 29))
  have bz := (Blk.new2 w (.cells #[.slice a0 l.length c0, .int .i64 most, .int .i64 bad] 29) 29 #[.slice none 0 0, .int .i64 0, .int .i64 0])
  have HBX := Lib.hid bx
  have HBZ := Lib.hid bz
  clear bx bz
  unfold docS
  go_enter Tryd.func72, Tryd.ntmps72
  go_wp2_with fail
  go_loopw [5, 6] (fun u5 u6 wr => ∃ i : Nat, u6 = .int .i64 i ∧ i ≤ l.length ∧ Hid (OwnS docR 3 wr (w.heap.size + 2) 117 u5 (crashP keep (l.take i)) ∧ Keeps (fun _ => False) ((w.alloc (.cells #[.slice a0 l.length c0, .int .i64 most, .int .i64 bad] 29)).alloc (.cells #[.slice none 0 0, .int .i64 0, .int .i64 0] 29)) wr)) (fun _ u6 _ => l.length - (intOf u6).toNat)
  case atStart => exact ⟨0, rfl, Nat.zero_le _, Lib.hid ⟨OwnS.none_, Keeps.refl _ _⟩⟩
  case round =>
    obtain ⟨i, rfl, hi, HI⟩ := hrel
    rename World => wr
    by_cases hlt : i < l.length
    · obtain ⟨f, hf⟩ : ∃ f, l[i]? = some f := ⟨_, List.getElem?_eq_getElem hlt⟩
      obtain ⟨g, rfl, hg, hcc⟩ := HC.out i f hf
      obtain ⟨c0', c1', c2'⟩ := hcc wr (Keeps.trans (by (repeat (first | (with_reducible assumption) | (with_reducible exact Keeps.refl _ _) | refine Keeps.drew ?_ | refine Keeps.drewN ?_ _ | refine Keeps.setCell ?_ (by simp) _ | refine Keeps.setRow ?_ (by simp) _ | refine Keeps.alloc ?_ _))) HI.out.2)
      obtain ⟨x0, x1, x2⟩ := (HBX.out.keeps HI.out.2 id).cells3
      have hst := crashP_step (keep := keep) hf
      obtain ⟨hs1, hs2⟩ := HSU.out f (List.mem_of_getElem? hf)
      have HST := Lib.hid hst
      clear hf hcc hst
      obtain ⟨mo, hmo⟩ : ∃ mo, mo = moreC keep i f := ⟨_, rfl⟩
      have hmz : f.sure + mo ≤ f.data.size := by
        rw [hmo]; unfold moreC
        cases keep[i]? with
        | none => simpa using hs1
        | some k => simp only; omega
      have HMO := Lib.hid hmo
      obtain ⟨sz, hsz⟩ : ∃ sz, sz = f.data.size := ⟨_, rfl⟩
      obtain ⟨su, hsu⟩ : ∃ su, su = f.sure := ⟨_, rfl⟩
      have HSZ := Lib.hid hsz
      have HSUR := Lib.hid hsu
      rw [← hsz] at hmz hs1 hs2
      rw [← hsu] at hmz hs1 c2'
      obtain ⟨m, hm⟩ : ∃ m, m = su + mo := ⟨_, rfl⟩
      have hml : m ≤ sz := by omega
      have HM := Lib.hid hm
      clear hmo hsz hsu hm
      by_cases hin : i < n
      · obtain ⟨k, hkat⟩ : ∃ k, keep[i]? = some k := ⟨_, List.getElem?_eq_getElem (by rw [HK.out.1]; exact hin)⟩
        obtain ⟨kb, koff, rfl, hkl, hkc⟩ := HK.out.2 (by omega)
        have hkc2 := hkc i k 0 (.int .i64 k) hkat rfl
        rw [Nat.mul_one, Nat.add_zero] at hkc2
        obtain ⟨kl, kh⟩ := HKB.out k (List.mem_of_getElem? hkat)
        have hkw : Keeps (fun _ => False) w wr := Keeps.trans (by (repeat (first | (with_reducible assumption) | (with_reducible exact Keeps.refl _ _) | refine Keeps.drew ?_ | refine Keeps.drewN ?_ _ | refine Keeps.setCell ?_ (by simp) _ | refine Keeps.setRow ?_ (by simp) _ | refine Keeps.alloc ?_ _))) HI.out.2
        have hkc3 : (wr.alloc (.cells #[.string f.name, .string f.data, .int .i64 (su : Nat)] 117)).cell? ⟨kb, koff + i, none⟩ = some (.int .i64 k) := by rw [World.cell?_of_block (w := w) ((hkw.alloc _).block kb hkl id)]; exact hkc2
        have hkz := hkw.size
        obtain ⟨ys, hys⟩ : ∃ ys, ys = crashP keep (l.take i) := ⟨_, rfl⟩
        have HYS := Lib.hid hys
        have hown := HI.out.1
        have hyl : ys.length ≤ 17179869184 := by rw [hys, crash_len, List.length_take]; omega
        rw [← hys] at hown
        have HOW := Lib.hid hown
        have HKI := Lib.hid HI.out.2
        have hsz2 := HI.out.2.size
        simp at hsz2
        have HYL := Lib.hid hyl
        clear hkc hkc2 hys hown hkw hyl HI
        by_cases hk0 : 0 < k
        · have hme : (mo : Int) = min k ((sz : Int) - su) := by
            rw [HMO.out]; unfold moreC; rw [hkat, ← HSZ.out, ← HSUR.out]
            simp only
            omega
          have HW1 := Lib.hid (show wrap64 ((f.data.size : Int) - (su : Int)) = (sz : Int) - su by rw [← HSZ.out]; exact IntWalk.wrap64_in _ (by omega))
          have HW2 := Lib.hid (show wrap64 ((su : Int) + min k ((sz : Int) - su)) = (m : Int) by have := HM.out; rw [IntWalk.wrap64_in _ (by omega)]; omega)
          clear hkat hme
          go_wp2_with fail
          go_region
          rw [HW1.out, HW2.out]
          go_wp2_with fail
          have hext : m ≤ f.data.size := by rw [← HSZ.out]; exact hml
          go_region_law ((refine step_append_st docR 3 docR_len (by decide) rfl _ _ _ rfl (w.heap.size + 2) 117 (.agg #[.string ⟨#[]⟩, .string ⟨#[]⟩, .int .i64 0]) 40 Tryd.underlying27 (by kernel_rfl) rfl (by omega) _ ys rfl (by exact OwnS.keeps (S := fun _ => False) HOW.out (by (repeat (first | (with_reducible assumption) | (with_reducible exact Keeps.refl _ _) | refine Keeps.drew ?_ | refine Keeps.drewN ?_ _ | refine Keeps.setCell ?_ (by simp) _ | refine Keeps.setRow ?_ (by simp) _ | refine Keeps.alloc ?_ _))) (fun _ _ _ _ => id)) (wr.heap.size + 1) 1 ⟨f.name, f.data.extract 0 m, m⟩ rfl (by first | exact Blk.new2 _ _ _ _ | exact (Blk.new2 _ _ _ _).drew) (docR_one _) HYL.out (by simp; omega) ?_; intro g7 cap7 w7 O7 k7 hat7; have kk7 := Lib.hid (Keeps.and_ (S := fun i => w.heap.size + 2 ≤ i) (a := wr) (by (repeat (first | (with_reducible assumption) | (with_reducible exact Keeps.refl _ _) | refine Keeps.drew ?_ | refine Keeps.drewN ?_ _ | refine Keeps.setCell ?_ (by simp) _ | refine Keeps.setRow ?_ (by simp) _ | refine Keeps.alloc ?_ _))) k7 (fun i hi h => (World.ownsRow.lt HOW.out i h).1)); have HO7 := Lib.hid O7; clear k7 O7 hat7))
          all_goals
            go_wp2_with fail
            go_roundw
            case rel => exact ⟨i + 1, by go_num, by omega, Lib.hid ⟨by rw [HST.out, crash_one HSUR.out HMO.out HM.out, ← HYS.out]; exact HO7.out, HKI.out.and_ kk7.out (fun i hi e => by simp at hi; omega)⟩⟩
            case measure => simp [intOf]; omega
        · have hm0 : mo = 0 := by rw [HMO.out]; unfold moreC; rw [hkat]; simp only; omega
          obtain rfl : m = su := by have := HM.out; omega
          clear hkat hm0
          go_wp2_with fail
          have hext : m ≤ f.data.size := by rw [← HSZ.out]; exact hml
          go_region_law ((refine step_append_st docR 3 docR_len (by decide) rfl _ _ _ rfl (w.heap.size + 2) 117 (.agg #[.string ⟨#[]⟩, .string ⟨#[]⟩, .int .i64 0]) 40 Tryd.underlying27 (by kernel_rfl) rfl (by omega) _ ys rfl (by exact OwnS.keeps (S := fun _ => False) HOW.out (by (repeat (first | (with_reducible assumption) | (with_reducible exact Keeps.refl _ _) | refine Keeps.drew ?_ | refine Keeps.drewN ?_ _ | refine Keeps.setCell ?_ (by simp) _ | refine Keeps.setRow ?_ (by simp) _ | refine Keeps.alloc ?_ _))) (fun _ _ _ _ => id)) (wr.heap.size + 1) 1 ⟨f.name, f.data.extract 0 m, m⟩ rfl (by first | exact Blk.new2 _ _ _ _ | exact (Blk.new2 _ _ _ _).drew) (docR_one _) HYL.out (by simp; omega) ?_; intro g7 cap7 w7 O7 k7 hat7; have kk7 := Lib.hid (Keeps.and_ (S := fun i => w.heap.size + 2 ≤ i) (a := wr) (by (repeat (first | (with_reducible assumption) | (with_reducible exact Keeps.refl _ _) | refine Keeps.drew ?_ | refine Keeps.drewN ?_ _ | refine Keeps.setCell ?_ (by simp) _ | refine Keeps.setRow ?_ (by simp) _ | refine Keeps.alloc ?_ _))) k7 (fun i hi h => (World.ownsRow.lt HOW.out i h).1)); have HO7 := Lib.hid O7; clear k7 O7 hat7))
          all_goals
            go_wp2_with fail
            go_roundw
            case rel => exact ⟨i + 1, by go_num, by omega, Lib.hid ⟨by rw [HST.out, crash_one HSUR.out HMO.out HM.out, ← HYS.out]; exact HO7.out, HKI.out.and_ kk7.out (fun i hi e => by simp at hi; omega)⟩⟩
            case measure => simp [intOf]; omega
      · have hm0 : mo = 0 := by rw [HMO.out]; unfold moreC; rw [List.getElem?_eq_none (by rw [HK.out.1]; omega)]
        obtain rfl : m = su := by have := HM.out; omega
        have hkw : Keeps (fun _ => False) w wr := Keeps.trans (by (repeat (first | (with_reducible assumption) | (with_reducible exact Keeps.refl _ _) | refine Keeps.drew ?_ | refine Keeps.drewN ?_ _ | refine Keeps.setCell ?_ (by simp) _ | refine Keeps.setRow ?_ (by simp) _ | refine Keeps.alloc ?_ _))) HI.out.2
        have hkz := hkw.size
        obtain ⟨ys, hys⟩ : ∃ ys, ys = crashP keep (l.take i) := ⟨_, rfl⟩
        have HYS := Lib.hid hys
        have hown := HI.out.1
        have hyl : ys.length ≤ 17179869184 := by rw [hys, crash_len, List.length_take]; omega
        rw [← hys] at hown
        have HOW := Lib.hid hown
        have HKI := Lib.hid HI.out.2
        have hsz2 := HI.out.2.size
        simp at hsz2
        have HYL := Lib.hid hyl
        clear hys hown hkw hyl HI hm0
        go_wp2_with fail
        have hext : m ≤ f.data.size := by rw [← HSZ.out]; exact hml
        go_region_law ((refine step_append_st docR 3 docR_len (by decide) rfl _ _ _ rfl (w.heap.size + 2) 117 (.agg #[.string ⟨#[]⟩, .string ⟨#[]⟩, .int .i64 0]) 40 Tryd.underlying27 (by kernel_rfl) rfl (by omega) _ ys rfl (by exact OwnS.keeps (S := fun _ => False) HOW.out (by (repeat (first | (with_reducible assumption) | (with_reducible exact Keeps.refl _ _) | refine Keeps.drew ?_ | refine Keeps.drewN ?_ _ | refine Keeps.setCell ?_ (by simp) _ | refine Keeps.setRow ?_ (by simp) _ | refine Keeps.alloc ?_ _))) (fun _ _ _ _ => id)) (wr.heap.size + 1) 1 ⟨f.name, f.data.extract 0 m, m⟩ rfl (by first | exact Blk.new2 _ _ _ _ | exact (Blk.new2 _ _ _ _).drew) (docR_one _) HYL.out (by simp; omega) ?_; intro g7 cap7 w7 O7 k7 hat7; have kk7 := Lib.hid (Keeps.and_ (S := fun i => w.heap.size + 2 ≤ i) (a := wr) (by (repeat (first | (with_reducible assumption) | (with_reducible exact Keeps.refl _ _) | refine Keeps.drew ?_ | refine Keeps.drewN ?_ _ | refine Keeps.setCell ?_ (by simp) _ | refine Keeps.setRow ?_ (by simp) _ | refine Keeps.alloc ?_ _))) k7 (fun i hi h => (World.ownsRow.lt HOW.out i h).1)); have HO7 := Lib.hid O7; clear k7 O7 hat7))
        all_goals
          go_wp2_with fail
          go_roundw
          case rel => exact ⟨i + 1, by go_num, by omega, Lib.hid ⟨by rw [HST.out, crash_one HSUR.out HMO.out HM.out, ← HYS.out]; exact HO7.out, HKI.out.and_ kk7.out (fun i hi e => by simp at hi; omega)⟩⟩
          case measure => simp [intOf]; omega
    · obtain rfl : i = l.length := by omega
      have hh := HI.out
      rw [List.take_length] at hh
      have HH := Lib.hid hh
      obtain ⟨x0, x1, x2⟩ := (HBX.out.keeps HI.out.2 id).all3
      obtain ⟨z0, z1, z2⟩ := (HBZ.out.keeps HI.out.2 id).all3
      have hxx := (HBX.out.keeps HI.out.2 id)
      have hzz := (HBZ.out.keeps HI.out.2 id)
      have hsz2 := HI.out.2.size
      simp at hsz2
      obtain ⟨b5, q5, hu5⟩ := HH.out.1.sl
      subst hu5
      have HXX := Lib.hid hxx
      have HZZ := Lib.hid hzz
      clear hh HI hxx hzz
      go_wp2_with fail
      refine ret_cell rfl (w.heap.size + 1) 29 _ _ rfl (((HZZ.out.far (by simp) _).far (by simp) _).set3 _ _ _) Tryd.underlying29 rfl (by kernel_rfl) rfl ?_
      refine ⟨_, rfl, own_doc HH.out.1 ((((Keeps.refl _ _).setCell (fun _ => by simp) _).setCell (fun _ => by simp) _).old3 (by first | omega | (simp; omega)) _ _ _), ?_⟩
      exact Keeps.set3 (Keeps.setNew (Keeps.setNew (Keeps.trans (by (repeat (first | (with_reducible assumption) | (with_reducible exact Keeps.refl _ _) | refine Keeps.drew ?_ | refine Keeps.drewN ?_ _ | refine Keeps.setCell ?_ (by simp) _ | refine Keeps.setRow ?_ (by simp) _ | refine Keeps.alloc ?_ _))) HH.out.2) (Nat.le_refl _) _) (Nat.le_refl _) _) (by omega) _ _ _
end Go.Proofs.YtgpfmkkkpdpdfaaDoor
