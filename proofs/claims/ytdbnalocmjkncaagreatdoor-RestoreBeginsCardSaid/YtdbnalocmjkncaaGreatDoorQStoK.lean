/-
  store: a crash, plainly and by walk.
-/
import Derived.Test.YtdbnalocmjkncaaGreatDoorQStoN
import Derived.Test.YtdbnalocmjkncaaGreatDoorQGround2
namespace Go.Proofs.YtdbnalocmjkncaaGreatDoor
open Go.RowKit Go.Maps

def intR (k : Int) : List Value := [.int .i64 k]
/-- how many more bytes of a file stay -/
def moreC (keep : List Int) (j : Nat) (f : SFile) : Nat := match keep[j]? with
  | some k => (min k ((f.data.size : Int) - f.sure)).toNat
  | none => 0
def crashF (keep : List Int) (j : Nat) (f : SFile) : SFile := ⟨f.name, f.data.extract 0 (f.sure + moreC keep j f), f.sure + moreC keep j f⟩
def crashUp (keep : List Int) (l : List SFile) (i : Nat) : List SFile := l.mapIdx fun j f => if j < i then crashF keep j f else f
def crashP (keep : List Int) (l : List SFile) : List SFile := l.mapIdx (crashF keep)
theorem crashUp_zero (keep : List Int) (l : List SFile) : crashUp keep l 0 = l := by
  apply List.ext_getElem?
  intro j
  unfold crashUp
  rw [List.getElem?_mapIdx]
  cases l[j]? <;> simp
theorem crashUp_end (keep : List Int) (l : List SFile) {i : Nat} (h : l.length ≤ i) : crashUp keep l i = crashP keep l := by
  apply List.ext_getElem?
  intro j
  unfold crashUp crashP
  rw [List.getElem?_mapIdx, List.getElem?_mapIdx]
  rcases Nat.lt_or_ge j l.length with hj | hj
  · rw [List.getElem?_eq_getElem hj]; simp [show j < i by omega]
  · rw [List.getElem?_eq_none hj]; rfl
theorem crashUp_at {keep : List Int} {l : List SFile} {i : Nat} : (crashUp keep l i)[i]? = l[i]? := by
  unfold crashUp
  rw [List.getElem?_mapIdx]
  cases l[i]? <;> simp
theorem crashUp_step {keep : List Int} {l : List SFile} {i : Nat} {f : SFile} (h : l[i]? = some f) : crashUp keep l (i + 1) = (crashUp keep l i).set i (crashF keep i f) := by
  have hi := (List.getElem?_eq_some_iff.1 h).1
  apply List.ext_getElem?
  intro j
  unfold crashUp
  rw [List.getElem?_mapIdx, List.getElem?_set, List.getElem?_mapIdx]
  by_cases hj : i = j
  · subst hj
    rw [if_pos rfl, if_pos (by simpa using hi), h]; simp
  · rw [if_neg hj]
    cases l[j]? with
    | none => rfl
    | some g =>
      simp only [Option.map_some]
      by_cases h1 : j < i
      · rw [if_pos h1, if_pos (by omega)]
      · rw [if_neg h1, if_neg (by omega)]

section
variable {w w' : World} {F S : Nat → Prop} {s M bad : Nat} {most : Int} {L : List SRep}
theorem swap_set {r r0 : SRep} (hr : Rise SRep.nm L) {i : Nat} (h0 : L[i]? = some r0) (hn : r.f.name = r0.f.name) : swapR r L = L.set i r := by
  apply List.ext_getElem?
  intro j
  unfold swapR
  rw [List.getElem?_map, List.getElem?_set]
  have hi := (List.getElem?_eq_some_iff.1 h0).1
  by_cases hj : i = j
  · subst hj
    rw [if_pos rfl, if_pos hi, h0]
    simp only [Option.map_some]
    rw [if_pos hn.symm]
  · rw [if_neg hj]
    cases ha : L[j]? with
    | none => rfl
    | some a =>
      simp only [Option.map_some]
      rw [if_neg]
      intro e
      have h1 := rise_inj hr (List.mem_of_getElem? ha) (List.mem_of_getElem? h0) (e.trans hn)
      subst h1
      have hp := hr
      unfold Rise at hp
      rw [List.pairwise_iff_getElem] at hp
      have hj2 := (List.getElem?_eq_some_iff.1 ha)
      have hi2 := (List.getElem?_eq_some_iff.1 h0)
      rcases Nat.lt_or_ge i j with hlt | hge
      · have := hp i j hi hj2.1 hlt
        rw [hi2.2, hj2.2, nmLt_irrefl] at this
        cases this
      · have := hp j i hj2.1 hi (by omega)
        rw [hi2.2, hj2.2, nmLt_irrefl] at this
        cases this
/-- a file cut to its first n bytes, all of them sure -/
theorem StoreAt.cutTo {r : SRep} (h : StoreAt w F s most bad M L) {i : Nat} (hi : L[i]? = some r) {a : Option Addr} {m c n : Nat} (hv : r.v = .slice a m c) (hn : n ≤ r.f.data.size) (x : Int) (hx : x = n) {w1 : World} (k1 : Keeps (fun _ => False) (w.setCell ⟨r.p, 1, none⟩ (.int .i64 x)) w1) :
    StoreAt (w1.setCell ⟨r.p, 0, none⟩ (.slice a n n)) F s most bad M (L.set i ⟨⟨r.f.name, r.f.data.extract 0 n, n⟩, r.p, .slice a n n⟩) ∧ Keeps (fun i => i = r.p) w (w1.setCell ⟨r.p, 0, none⟩ (.slice a n n)) := by
  have hr := List.mem_of_getElem? hi
  subst hx
  have h1 := h.setSure hr n n rfl
  have hf := h.each r hr
  have hs := h1.1.keeps k1 (fun _ _ => id)
  have e1 : swapR ⟨⟨r.f.name, r.f.data, n⟩, r.p, r.v⟩ L = L.set i ⟨⟨r.f.name, r.f.data, n⟩, r.p, r.v⟩ := swap_set h.rise hi rfl
  rw [e1] at hs
  have hlt := (List.getElem?_eq_some_iff.1 hi).1
  have hi1 : (L.set i ⟨⟨r.f.name, r.f.data, n⟩, r.p, r.v⟩)[i]? = some ⟨⟨r.f.name, r.f.data, n⟩, r.p, r.v⟩ := by rw [List.getElem?_set, if_pos rfl, if_pos hlt]
  have hf1 := hs.each _ (List.mem_of_getElem? hi1)
  have k2 : Keeps (fun i => i = r.p) w1 (w1.setCell ⟨r.p, 0, none⟩ (.slice a n n)) := (Keeps.refl (fun i => i = r.p) w1).setCell (p := ⟨r.p, 0, none⟩) (fun _ => rfl) _
  have hown : OwnQ w1 5 (.slice a m c) (u8Vs r.f.data.data.toList) := by rw [← hv]; exact hf1.own
  have hcut := hown.cut (n := n) (by rw [u8Vs_size]; exact hn)
  have hd : (u8Vs r.f.data.data.toList).take n = u8Vs (r.f.data.extract 0 n).data.toList := by
    rw [← u8Vs_take]
    congr 1
    simp [List.extract_eq_take_drop]
  rw [hd] at hcut
  have hrow : ∀ j, rowB (.slice a n n) = some j → rowB r.v = some j := fun j hj => by
    rcases hcut.2 with e | e
    · rw [e] at hj; cases hj
    · rw [hv, ← e]; exact hj
  have hb : ∀ j, j = r.p → (∃ cs, Blk w1 j 5 cs) → False := fun j e ⟨_, hb⟩ => Blk.ne_ hb hf1.blk (by decide) e
  have hsw := hs.swap (r := ⟨⟨r.f.name, r.f.data.extract 0 n, n⟩, r.p, .slice a n n⟩) (List.mem_of_getElem? hi1) rfl rfl (k2.mono fun _ _ e => .inl e) (fun _ h => h) ⟨hf1.blk.set_ 0 _, hcut.1.keeps k2 (fun j _ hbb e => hb j e hbb), hf.fp, fun j hj => hf.fr j (hrow j hj)⟩ (fun j hj => .inl (hrow j hj))
  rw [swap_set (r := ⟨⟨r.f.name, r.f.data.extract 0 n, n⟩, r.p, .slice a n n⟩) hs.rise hi1 rfl, List.set_set] at hsw
  exact ⟨hsw, (h1.2.and_ k1 (fun _ _ h => h.elim)).trans k2⟩

theorem own_cell {w : World} {B : Nat} {e : TypeId} {v : Value} {vs : List Value} (h : OwnL w B e v vs) {j n : Nat} {u : Value} (hu : vs[j]? = some u) (hn : vs.length = n) :
    ∃ g c, v = .slice (some ⟨g, 0, none⟩) n c ∧ w.cell? ⟨g, j, none⟩ = some u ∧ B ≤ g ∧ g < w.heap.size := by
  subst hn
  obtain ⟨a, c, hv, h1, h2, h3, h4⟩ := h.shape
  obtain ⟨g, hg, hB, hlt⟩ := h3 (by have := (List.getElem?_eq_some_iff.1 hu).1; omega)
  subst hg
  exact ⟨g, c, hv, (h4 g rfl j u hu).1, hB, hlt⟩
theorem ownQ_cap {w : World} {e : TypeId} {a : Option Addr} {n c : Nat} {vs : List Value} (h : OwnQ w e (.slice a n c) vs) : n ≤ c := by
  rcases h with ⟨_, b, hv⟩ | ⟨g, off, cap, cur, hv, hb, h1, _⟩
  · injection hv with _ e1 e2; omega
  · injection hv with _ e1 e2; omega
theorem StT.lt {i : Nat} (h : StT w i) : i < w.heap.size := by
  rcases h with ⟨_, h⟩ | ⟨_, h⟩ | ⟨_, h⟩ | ⟨es, c, h⟩
  · exact h.lt
  · exact h.lt
  · exact h.lt
  · exact (Array.getElem?_eq_some_iff.1 h).1
theorem getElem_map_f {L : List SRep} {i : Nat} {r : SRep} (h : L[i]? = some r) : (L.map SRep.f)[i]? = some r.f := by rw [List.getElem?_map, h]; rfl
theorem namesV_at {L : List SRep} {i : Nat} {r : SRep} (h : L[i]? = some r) : (namesV L)[i]? = some (.string r.f.name) := by unfold namesV; rw [List.getElem?_map, List.getElem?_map, h]; rfl
theorem crash_names {L' : List SRep} {keep : List Int} {i : Nat} (h : L'.map SRep.f = crashUp keep (L.map SRep.f) i) : namesV L' = namesV L := by
  have e : ∀ L : List SRep, namesV L = (L.map SRep.f).map fun f => Value.string f.name := fun L => by unfold namesV; rw [List.map_map, List.map_map]; rfl
  rw [e, e, h]
  apply List.ext_getElem?
  intro j
  unfold crashUp
  rw [List.getElem?_map, List.getElem?_map, List.getElem?_mapIdx]
  cases (L.map SRep.f)[j]? with
  | none => rfl
  | some f =>
    simp only [Option.map_some]
    by_cases hj : j < i
    · rw [if_pos hj]; rfl
    · rw [if_neg hj]

set_option maxRecDepth 100000 in
set_option maxHeartbeats 1000000 in
theorem crash_any (h : StoreAt w F s most bad M L) (hL : L.length ≤ 4294967296) (hsure : ∀ r ∈ L, r.f.sure ≤ r.f.data.size ∧ r.f.data.size ≤ 4294967296 ∧ r.f.name.size ≤ maxLen) (keep : List Int) (a : Option Addr) (n c : Nat) (hk : ∀ W, Keeps F w W → SlAt intR 1 W a n keep) (hkb : ∀ k ∈ keep, -9223372036854775808 ≤ k ∧ k ≤ 9223372036854775807) (hn : n ≤ 4611686018427387904) :
    Calls Tryz.prog 39 #[.pointer (some ⟨s, 0, none⟩), .slice a n c] w fun e w' => e = .returned (.tuple #[]) ∧ (∃ L', StoreAt w' F s most 0 M L' ∧ L'.map SRep.f = crashP keep (L.map SRep.f)) ∧ Keeps F w w' := by
  have HN := Lib.hid (names_any h hL)
  have H := Lib.hid h.shrink
  have HSU := Lib.hid hsure
  have HK := Lib.hid hk
  have HKB := Lib.hid hkb
  clear h hsure hk hkb
  go_enter Tryz.func39, Tryz.ntmps39
  go_wp2_with fail
  refine HN.out.mono ?_
  rintro e w1 ⟨⟨v, rfl, hO⟩, k1⟩
  obtain ⟨av, cv, rfl⟩ := hO.sl'
  have hnl : (namesV L).length = L.length := by simp [namesV]
  rw [hnl] at hO ⊢
  have HO := Lib.hid hO
  have HK1 := Lib.hid k1
  have HNL := Lib.hid hnl
  clear hO k1 hnl
  go_wp2_with fail
  go_loopw [11] (fun u11 wr => ∃ i : Nat, u11 = .int .i64 i ∧ Hid (i ≤ L.length ∧ (∃ L', StoreAt wr (fun i => F i ∧ StT w i) s most bad M L' ∧ L'.map SRep.f = crashUp keep (L.map SRep.f) i) ∧ Keeps (fun i => F i ∧ StT w i) w1 wr)) (fun u11 _ => L.length - (intOf u11).toNat)
  case atStart => exact ⟨0, rfl, Lib.hid ⟨Nat.zero_le _, ⟨L, H.out.keeps HK1.out (fun _ _ => id), (crashUp_zero _ _).symm⟩, Keeps.refl _ _⟩⟩
  case round =>
    obtain ⟨i, rfl, HR⟩ := hrel
    rename World => w2
    obtain ⟨hi0, ⟨L', hs, hl⟩, k2⟩ := HR.out
    have hlen : L'.length = L.length := by
      have := congrArg List.length hl
      simpa [crashUp] using this
    by_cases hi : i < L.length
    · obtain ⟨r0, hr0⟩ : ∃ r0, L[i]? = some r0 := ⟨_, List.getElem?_eq_getElem hi⟩
      obtain ⟨r, hr⟩ : ∃ r, L'[i]? = some r := ⟨_, List.getElem?_eq_getElem (by rw [hlen]; exact hi)⟩
      have hrf : r.f = r0.f := by
        have e1 := getElem_map_f hr
        rw [hl, crashUp_at, getElem_map_f hr0] at e1
        exact (Option.some.inj e1).symm
      have hrm := List.mem_of_getElem? hr
      obtain ⟨b1, b2, b3⟩ := HSU.out r0 (List.mem_of_getElem? hr0)
      rw [← hrf] at b1 b2 b3
      -- the name's cell
      obtain ⟨gv, qv, hvv, hcn, hBv, hlv⟩ := own_cell HO.out (namesV_at hr0) HNL.out
      injection hvv with e1 e2 e3
      subst e1 e3
      have hcn2 : w2.cell? ⟨gv, i, none⟩ = some (.string r.f.name) := by
        rw [hrf, World.cell?_of_block (w := w1) (k2.block gv hlv (fun e => by have := e.2.lt; omega))]
        exact hcn
      have hlk := hs.look1 hrm b3
      obtain ⟨c0, c1, c2⟩ := hs.top.cells3
      have hf := hs.each r hrm
      obtain ⟨ra, rc, hv⟩ := hf.own.sl
      rw [u8Vs_size] at hv
      have hcap : r.f.data.size ≤ rc := ownQ_cap (hv ▸ hf.own)
      have f0 := hf.blk.cell 0
      have f1 := hf.blk.cell 1
      have z0 := hf.blk.frozen 0
      have z1 := hf.blk.frozen 1
      simp only [List.getElem?_toArray, List.getElem?_cons_zero, List.getElem?_cons_succ] at f0 f1
      rw [hv] at f0
      have hst := crashUp_step (keep := keep) (getElem_map_f hr0)
      rw [← hl, ← hrf] at hst
      have hkk := HK.out w2 ((HK1.out.none_ : Keeps F w w1).and_ k2 fun _ _ h => h.1)
      obtain ⟨mo, hmo⟩ : ∃ mo, mo = moreC keep i r.f := ⟨_, rfl⟩
      have hmz : r.f.sure + mo ≤ r.f.data.size := by
        rw [hmo]; unfold moreC
        cases keep[i]? with
        | none => simpa using b1
        | some k => simp only; omega
      have HV := Lib.hid hv
      have HS := Lib.hid hs
      have HRI := Lib.hid hr
      have HST := Lib.hid hst
      have HK2 := Lib.hid k2
      have HMO := Lib.hid hmo
      have HHK := Lib.hid hkk
      obtain ⟨sz, hsz⟩ : ∃ sz, sz = r.f.data.size := ⟨_, rfl⟩
      obtain ⟨su, hsu⟩ : ∃ su, su = r.f.sure := ⟨_, rfl⟩
      rw [← hsz] at hmz f0 b1 b2 hcap
      rw [← hsu] at hmz f1 b1
      have HSZ := Lib.hid hsz
      have HSU2 := Lib.hid hsu
      clear hs hl hf hv hcn hst hr hr0 hrf hmo hkk k2 hsz hsu e2
      by_cases hin : i < n
      · obtain ⟨k, hkat⟩ : ∃ k, keep[i]? = some k := ⟨_, List.getElem?_eq_getElem (by rw [HHK.out.1]; exact hin)⟩
        obtain ⟨kb, koff, rfl, -, hkc⟩ := HHK.out.2 (by omega)
        have hkc2 := hkc i k 0 (.int .i64 k) hkat rfl
        rw [Nat.mul_one, Nat.add_zero] at hkc2
        obtain ⟨kl, kh⟩ := HKB.out k (List.mem_of_getElem? hkat)
        have hme : (mo : Int) = max 0 (min k ((sz : Int) - su)) := by
          rw [HMO.out]; unfold moreC; rw [hkat, ← HSZ.out, ← HSU2.out]
          simp only
          omega
        have HME := Lib.hid hme
        clear hkc hkat hme
        go_wp2_with fail
        go_region
        rw [← HME.out]
        go_wp2_with fail
        go_region
        go_wp2_with fail
        go_roundw
        case rel =>
          have hc := HS.out.cutTo HRI.out HV.out (n := su + mo) (by rw [← HSZ.out]; omega) ((su : Int) + mo) (by omega) (w1 := w2.setCell ⟨r.p, 1, none⟩ (.int .i64 ((su : Int) + mo))) (Keeps.refl _ _)
          refine ⟨i + 1, by go_num, Lib.hid ⟨by omega, ⟨_, hc.1.keeps (S := fun _ => False) ((Keeps.refl _ _).drew.drew) (fun _ _ => id), ?_⟩, ?_⟩⟩
          · rw [HST.out, List.map_set]
            congr 1
            unfold crashF
            rw [← HMO.out, ← HSU2.out]
          · exact (HK2.out.trans (hc.2.mono fun j _ e => by rw [e]; exact (HS.out.each r (List.mem_of_getElem? HRI.out)).fp)).trans (Keeps.none_ ((Keeps.refl _ _).drew.drew))
        case measure => simp [intOf]; omega
      · have hm0 : mo = 0 := by rw [HMO.out]; unfold moreC; rw [List.getElem?_eq_none (by rw [HHK.out.1]; omega)]
        subst hm0
        rw [Nat.add_zero] at hmz
        go_wp2_with fail
        go_region
        go_wp2_with fail
        go_roundw
        case rel =>
          have hc := HS.out.cutTo HRI.out HV.out (n := su) (by rw [← HSZ.out]; omega) (su : Int) (by omega) (w1 := w2.setCell ⟨r.p, 1, none⟩ (.int .i64 (su : Int))) (Keeps.refl _ _)
          refine ⟨i + 1, by go_num, Lib.hid ⟨by omega, ⟨_, hc.1.keeps (S := fun _ => False) ((Keeps.refl _ _).drew) (fun _ _ => id), ?_⟩, ?_⟩⟩
          · rw [HST.out, List.map_set]
            congr 1
            unfold crashF
            rw [← HMO.out, ← HSU2.out, Nat.add_zero]
          · exact (HK2.out.trans (hc.2.mono fun j _ e => by rw [e]; exact (HS.out.each r (List.mem_of_getElem? HRI.out)).fp)).trans (Keeps.none_ ((Keeps.refl _ _).drew))
        case measure => simp [intOf]; omega
    · have hie : L.length ≤ i := by omega
      have hend := crashUp_end keep (L.map SRep.f) (i := i) (by rw [List.length_map]; exact hie)
      rw [hend] at hl
      have HS := Lib.hid hs
      have HL := Lib.hid hl
      have HK2 := Lib.hid k2
      have HFL := Lib.hid (fail_any hs 0)
      clear hs hl hend k2
      go_wp2_with fail
      refine HFL.out.mono ?_
      rintro e w3 ⟨rfl, hs3, k3⟩
      go_wp2_with fail
      refine bodyPost_end (results_none rfl _ _ _) rfl ⟨rfl, ⟨L', hs3.mono fun _ h => h.1, HL.out⟩, ?_⟩
      exact ((HK1.out.none_ : Keeps F w w1).and_ HK2.out fun _ _ h => h.1).trans (k3.mono fun j _ e => by rw [e]; exact HS.out.fs.1)
end
end Go.Proofs.YtdbnalocmjkncaaGreatDoor
