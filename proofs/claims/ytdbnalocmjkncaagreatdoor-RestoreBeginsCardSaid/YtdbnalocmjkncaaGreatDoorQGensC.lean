/-
  gens: Turn, over a store.
-/
import Derived.Test.YtdbnalocmjkncaaGreatDoorQGensB
namespace Go.Proofs.YtdbnalocmjkncaaGreatDoor
open Go.RowKit Go.Maps

section
variable [Res] {w0 w w' : World} {s M bad n : Nat} {most : Int} {L : List SRep}
theorem Sto.le_n (h : Sto w0 w s M most bad L n) {m : Nat} (hn : n ≤ m) (hm : m ≤ 1048576) : Sto w0 w s M most bad L m := { h with len := Nat.le_trans h.len hn, hn := hm }
omit [Res] in
theorem wrap_err (w : World) {c : Int} {v : Value} (h : ErrV w c v) (hc : c ≠ 0) (x : ByteArray) : Calls Tryz.prog 86 #[v, .int .i64 0, .string x] w fun e w' => (∃ v', e = .returned v' ∧ ErrV w' c v') ∧ Keeps (fun _ => False) w w' := by
  rcases h with ⟨h, _⟩ | ⟨_, l, hl⟩
  · exact absurd h hc
  · obtain ⟨ty, x', rfl⟩ := hl.form
    refine (wrap_flt w ty x' 0 x).mono ?_
    rintro e w' ⟨rfl, hw⟩
    have k : Keeps (fun _ => False) w w' := by rw [hw]; exact (Keeps.refl _ _).alloc _
    have hb : Blk w' w.heap.size tFault #[.int .i64 0, .string x, .iface ty x'] := by rw [hw]; exact Blk.new _ _ _
    exact ⟨⟨_, rfl, .inr ⟨hc, _, .layer _ _ _ _ _ _ hb (hl.keeps k (fun _ _ _ => id))⟩⟩, k⟩
omit [Res] in
theorem skip_err (w : World) {c : Int} {v : Value} (h : ErrV w c v) (hc : c ≠ 0) (h7 : c ≠ 7) : Calls Tryz.prog 88 #[v] w fun e w' => e = .returned (.bool false) ∧ Keeps (fun _ => False) w w' := by
  rcases h with ⟨h, _⟩ | ⟨_, l, hl⟩
  · exact absurd h hc
  · have hh := has_chain w l c 7 v hl
    rw [decide_eq_false (fun e => h7 e.2)] at hh
    have HH := Lib.hid hh
    clear hh
    go_enter Tryz.func88, Tryz.ntmps88
    go_wp2_with fail
    refine HH.out.mono ?_
    rintro e w2 ⟨rfl, k⟩
    have HK := Lib.hid k
    clear k
    go_wp2_with fail
    go_ret
    exact ⟨rfl, HK.out⟩
omit [Res] in
theorem rename_ne7 {bad : Nat} {l : List SFile} {nm nt : ByteArray} {f : SFile} (hg : getG SFile.name nm l = some f) : (renameP bad l nm nt).1 ≠ 7 := by
  unfold renameP
  by_cases h0 : (beginC bad nm).1 ≠ 0
  · rw [if_pos h0]
    unfold beginC
    split
    · split <;> simp
    · simp
  · rw [if_neg h0]
    by_cases h1 : namedP nt = false
    · rw [if_pos h1]; simp
    · rw [if_neg h1, hg]; simp
omit [Res] in
theorem turnL_cons_none {base : ByteArray} {j bad : Nat} {l : List SFile} (hg : genF l base j = none) : turnL base (downs (j + 1)) bad l = turnL base (downs j) bad l := by
  rw [downs_succ]
  show (match genF l base j with | none => _ | some _ => _) = _
  rw [hg]
omit [Res] in
theorem turnL_cons_some {base : ByteArray} {j bad : Nat} {l : List SFile} {f : SFile} {x : Int × Nat × List SFile} (hg : genF l base j = some f) (hx : x = renameP bad l (genName base j) (genName base (j + 1 : Nat))) : turnL base (downs (j + 1)) bad l = if x.1 ≠ 0 then x else turnL base (downs j) x.2.1 x.2.2 := by
  rw [downs_succ, hx]
  show (match genF l base j with | none => _ | some _ => _) = _
  rw [hg]
/-- behind a turn -/
def Turned (w0 w : World) (s M : Nat) (most : Int) (n : Nat) (x : Int × Nat × List SFile) (e : Ending) (w' : World) : Prop :=
  ∃ v L, e = .returned v ∧ ErrV w' x.1 v ∧ Sto w0 w' s M most x.2.1 L (n + 17) ∧ L.map SRep.f = x.2.2 ∧ Keeps (fun i => w0.heap.size ≤ i ∧ StR w i) w w'
theorem Keeps.thenSt {F : Nat → Prop} {a b c : World} (h : Keeps (fun i => F i ∧ StR a i) a b) (k : Keeps (fun _ => False) b c) : Keeps (fun i => F i ∧ StR a i) a c := h.trans k.none_
/-- what is a store's block behind an act was one before, or is new -/
theorem Keeps.twice {F : Nat → Prop} {a b c : World} (h : Keeps (fun i => F i ∧ StR a i) a b) (k : Keeps (fun i => F i ∧ StR b i) b c) : Keeps (fun i => F i ∧ StR a i) a c :=
  h.and_ k fun i hi e => by
    refine ⟨e.1, ?_⟩
    by_cases hs : F i ∧ StR a i
    · exact hs.2
    · have hb := h.block i hi hs
      refine ⟨e.2.1, ?_⟩
      rcases e.2.2 with ⟨cs, hh⟩ | ⟨cs, hh⟩ | ⟨cs, hh⟩ | ⟨es, cl, hh⟩
      · exact .inl ⟨cs, hb.symm.trans hh⟩
      · exact .inr (.inl ⟨cs, hb.symm.trans hh⟩)
      · exact .inr (.inr (.inl ⟨cs, hb.symm.trans hh⟩))
      · exact .inr (.inr (.inr ⟨es, cl, hb.symm.trans hh⟩))
theorem St.none_ {F : Nat → Prop} {a b c : World} (k : Keeps (fun _ => False) a b) (h : Keeps (fun i => F i ∧ StR b i) b c) : Keeps (fun i => F i ∧ StR a i) a c := Keeps.twice (k.none_ : Keeps (fun i => F i ∧ StR a i) a b) h

set_option maxRecDepth 100000 in
set_option maxHeartbeats 2000000 in
theorem gturn_any (h : Sto w0 w s M most bad L n) (hn : n ≤ 1000000) (base : ByteArray) (k : Int) (hb : base.size ≤ 1048576) :
    Calls Tryz.prog 35 #[.pointer (some ⟨s, 0, none⟩), .string base, .int .i64 k] w (Turned w0 w s M most n (turnP base (heldP k - 1) bad (L.map SRep.f))) := by
  obtain ⟨l, hl⟩ : ∃ l, l = L.map SRep.f := ⟨_, rfl⟩
  have HL := Lib.hid hl
  rw [← hl]
  have H := Lib.hid h
  obtain ⟨q1, q2⟩ := heldP_le k
  obtain ⟨q, hq⟩ : ∃ q, heldP k = q + 1 := ⟨heldP k - 1, by omega⟩
  have hq0 : heldP k - 1 = q := by omega
  rw [hq0]
  have hqq : q ≤ 15 := by omega
  have hh := held_any w k
  rw [hq] at hh
  have HH := Lib.hid hh
  have hsz := genName_size (base := base) (i := (q : Nat)) (by omega)
  have HNQ := Lib.hid (fun W => gname_any W base (q : Nat) hb (by omega) (by omega))
  obtain ⟨nq, hnq⟩ : ∃ nq, nq = genName base (q : Nat) := ⟨_, rfl⟩
  rw [← hnq] at hsz HNQ
  have HNQE := Lib.hid hnq
  obtain ⟨R, hR⟩ : ∃ R, R = turnP base q bad l := ⟨_, rfl⟩
  rw [← hR]
  have HR := Lib.hid hR
  clear hl h hq hq0 q1 q2 hh hnq hR
  cases hg : getG SFile.name nq l with
  | none =>
    have hgo : goneP base q bad l = (0, bad, l) := by unfold goneP genF; rw [← HNQE.out, hg]
    have hR2 : turnL base (downs q) bad l = R := by rw [HR.out]; unfold turnP; rw [hgo, if_neg (by simp)]
    have hrd := fun W (kk : Keeps (fun _ => False) w W) => sread_none (H.out.same kk) (nm := nq) (by unfold maxLen; omega) (by rw [← HL.out]; exact hg)
    have HRD := Lib.hid hrd
    have HR2 := Lib.hid hR2
    clear hgo hR2 hrd hg
    go_enter Tryz.func35, Tryz.ntmps35
    go_wp2_with fail
    refine HH.out.mono ?_
    rintro e w1 ⟨rfl, hw⟩
    obtain rfl : w = w1 := hw.symm
    go_wp2_with fail
    refine (HNQ.out _).mono ?_
    rintro e wa ⟨rfl, k1⟩
    have HKA := Lib.hid (show Keeps (fun i => w0.heap.size ≤ i ∧ StR w i) w wa from k1.none_)
    have HSA := Lib.hid ((H.out.same k1).le_n (m := n + 17 - q) (by omega) (by omega))
    have HRD2 := Lib.hid (HRD.out _ k1)
    clear k1
    go_wp2_with fail
    refine HRD2.out.mono ?_
    rintro e w2 ⟨rfl, hw⟩
    obtain rfl : wa = w2 := hw.symm
    have HRA := Lib.hid (show turnL base (downs q) bad (L.map SRep.f) = R by rw [← HL.out]; exact HR2.out)
    clear HRD HRD2 HR2
    go_wp2_with fail
    go_loopw [11] (fun u11 wr => ∃ (j bad : Nat) (L : List SRep), u11 = .int .i64 ((j : Int) - 1) ∧ j ≤ 15 ∧ Hid (Sto w0 wr s M most bad L (n + 17 - j) ∧ turnL base (downs j) bad (L.map SRep.f) = R ∧ Keeps (fun i => w0.heap.size ≤ i ∧ StR w i) w wr)) (fun u11 _ => (intOf u11 + 1).toNat)
    case atStart => exact ⟨q, _, _, by first | rfl | go_num, hqq, Lib.hid ⟨HSA.out, HRA.out, HKA.out⟩⟩
    case round =>
      clear HSA HRA HKA
      obtain ⟨j, bad, L, rfl, hj, HI⟩ := hrel
      rename World => wr
      rcases j with _ | j
      · have hRR : R = (0, bad, L.map SRep.f) := HI.out.2.1.symm
        have HRR := Lib.hid hRR
        clear hRR
        go_wp2_with fail
        go_ret
        rw [HRR.out]
        exact ⟨_, L, rfl, ErrV.ok, HI.out.1.le_n (by omega) (by omega), rfl, HI.out.2.2⟩
      · have ej : ((j + 1 : Nat) : Int) - 1 = (j : Int) := by omega
        rw [ej]
        have hsz := genName_size (base := base) (i := (j : Nat)) (by omega)
        have hsz2 := genName_size (base := base) (i := ((j + 1 : Nat) : Int)) (by omega)
        have hN := fun W => gname_any W base (j : Nat) hb (by omega) (by omega)
        have hN2 := fun W => gname_any W base ((j + 1 : Nat) : Int) hb (by omega) (by omega)
        rw [show ((j + 1 : Nat) : Int) = (j : Int) + 1 by omega] at hN2
        have hcn := fun hg => turnL_cons_none (base := base) (j := j) (bad := bad) (l := L.map SRep.f) hg
        have hcs := fun f x hg hx => turnL_cons_some (base := base) (j := j) (bad := bad) (l := L.map SRep.f) (f := f) (x := x) hg hx
        obtain ⟨nj, hnj⟩ : ∃ nj, nj = genName base (j : Nat) := ⟨_, rfl⟩
        obtain ⟨nk, hnk⟩ : ∃ nk, nk = genName base ((j : Int) + 1) := ⟨_, rfl⟩
        rw [show ((j + 1 : Nat) : Int) = (j : Int) + 1 by omega] at hcs hsz2
        unfold genF at hcn hcs
        rw [← hnj] at hsz hN hcn hcs
        rw [← hnk] at hN2 hcs hsz2
        have HN := Lib.hid hN
        have HN2 := Lib.hid hN2
        have HCN := Lib.hid hcn
        have HCS := Lib.hid hcs
        have HS := Lib.hid HI.out.1
        have HT := Lib.hid HI.out.2.1
        have HK := Lib.hid HI.out.2.2
        clear ej hN hN2 hcn hcs hnj hnk HI
        cases hg : getG SFile.name nj (L.map SRep.f) with
        | none =>
          have hrd := fun W (kk : Keeps (fun _ => False) wr W) => sread_none (HS.out.same kk) (nm := nj) (by unfold maxLen; omega) hg
          have HRD := Lib.hid hrd
          have HT2 := Lib.hid ((HCN.out hg).symm.trans HT.out)
          clear hg hrd
          go_wp2_with fail
          refine (HN.out _).mono ?_
          rintro e w3 ⟨rfl, k3⟩
          have HK3 := Lib.hid k3
          clear k3
          go_wp2_with fail
          refine (HRD.out _ HK3.out).mono ?_
          rintro e w4 ⟨rfl, hw⟩
          obtain rfl : w3 = w4 := hw.symm
          go_wp2_with fail
          go_roundw
          case rel => exact ⟨j, bad, L, by go_num, by omega, Lib.hid ⟨(HS.out.same HK3.out).le_n (by omega) (by omega), HT2.out, HK.out.thenSt HK3.out⟩⟩
          case measure => simp [intOf]
        | some f =>
          have hrd := fun W (kk : Keeps (fun _ => False) wr W) => sread_some (HS.out.same kk) (nm := nj) (by unfold maxLen; omega) hg
          have HRD := Lib.hid hrd
          obtain ⟨x, hx⟩ : ∃ x, x = renameP bad (L.map SRep.f) nj nk := ⟨_, rfl⟩
          have hx7 : x.1 ≠ 7 := by rw [hx]; exact rename_ne7 hg
          have hrn := fun W (kk : Keeps (fun _ => False) wr W) => srename (HS.out.same kk) (by omega) nj nk
          rw [← hx] at hrn
          have HRN := Lib.hid hrn
          have HT2 := Lib.hid ((HCS.out f x hg hx).symm.trans HT.out)
          have HX7 := Lib.hid hx7
          clear hg hrd hx hx7 hrn
          go_wp2_with fail
          refine (HN.out _).mono ?_
          rintro e w3 ⟨rfl, k3⟩
          have HK3 := Lib.hid k3
          clear k3
          go_wp2_with fail
          refine (HRD.out _ HK3.out).mono ?_
          rintro e w4 ⟨rfl, hw⟩
          obtain rfl : w3 = w4 := hw.symm
          go_wp2_with fail
          refine (HN.out _).mono ?_
          rintro e w4 ⟨rfl, k4⟩
          have HK4 := Lib.hid (HK3.out.trans k4)
          clear k4
          go_wp2_with fail
          refine (HN2.out _).mono ?_
          rintro e w5 ⟨rfl, k5⟩
          have HK5 := Lib.hid (HK4.out.trans k5)
          clear k5
          go_wp2_with fail
          refine (HRN.out _ HK5.out).mono ?_
          rintro e w6 ⟨v6, L6, rfl, hE, hS, hl, k6⟩
          have HK6 := Lib.hid (HK.out.twice (St.none_ HK5.out k6))
          have HE6 := Lib.hid hE
          have HL6 := Lib.hid hl
          have HS6 := Lib.hid hS
          clear hS hl k6
          by_cases hx0 : x.1 = 0
          · rw [hx0] at hE
            obtain rfl := hE.nil_
            have HT3 := Lib.hid (show turnL base (downs j) x.2.1 (L6.map SRep.f) = R by have := HT2.out; rwa [if_neg (by rw [hx0]; simp), ← HL6.out] at this)
            clear hE hx0
            go_wp2_with fail
            go_roundw
            case rel => exact ⟨j, _, L6, by go_num, by omega, Lib.hid ⟨HS6.out.le_n (by omega) (by omega), HT3.out, HK6.out⟩⟩
            case measure => simp [intOf]
          · obtain ⟨ty, x', rfl⟩ := hE.iface hx0
            have HX0 := Lib.hid (show R = x by have := HT2.out; rw [if_pos hx0] at this; exact this.symm)
            have HXX := Lib.hid hx0
            clear hE hx0
            have HSK := Lib.hid (skip_err _ HE6.out HXX.out HX7.out)
            go_wp2_with fail
            refine HSK.out.mono ?_
            rintro e w7 ⟨rfl, k7⟩
            have HK7 := Lib.hid k7
            clear k7
            go_wp2_with fail
            refine (wrap_err _ (HE6.out.keeps0 HK7.out) HXX.out _).mono ?_
            rintro e w8 ⟨⟨v8, rfl, E8⟩, k8⟩
            have HE8 := Lib.hid E8
            have HK8 := Lib.hid (HK7.out.trans k8)
            clear E8 k8
            go_wp2_with fail
            go_ret
            rw [HX0.out]
            exact ⟨_, L6, rfl, HE8.out, (HS6.out.same HK8.out).le_n (by omega) (by omega), HL6.out, HK6.out.thenSt HK8.out⟩
  | some f =>
    have hgo : goneP base q bad l = removeP bad l nq := by unfold goneP genF; rw [← HNQE.out, hg]
    have hrd := fun W (kk : Keeps (fun _ => False) w W) => sread_some (H.out.same kk) (nm := nq) (by unfold maxLen; omega) (by rw [← HL.out]; exact hg)
    obtain ⟨x, hx⟩ : ∃ x, x = removeP bad l nq := ⟨_, rfl⟩
    have hR2 : R = if x.1 ≠ 0 then x else turnL base (downs q) x.2.1 x.2.2 := by rw [HR.out]; unfold turnP; rw [hgo, hx]
    have HRD := Lib.hid hrd
    have HR2 := Lib.hid hR2
    have hrm := fun W (kk : Keeps (fun _ => False) w W) => sremove (H.out.same kk) (by omega) nq
    rw [← HL.out, ← hx] at hrm
    have HRM := Lib.hid hrm
    clear hgo hR2 hrd hg hx hrm
    go_enter Tryz.func35, Tryz.ntmps35
    go_wp2_with fail
    refine HH.out.mono ?_
    rintro e w1 ⟨rfl, hw⟩
    obtain rfl : w = w1 := hw.symm
    go_wp2_with fail
    refine (HNQ.out _).mono ?_
    rintro e w1 ⟨rfl, k1⟩
    have HK1 := Lib.hid k1
    have HRD2 := Lib.hid (HRD.out _ k1)
    clear k1
    go_wp2_with fail
    refine HRD2.out.mono ?_
    rintro e w2 ⟨rfl, hw⟩
    obtain rfl : w1 = w2 := hw.symm
    clear HRD HRD2
    go_wp2_with fail
    refine (HNQ.out _).mono ?_
    rintro e w2 ⟨rfl, k2⟩
    have HK2 := Lib.hid (HK1.out.trans k2)
    clear k2
    go_wp2_with fail
    refine (HRM.out _ HK2.out).mono ?_
    rintro e wa ⟨v, L1, rfl, hE, hS, hl, k3⟩
    have HKA := Lib.hid (St.none_ HK2.out k3)
    have HE3 := Lib.hid hE
    have HL3 := Lib.hid hl
    have HS3 := Lib.hid hS
    clear hS hl k3
    by_cases hx0 : x.1 = 0
    · rw [hx0] at hE
      obtain rfl := hE.nil_
      have HRA := Lib.hid (show turnL base (downs q) x.2.1 (L1.map SRep.f) = R by rw [HR2.out, if_neg (by rw [hx0]; simp), HL3.out])
      have HSA := Lib.hid (HS3.out.le_n (m := n + 17 - q) (by omega) (by omega))
      clear hE hx0 HS3 HL3 HE3
      go_wp2_with fail
      go_loopw [11] (fun u11 wr => ∃ (j bad : Nat) (L : List SRep), u11 = .int .i64 ((j : Int) - 1) ∧ j ≤ 15 ∧ Hid (Sto w0 wr s M most bad L (n + 17 - j) ∧ turnL base (downs j) bad (L.map SRep.f) = R ∧ Keeps (fun i => w0.heap.size ≤ i ∧ StR w i) w wr)) (fun u11 _ => (intOf u11 + 1).toNat)
      case atStart => exact ⟨q, _, _, by first | rfl | go_num, hqq, Lib.hid ⟨HSA.out, HRA.out, HKA.out⟩⟩
      case round =>
        clear HSA HRA HKA
        obtain ⟨j, bad, L, rfl, hj, HI⟩ := hrel
        rename World => wr
        rcases j with _ | j
        · have hRR : R = (0, bad, L.map SRep.f) := HI.out.2.1.symm
          have HRR := Lib.hid hRR
          clear hRR
          go_wp2_with fail
          go_ret
          rw [HRR.out]
          exact ⟨_, L, rfl, ErrV.ok, HI.out.1.le_n (by omega) (by omega), rfl, HI.out.2.2⟩
        · have ej : ((j + 1 : Nat) : Int) - 1 = (j : Int) := by omega
          rw [ej]
          have hsz := genName_size (base := base) (i := (j : Nat)) (by omega)
          have hsz2 := genName_size (base := base) (i := ((j + 1 : Nat) : Int)) (by omega)
          have hN := fun W => gname_any W base (j : Nat) hb (by omega) (by omega)
          have hN2 := fun W => gname_any W base ((j + 1 : Nat) : Int) hb (by omega) (by omega)
          rw [show ((j + 1 : Nat) : Int) = (j : Int) + 1 by omega] at hN2
          have hcn := fun hg => turnL_cons_none (base := base) (j := j) (bad := bad) (l := L.map SRep.f) hg
          have hcs := fun f x hg hx => turnL_cons_some (base := base) (j := j) (bad := bad) (l := L.map SRep.f) (f := f) (x := x) hg hx
          obtain ⟨nj, hnj⟩ : ∃ nj, nj = genName base (j : Nat) := ⟨_, rfl⟩
          obtain ⟨nk, hnk⟩ : ∃ nk, nk = genName base ((j : Int) + 1) := ⟨_, rfl⟩
          rw [show ((j + 1 : Nat) : Int) = (j : Int) + 1 by omega] at hcs hsz2
          unfold genF at hcn hcs
          rw [← hnj] at hsz hN hcn hcs
          rw [← hnk] at hN2 hcs hsz2
          have HN := Lib.hid hN
          have HN2 := Lib.hid hN2
          have HCN := Lib.hid hcn
          have HCS := Lib.hid hcs
          have HS := Lib.hid HI.out.1
          have HT := Lib.hid HI.out.2.1
          have HK := Lib.hid HI.out.2.2
          clear ej hN hN2 hcn hcs hnj hnk HI
          cases hg : getG SFile.name nj (L.map SRep.f) with
          | none =>
            have hrd := fun W (kk : Keeps (fun _ => False) wr W) => sread_none (HS.out.same kk) (nm := nj) (by unfold maxLen; omega) hg
            have HRD := Lib.hid hrd
            have HT2 := Lib.hid ((HCN.out hg).symm.trans HT.out)
            clear hg hrd
            go_wp2_with fail
            refine (HN.out _).mono ?_
            rintro e w3 ⟨rfl, k3⟩
            have HK3 := Lib.hid k3
            clear k3
            go_wp2_with fail
            refine (HRD.out _ HK3.out).mono ?_
            rintro e w4 ⟨rfl, hw⟩
            obtain rfl : w3 = w4 := hw.symm
            go_wp2_with fail
            go_roundw
            case rel => exact ⟨j, bad, L, by go_num, by omega, Lib.hid ⟨(HS.out.same HK3.out).le_n (by omega) (by omega), HT2.out, HK.out.thenSt HK3.out⟩⟩
            case measure => simp [intOf]
          | some f =>
            have hrd := fun W (kk : Keeps (fun _ => False) wr W) => sread_some (HS.out.same kk) (nm := nj) (by unfold maxLen; omega) hg
            have HRD := Lib.hid hrd
            obtain ⟨x, hx⟩ : ∃ x, x = renameP bad (L.map SRep.f) nj nk := ⟨_, rfl⟩
            have hx7 : x.1 ≠ 7 := by rw [hx]; exact rename_ne7 hg
            have hrn := fun W (kk : Keeps (fun _ => False) wr W) => srename (HS.out.same kk) (by omega) nj nk
            rw [← hx] at hrn
            have HRN := Lib.hid hrn
            have HT2 := Lib.hid ((HCS.out f x hg hx).symm.trans HT.out)
            have HX7 := Lib.hid hx7
            clear hg hrd hx hx7 hrn
            go_wp2_with fail
            refine (HN.out _).mono ?_
            rintro e w3 ⟨rfl, k3⟩
            have HK3 := Lib.hid k3
            clear k3
            go_wp2_with fail
            refine (HRD.out _ HK3.out).mono ?_
            rintro e w4 ⟨rfl, hw⟩
            obtain rfl : w3 = w4 := hw.symm
            go_wp2_with fail
            refine (HN.out _).mono ?_
            rintro e w4 ⟨rfl, k4⟩
            have HK4 := Lib.hid (HK3.out.trans k4)
            clear k4
            go_wp2_with fail
            refine (HN2.out _).mono ?_
            rintro e w5 ⟨rfl, k5⟩
            have HK5 := Lib.hid (HK4.out.trans k5)
            clear k5
            go_wp2_with fail
            refine (HRN.out _ HK5.out).mono ?_
            rintro e w6 ⟨v6, L6, rfl, hE, hS, hl, k6⟩
            have HK6 := Lib.hid (HK.out.twice (St.none_ HK5.out k6))
            have HE6 := Lib.hid hE
            have HL6 := Lib.hid hl
            have HS6 := Lib.hid hS
            clear hS hl k6
            by_cases hx0 : x.1 = 0
            · rw [hx0] at hE
              obtain rfl := hE.nil_
              have HT3 := Lib.hid (show turnL base (downs j) x.2.1 (L6.map SRep.f) = R by have := HT2.out; rwa [if_neg (by rw [hx0]; simp), ← HL6.out] at this)
              clear hE hx0
              go_wp2_with fail
              go_roundw
              case rel => exact ⟨j, _, L6, by go_num, by omega, Lib.hid ⟨HS6.out.le_n (by omega) (by omega), HT3.out, HK6.out⟩⟩
              case measure => simp [intOf]
            · obtain ⟨ty, x', rfl⟩ := hE.iface hx0
              have HX0 := Lib.hid (show R = x by have := HT2.out; rw [if_pos hx0] at this; exact this.symm)
              have HXX := Lib.hid hx0
              clear hE hx0
              have HSK := Lib.hid (skip_err _ HE6.out HXX.out HX7.out)
              go_wp2_with fail
              refine HSK.out.mono ?_
              rintro e w7 ⟨rfl, k7⟩
              have HK7 := Lib.hid k7
              clear k7
              go_wp2_with fail
              refine (wrap_err _ (HE6.out.keeps0 HK7.out) HXX.out _).mono ?_
              rintro e w8 ⟨⟨v8, rfl, E8⟩, k8⟩
              have HE8 := Lib.hid E8
              have HK8 := Lib.hid (HK7.out.trans k8)
              clear E8 k8
              go_wp2_with fail
              go_ret
              rw [HX0.out]
              exact ⟨_, L6, rfl, HE8.out, (HS6.out.same HK8.out).le_n (by omega) (by omega), HL6.out, HK6.out.thenSt HK8.out⟩
    · obtain ⟨ty, x', rfl⟩ := hE.iface hx0
      have HX0 := Lib.hid (show R = x by rw [HR2.out, if_pos hx0])
      clear hE
      have HW := Lib.hid (fun W c (h : ErrV W c (.iface ty x')) (h0 : c ≠ 0) => wrap_err W h h0)
      have hx1 := hx0
      have HXX := Lib.hid hx1
      clear hx0 hx1
      go_wp2_with fail
      refine (HW.out _ _ HE3.out HXX.out _).mono ?_
      rintro e w5 ⟨⟨v5, rfl, E5⟩, k5⟩
      have HE5 := Lib.hid E5
      have HK5 := Lib.hid k5
      clear E5 k5
      go_wp2_with fail
      go_ret
      rw [HX0.out]
      exact ⟨_, L1, rfl, HE5.out, (HS3.out.same HK5.out).le_n (by omega) (by omega), HL3.out, HKA.out.thenSt HK5.out⟩
end
end Go.Proofs.YtdbnalocmjkncaaGreatDoor
