/-
  conf: what a statement leaves; user.
-/
import Derived.Test.YtfpajgmdejlaeaaGreatDoorQConfK
import Derived.Test.YtfpajgmdejlaeaaGreatDoorQErrL
namespace Go.Proofs.YtfpajgmdejlaeaaGreatDoor
open Go.RowKit Go.Maps

theorem fullK_list (k nm : ByteArray) : (fullK k nm).data.toList = k.data.toList ++ 32 :: nm.data.toList := by unfold fullK; simp
theorem fullK_inj {k a b : ByteArray} (h : fullK k a = fullK k b) : a = b := by
  have := congrArg (fun s : ByteArray => s.data.toList) h
  simp only [fullK_list] at this
  have := List.append_cancel_left this
  injection this with _ this
  exact ba_ext this
theorem fullK_ne {k l a b : ByteArray} {x y : UInt8} (hk : k.data.toList.head? = some x) (hl : l.data.toList.head? = some y) (hne : x ≠ y) : fullK k a ≠ fullK l b := by
  intro h
  have := congrArg (fun s : ByteArray => s.data.toList.head?) h
  simp only [fullK_list, List.head?_append, hk, hl] at this
  simp at this
  exact hne this
/-- the names that were are those that are there -/
structure Seen (c : Cf) (ks : List SK) : Prop where
  con : ∀ nm, (getG SK.nm (fullK kConsole nm) ks).isSome = (findC c.cons nm).isSome
  grp : ∀ nm, (getG SK.nm (fullK kGroup nm) ks).isSome = c.grps.any fun g => decide (g.name = nm)
  usr : ∀ nm, (getG SK.nm (fullK kUser nm) ks).isSome = c.usrs.any fun g => decide (g.name = nm)
  few : c.cons.length ≤ 4096 ∧ c.grps.length ≤ 4096 ∧ c.usrs.length ≤ 4096 ∧ c.accs.length ≤ 4096
theorem freshS_few {nm : ByteArray} {b : Bool} {many : Nat} (h : freshS nm b many = 0) : many < 4096 := by
  unfold freshS at h
  split at h
  · split at h
    · cases h
    · split at h
      · cases h
      · omega
  · cases h
theorem len_snoc {α : Type} (l : List α) (x : α) : (l ++ [x]).length = l.length + 1 := by simp
theorem Seen.addU {c : Cf} {ks : List SK} (h : Seen c ks) (x : Usr) (n : Nat) (hf : c.usrs.length < 4096) : Seen { c with usrs := c.usrs ++ [x] } (putG SK.nm ⟨fullK kUser x.name, n⟩ ks) := by
  refine ⟨fun nm => ?_, fun nm => ?_, fun nm => ?_, by have := h.few; simp only [len_snoc]; omega⟩
  · rw [putG_get, decide_eq_false (fullK_ne (x := 117) (y := 99) rfl rfl (by decide)), Bool.false_or]; exact h.con nm
  · rw [putG_get, decide_eq_false (fullK_ne (x := 117) (y := 103) rfl rfl (by decide)), Bool.false_or]; exact h.grp nm
  · rw [putG_get, h.usr, List.any_append, Bool.or_comm]
    congr 1
    simp only [List.any_cons, List.any_nil, Bool.or_false]
    rw [Bool.eq_iff_iff, decide_eq_true_eq, decide_eq_true_eq]
    exact ⟨fun e => fullK_inj e, fun e => by rw [e]⟩
theorem Seen.addG {c : Cf} {ks : List SK} (h : Seen c ks) (x : Grp) (n : Nat) (hf : c.grps.length < 4096) : Seen { c with grps := c.grps ++ [x] } (putG SK.nm ⟨fullK kGroup x.name, n⟩ ks) := by
  refine ⟨fun nm => ?_, fun nm => ?_, fun nm => ?_, by have := h.few; simp only [len_snoc]; omega⟩
  · rw [putG_get, decide_eq_false (fullK_ne (x := 103) (y := 99) rfl rfl (by decide)), Bool.false_or]; exact h.con nm
  · rw [putG_get, h.grp, List.any_append, Bool.or_comm]
    congr 1
    simp only [List.any_cons, List.any_nil, Bool.or_false]
    rw [Bool.eq_iff_iff, decide_eq_true_eq, decide_eq_true_eq]
    exact ⟨fun e => fullK_inj e, fun e => by rw [e]⟩
  · rw [putG_get, decide_eq_false (fullK_ne (x := 103) (y := 117) rfl rfl (by decide)), Bool.false_or]; exact h.usr nm
theorem findC_any (l : List Con) (nm : ByteArray) : (findC l nm).isSome = l.any fun x => decide (x.name = nm) := by
  unfold findC
  induction l with
  | nil => rfl
  | cons y l ih =>
    unfold idx
    rw [List.any_cons, ← ih]
    by_cases h : y.name = nm
    · simp [h]
    · simp [h]
theorem Seen.addC {c : Cf} {ks : List SK} (h : Seen c ks) (x : Con) (n : Nat) (hf : c.cons.length < 4096) : Seen { c with cons := c.cons ++ [x] } (putG SK.nm ⟨fullK kConsole x.name, n⟩ ks) := by
  refine ⟨fun nm => ?_, fun nm => ?_, fun nm => ?_, by have := h.few; simp only [len_snoc]; omega⟩
  · rw [putG_get, h.con, findC_any, findC_any, List.any_append, Bool.or_comm]
    congr 1
    simp only [List.any_cons, List.any_nil, Bool.or_false]
    rw [Bool.eq_iff_iff, decide_eq_true_eq, decide_eq_true_eq]
    exact ⟨fun e => fullK_inj e, fun e => by rw [e]⟩
  · rw [putG_get, decide_eq_false (fullK_ne (x := 99) (y := 103) rfl rfl (by decide)), Bool.false_or]; exact h.grp nm
  · rw [putG_get, decide_eq_false (fullK_ne (x := 99) (y := 117) rfl rfl (by decide)), Bool.false_or]; exact h.usr nm
/-- behind a statement: a loader that goes on, or why not -/
def StmtPost (O : (Int × Int) ⊕ (Cf × Con)) (g M B : Nat) (n : Nat) (w : World) (e : Ending) (w' : World) : Prop :=
  (∀ c' u', O = .inr (c', u') → e = .returned .nilIface ∧ ∃ cv gv uv av b0 b1 b2 b3 b4 b5 b6 b7 b8 b9 ks', Ld w' g M B cv gv uv av b0 b1 b2 b3 b4 b5 b6 b7 b8 b9 c' u' ks' ∧ Seen c' ks' ∧ ks'.length ≤ n + 1) ∧
  (∀ cd ln, O = .inl (cd, ln) → ∃ v ch, e = .returned v ∧ Chain w' ch cd v ∧ lineOf ch = ln) ∧ Keeps (fun i => B ≤ i) w w'
theorem StmtPost.bad {O : (Int × Int) ⊕ (Cf × Con)} {g M B n : Nat} {w w' : World} {e : Ending} {cd ln : Int} {key : ByteArray} (hO : O = .inl (cd, ln)) (hl : 0 < ln) (h : Wrong cd ln key e w') (k : Keeps (fun i => B ≤ i) w w') : StmtPost O g M B n w e w' :=
  ⟨fun c' u' h' => (by rw [hO] at h'; cases h'), fun cd' ln' h' => (by rw [hO] at h'; injection h' with h'; injection h' with h1 h2; subst h1 h2; obtain ⟨v, rfl, hc⟩ := h; exact ⟨v, _, rfl, hc, by rw [lineOf, if_pos hl]⟩), k⟩
theorem StmtPost.done {O : (Int × Int) ⊕ (Cf × Con)} {g M B n : Nat} {w w' : World} {c' : Cf} {u' : Con} {cv gv uv av : Value} {b0 b1 b2 b3 b4 b5 b6 b7 b8 b9 : ByteArray} {ks' : List SK} (hO : O = .inr (c', u')) (h : Ld w' g M B cv gv uv av b0 b1 b2 b3 b4 b5 b6 b7 b8 b9 c' u' ks') (hs : Seen c' ks') (hn : ks'.length ≤ n + 1) (k : Keeps (fun i => B ≤ i) w w') : StmtPost O g M B n w (.returned .nilIface) w' :=
  ⟨fun c2 u2 h' => (by rw [hO] at h'; injection h' with h'; injection h' with h1 h2; subst h1 h2; exact ⟨rfl, _, _, _, _, _, _, _, _, _, _, _, _, _, _, _, h, hs, hn⟩), fun cd' ln' h' => (by rw [hO] at h'; cases h'), k⟩
def userS (c : Cf) (u : Con) (x : Nd) : (Int × Int) ⊕ (Cf × Con) :=
  if formP x 2 false then
    (if secretB (argN x 1) then
      (if freshS (argN x 0) (c.usrs.any fun g => decide (g.name = argN x 0)) c.usrs.length ≠ 0 then .inl (freshS (argN x 0) (c.usrs.any fun g => decide (g.name = argN x 0)) c.usrs.length, lineN x) else .inr ({ c with usrs := c.usrs ++ [⟨argN x 0, argN x 1⟩] }, u))
     else .inl (3, lineN x))
  else .inl (3, lineN x)
/-- what fresh hands back, whatever it is -/
theorem fresh_ret {P : Prop} {fc : Int} {ln : Int} {key : ByteArray} {K : Prop} {e : Ending} {w' : World} (h : (fc = 0 → e = .returned .nilIface ∧ P) ∧ (∀ cd, fc = cd → cd ≠ 0 → Wrong cd ln key e w') ∧ K) : ∃ v, e = .returned v ∧ ((fc = 0 → v = .nilIface ∧ P) ∧ (fc ≠ 0 → ∃ ty x, v = .iface ty x ∧ Chain w' [(ln, key)] fc v) ∧ K) := by
  by_cases h0 : fc = 0
  · obtain ⟨rfl, hp⟩ := h.1 h0
    exact ⟨_, rfl, fun _ => ⟨rfl, hp⟩, fun hn => absurd h0 hn, h.2.2⟩
  · obtain ⟨v, rfl, hc⟩ := h.2.1 fc rfl h0
    obtain ⟨ty, x, hx⟩ := hc.form
    exact ⟨v, rfl, fun hn => absurd hn h0, fun _ => ⟨ty, x, hx, hc⟩, h.2.2⟩
theorem two_of : ∀ {l : List ByteArray}, l.length = 2 → ∃ a b, l = [a, b]
  | [a, b], _ => ⟨a, b, rfl⟩
set_option maxRecDepth 100000 in
set_option maxHeartbeats 2000000 in
theorem user_any (w : World) (S : Nat → Prop) (x : Nd) (r : NdV) (hM : NdM w S x r) (hkey : keyN x = kUser) (hline : 0 < lineN x) (hsz : ∀ s ∈ argsN x, s.size ≤ 1073741824)
    (g M B : Nat) (cv gv uv av : Value) (b0 b1 b2 b3 b4 b5 b6 b7 b8 b9 : ByteArray) (c : Cf) (u : Con) (ks : List SK) (hL : Ld w g M B cv gv uv av b0 b1 b2 b3 b4 b5 b6 b7 b8 b9 c u ks) (hSeen : Seen c ks) (hks : ks.length ≤ 1099511627776) (hSB : ∀ i, S i → i < B) (hBw : B ≤ w.heap.size) :
    Calls Tryz.prog 50 #[.pointer (some ⟨g, 0, none⟩), .agg (ndR r).toArray] w (StmtPost (userS c u x) g M B ks.length w) := by
  obtain ⟨key, as_, bl, sub, line⟩ := x
  rw [NdM] at hM
  obtain ⟨hk1, hb1, hl1, ⟨ha1, hin, -, -⟩, -⟩ := hM
  simp only [argsN] at hsz
  simp only [lineN] at hline
  simp only [keyN] at hkey
  have hal := ha1.1
  obtain ⟨O, hO⟩ : ∃ O, O = userS c u (.mk key as_ bl sub line) := ⟨_, rfl⟩
  rw [← hO]
  unfold userS at hO
  have hFM := fun W => form_any W r 2 false (by omega)
  have HW3 := Lib.hid (fun W => wrong_any W 3 r (by decide))
  have HFR : Hid (∀ W nm, Ld W g M B cv gv uv av b0 b1 b2 b3 b4 b5 b6 b7 b8 b9 c u ks → nm.size ≤ 1073741824 → Calls Tryz.prog 86 #[.pointer (some ⟨g, 0, none⟩), .agg (ndR r).toArray, .string nm, .int .i64 (c.usrs.length : Nat)] W fun e w' =>
      (freshS nm (c.usrs.any fun g => decide (g.name = nm)) c.usrs.length = 0 → e = .returned .nilIface ∧ SeenAt w' M (putG SK.nm ⟨fullK r.key nm, r.line.toNat⟩ ks)) ∧ (∀ cd, freshS nm (c.usrs.any fun g => decide (g.name = nm)) c.usrs.length = cd → cd ≠ 0 → Wrong cd r.line r.key e w') ∧ Keeps (fun i => i = M) W w') := Lib.hid (fun W nm hW hnm => by
    have hlen : c.usrs.length ≤ 4611686018427387904 := by
      have := hSeen.few; omega
    have := fresh_any W r nm c.usrs.length g M ks (hW.blk.cell 24) hW.blk.lt (map_ne15 hW.blk hW.seen.isMap) hW.seen hW.pos hks (by rw [hl1]; exact hline) (by rw [hk1, hkey]; decide) hnm hlen
    rw [hk1, hkey, hSeen.usr] at this
    rw [hk1, hkey]
    exact this)
  obtain ⟨rk, ra, rn, rc, rb, rla, rln, rlc, rli⟩ := r
  simp only at hk1 hb1 hl1 ha1 hin hal hFM
  subst hk1 hb1 hl1 hkey
  have HF := Lib.hid hFM
  simp only [ndR] at HW3 HF HFR ⊢
  obtain ⟨wa, hwa⟩ : ∃ wa, wa = w.alloc (.cells #[.string kUser, .slice ra rn rc, .bool rb, .slice rla rln rlc, .int .i64 rli] 60) := ⟨_, rfl⟩
  have hka : Keeps (fun _ => False) w wa := by rw [hwa]; exact (Keeps.refl _ _).alloc _
  have hN : Blk wa w.heap.size 60 #[.string kUser, .slice ra rn rc, .bool rb, .slice rla rln rlc, .int .i64 rli] := by rw [hwa]; exact Blk.new _ _ _
  have HWA := Lib.hid hwa
  have HKA := Lib.hid hka
  have HN := Lib.hid hN
  obtain ⟨⟨x0, x1, x2, x3, x4⟩, -⟩ := hN.all5
  have hsa := hka.size
  have HL := Lib.hid hL
  have HSE := Lib.hid hSeen
  by_cases hfm : rn = 2 ∧ rb = false
  · rw [if_pos (formP_true (x := .mk kUser as_ rb sub rli) ⟨by rw [show argsN (.mk kUser as_ rb sub rli) = as_ from rfl, hal]; exact hfm.1, hfm.2⟩)] at hO
    have HFM := Lib.hid hfm
    obtain ⟨s0, s1, hs⟩ := two_of (hal.trans hfm.1)
    obtain ⟨h2, -⟩ := hfm
    subst hs h2
    simp only [argN, argsN, List.getD_cons_zero, List.getD_cons_succ, lineN] at hO
    obtain ⟨ab, ao, rfl, hab, hac⟩ := slat_one ha1 (i := 0) rfl
    obtain ⟨ab', ao', e, hab', hac1⟩ := slat_one ha1 (i := 1) rfl
    injection e with e
    injection e with e1 e2
    subst e1 e2
    rw [Nat.add_zero] at hac
    have habB : ab < B := by
      obtain ⟨b', off', e, hS⟩ := hin (by omega)
      injection e with e
      injection e with e1 _
      subst e1
      exact hSB _ hS
    have HAC := Lib.hid (fun W (k : Keeps (fun i => B ≤ i) w W) => (⟨(World.cell?_of_block (w := w) (k.block ab hab (by omega))).trans hac, (World.cell?_of_block (w := w) (k.block ab hab (by omega))).trans hac1⟩ : W.cell? ⟨ab, ao, none⟩ = some (.string s0) ∧ W.cell? ⟨ab, ao + 1, none⟩ = some (.string s1)))
    have hss0 := hsz s0 (by simp)
    have hss1 := hsz s1 (by simp)
    have HO := Lib.hid hO
    have HSEC := Lib.hid (fun W => secret_any W s1 hss1)
    clear hO hwa hka hN ha1 hsz hFM hal hin hac hac1 hL hSeen hSB
    have hkb : Keeps (fun i => B ≤ i) w wa := HKA.out.none_
    go_enter Tryz.func50, Tryz.ntmps50
    go_wp2_with fail
    rw [← HWA.out]
    refine (HF.out _).mono ?_
    rintro e w2 ⟨hgood, -, k2⟩
    obtain rfl := hgood HFM.out
    have HK2 := Lib.hid (HKA.out.trans k2)
    have HN2 := Lib.hid (HN.out.keeps k2 id)
    obtain ⟨⟨x0, x1, x2, x3, x4⟩, -⟩ := HN2.out.all5
    obtain ⟨y0, y1⟩ := HAC.out _ HK2.out.none_
    clear hgood k2
    go_wp2_with fail
    refine (HSEC.out _).mono ?_
    rintro e w3 ⟨rfl, k3⟩
    have HK3 := Lib.hid (HK2.out.trans k3)
    have HN3 := Lib.hid (HN2.out.keeps k3 id)
    obtain ⟨⟨x0, x1, x2, x3, x4⟩, -⟩ := HN3.out.all5
    clear k3
    cases hsec : secretB s1 with
    | false =>
      have HE : Hid (O = .inl (3, rli)) := Lib.hid (by rw [HO.out, if_neg (by rw [hsec]; simp)])
      clear hsec
      go_wp2_with fail
      refine (HW3.out _).mono ?_
      rintro e w6 ⟨⟨v, rfl, hc⟩, k6⟩
      have HCh := Lib.hid hc
      clear hc
      go_wp2_with fail
      go_ret
      exact .bad HE.out hline ⟨_, rfl, HCh.out⟩ (HK3.out.trans k6).none_
    | true =>
      have HO2 : Hid (O = if freshS s0 (c.usrs.any fun g => decide (g.name = s0)) c.usrs.length ≠ 0 then .inl (freshS s0 (c.usrs.any fun g => decide (g.name = s0)) c.usrs.length, rli) else .inr ({ c with usrs := c.usrs ++ [⟨s0, s1⟩] }, u)) := Lib.hid (by rw [HO.out, if_pos hsec])
      clear hsec
      have hL3 := HL.out.same HK3.out
      obtain ⟨ua, uc, rfl⟩ := hL3.usrs.sl
      have HL3 := Lib.hid hL3
      have hgl := hL3.blk.lt
      have hgM := map_ne15 hL3.blk hL3.seen.isMap
      have hNM := map_ne15 HN3.out hL3.seen.isMap
      have hNg := Blk.ne_ HN3.out hL3.blk (by decide)
      have hMB := hL3.hM
      have HF5 := Lib.hid (fun W (k : Keeps (fun i => i = M) w3 W) => (⟨(HN3.out.keeps k hNM).all5.1, (HAC.out W (HK3.out.none_.and_ k (fun i _ e => by subst e; exact hMB))).1, (hL3.blk.keeps k hgM).cell 2⟩ : (W.cell? ⟨w.heap.size, 0, none⟩ = some (.string kUser) ∧ W.cell? ⟨w.heap.size, 1, none⟩ = some (.slice (some ⟨ab, ao, none⟩) 2 rc) ∧ W.cell? ⟨w.heap.size, 2, none⟩ = some (.bool rb) ∧ W.cell? ⟨w.heap.size, 3, none⟩ = some (.slice rla rln rlc) ∧ W.cell? ⟨w.heap.size, 4, none⟩ = some (.int .i64 rli)) ∧ W.cell? ⟨ab, ao, none⟩ = some (.string s0) ∧ W.cell? ⟨g, 2, none⟩ = some (.slice ua c.usrs.length uc)))
      clear hL3
      go_upto_region 6 with (fail)
      go_region_held3 (fun W => (W.cell? ⟨w.heap.size, 0, none⟩ = some (.string kUser) ∧ W.cell? ⟨w.heap.size, 1, none⟩ = some (.slice (some ⟨ab, ao, none⟩) 2 rc) ∧ W.cell? ⟨w.heap.size, 2, none⟩ = some (.bool rb) ∧ W.cell? ⟨w.heap.size, 3, none⟩ = some (.slice rla rln rlc) ∧ W.cell? ⟨w.heap.size, 4, none⟩ = some (.int .i64 rli)) ∧ W.cell? ⟨ab, ao, none⟩ = some (.string s0) ∧ W.cell? ⟨g, 2, none⟩ = some (.slice ua c.usrs.length uc))
        (first | exact HF5.out _ (Keeps.refl _ _).drew | exact HF5.out _ kk)
        ((go_at_call 86; refine (HFR.out _ s0 (HL3.out.same (Keeps.refl _ _).drew) hss0).mono ?_; rintro e w4 hfp; obtain ⟨v4, hv4, hfq⟩ := fresh_ret hfp; clear hfp; subst hv4; have kk : Keeps (fun i => i = M) w3 w4 := ((Keeps.refl _ _).drew).trans hfq.2.2; have HFP := Lib.hid hfq; clear hfq))
      rename_i hh
      obtain ⟨⟨x0, x1, x2, x3, x4⟩, -, -⟩ := hh
      have HKM := Lib.hid (((Keeps.refl (fun i => i = M) w3).drew).trans HFP.out.2.2)
      have hkm : Keeps (fun i => B ≤ i) w w4 := HK3.out.none_.and_ HKM.out (fun i _ e => by subst e; exact hMB)
      have HK4 := Lib.hid hkm
      obtain ⟨y0, y1⟩ := HAC.out _ hkm
      have hs4 := hkm.size
      clear hkm
      by_cases hfs : freshS s0 (c.usrs.any fun g => decide (g.name = s0)) c.usrs.length = 0
      · obtain ⟨rfl, hsn⟩ := HFP.out.1 hfs
        have HE : Hid (O = .inr ({ c with usrs := c.usrs ++ [⟨s0, s1⟩] }, u)) := Lib.hid (by rw [HO2.out, if_neg (by simp [hfs])])
        have hfew := freshS_few hfs
        have hL4 := HL3.out.names HKM.out hsn (putG_pos HL3.out.pos (by show 0 < rli.toNat; omega))
        have HL4 := Lib.hid hL4
        have HS4 := Lib.hid (HSE.out.addU ⟨s0, s1⟩ rli.toNat hfew)
        have z2 : w4.cell? ⟨g, 2, none⟩ = some (.slice ua c.usrs.length uc) := hL4.blk.cell 2
        have hgl4 := hL4.blk.lt
        have n1 : g ≠ w4.heap.size := by omega
        have n2 : w.heap.size ≠ w4.heap.size := by have := (HN3.out.keeps HKM.out hNM).lt; omega
        have n3 : ab ≠ w4.heap.size := by omega
        have hcw := Lib.hid (fun W (k : Keeps (fun i => ∃ cs, Blk w4 i 67 cs) w4 W) => (⟨(hL4.blk.keeps k (fun ⟨_, e⟩ => Blk.ne_ hL4.blk e (by decide) rfl)).cell 2, (hL4.blk.keeps k (fun ⟨_, e⟩ => Blk.ne_ hL4.blk e (by decide) rfl)).frozen 2⟩ : W.cell? ⟨g, 2, none⟩ = some (.slice ua c.usrs.length uc) ∧ W.frozen? ⟨g, 2, none⟩ = false))
        have f2 := hL4.blk.frozen 2
        have HUS := Lib.hid hL4.usrs
        have hBw4 : B ≤ w4.heap.size := by omega
        have HLN := Lib.hid (putG_len ⟨fullK kUser s0, rli.toNat⟩ ks)
        clear hfs hsn hL4
        go_wp2_with fail
        go_region_law ((refine step_append_st usrR 2 usrR_len (by decide) rfl _ _ _ rfl B 67 (.agg #[.string ⟨#[]⟩, .string ⟨#[]⟩]) 32 Tryz.underlying25 (by kernel_rfl) rfl (by omega) _ c.usrs rfl (by exact OwnS.keeps (S := fun _ => False) HUS.out (by (repeat (first | (with_reducible assumption) | (with_reducible exact Keeps.refl _ _) | refine Keeps.drew ?_ | refine Keeps.drewN ?_ _ | refine Keeps.setCell ?_ (by simp) _ | refine Keeps.setRow ?_ (by simp) _ | refine Keeps.alloc ?_ _))) (fun _ _ _ _ => id)) w4.heap.size 1 ⟨s0, s1⟩ rfl (by first | exact Blk.new _ _ _ | exact (Blk.new _ _ _).drew) (usrR_one _) (by omega) (by simp; omega) ?_; intro g7 cap7 w7 O7 k7 hat7; have kk7 : Keeps (fun i => ∃ cs, Blk w4 i 67 cs) w4 w7 := (Keeps.and_ (by (repeat (first | (with_reducible assumption) | (with_reducible exact Keeps.refl _ _) | refine Keeps.drew ?_ | refine Keeps.drewN ?_ _ | refine Keeps.setCell ?_ (by simp) _ | refine Keeps.setRow ?_ (by simp) _ | refine Keeps.alloc ?_ _))) k7 (fun i _ h => HUS.out.ownBlk i h)); have kB7 : Keeps (fun i => B ≤ i) w4 w7 := (Keeps.and_ (by (repeat (first | (with_reducible assumption) | (with_reducible exact Keeps.refl _ _) | refine Keeps.drew ?_ | refine Keeps.drewN ?_ _ | refine Keeps.setCell ?_ (by simp) _ | refine Keeps.setRow ?_ (by simp) _ | refine Keeps.alloc ?_ _))) k7 (fun i _ h => (World.ownsRow.lt HUS.out i h).1)); clear k7; obtain ⟨d1, d2⟩ := hcw.out _ kk7))
        all_goals have OO := Lib.hid O7
        all_goals clear O7 hat7
        all_goals go_wp2_with fail
        all_goals go_ret
        all_goals exact .done HE.out (HL4.out.addU kk7 OO.out) HS4.out HLN.out ((HK4.out.trans kB7).and_ (Keeps.set1 w7 g 2 _) (fun i _ e => by subst e; exact HL4.out.hg))
      · obtain ⟨ty, vx, rfl, hc⟩ := HFP.out.2.1 hfs
        have HE : Hid (O = .inl (freshS s0 (c.usrs.any fun g => decide (g.name = s0)) c.usrs.length, rli)) := Lib.hid (by rw [HO2.out, if_pos hfs])
        have HCh := Lib.hid hc
        clear hfs hc
        go_wp2_with fail
        go_ret
        exact .bad HE.out hline ⟨_, rfl, HCh.out⟩ HK4.out
  · have HE : Hid (O = .inl (3, rli)) := Lib.hid (by rw [hO, if_neg (by rw [formP_false (x := .mk kUser as_ rb sub rli) (fun h => hfm ⟨by rw [← hal]; exact h.1, h.2⟩)]; simp)]; rfl)
    have HFM := Lib.hid hfm
    clear hO hwa hka hN ha1 hsz hfm hFM hal hL hSeen hin
    go_enter Tryz.func50, Tryz.ntmps50
    go_wp2_with fail
    rw [← HWA.out]
    refine (HF.out _).mono ?_
    rintro e w2 ⟨-, hbad, k2⟩
    obtain ⟨v, rfl, hc⟩ := hbad HFM.out
    obtain ⟨ty, vx, rfl⟩ := hc.form
    have HCh := Lib.hid hc
    have HK2 := Lib.hid (HKA.out.trans k2)
    clear hbad k2 hc
    go_wp2_with fail
    go_ret
    exact .bad HE.out hline ⟨_, rfl, HCh.out⟩ HK2.out.none_
end Go.Proofs.YtfpajgmdejlaeaaGreatDoor
