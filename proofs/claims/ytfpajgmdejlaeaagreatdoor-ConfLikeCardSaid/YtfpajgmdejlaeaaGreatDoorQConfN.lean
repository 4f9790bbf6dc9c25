/-
  conf: console.
-/
import Derived.Test.YtfpajgmdejlaeaaGreatDoorQConfL
namespace Go.Proofs.YtfpajgmdejlaeaaGreatDoor
open Go.RowKit Go.Maps

theorem setsS_line : ∀ (l : List Nd) (cs : List Con) (c : Con) (cd ln : Int), (∀ y ∈ l, 0 < lineN y) → setsS cs c l = .inl (cd, ln) → 0 < ln
  | [], cs, c, cd, ln, _, h => by rw [setsS] at h; cases h
  | y :: l, cs, c, cd, ln, hp, h => by
    rw [setsS] at h
    cases hs : setS cs c y with
    | inl e =>
      rw [hs] at h
      injection h with h
      injection h with _ h
      rw [← h]
      exact hp y (by simp)
    | inr c' =>
      rw [hs] at h
      exact setsS_line l cs c' cd ln (fun z hz => hp z (by simp [hz])) h
theorem oneS_name {x : Nd} {lo hi : Int} {f : Int → Con} {c c' : Con} (hf : ∀ v, (f v).name = c.name) (h : oneS x lo hi f = .inr c') : c'.name = c.name := by
  unfold oneS at h
  split at h
  · unfold mapS at h
    split at h
    · cases h
    · injection h with h; rw [← h]; exact hf _
  · cases h
theorem setS_name {cs : List Con} {c c' : Con} {y : Nd} (h : setS cs c y = .inr c') : c'.name = c.name := by
  unfold setS at h
  split at h
  · exact oneS_name (by intro v; rfl) h
  split at h
  · exact oneS_name (by intro v; rfl) h
  split at h
  · exact oneS_name (by intro v; rfl) h
  split at h
  · exact oneS_name (by intro v; rfl) h
  split at h
  · unfold retryS at h
    split at h
    · split at h
      · split at h
        · cases h
        · injection h with h; rw [← h]
      · cases h
    · cases h
  split at h
  · unfold wordS at h
    split at h
    · split at h
      · split at h
        · cases h
        · injection h with h; rw [← h]
      · split at h
        · split at h
          · cases h
          · injection h with h; rw [← h]
        · split at h
          · cases h
          · injection h with h; rw [← h]
    · cases h
  · cases h
theorem setsS_name : ∀ (l : List Nd) (cs : List Con) (c c' : Con), setsS cs c l = .inr c' → c'.name = c.name
  | [], cs, c, c', h => by rw [setsS] at h; injection h with h; rw [h]
  | y :: l, cs, c, c', h => by
    rw [setsS] at h
    cases hs : setS cs c y with
    | inl e => rw [hs] at h; cases h
    | inr c2 =>
      rw [hs] at h
      exact (setsS_name l cs c2 c' h).trans (setS_name hs)
theorem ConAt.whole {w : World} {T : TypeId} {b : Nat} {x : Con} {cs : Array Value} (h : ConAt w T b 0 x cs) (hs : cs.size = 10) : Blk w b T (conR x).toArray := by
  have e : cs = (conR x).toArray := by
    apply Array.ext
    · rw [hs]; rfl
    · intro i h1 h2
      have h3 : (conR x)[i]? = some (conR x)[i] := List.getElem?_eq_getElem (by simpa using h2)
      have := h.2 i _ h3
      rw [Nat.zero_add] at this
      have h4 := (Array.getElem?_eq_some_iff.1 this).2
      simpa using h4
  rw [← e]
  exact h.1
/-- a loader's consoles, to be looked at -/
theorem Ld.looks {w : World} {g M B : Nat} {a : Option Addr} {n cc : Nat} {gv uv av : Value} {b0 b1 b2 b3 b4 b5 b6 b7 b8 b9 : ByteArray} {c : Cf} {u : Con} {ks : List SK} (h : Ld w g M B (.slice a n cc) gv uv av b0 b1 b2 b3 b4 b5 b6 b7 b8 b9 c u ks) (hn : n ≤ 4096) : LdCons w g a n cc gv uv av b0 b1 b2 b3 b4 b5 b6 b7 b8 b9 c.cons ∧ InS (fun i => B ≤ i ∧ i < w.heap.size ∧ ∃ cs, Blk w i 42 cs) a n := by
  obtain ⟨a2, c2, hv, h1, h2, h3, h4⟩ := h.cons.shape conR_len
  injection hv with e1 e2 e3
  subst e1 e2 e3
  refine ⟨⟨⟨rfl, fun hp => ?_⟩, by omega, h.blk.lt, fun k v hv => ?_⟩, fun hp => ?_⟩
  · obtain ⟨b, ha, hb, hlt, -⟩ := h3 hp
    refine ⟨b, 0, ha, hlt, fun i x j v hx hj => ?_⟩
    rw [Nat.zero_add]
    exact (h4 b ha i x j v hx hj).1
  · rw [h.blk.cell k]
    have hk : k < 14 := (List.getElem?_eq_some_iff.1 hv).1
    match k, hk, hv with
    | 0, _, hv => exact hv
    | 1, _, hv => exact hv
    | 2, _, hv => exact hv
    | 3, _, hv => exact hv
    | 4, _, hv => exact hv
    | 5, _, hv => exact hv
    | 6, _, hv => exact hv
    | 7, _, hv => exact hv
    | 8, _, hv => exact hv
    | 9, _, hv => exact hv
    | 10, _, hv => exact hv
    | 11, _, hv => exact hv
    | 12, _, hv => exact hv
    | 13, _, hv => exact hv
  · obtain ⟨b, ha, hb, hlt, cs, hc⟩ := h3 hp
    exact ⟨b, 0, ha, hb, hlt, cs, hc⟩
def consoleS (c : Cf) (u : Con) (x : Nd) : (Int × Int) ⊕ (Cf × Con) :=
  if formP x 1 true then
    (if freshS (argN x 0) ((findC c.cons (argN x 0)).isSome) c.cons.length ≠ 0 then .inl (freshS (argN x 0) ((findC c.cons (argN x 0)).isSome) c.cons.length, lineN x)
     else match setsS c.cons { u with name := argN x 0 } (subN x) with
      | .inl e => .inl e
      | .inr y => .inr ({ c with cons := c.cons ++ [y] }, u))
  else .inl (3, lineN x)
def afterS (c : Cf) (u : Con) (o : (Int × Int) ⊕ Con) : (Int × Int) ⊕ (Cf × Con) := match o with
  | .inl e => .inl e
  | .inr y => .inr ({ c with cons := c.cons ++ [y] }, u)
set_option maxRecDepth 100000 in
set_option maxHeartbeats 2000000 in
theorem console_any (w : World) (S : Nat → Prop) (x : Nd) (r : NdV) (hM : NdM w S x r) (hkey : keyN x = kConsole) (hline : 0 < lineN x) (hsz : ∀ s ∈ argsN x, s.size ≤ 1073741824) (hsub : ∀ y ∈ subN x, 0 < lineN y ∧ ∀ s ∈ argsN y, s.size ≤ 1073741824)
    (g M B : Nat) (cv gv uv av : Value) (b0 b1 b2 b3 b4 b5 b6 b7 b8 b9 : ByteArray) (c : Cf) (u : Con) (ks : List SK) (hL : Ld w g M B cv gv uv av b0 b1 b2 b3 b4 b5 b6 b7 b8 b9 c u ks) (hSeen : Seen c ks) (hks : ks.length ≤ 1099511627776) (hSB : ∀ i, S i → i < B) (hBw : B ≤ w.heap.size) :
    Calls Tryz.prog 48 #[.pointer (some ⟨g, 0, none⟩), .agg (ndR r).toArray] w (StmtPost (consoleS c u x) g M B ks.length w) := by
  have HMX := Lib.hid hM
  have HSUB := Lib.hid hsub
  obtain ⟨O, hO⟩ : ∃ O, O = consoleS c u x := ⟨_, rfl⟩
  rw [← hO]
  unfold consoleS at hO
  obtain ⟨X, hX⟩ : ∃ X, X = x := ⟨_, rfl⟩
  rw [← hX] at HMX HSUB
  obtain ⟨key, as_, bl, sub, line⟩ := x
  rw [NdM] at hM
  obtain ⟨hk1, hb1, hl1, ⟨ha1, hin, -, -⟩, -⟩ := hM
  simp only [argsN] at hsz
  simp only [lineN] at hline
  simp only [keyN] at hkey
  have hal := ha1.1
  have hFM := fun W => form_any W r 1 true (by omega)
  have HW3 := Lib.hid (fun W => wrong_any W 3 r (by decide))
  have HFR : Hid (∀ W nm, Ld W g M B cv gv uv av b0 b1 b2 b3 b4 b5 b6 b7 b8 b9 c u ks → nm.size ≤ 1073741824 → Calls Tryz.prog 86 #[.pointer (some ⟨g, 0, none⟩), .agg (ndR r).toArray, .string nm, .int .i64 (c.cons.length : Nat)] W fun e w' =>
      (freshS nm ((findC c.cons nm).isSome) c.cons.length = 0 → e = .returned .nilIface ∧ SeenAt w' M (putG SK.nm ⟨fullK r.key nm, r.line.toNat⟩ ks)) ∧ (∀ cd, freshS nm ((findC c.cons nm).isSome) c.cons.length = cd → cd ≠ 0 → Wrong cd r.line r.key e w') ∧ Keeps (fun i => i = M) W w') := Lib.hid (fun W nm hW hnm => by
    have hlen : c.cons.length ≤ 4611686018427387904 := by
      have := hSeen.few; omega
    have := fresh_any W r nm c.cons.length g M ks (hW.blk.cell 24) hW.blk.lt (map_ne15 hW.blk hW.seen.isMap) hW.seen hW.pos hks (by rw [hl1]; exact hline) (by rw [hk1, hkey]; decide) hnm hlen
    rw [hk1, hkey, hSeen.con] at this
    rw [hk1, hkey]
    exact this)
  have HST := Lib.hid (fun W (hW : NdM W S X r) b cs hC hSb a n cc hLc hr => csettings_any W S X r hW (fun y hy => (HSUB.out y hy).2) 42 b 0 { u with name := argN X 0 } cs hC hSb g a n cc gv uv av b0 b1 b2 b3 b4 b5 b6 b7 b8 b9 c.cons hLc hr)
  have hxk : keyN X = kConsole := by rw [hX]; exact hkey
  rw [hxk] at HST
  obtain ⟨rk, ra, rn, rc, rb, rla, rln, rlc, rli⟩ := r
  simp only at hk1 hb1 hl1 ha1 hin hal hFM
  subst hk1 hb1 hl1 hkey
  have HF := Lib.hid hFM
  simp only [ndR] at HW3 HF HFR HST ⊢
  obtain ⟨wa, hwa⟩ : ∃ wa, wa = w.alloc (.cells #[.string kConsole, .slice ra rn rc, .bool rb, .slice rla rln rlc, .int .i64 rli] 60) := ⟨_, rfl⟩
  have hka : Keeps (fun _ => False) w wa := by rw [hwa]; exact (Keeps.refl _ _).alloc _
  have hN : Blk wa w.heap.size 60 #[.string kConsole, .slice ra rn rc, .bool rb, .slice rla rln rlc, .int .i64 rli] := by rw [hwa]; exact Blk.new _ _ _
  have HWA := Lib.hid hwa
  have HKA := Lib.hid hka
  have HN := Lib.hid hN
  obtain ⟨⟨x0, x1, x2, x3, x4⟩, -⟩ := hN.all5
  have hsa := hka.size
  have HL := Lib.hid hL
  have HSE := Lib.hid hSeen
  by_cases hfm : rn = 1 ∧ rb = true
  · rw [if_pos (formP_true (x := .mk kConsole as_ rb sub rli) ⟨by rw [show argsN (.mk kConsole as_ rb sub rli) = as_ from rfl, hal]; exact hfm.1, hfm.2⟩)] at hO
    have HFM := Lib.hid hfm
    obtain ⟨s0, hs⟩ := one_of (hal.trans hfm.1)
    obtain ⟨h2, -⟩ := hfm
    subst hs h2
    have HXE : Hid (argN X 0 = s0 ∧ subN X = sub) := Lib.hid (by rw [hX]; exact ⟨rfl, rfl⟩)
    simp only [argN, argsN, List.getD_cons_zero, lineN, subN] at hO
    obtain ⟨ab, ao, rfl, hab, hac⟩ := slat_one ha1 (i := 0) rfl
    rw [Nat.add_zero] at hac
    have habB : ab < B := by
      obtain ⟨b', off', e, hS⟩ := hin (by omega)
      injection e with e
      injection e with e1 _
      subst e1
      exact hSB _ hS
    have HAC := Lib.hid (fun W (k : Keeps (fun i => B ≤ i) w W) => (World.cell?_of_block (w := w) (k.block ab hab (by omega))).trans hac)
    have hss0 := hsz s0 (by simp)
    have HO := Lib.hid hO
    have HSBH := Lib.hid hSB
    clear hO hwa hka hN ha1 hsz hFM hal hin hac hL hSeen hSB hX hsub hxk
    go_enter Tryz.func48, Tryz.ntmps48
    go_wp2_with fail
    rw [← HWA.out]
    refine (HF.out _).mono ?_
    rintro e w3 ⟨hgood, -, k3⟩
    obtain rfl := hgood HFM.out
    have HK3 := Lib.hid (HKA.out.trans k3)
    have HN3 := Lib.hid (HN.out.keeps k3 id)
    obtain ⟨⟨x0, x1, x2, x3, x4⟩, -⟩ := HN3.out.all5
    have y0 := HAC.out _ HK3.out.none_
    clear hgood k3
    have HO2 : Hid (O = if freshS s0 ((findC c.cons s0).isSome) c.cons.length ≠ 0 then .inl (freshS s0 ((findC c.cons s0).isSome) c.cons.length, rli) else afterS c u (setsS c.cons { u with name := s0 } sub)) := Lib.hid (by
      rw [HO.out]
      unfold afterS
      cases setsS c.cons { u with name := s0 } sub <;> rfl)
    have hL3 := HL.out.same HK3.out
    obtain ⟨ca, cc, rfl⟩ := hL3.cons.sl
    have HL3 := Lib.hid hL3
    have hgl := hL3.blk.lt
    have hgM := map_ne15 hL3.blk hL3.seen.isMap
    have hNM := map_ne15 HN3.out hL3.seen.isMap
    have hMB := hL3.hM
    have HF5 := Lib.hid (fun W (k : Keeps (fun i => i = M) w3 W) => (⟨(HN3.out.keeps k hNM).all5.1, HAC.out W (HK3.out.none_.and_ k (fun i _ e => by subst e; exact hMB)), (hL3.blk.keeps k hgM).cell 0⟩ : (W.cell? ⟨w.heap.size, 0, none⟩ = some (.string kConsole) ∧ W.cell? ⟨w.heap.size, 1, none⟩ = some (.slice (some ⟨ab, ao, none⟩) 1 rc) ∧ W.cell? ⟨w.heap.size, 2, none⟩ = some (.bool rb) ∧ W.cell? ⟨w.heap.size, 3, none⟩ = some (.slice rla rln rlc) ∧ W.cell? ⟨w.heap.size, 4, none⟩ = some (.int .i64 rli)) ∧ W.cell? ⟨ab, ao, none⟩ = some (.string s0) ∧ W.cell? ⟨g, 0, none⟩ = some (.slice ca c.cons.length cc)))
    clear hL3
    go_wp2_with fail
    go_region_held3 (fun W => (W.cell? ⟨w.heap.size, 0, none⟩ = some (.string kConsole) ∧ W.cell? ⟨w.heap.size, 1, none⟩ = some (.slice (some ⟨ab, ao, none⟩) 1 rc) ∧ W.cell? ⟨w.heap.size, 2, none⟩ = some (.bool rb) ∧ W.cell? ⟨w.heap.size, 3, none⟩ = some (.slice rla rln rlc) ∧ W.cell? ⟨w.heap.size, 4, none⟩ = some (.int .i64 rli)) ∧ W.cell? ⟨ab, ao, none⟩ = some (.string s0) ∧ W.cell? ⟨g, 0, none⟩ = some (.slice ca c.cons.length cc))
      (first | exact HF5.out _ (Keeps.refl _ _).drew | exact HF5.out _ kk)
      ((go_at_call 86; refine (HFR.out _ s0 (HL3.out.same (Keeps.refl _ _).drew) hss0).mono ?_; rintro e w4 hfp; obtain ⟨v4, hv4, hfq⟩ := fresh_ret hfp; clear hfp; subst hv4; have kk : Keeps (fun i => i = M) w3 w4 := ((Keeps.refl _ _).drew).trans hfq.2.2; have HFP := Lib.hid hfq; clear hfq))
    rename_i hh
    obtain ⟨⟨x0, x1, x2, x3, x4⟩, y0, -⟩ := hh
    have HKM := Lib.hid (((Keeps.refl (fun i => i = M) w3).drew).trans HFP.out.2.2)
    have hkm : Keeps (fun i => B ≤ i) w w4 := HK3.out.none_.and_ HKM.out (fun i _ e => by subst e; exact hMB)
    have HK4 := Lib.hid hkm
    have hs4 := hkm.size
    clear hkm
    by_cases hfs : freshS s0 ((findC c.cons s0).isSome) c.cons.length = 0
    · obtain ⟨rfl, hsn⟩ := HFP.out.1 hfs
      have HO3 : Hid (O = afterS c u (setsS c.cons { u with name := s0 } sub)) := Lib.hid (by rw [HO2.out, if_neg (by simp [hfs])])
      have hfew := freshS_few hfs
      have hL4 := HL3.out.names HKM.out hsn (putG_pos HL3.out.pos (by show 0 < rli.toNat; omega))
      have HL4 := Lib.hid hL4
      have HN4 := Lib.hid (HN3.out.keeps HKM.out hNM)
      have HLN := Lib.hid (putG_len ⟨fullK kConsole s0, rli.toNat⟩ ks)
      have u0 : w4.cell? ⟨g, 14, none⟩ = some (.string u.name) := hL4.blk.cell 14
      have u1 : w4.cell? ⟨g, 15, none⟩ = some (.int .i64 u.kind) := hL4.blk.cell 15
      have u2 : w4.cell? ⟨g, 16, none⟩ = some (.int .i64 u.lines) := hL4.blk.cell 16
      have u3 : w4.cell? ⟨g, 17, none⟩ = some (.int .i64 u.bytes) := hL4.blk.cell 17
      have u4 : w4.cell? ⟨g, 18, none⟩ = some (.int .i64 u.gens) := hL4.blk.cell 18
      have u5 : w4.cell? ⟨g, 19, none⟩ = some (.int .i64 u.size) := hL4.blk.cell 19
      have u6 : w4.cell? ⟨g, 20, none⟩ = some (.int .i64 u.base) := hL4.blk.cell 20
      have u7 : w4.cell? ⟨g, 21, none⟩ = some (.int .i64 u.cap) := hL4.blk.cell 21
      have u8 : w4.cell? ⟨g, 22, none⟩ = some (.int .i64 u.jitter) := hL4.blk.cell 22
      have u9 : w4.cell? ⟨g, 23, none⟩ = some (.string u.init) := hL4.blk.cell 23
      clear hfs hsn hL4
      have n1 : w.heap.size ≠ w4.heap.size := by have := HN4.out.lt; omega
      have n2 : ab ≠ w4.heap.size := by omega
      have n3 : g ≠ w4.heap.size := by have := HL4.out.blk.lt; omega
      have hLK := HL4.out.looks (by omega)
      obtain ⟨wb, hwb⟩ : ∃ wb, wb = w4.alloc (.cells #[.string u.name, .int .i64 u.kind, .int .i64 u.lines, .int .i64 u.bytes, .int .i64 u.gens, .int .i64 u.size, .int .i64 u.base, .int .i64 u.cap, .int .i64 u.jitter, .string u.init] 42) := ⟨_, rfl⟩
      have hkb : Keeps (fun _ => False) w4 wb := by rw [hwb]; exact (Keeps.refl _ _).alloc _
      have hBb : Blk wb w4.heap.size 42 (conR u).toArray := by rw [hwb]; exact Blk.new _ _ _
      have hkc : Keeps (fun _ => False) w4 (wb.setCell ⟨w4.heap.size, 0, none⟩ (.string s0)) := hkb.and_ (Keeps.set1 _ _ _ _) (fun i hi e => by omega)
      have hset := HST.out _ (NdM.keeps ((HK4.out.and_ hkc (fun _ _ h => h.elim))) (fun i _ hS hB => by have := HSBH.out i hS; omega) _ _ HMX.out) w4.heap.size (conR { u with name := s0 }).toArray (by rw [HXE.out.1]; exact ⟨hBb.set_ 0 _, fun k v h => by rw [Nat.zero_add]; simpa using h⟩) (fun i hi => by have := HSBH.out i hi; omega) ca c.cons.length cc (hLK.1.same hkc) (fun hp => by obtain ⟨b, off, e, -, hlt, -⟩ := hLK.2 hp; exact ⟨b, off, e, by omega⟩) (.inl n3)
      rw [HXE.out.1, HXE.out.2] at hset
      have HSET := Lib.hid hset
      have HKC := Lib.hid hkc
      have HWB := Lib.hid hwb
      obtain ⟨⟨x0', x1', x2', x3', x4'⟩, -⟩ := (HN4.out.keeps hkb id).all5
      have y0' := HAC.out _ (HK4.out.and_ hkb (fun _ _ h => h.elim))
      have q0 : wb.cell? ⟨w4.heap.size, 0, none⟩ = some (.string u.name) := hBb.cell 0
      have f0 := hBb.frozen 0
      clear hset hkc hLK hkb hBb hwb
      go_upto_region 8 with (fail)
      rw [← HWB.out]
      go_wp2_with fail
      refine HSET.out.mono ?_
      rintro e w5 ⟨hok, hbad, k5⟩
      have HK45 := Lib.hid (HKC.out.and_ k5 (fun i hi e => by omega))
      have HK5 := Lib.hid (HK4.out.and_ HK45.out (fun _ _ h => h.elim))
      clear k5
      cases hq : setsS c.cons { u with name := s0 } sub with
      | inl e1 =>
        obtain ⟨cd, ln⟩ := e1
        obtain ⟨v, k2, rfl, hc⟩ := hbad cd ln hq
        have hln := setsS_line _ _ _ _ _ (fun y hy => (HSUB.out y (by rw [HXE.out.2]; exact hy)).1) hq
        obtain ⟨ty, vx, rfl⟩ := hc.form
        have HE : Hid (O = .inl (cd, ln)) := Lib.hid (by rw [HO3.out, hq]; rfl)
        have HCh := Lib.hid hc
        clear hok hbad hq hc
        go_wp2_with fail
        go_ret
        refine ⟨fun c' u' h' => (by rw [HE.out] at h'; cases h'), fun cd' ln' h' => (by rw [HE.out] at h'; injection h' with h'; injection h' with h1 h2; subst h1 h2; exact ⟨_, _, rfl, HCh.out, by simp [lineOf, hln]⟩), HK5.out⟩
      | inr y =>
        obtain ⟨rfl, cs', hc5, hb5⟩ := hok y hq
        have HE : Hid (O = .inr ({ c with cons := c.cons ++ [y] }, u)) := Lib.hid (by rw [HO3.out, hq]; rfl)
        have hB5 := hc5.whole (hb5.1.trans rfl)
        have HB5 := Lib.hid hB5
        have hL5 := HL4.out.same HK45.out
        have HL5 := Lib.hid hL5
        have hyn : y.name = s0 := setsS_name _ _ _ _ hq
        have HS5 := Lib.hid (HSE.out.addC y rli.toNat hfew)
        rw [hyn] at HS5
        have z0 : w5.cell? ⟨g, 0, none⟩ = some (.slice ca c.cons.length cc) := hL5.blk.cell 0
        have u0 : w5.cell? ⟨w4.heap.size, 0, none⟩ = some (.string y.name) := hB5.cell 0
        have u1 : w5.cell? ⟨w4.heap.size, 1, none⟩ = some (.int .i64 y.kind) := hB5.cell 1
        have u2 : w5.cell? ⟨w4.heap.size, 2, none⟩ = some (.int .i64 y.lines) := hB5.cell 2
        have u3 : w5.cell? ⟨w4.heap.size, 3, none⟩ = some (.int .i64 y.bytes) := hB5.cell 3
        have u4 : w5.cell? ⟨w4.heap.size, 4, none⟩ = some (.int .i64 y.gens) := hB5.cell 4
        have u5 : w5.cell? ⟨w4.heap.size, 5, none⟩ = some (.int .i64 y.size) := hB5.cell 5
        have u6 : w5.cell? ⟨w4.heap.size, 6, none⟩ = some (.int .i64 y.base) := hB5.cell 6
        have u7 : w5.cell? ⟨w4.heap.size, 7, none⟩ = some (.int .i64 y.cap) := hB5.cell 7
        have u8 : w5.cell? ⟨w4.heap.size, 8, none⟩ = some (.int .i64 y.jitter) := hB5.cell 8
        have u9 : w5.cell? ⟨w4.heap.size, 9, none⟩ = some (.string y.init) := hB5.cell 9
        have hgl5 := hL5.blk.lt
        have m1 : g ≠ w5.heap.size := by omega
        have m2 : w4.heap.size ≠ w5.heap.size := by have := hB5.lt; omega
        have hcw := Lib.hid (fun W (k : Keeps (fun i => ∃ cs, Blk w5 i 42 cs) w5 W) => (⟨(hL5.blk.keeps k (fun ⟨_, e⟩ => Blk.ne_ hL5.blk e (by decide) rfl)).cell 0, (hL5.blk.keeps k (fun ⟨_, e⟩ => Blk.ne_ hL5.blk e (by decide) rfl)).frozen 0⟩ : W.cell? ⟨g, 0, none⟩ = some (.slice ca c.cons.length cc) ∧ W.frozen? ⟨g, 0, none⟩ = false))
        have f2 := hL5.blk.frozen 0
        have HUS := Lib.hid hL5.cons
        have hBw5 : B ≤ w5.heap.size := by have := HK5.out.size; omega
        clear hok hbad hq hc5 hb5 hB5 hL5 hyn
        go_wp2_with fail
        go_region_law ((refine step_append_st conR 10 conR_len (by decide) rfl _ _ _ rfl B 42 (.agg #[.string ⟨#[]⟩, .int .i64 0, .int .i64 0, .int .i64 0, .int .i64 0, .int .i64 0, .int .i64 0, .int .i64 0, .int .i64 0, .string ⟨#[]⟩]) 96 Tryz.underlying23 (by kernel_rfl) rfl (by omega) _ c.cons rfl (by exact OwnS.keeps (S := fun _ => False) HUS.out (by (repeat (first | (with_reducible assumption) | (with_reducible exact Keeps.refl _ _) | refine Keeps.drew ?_ | refine Keeps.drewN ?_ _ | refine Keeps.setCell ?_ (by simp) _ | refine Keeps.setRow ?_ (by simp) _ | refine Keeps.alloc ?_ _))) (fun _ _ _ _ => id)) w5.heap.size 1 y rfl (by first | exact Blk.new _ _ _ | exact (Blk.new _ _ _).drew) (conR_one _) (by omega) (by simp; omega) ?_; intro g7 cap7 w7 O7 k7 hat7; have kk7 : Keeps (fun i => ∃ cs, Blk w5 i 42 cs) w5 w7 := (Keeps.and_ (by (repeat (first | (with_reducible assumption) | (with_reducible exact Keeps.refl _ _) | refine Keeps.drew ?_ | refine Keeps.drewN ?_ _ | refine Keeps.setCell ?_ (by simp) _ | refine Keeps.setRow ?_ (by simp) _ | refine Keeps.alloc ?_ _))) k7 (fun i _ h => HUS.out.ownBlk i h)); have kB7 : Keeps (fun i => B ≤ i) w5 w7 := (Keeps.and_ (by (repeat (first | (with_reducible assumption) | (with_reducible exact Keeps.refl _ _) | refine Keeps.drew ?_ | refine Keeps.drewN ?_ _ | refine Keeps.setCell ?_ (by simp) _ | refine Keeps.setRow ?_ (by simp) _ | refine Keeps.alloc ?_ _))) k7 (fun i _ h => (World.ownsRow.lt HUS.out i h).1)); clear k7; obtain ⟨d1, d2⟩ := hcw.out _ kk7))
        all_goals have OO := Lib.hid O7
        all_goals clear O7 hat7
        all_goals go_wp2_with fail
        all_goals go_ret
        all_goals exact .done HE.out (HL5.out.addC kk7 OO.out) HS5.out HLN.out ((HK5.out.trans kB7).and_ (Keeps.set1 w7 g 0 _) (fun i _ e => by subst e; exact HL5.out.hg))
    · obtain ⟨ty, vx, rfl, hc⟩ := HFP.out.2.1 hfs
      have HE : Hid (O = .inl (freshS s0 ((findC c.cons s0).isSome) c.cons.length, rli)) := Lib.hid (by rw [HO2.out, if_pos hfs])
      have HCh := Lib.hid hc
      clear hfs hc
      go_wp2_with fail
      go_ret
      exact .bad HE.out hline ⟨_, rfl, HCh.out⟩ HK4.out
  · have HE : Hid (O = .inl (3, rli)) := Lib.hid (by rw [hO, if_neg (by rw [formP_false (x := .mk kConsole as_ rb sub rli) (fun h => hfm ⟨by rw [← hal]; exact h.1, h.2⟩)]; simp)]; rfl)
    have HFM := Lib.hid hfm
    clear hO hwa hka hN ha1 hsz hfm hFM hal hL hSeen hin hX hsub hxk
    go_enter Tryz.func48, Tryz.ntmps48
    go_wp2_with fail
    rw [← HWA.out]
    refine (HF.out _).mono ?_
    rintro e w2 ⟨-, hbad, k2⟩
    obtain ⟨v, rfl, hc⟩ := hbad HFM.out
    obtain ⟨ty, vx, rfl⟩ := hc.form
    have HCh := Lib.hid hc
    have HK2 := Lib.hid (HKA.out.trans k2)
    clear hbad k2 hc
    go_wp2_with fail
    go_ret
    exact .bad HE.out hline ⟨_, rfl, HCh.out⟩ HK2.out.none_
end Go.Proofs.YtfpajgmdejlaeaaGreatDoor
