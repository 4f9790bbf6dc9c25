/-
  conf: Load.
-/
import Derived.Test.YtfpajgmdejlaeaaGreatDoorQConfT
import Derived.Test.YtfpajgmdejlaeaaGreatDoorQNdG
namespace Go.Proofs.YtfpajgmdejlaeaaGreatDoor
open Go.RowKit Go.Maps

def noV : Value := .slice none 0 0
/-- a configuration's cells, and what they own -/
structure CfOwn (w : World) (B : Nat) (cv gv uv av : Value) (b0 b1 b2 b3 b4 b5 b6 b7 b8 b9 : ByteArray) (c : Cf) : Prop where
  brk : c.brks = [b0, b1, b2, b3, b4, b5, b6, b7, b8, b9]
  cons : OwnS conR 10 w B 42 cv c.cons
  grps : ∃ rs, OwnS grR 2 w B 65 gv rs ∧ GrAll w B c.grps rs
  usrs : OwnS usrR 2 w B 67 uv c.usrs
  accs : OwnS accR 3 w B 46 av c.accs
theorem Ld.own {w : World} {g M B : Nat} {cv gv uv av : Value} {b0 b1 b2 b3 b4 b5 b6 b7 b8 b9 : ByteArray} {c : Cf} {u : Con} {ks : List SK} (h : Ld w g M B cv gv uv av b0 b1 b2 b3 b4 b5 b6 b7 b8 b9 c u ks) : CfOwn w B cv gv uv av b0 b1 b2 b3 b4 b5 b6 b7 b8 b9 c := ⟨h.brk, h.cons, h.grps, h.usrs, h.accs⟩
theorem GrOk.less {w : World} {B B' : Nat} {x : Grp} {r : GrV} (h : GrOk w B x r) (hB : B' ≤ B) : GrOk w B' x r := ⟨h.1, h.2.1, fun hp => by obtain ⟨b, off, e, h1, h2⟩ := h.2.2.1 hp; exact ⟨b, off, e, Nat.le_trans hB h1, h2⟩, h.2.2.2⟩
theorem CfOwn.less {w : World} {B B' : Nat} {cv gv uv av : Value} {b0 b1 b2 b3 b4 b5 b6 b7 b8 b9 : ByteArray} {c : Cf} (h : CfOwn w B cv gv uv av b0 b1 b2 b3 b4 b5 b6 b7 b8 b9 c) (hB : B' ≤ B) : CfOwn w B' cv gv uv av b0 b1 b2 b3 b4 b5 b6 b7 b8 b9 c := by
  obtain ⟨rs, g1, g2⟩ := h.grps
  exact ⟨h.brk, h.cons.moreS hB, ⟨rs, g1.moreS hB, g2.1, fun i x r hx hr => (g2.2 i x r hx hr).less hB⟩, h.usrs.moreS hB, h.accs.moreS hB⟩
theorem CfOwn.keeps {w w' : World} {B : Nat} {S : Nat → Prop} {cv gv uv av : Value} {b0 b1 b2 b3 b4 b5 b6 b7 b8 b9 : ByteArray} {c : Cf} (h : CfOwn w B cv gv uv av b0 b1 b2 b3 b4 b5 b6 b7 b8 b9 c) (k : Keeps S w w') (hT : ∀ i t cs, Blk w i t cs → t = 42 ∨ t = 65 ∨ t = 67 ∨ t = 46 ∨ t = 9 → ¬ S i) : CfOwn w' B cv gv uv av b0 b1 b2 b3 b4 b5 b6 b7 b8 b9 c := by
  obtain ⟨rs, g1, g2⟩ := h.grps
  exact ⟨h.brk, h.cons.keeps k (fun i _ _ ⟨cs, hb⟩ => hT i _ cs hb (by simp)), ⟨rs, g1.keeps k (fun i _ _ ⟨cs, hb⟩ => hT i _ cs hb (by simp)), g2.keeps k (fun i cs hb => hT i _ cs hb (by simp))⟩,
    h.usrs.keeps k (fun i _ _ ⟨cs, hb⟩ => hT i _ cs hb (by simp)), h.accs.keeps k (fun i _ _ ⟨cs, hb⟩ => hT i _ cs hb (by simp))⟩
/-- a loader to begin with -/
theorem Ld.begin_ (w : World) (B : Nat) (hB : B ≤ w.heap.size) : Ld ((w.alloc (.map #[] 0)).alloc (.cells (ldL noV noV noV noV ⟨#[]⟩ ⟨#[]⟩ ⟨#[]⟩ ⟨#[]⟩ ⟨#[]⟩ ⟨#[]⟩ ⟨#[]⟩ ⟨#[]⟩ ⟨#[]⟩ ⟨#[]⟩ usual0 w.heap.size).toArray 57)) (w.heap.size + 1) w.heap.size B noV noV noV noV ⟨#[]⟩ ⟨#[]⟩ ⟨#[]⟩ ⟨#[]⟩ ⟨#[]⟩ ⟨#[]⟩ ⟨#[]⟩ ⟨#[]⟩ ⟨#[]⟩ ⟨#[]⟩ Cf.empty usual0 [] := by
  refine ⟨?_, rfl, OwnS.none_, ⟨[], OwnS.none_, rfl, fun i x r hx => by simp [Cf.empty] at hx⟩, OwnS.none_, OwnS.none_, ?_, by omega, hB, fun x hx => by cases hx⟩
  · have := Blk.new (w.alloc (.map #[] 0)) 57 (ldL noV noV noV noV ⟨#[]⟩ ⟨#[]⟩ ⟨#[]⟩ ⟨#[]⟩ ⟨#[]⟩ ⟨#[]⟩ ⟨#[]⟩ ⟨#[]⟩ ⟨#[]⟩ ⟨#[]⟩ usual0 w.heap.size).toArray
    rwa [show (w.alloc (.map #[] 0)).heap.size = w.heap.size + 1 by simp] at this
  · exact (World.ownsMap_made w Tryz.prog 9 natR).alloc _
theorem Seen.begin_ : Seen Cf.empty [] := ⟨fun nm => rfl, fun nm => rfl, fun nm => rfl, by simp [Cf.empty]⟩
/-- what Load hands back -/
def LoadPost (O : (Int × Int) ⊕ Cf) (w : World) (e : Ending) (w' : World) : Prop :=
  (∀ c, O = .inr c → ∃ cv gv uv av b0 b1 b2 b3 b4 b5 b6 b7 b8 b9, e = .returned (.tuple #[.agg (cfL cv gv uv av b0 b1 b2 b3 b4 b5 b6 b7 b8 b9).toArray, .nilIface]) ∧ CfOwn w' w.heap.size cv gv uv av b0 b1 b2 b3 b4 b5 b6 b7 b8 b9 c ∧ c.cons.length ≤ 4096 ∧ c.grps.length ≤ 4096 ∧ c.usrs.length ≤ 4096 ∧ c.accs.length ≤ 4096) ∧
  (∀ cd n, O = .inl (cd, n) → ∃ v ch, e = .returned (.tuple #[.agg (cfL noV noV noV noV ⟨#[]⟩ ⟨#[]⟩ ⟨#[]⟩ ⟨#[]⟩ ⟨#[]⟩ ⟨#[]⟩ ⟨#[]⟩ ⟨#[]⟩ ⟨#[]⟩ ⟨#[]⟩).toArray, v]) ∧ Chain w' ch cd v ∧ lineOf ch = n) ∧ Keeps (fun _ => False) w w'
theorem conf_set {w : World} {g : Nat} {u0 u1 u2 u3 : Value} {c0 c1 c2 c3 c4 c5 c6 c7 c8 c9 : ByteArray} (h : Blk w g 29 (cfL u0 u1 u2 u3 c0 c1 c2 c3 c4 c5 c6 c7 c8 c9).toArray) (v0 v1 v2 v3 : Value) (b0 b1 b2 b3 b4 b5 b6 b7 b8 b9 : ByteArray) : Blk ((((((((((((((w.setCell ⟨g, 0, none⟩ v0).setCell ⟨g, 1, none⟩ v1).setCell ⟨g, 2, none⟩ v2).setCell ⟨g, 3, none⟩ v3).setCell ⟨g, 4, none⟩ (.string b0)).setCell ⟨g, 5, none⟩ (.string b1)).setCell ⟨g, 6, none⟩ (.string b2)).setCell ⟨g, 7, none⟩ (.string b3)).setCell ⟨g, 8, none⟩ (.string b4)).setCell ⟨g, 9, none⟩ (.string b5)).setCell ⟨g, 10, none⟩ (.string b6)).setCell ⟨g, 11, none⟩ (.string b7)).setCell ⟨g, 12, none⟩ (.string b8)).setCell ⟨g, 13, none⟩ (.string b9)) g 29 (cfL v0 v1 v2 v3 b0 b1 b2 b3 b4 b5 b6 b7 b8 b9).toArray ∧ Keeps (fun i => i = g) w ((((((((((((((w.setCell ⟨g, 0, none⟩ v0).setCell ⟨g, 1, none⟩ v1).setCell ⟨g, 2, none⟩ v2).setCell ⟨g, 3, none⟩ v3).setCell ⟨g, 4, none⟩ (.string b0)).setCell ⟨g, 5, none⟩ (.string b1)).setCell ⟨g, 6, none⟩ (.string b2)).setCell ⟨g, 7, none⟩ (.string b3)).setCell ⟨g, 8, none⟩ (.string b4)).setCell ⟨g, 9, none⟩ (.string b5)).setCell ⟨g, 10, none⟩ (.string b6)).setCell ⟨g, 11, none⟩ (.string b7)).setCell ⟨g, 12, none⟩ (.string b8)).setCell ⟨g, 13, none⟩ (.string b9)) := by
  refine ⟨?_, ((((((((((((((Keeps.set1 w g 0 v0).and_ (Keeps.set1 _ g 1 _) (fun _ _ e => e)).and_ (Keeps.set1 _ g 2 _) (fun _ _ e => e)).and_ (Keeps.set1 _ g 3 _) (fun _ _ e => e)).and_ (Keeps.set1 _ g 4 _) (fun _ _ e => e)).and_ (Keeps.set1 _ g 5 _) (fun _ _ e => e)).and_ (Keeps.set1 _ g 6 _) (fun _ _ e => e)).and_ (Keeps.set1 _ g 7 _) (fun _ _ e => e)).and_ (Keeps.set1 _ g 8 _) (fun _ _ e => e)).and_ (Keeps.set1 _ g 9 _) (fun _ _ e => e)).and_ (Keeps.set1 _ g 10 _) (fun _ _ e => e)).and_ (Keeps.set1 _ g 11 _) (fun _ _ e => e)).and_ (Keeps.set1 _ g 12 _) (fun _ _ e => e)).and_ (Keeps.set1 _ g 13 _) (fun _ _ e => e))⟩
  have hb := ((((((((((((((h.set_ 0 v0).set_ 1 v1).set_ 2 v2).set_ 3 v3).set_ 4 (.string b0)).set_ 5 (.string b1)).set_ 6 (.string b2)).set_ 7 (.string b3)).set_ 8 (.string b4)).set_ 9 (.string b5)).set_ 10 (.string b6)).set_ 11 (.string b7)).set_ 12 (.string b8)).set_ 13 (.string b9))
  simp only [cfL, List.setIfInBounds_toArray, List.set_cons_zero, List.set_cons_succ] at hb ⊢
  exact hb
theorem listP_count (last : Int) : ∀ (f depth : Nat) (out : List Nd) (l : List Pc) (xs : List Nd) (t : List Pc), listP last f depth out l = .inr (xs, t) → xs.length + t.length ≤ out.length + l.length
  | 0, depth, out, l, xs, t, h => by rw [listP] at h; injection h with h; injection h with h1 h2; subst h1 h2; exact Nat.le_refl _
  | f + 1, depth, out, l, xs, t, h => by
    rw [listP] at h
    split at h
    · injection h with h; injection h with h1 h2; subst h1 h2; exact Nat.le_refl _
    · cases ho : oneP_t last (listP last f (depth + 1) []) depth l with
      | inl e => rw [ho] at h; cases h
      | inr p =>
        obtain ⟨x, t2⟩ := p
        rw [ho] at h
        have h1 := oneP_t_len (fun a b c hh => listP_len last f _ _ _ _ _ hh) ho
        have h2 := listP_count last f _ _ _ _ _ h
        rw [List.length_append] at h2
        simp only [List.length_cons, List.length_nil] at h2
        omega
theorem treeP_count {s : List UInt8} {xs : List Nd} (h : treeP s = .inr xs) : xs.length ≤ 8192 := by
  unfold treeP at h
  cases hl : lexP s with
  | inl e => rw [hl] at h; cases h
  | inr l =>
    rw [hl] at h
    simp only at h
    cases hq : listP (lastP l) (l.length + 1) 0 [] l with
    | inl e => rw [hq] at h; cases h
    | inr p =>
      obtain ⟨out, t⟩ := p
      rw [hq] at h
      simp only at h
      injection h with h
      subst h
      have h1 := listP_count _ _ _ _ _ _ _ hq
      have h2 := lexP_many hl
      simp only [List.length_nil] at h1
      omega
def loadO (T : (Int × Int) ⊕ List Nd) : (Int × Int) ⊕ Cf := match T with
  | .inl e => .inl e
  | .inr l => stmtsS Cf.empty usual0 l
set_option maxRecDepth 100000 in
set_option maxHeartbeats 2000000 in
theorem load_any (w : World) (s : ByteArray) (hs : s.size ≤ 1073741820) : Calls Tryz.prog 7 #[.string s] w fun e w' => LoadPost (loadS s.data.toList) w e w' := by
  obtain ⟨wa, hwa⟩ : ∃ wa, wa = w.alloc (.cells #[.slice none 0 0, .slice none 0 0, .slice none 0 0, .slice none 0 0, .string ⟨#[]⟩, .string ⟨#[]⟩, .string ⟨#[]⟩, .string ⟨#[]⟩, .string ⟨#[]⟩, .string ⟨#[]⟩, .string ⟨#[]⟩, .string ⟨#[]⟩, .string ⟨#[]⟩, .string ⟨#[]⟩] 29) := ⟨_, rfl⟩
  have hka : Keeps (fun _ => False) w wa := by rw [hwa]; exact (Keeps.refl _ _).alloc _
  have hN : Blk wa w.heap.size 29 (cfL noV noV noV noV ⟨#[]⟩ ⟨#[]⟩ ⟨#[]⟩ ⟨#[]⟩ ⟨#[]⟩ ⟨#[]⟩ ⟨#[]⟩ ⟨#[]⟩ ⟨#[]⟩ ⟨#[]⟩).toArray := by rw [hwa]; exact Blk.new _ _ _
  have HTR := Lib.hid (tread_any wa s hs)
  obtain ⟨T, hT⟩ : ∃ T, T = treeP s.data.toList := ⟨_, rfl⟩
  obtain ⟨O, hO⟩ : ∃ O, O = loadS s.data.toList := ⟨_, rfl⟩
  have hO2 : O = loadO T := by rw [hO, hT]; rfl
  have hgood : ∀ xs, T = .inr xs → NdsG xs := fun xs h => treeP_good (s := s.data.toList) (by rw [← hT]; exact h)
  rw [← hO]
  rw [← hT] at HTR
  have HO := Lib.hid hO2
  have HG := Lib.hid hgood
  have HCO := Lib.hid (fun xs (h : T = .inr xs) => treeP_count (s := s.data.toList) (xs := xs) (by rw [← hT]; exact h))
  have hmm := @run_makeMap Tryz.prog
  have HUS := Lib.hid usual_any
  have HWA := Lib.hid hwa
  have HKA := Lib.hid hka
  have HN := Lib.hid hN
  have hsa : wa.heap.size = w.heap.size + 1 := by rw [hwa]; simp
  have HLN : Hid (∀ cd n, T = .inl (cd, n) → ∀ k, lineOf [(n, k)] = n) := Lib.hid (fun cd n h k => by
    have := treeP_line (s := s.data.toList) (c := cd) (n := n) (by rw [← hT]; exact h)
    rw [lineOf]
    split
    · rfl
    · rw [lineOf]; omega)
  clear hO hO2 hgood hT hwa hka hN
  go_enter Tryz.func7, Tryz.ntmps7
  go_wp2_with fail
  rw [← HWA.out]
  refine HTR.out.mono ?_
  rintro e w1 ⟨hgood1, hbad1, k1⟩
  have HK1 := Lib.hid (HKA.out.trans k1)
  have HN1 := Lib.hid (HN.out.keeps k1 id)
  cases T with
  | inl e1 =>
    obtain ⟨cd, n⟩ := e1
    obtain ⟨v, k, rfl, hc⟩ := hbad1 cd n rfl
    have HLO := Lib.hid (HLN.out cd n rfl k)
    obtain ⟨ty, vx, rfl⟩ := hc.form
    have HE : Hid (O = .inl (cd, n)) := Lib.hid HO.out
    have HCh := Lib.hid hc
    have HNE : Hid (∀ a cs, Blk w1 a tFault cs → ¬ a = w.heap.size) := Lib.hid (fun a cs hb e => by subst e; exact Blk.ne_ hb HN1.out (by decide) rfl)
    have z0 : w1.cell? ⟨w.heap.size, 0, none⟩ = some (.slice none 0 0) := HN1.out.cell 0
    have f0 := HN1.out.frozen 0
    have z1 : w1.cell? ⟨w.heap.size, 1, none⟩ = some (.slice none 0 0) := HN1.out.cell 1
    have f1 := HN1.out.frozen 1
    have z2 : w1.cell? ⟨w.heap.size, 2, none⟩ = some (.slice none 0 0) := HN1.out.cell 2
    have f2 := HN1.out.frozen 2
    have z3 : w1.cell? ⟨w.heap.size, 3, none⟩ = some (.slice none 0 0) := HN1.out.cell 3
    have f3 := HN1.out.frozen 3
    have z4 : w1.cell? ⟨w.heap.size, 4, none⟩ = some (.string ⟨#[]⟩) := HN1.out.cell 4
    have f4 := HN1.out.frozen 4
    have z5 : w1.cell? ⟨w.heap.size, 5, none⟩ = some (.string ⟨#[]⟩) := HN1.out.cell 5
    have f5 := HN1.out.frozen 5
    have z6 : w1.cell? ⟨w.heap.size, 6, none⟩ = some (.string ⟨#[]⟩) := HN1.out.cell 6
    have f6 := HN1.out.frozen 6
    have z7 : w1.cell? ⟨w.heap.size, 7, none⟩ = some (.string ⟨#[]⟩) := HN1.out.cell 7
    have f7 := HN1.out.frozen 7
    have z8 : w1.cell? ⟨w.heap.size, 8, none⟩ = some (.string ⟨#[]⟩) := HN1.out.cell 8
    have f8 := HN1.out.frozen 8
    have z9 : w1.cell? ⟨w.heap.size, 9, none⟩ = some (.string ⟨#[]⟩) := HN1.out.cell 9
    have f9 := HN1.out.frozen 9
    have z10 : w1.cell? ⟨w.heap.size, 10, none⟩ = some (.string ⟨#[]⟩) := HN1.out.cell 10
    have f10 := HN1.out.frozen 10
    have z11 : w1.cell? ⟨w.heap.size, 11, none⟩ = some (.string ⟨#[]⟩) := HN1.out.cell 11
    have f11 := HN1.out.frozen 11
    have z12 : w1.cell? ⟨w.heap.size, 12, none⟩ = some (.string ⟨#[]⟩) := HN1.out.cell 12
    have f12 := HN1.out.frozen 12
    have z13 : w1.cell? ⟨w.heap.size, 13, none⟩ = some (.string ⟨#[]⟩) := HN1.out.cell 13
    have f13 := HN1.out.frozen 13
    clear hgood1 hbad1 hc k1
    go_wp2_with fail
    refine ret_cell_tmp rfl w.heap.size 29 _ _ rfl (conf_set HN1.out noV noV noV noV ⟨#[]⟩ ⟨#[]⟩ ⟨#[]⟩ ⟨#[]⟩ ⟨#[]⟩ ⟨#[]⟩ ⟨#[]⟩ ⟨#[]⟩ ⟨#[]⟩ ⟨#[]⟩).1 Tryz.underlying29 rfl (by kernel_rfl) rfl ?_
    exact ⟨fun c h => (by rw [HE.out] at h; cases h), fun cd' n' h => (by rw [HE.out] at h; injection h with h; injection h with h1 h2; subst h1 h2; exact ⟨_, _, rfl, HCh.out.keeps (conf_set HN1.out noV noV noV noV ⟨#[]⟩ ⟨#[]⟩ ⟨#[]⟩ ⟨#[]⟩ ⟨#[]⟩ ⟨#[]⟩ ⟨#[]⟩ ⟨#[]⟩ ⟨#[]⟩ ⟨#[]⟩).2 HNE.out, HLO.out⟩), HK1.out.and_ (conf_set HN1.out noV noV noV noV ⟨#[]⟩ ⟨#[]⟩ ⟨#[]⟩ ⟨#[]⟩ ⟨#[]⟩ ⟨#[]⟩ ⟨#[]⟩ ⟨#[]⟩ ⟨#[]⟩ ⟨#[]⟩).2 (fun i hi e => by omega)⟩
  | inr xs =>
    obtain ⟨v, rfl, S, hat, hS⟩ := hgood1 xs rfl
    obtain ⟨ta, tc, rfl, hle, hmx⟩ := hat.sl
    have hcnt := HCO.out xs rfl
    have HGD := Lib.hid (HG.out xs rfl)
    have HE : Hid (O = stmtsS Cf.empty usual0 xs) := Lib.hid HO.out
    have HAT := Lib.hid hat
    have HS := Lib.hid hS
    clear hgood1 hbad1 k1 hat hS
    go_wp2_with fail
    refine (HUS.out _).mono ?_
    rintro e w2 ⟨rfl, k2⟩
    have HK2 := Lib.hid (HK1.out.trans k2)
    have HN2 := Lib.hid (HN1.out.keeps k2 id)
    have HAT2 := Lib.hid (HAT.out.keeps k2 (fun _ _ _ => id))
    have hs12 := k2.size
    have hlt2 := HN2.out.lt
    have HBG := Lib.hid (Ld.begin_ w2 w2.heap.size (Nat.le_refl _))
    clear k2
    unfold conR usual0
    go_wp2_with fail
    go_loopw [25] (fun u wr => ∃ (i : Nat), u = .int .i64 i ∧ i ≤ xs.length ∧ Hid (∃ c' u' ks' cv'' gv'' uv'' av'' b0'' b1'' b2'' b3'' b4'' b5'' b6'' b7'' b8'' b9'', Ld wr (w2.heap.size + 1) w2.heap.size w2.heap.size cv'' gv'' uv'' av'' b0'' b1'' b2'' b3'' b4'' b5'' b6'' b7'' b8'' b9'' c' u' ks' ∧ Seen c' ks' ∧ ks'.length ≤ i ∧ stmtsS c' u' (xs.drop i) = O ∧ Keeps (fun j => w2.heap.size ≤ j) w2 wr)) (fun u _ => xs.length - (intOf u).toNat)
    case atStart => exact ⟨0, rfl, Nat.zero_le _, Lib.hid ⟨_, _, _, _, _, _, _, _, _, _, _, _, _, _, _, _, _, HBG.out, Seen.begin_, Nat.le_refl _, by rw [List.drop_zero]; exact HE.out.symm, ((Keeps.refl _ _).alloc _).alloc _⟩⟩
    case round =>
      obtain ⟨i, rfl, hi, HI⟩ := hrel
      rename World => wr
      obtain ⟨c', u', ks', cv', gv', uv', av', b0', b1', b2', b3', b4', b5', b6', b7', b8', b9', hL, hSeen, hksl, hST, hK⟩ := HI.out
      have HLr := Lib.hid hL
      have HSE := Lib.hid hSeen
      have HSTr := Lib.hid hST
      have HK := Lib.hid hK
      have HNr := Lib.hid (HN2.out.keeps hK (by omega))
      have hszr := hK.size
      clear HI hL hSeen hST
      by_cases hlt : i < xs.length
      · obtain ⟨x, hx⟩ : ∃ x, xs[i]? = some x := ⟨_, List.getElem?_eq_getElem hlt⟩
        have hsr := HAT2.out.keeps hK (fun j _ hj e => by have := (HS.out j hj).2; omega)
        obtain ⟨bk, off, ⟨yk, ya, yn, yc, yb, yla, yln, ylc, yli⟩, rfl, hbl, hSb, -, -, hml, hMy, hcell⟩ := nds_at hsr hx
        obtain ⟨y0, y1, y2, y3, y4⟩ := hcell wr (Keeps.refl _ _)
        have hgd := (NdsG.of_mem HGD.out (List.mem_of_getElem? hx)).stmt
        have kal : Keeps (fun _ => False) wr (wr.alloc (.cells #[.string yk, .slice ya yn yc, .bool yb, .slice yla yln ylc, .int .i64 yli] 60)) := (Keeps.refl _ _).alloc _
        have hsta := stmt_any _ S x ⟨yk, ya, yn, yc, yb, yla, yln, ylc, yli⟩ (NdM.keeps kal (fun _ _ _ => id) _ _ hMy) hgd.1 hgd.2.1 hgd.2.2.1 hgd.2.2.2 (w2.heap.size + 1) w2.heap.size w2.heap.size _ _ _ _ _ _ _ _ _ _ _ _ _ _ c' u' ks' (HLr.out.same kal) HSE.out (by omega) (fun j hj => by have := (HS.out j hj).2; omega) (Nat.le_trans hszr kal.size)
        simp only [ndR] at hsta
        have HSTA := Lib.hid hsta
        have HDR : Hid (O = match stmtS c' u' x with | .inl e => .inl e | .inr (c2, u2) => stmtsS c2 u2 (xs.drop (i + 1))) := Lib.hid (by
          have := HSTr.out
          rw [List.drop_eq_getElem_cons hlt, stmtsS] at this
          have e : xs[i] = x := by rw [List.getElem?_eq_getElem hlt] at hx; exact Option.some.inj hx
          rw [e] at this
          rw [← this]
          cases stmtS c' u' x <;> rfl)
        have HKAL := Lib.hid (hK.and_ kal (fun _ _ h => h.elim))
        clear hsta hx hsr hcell hMy hK kal hgd hml
        go_wp2_with fail
        refine HSTA.out.mono ?_
        rintro e w3 ⟨hok, hbad, k3⟩
        have HK3 := Lib.hid (HKAL.out.trans k3)
        have HN3 := Lib.hid (HN2.out.keeps HK3.out (by omega))
        clear k3
        cases hq : stmtS c' u' x with
        | inl e1 =>
          obtain ⟨cd, n⟩ := e1
          obtain ⟨v, ch, rfl, hc, hln⟩ := hbad cd n hq
          obtain ⟨ty, vx, rfl⟩ := hc.form
          have HEE : Hid (O = .inl (cd, n)) := Lib.hid (by rw [HDR.out, hq])
          have HCh := Lib.hid (And.intro hc hln)
          have z0 : w3.cell? ⟨w.heap.size, 0, none⟩ = some (.slice none 0 0) := HN3.out.cell 0
          have f0 := HN3.out.frozen 0
          have z1 : w3.cell? ⟨w.heap.size, 1, none⟩ = some (.slice none 0 0) := HN3.out.cell 1
          have f1 := HN3.out.frozen 1
          have z2 : w3.cell? ⟨w.heap.size, 2, none⟩ = some (.slice none 0 0) := HN3.out.cell 2
          have f2 := HN3.out.frozen 2
          have z3 : w3.cell? ⟨w.heap.size, 3, none⟩ = some (.slice none 0 0) := HN3.out.cell 3
          have f3 := HN3.out.frozen 3
          have z4 : w3.cell? ⟨w.heap.size, 4, none⟩ = some (.string ⟨#[]⟩) := HN3.out.cell 4
          have f4 := HN3.out.frozen 4
          have z5 : w3.cell? ⟨w.heap.size, 5, none⟩ = some (.string ⟨#[]⟩) := HN3.out.cell 5
          have f5 := HN3.out.frozen 5
          have z6 : w3.cell? ⟨w.heap.size, 6, none⟩ = some (.string ⟨#[]⟩) := HN3.out.cell 6
          have f6 := HN3.out.frozen 6
          have z7 : w3.cell? ⟨w.heap.size, 7, none⟩ = some (.string ⟨#[]⟩) := HN3.out.cell 7
          have f7 := HN3.out.frozen 7
          have z8 : w3.cell? ⟨w.heap.size, 8, none⟩ = some (.string ⟨#[]⟩) := HN3.out.cell 8
          have f8 := HN3.out.frozen 8
          have z9 : w3.cell? ⟨w.heap.size, 9, none⟩ = some (.string ⟨#[]⟩) := HN3.out.cell 9
          have f9 := HN3.out.frozen 9
          have z10 : w3.cell? ⟨w.heap.size, 10, none⟩ = some (.string ⟨#[]⟩) := HN3.out.cell 10
          have f10 := HN3.out.frozen 10
          have z11 : w3.cell? ⟨w.heap.size, 11, none⟩ = some (.string ⟨#[]⟩) := HN3.out.cell 11
          have f11 := HN3.out.frozen 11
          have z12 : w3.cell? ⟨w.heap.size, 12, none⟩ = some (.string ⟨#[]⟩) := HN3.out.cell 12
          have f12 := HN3.out.frozen 12
          have z13 : w3.cell? ⟨w.heap.size, 13, none⟩ = some (.string ⟨#[]⟩) := HN3.out.cell 13
          have f13 := HN3.out.frozen 13
          clear hok hbad hq hc hln
          go_wp2_with fail
          refine ret_cell_tmp rfl w.heap.size 29 _ _ rfl (conf_set HN3.out noV noV noV noV ⟨#[]⟩ ⟨#[]⟩ ⟨#[]⟩ ⟨#[]⟩ ⟨#[]⟩ ⟨#[]⟩ ⟨#[]⟩ ⟨#[]⟩ ⟨#[]⟩ ⟨#[]⟩).1 Tryz.underlying29 rfl (by kernel_rfl) rfl ?_
          exact ⟨fun c h => (by rw [HEE.out] at h; cases h), fun cd' n' h => (by rw [HEE.out] at h; injection h with h; injection h with h1 h2; subst h1 h2; exact ⟨_, _, rfl, HCh.out.1.keeps (conf_set HN3.out noV noV noV noV ⟨#[]⟩ ⟨#[]⟩ ⟨#[]⟩ ⟨#[]⟩ ⟨#[]⟩ ⟨#[]⟩ ⟨#[]⟩ ⟨#[]⟩ ⟨#[]⟩ ⟨#[]⟩).2 (fun a cs hb e => by subst e; exact Blk.ne_ hb HN3.out (by decide) rfl), HCh.out.2⟩), (HK2.out.and_ HK3.out (fun i hi e => by omega)).and_ (conf_set HN3.out noV noV noV noV ⟨#[]⟩ ⟨#[]⟩ ⟨#[]⟩ ⟨#[]⟩ ⟨#[]⟩ ⟨#[]⟩ ⟨#[]⟩ ⟨#[]⟩ ⟨#[]⟩ ⟨#[]⟩).2 (fun i hi e => by omega)⟩
        | inr p =>
          obtain ⟨c2, u2⟩ := p
          obtain ⟨rfl, hld⟩ := hok c2 u2 hq
          have HSN : Hid (stmtsS c2 u2 (xs.drop (i + 1)) = O) := Lib.hid (by rw [HDR.out, hq])
          have HLD := Lib.hid hld
          clear hok hbad hq hld
          go_wp2_with fail
          go_roundw
          case measure => show xs.length - ((i : Int) + 1).toNat < xs.length - ((i : Int)).toNat; omega
          case rel =>
            obtain ⟨d1, d2, d3, d4, d5, d6, d7, d8, d9, d10, d11, d12, d13, d14, ks2, h1, h2, h3⟩ := HLD.out
            exact ⟨i + 1, by go_num, by omega, Lib.hid ⟨c2, u2, ks2, d1, d2, d3, d4, d5, d6, d7, d8, d9, d10, d11, d12, d13, d14, h1, h2, by omega, HSN.out, HK3.out⟩⟩
      · have hie : i = xs.length := by omega
        obtain ⟨xa1, xc1, rfl⟩ := HLr.out.cons.sl
        obtain ⟨xa2, xc2, rfl⟩ := HLr.out.grpSl
        obtain ⟨xa3, xc3, rfl⟩ := HLr.out.usrs.sl
        obtain ⟨xa4, xc4, rfl⟩ := HLr.out.accs.sl
        have HEE : Hid (O = .inr c') := Lib.hid (by have := HSTr.out; rw [hie, List.drop_length, stmtsS] at this; exact this.symm)
        have y0 : wr.cell? ⟨w2.heap.size + 1, 0, none⟩ = some (.slice xa1 c'.cons.length xc1) := HLr.out.blk.cell 0
        have y1 : wr.cell? ⟨w2.heap.size + 1, 1, none⟩ = some (.slice xa2 c'.grps.length xc2) := HLr.out.blk.cell 1
        have y2 : wr.cell? ⟨w2.heap.size + 1, 2, none⟩ = some (.slice xa3 c'.usrs.length xc3) := HLr.out.blk.cell 2
        have y3 : wr.cell? ⟨w2.heap.size + 1, 3, none⟩ = some (.slice xa4 c'.accs.length xc4) := HLr.out.blk.cell 3
        have y4 : wr.cell? ⟨w2.heap.size + 1, 4, none⟩ = some (.string b0') := HLr.out.blk.cell 4
        have y5 : wr.cell? ⟨w2.heap.size + 1, 5, none⟩ = some (.string b1') := HLr.out.blk.cell 5
        have y6 : wr.cell? ⟨w2.heap.size + 1, 6, none⟩ = some (.string b2') := HLr.out.blk.cell 6
        have y7 : wr.cell? ⟨w2.heap.size + 1, 7, none⟩ = some (.string b3') := HLr.out.blk.cell 7
        have y8 : wr.cell? ⟨w2.heap.size + 1, 8, none⟩ = some (.string b4') := HLr.out.blk.cell 8
        have y9 : wr.cell? ⟨w2.heap.size + 1, 9, none⟩ = some (.string b5') := HLr.out.blk.cell 9
        have y10 : wr.cell? ⟨w2.heap.size + 1, 10, none⟩ = some (.string b6') := HLr.out.blk.cell 10
        have y11 : wr.cell? ⟨w2.heap.size + 1, 11, none⟩ = some (.string b7') := HLr.out.blk.cell 11
        have y12 : wr.cell? ⟨w2.heap.size + 1, 12, none⟩ = some (.string b8') := HLr.out.blk.cell 12
        have y13 : wr.cell? ⟨w2.heap.size + 1, 13, none⟩ = some (.string b9') := HLr.out.blk.cell 13
        have z0 : wr.cell? ⟨w.heap.size, 0, none⟩ = some (.slice none 0 0) := HNr.out.cell 0
        have f0 := HNr.out.frozen 0
        have z1 : wr.cell? ⟨w.heap.size, 1, none⟩ = some (.slice none 0 0) := HNr.out.cell 1
        have f1 := HNr.out.frozen 1
        have z2 : wr.cell? ⟨w.heap.size, 2, none⟩ = some (.slice none 0 0) := HNr.out.cell 2
        have f2 := HNr.out.frozen 2
        have z3 : wr.cell? ⟨w.heap.size, 3, none⟩ = some (.slice none 0 0) := HNr.out.cell 3
        have f3 := HNr.out.frozen 3
        have z4 : wr.cell? ⟨w.heap.size, 4, none⟩ = some (.string ⟨#[]⟩) := HNr.out.cell 4
        have f4 := HNr.out.frozen 4
        have z5 : wr.cell? ⟨w.heap.size, 5, none⟩ = some (.string ⟨#[]⟩) := HNr.out.cell 5
        have f5 := HNr.out.frozen 5
        have z6 : wr.cell? ⟨w.heap.size, 6, none⟩ = some (.string ⟨#[]⟩) := HNr.out.cell 6
        have f6 := HNr.out.frozen 6
        have z7 : wr.cell? ⟨w.heap.size, 7, none⟩ = some (.string ⟨#[]⟩) := HNr.out.cell 7
        have f7 := HNr.out.frozen 7
        have z8 : wr.cell? ⟨w.heap.size, 8, none⟩ = some (.string ⟨#[]⟩) := HNr.out.cell 8
        have f8 := HNr.out.frozen 8
        have z9 : wr.cell? ⟨w.heap.size, 9, none⟩ = some (.string ⟨#[]⟩) := HNr.out.cell 9
        have f9 := HNr.out.frozen 9
        have z10 : wr.cell? ⟨w.heap.size, 10, none⟩ = some (.string ⟨#[]⟩) := HNr.out.cell 10
        have f10 := HNr.out.frozen 10
        have z11 : wr.cell? ⟨w.heap.size, 11, none⟩ = some (.string ⟨#[]⟩) := HNr.out.cell 11
        have f11 := HNr.out.frozen 11
        have z12 : wr.cell? ⟨w.heap.size, 12, none⟩ = some (.string ⟨#[]⟩) := HNr.out.cell 12
        have f12 := HNr.out.frozen 12
        have z13 : wr.cell? ⟨w.heap.size, 13, none⟩ = some (.string ⟨#[]⟩) := HNr.out.cell 13
        have f13 := HNr.out.frozen 13
        go_wp2_with fail
        refine ret_cell_tmp rfl w.heap.size 29 _ _ rfl (conf_set HNr.out (.slice xa1 c'.cons.length xc1) (.slice xa2 c'.grps.length xc2) (.slice xa3 c'.usrs.length xc3) (.slice xa4 c'.accs.length xc4) b0' b1' b2' b3' b4' b5' b6' b7' b8' b9').1 Tryz.underlying29 rfl (by kernel_rfl) rfl ?_
        have kf := (conf_set HNr.out (.slice xa1 c'.cons.length xc1) (.slice xa2 c'.grps.length xc2) (.slice xa3 c'.usrs.length xc3) (.slice xa4 c'.accs.length xc4) b0' b1' b2' b3' b4' b5' b6' b7' b8' b9').2
        exact ⟨fun c h => (by rw [HEE.out] at h; injection h with h; subst h; exact ⟨_, _, _, _, _, _, _, _, _, _, _, _, _, _, rfl, (HLr.out.own.keeps kf (fun i t cs hb ht e => by subst e; exact Blk.ne_ hb HNr.out (by rcases ht with rfl | rfl | rfl | rfl | rfl <;> decide) rfl)).less (by omega), HSE.out.few⟩), fun cd' n' h => (by rw [HEE.out] at h; cases h), (HK2.out.and_ HK.out (fun i hi e => by omega)).and_ kf (fun i hi e => by omega)⟩
end Go.Proofs.YtfpajgmdejlaeaaGreatDoor
