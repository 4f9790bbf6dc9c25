/-
  conf.told: a console as a statement.
-/
import Derived.Test.YtfpajgmdejlaeaaGreatDoorQConfV
import Derived.Test.YtfpajgmdejlaeaaGreatDoorQRegs
import Derived.Test.YtfpajgmdejlaeaaGreatDoorQConfX
import Derived.Deep.DeepCutAuto
import Derived.Deep.CutBlock
namespace Go.Proofs.YtfpajgmdejlaeaaGreatDoor
open Go.RowKit Go.Maps

/-- a row of texts in memory, in blocks of S -/
def RowV (S : Nat → Prop) (w : World) (v : Value) (l : List ByteArray) : Prop := ∃ a c, v = .slice a l.length c ∧ SlAt strR 1 w a l.length l ∧ InS S a l.length ∧ l.length ≤ c ∧ c ≤ maxLen
/-- a statement in memory, in blocks of S -/
def NodV (S : Nat → Prop) (w : World) (v : Value) (x : Nd) : Prop := ∃ r, v = .agg (ndR r).toArray ∧ NdM w S x r
/-- the cell of the result is filled -/
def Filled (S : Nat → Prop) (b : Nat) (x : Nd) (w : World) : Prop := ∃ r, Blk w b 60 (ndR r).toArray ∧ NdM w S x r
def Shaped (b : Nat) (w : World) : Prop := ∃ v0 v1 v2 v3 v4, Blk w b 60 #[v0, v1, v2, v3, v4]
def ToldR (S : Nat → Prop) (b : Nat) (x : Nd) (w w' : World) : Prop := Keeps (fun i => i = b) w w' ∧ (Filled S b x w → Filled S b x w') ∧ (Shaped b w → Shaped b w')
section
variable {S : Nat → Prop} {b : Nat} {y : Nd} {w w' : World}
theorem RowV.keeps {v : Value} {l : List ByteArray} (hS : ¬ S b) (h : RowV S w v l) (k : Keeps (fun i => i = b) w w') : RowV S w' v l := by
  obtain ⟨a, c, rfl, h1, h2, h3⟩ := h
  exact ⟨a, c, rfl, h1.keepsS h2 k (fun i _ hi e => hS (e ▸ hi)), h2, h3⟩
theorem NodV.keeps {v : Value} {x : Nd} (hS : ¬ S b) (h : NodV S w v x) (k : Keeps (fun i => i = b) w w') : NodV S w' v x := by
  obtain ⟨r, rfl, h1⟩ := h
  exact ⟨r, rfl, h1.keeps k (fun i _ hi e => hS (e ▸ hi))⟩
theorem ToldR.of (k : Keeps (fun _ => False) w w') : ToldR S b y w w' := ⟨k.none_, fun ⟨r, h1, h2⟩ => ⟨r, h1.keeps k id, h2.keeps k (fun _ _ _ => id)⟩, fun ⟨v0, v1, v2, v3, v4, h⟩ => ⟨v0, v1, v2, v3, v4, h.keeps k id⟩⟩
theorem ToldR.trans {w3 : World} (h : ToldR S b y w w') (k : ToldR S b y w' w3) : ToldR S b y w w3 := ⟨h.1.trans k.1, fun f => k.2.1 (h.2.1 f), fun f => k.2.2 (h.2.2 f)⟩
end
theorem RowV.new {S : Nat → Prop} (w : World) (l : List ByteArray) (hl : l.length ≤ 16) (hS : S w.heap.size) : RowV S (w.alloc (.cells (l.map Value.string).toArray 9)) (.slice (some ⟨w.heap.size, 0, none⟩) l.length l.length) l := by
  refine ⟨_, _, rfl, ⟨rfl, fun _ => ⟨_, 0, rfl, by simp, fun i s j v hi hv => ?_⟩⟩, fun _ => ⟨_, 0, rfl, hS⟩, Nat.le_refl _, Nat.le_trans hl (by decide)⟩
  have hj : j = 0 := by
    have := (List.getElem?_eq_some_iff.1 hv).1
    simp [strR] at this
    exact this
  subst hj
  have hv' : v = .string s := by simp [strR] at hv; exact hv.symm
  subst hv'
  rw [(Blk.new w _ _).cell]
  simp [hi]
theorem NodV.of1 {S : Nat → Prop} {w w' : World} {key : ByteArray} {a : Option Addr} {c : Nat} {l : List ByteArray} (h : SlAt strR 1 w a l.length l ∧ InS S a l.length ∧ l.length ≤ c ∧ c ≤ maxLen) (k : Keeps (fun _ => False) w w') : NodV S w' (.agg (ndR (flatV key a l.length c)).toArray) (oneN key l) :=
  ⟨flatV key a l.length c, rfl, by
    unfold oneN flatV
    rw [NdM]
    exact ⟨rfl, rfl, rfl, ⟨h.1.keepsS h.2.1 k (fun _ _ _ => id), h.2.1, h.2.2.1, h.2.2.2⟩, [], ⟨rfl, fun h => absurd h (by simp)⟩, InS.none_, Nat.le_refl _, Nat.zero_le _, by rw [NdAll]; trivial⟩⟩
theorem told1_row {S : Nat → Prop} {w : World} {v : Value} {l : List ByteArray} (key : ByteArray) (h : RowV S w v l) : Calls Tryz.prog 57 #[.string key, v] w fun e w' => ∃ n, e = .returned n ∧ NodV S w' n (oneN key l) ∧ Keeps (fun _ => False) w w' := by
  obtain ⟨a, c, rfl, h1⟩ := h
  refine (told1_any w key a l.length c).mono ?_
  rintro e w4 ⟨rfl, k4⟩
  exact ⟨_, rfl, NodV.of1 h1 k4, k4⟩
theorem NdsAt.new7 {S : Nat → Prop} (w : World) {x : Con} (r1 r2 r3 r4 r5 r6 r7 : NdV) (m1 : NdM w S (oneN kKind [kindW x.kind]) r1) (m2 : NdM w S (oneN kLines [digS x.lines]) r2) (m3 : NdM w S (oneN kBytes [digS x.bytes]) r3) (m4 : NdM w S (oneN kGens [digS x.gens]) r4) (m5 : NdM w S (oneN kSize [digS x.size]) r5) (m6 : NdM w S (oneN kRetry [digS x.base, digS x.cap, digS x.jitter]) r6) (m7 : NdM w S (oneN kInit [x.init]) r7) (hS : S w.heap.size) :
    NdsAt (w.alloc (.cells ([r1, r2, r3, r4, r5, r6, r7].map ndR).flatten.toArray 60)) S (.slice (some ⟨w.heap.size, 0, none⟩) 7 7) (subT x) := by
  have k : Keeps (fun _ => False) w (w.alloc (.cells ([r1, r2, r3, r4, r5, r6, r7].map ndR).flatten.toArray 60)) := (Keeps.refl _ _).alloc _
  refine ⟨_, 7, [r1, r2, r3, r4, r5, r6, r7], rfl, ⟨rfl, fun _ => ⟨_, 0, rfl, by simp, fun i r j v hi hv => ?_⟩⟩, fun _ => ⟨_, 0, rfl, hS⟩, Nat.le_refl _, by decide, ?_⟩
  · rw [(Blk.new w _ _).cell, Nat.zero_add, List.getElem?_toArray]
    exact flat_get ndR_len _ i r j v hi hv
  · unfold subT
    have K := fun (x : Nd) (r : NdV) (h : NdM w S x r) => h.keeps k (fun _ _ _ => id)
    rw [NdAll, NdAll, NdAll, NdAll, NdAll, NdAll, NdAll, NdAll]
    exact ⟨K _ _ m1, K _ _ m2, K _ _ m3, K _ _ m4, K _ _ m5, K _ _ m6, K _ _ m7, trivial⟩
theorem RowV.sl {S : Nat → Prop} {w : World} {v : Value} {l : List ByteArray} (h : RowV S w v l) : ∃ a c, v = .slice a l.length c := by
  obtain ⟨a, c, e, -⟩ := h
  exact ⟨a, c, e⟩
theorem NodV.console {S : Nat → Prop} {w : World} {x : Con} {v u : Value} (h : RowV S w v [x.name]) (h2 : NdsAt w S u (subT x)) : NodV S w (.agg #[.string kConsole, v, .bool true, u, .int .i64 0]) (toldN x) := by
  obtain ⟨a, c, rfl, h3, h4, h5, h6⟩ := h
  obtain ⟨b, d, rs, rfl, g1, g2, g3, g4, g5⟩ := h2
  refine ⟨⟨kConsole, a, [x.name].length, c, true, b, (subT x).length, d, 0⟩, rfl, ?_⟩
  unfold toldN
  rw [NdM]
  exact ⟨rfl, rfl, rfl, ⟨h3, h4, h5, h6⟩, rs, g1, g2, g3, g4, g5⟩
theorem ToldR.filled {S : Nat → Prop} {b : Nat} {w : World} {y : Nd} {v0 v1 v2 v3 v4 : Value} {r : NdV} (hS : ¬ S b) (hb : Blk w b 60 #[v0, v1, v2, v3, v4]) (m : NdM w S y r) :
    ToldR S b y w (((((w.setCell ⟨b, 0, none⟩ (.string r.key)).setCell ⟨b, 1, none⟩ (.slice r.aa r.an r.ac)).setCell ⟨b, 2, none⟩ (.bool r.block)).setCell ⟨b, 3, none⟩ (.slice r.la r.ln r.lc)).setCell ⟨b, 4, none⟩ (.int .i64 r.line)) ∧
    Filled S b y (((((w.setCell ⟨b, 0, none⟩ (.string r.key)).setCell ⟨b, 1, none⟩ (.slice r.aa r.an r.ac)).setCell ⟨b, 2, none⟩ (.bool r.block)).setCell ⟨b, 3, none⟩ (.slice r.la r.ln r.lc)).setCell ⟨b, 4, none⟩ (.int .i64 r.line)) := by
  have k : Keeps (fun i => i = b) w (((((w.setCell ⟨b, 0, none⟩ (.string r.key)).setCell ⟨b, 1, none⟩ (.slice r.aa r.an r.ac)).setCell ⟨b, 2, none⟩ (.bool r.block)).setCell ⟨b, 3, none⟩ (.slice r.la r.ln r.lc)).setCell ⟨b, 4, none⟩ (.int .i64 r.line)) :=
    (((((Keeps.refl (fun i => i = b) w).setCell (p := ⟨b, 0, none⟩) (fun _ => rfl) _).setCell (p := ⟨b, 1, none⟩) (fun _ => rfl) _).setCell (p := ⟨b, 2, none⟩) (fun _ => rfl) _).setCell (p := ⟨b, 3, none⟩) (fun _ => rfl) _).setCell (p := ⟨b, 4, none⟩) (fun _ => rfl) _
  have hb' := ((((hb.set_ 0 (.string r.key)).set_ 1 (.slice r.aa r.an r.ac)).set_ 2 (.bool r.block)).set_ 3 (.slice r.la r.ln r.lc)).set_ 4 (.int .i64 r.line)
  have f : Filled S b y (((((w.setCell ⟨b, 0, none⟩ (.string r.key)).setCell ⟨b, 1, none⟩ (.slice r.aa r.an r.ac)).setCell ⟨b, 2, none⟩ (.bool r.block)).setCell ⟨b, 3, none⟩ (.slice r.la r.ln r.lc)).setCell ⟨b, 4, none⟩ (.int .i64 r.line)) :=
    ⟨r, hb', m.keeps k (fun i _ hi e => hS (e ▸ hi))⟩
  exact ⟨⟨k, fun _ => f, fun _ => ⟨_, _, _, _, _, hb'⟩⟩, f⟩
/-- what each operation of told's last region yields -/
def ToldP (S : Nat → Prop) (b1 b2 : Nat) (x : Con) : Nat → Value → World → Prop
  | 0, v, _ => v = .pointer (some ⟨b1, 0, none⟩)
  | 1, v, _ => v = .string x.name
  | 2, v, w => RowV S w v [x.name]
  | 3, v, _ => v = .func (.func 57) #[] #[]
  | 4, v, _ => v = .string (kindW x.kind)
  | 5, v, w => RowV S w v [kindW x.kind]
  | 6, v, w => NodV S w v (oneN kKind [kindW x.kind])
  | 7, v, _ => v = .func (.func 57) #[] #[]
  | 8, v, _ => v = .pointer (some ⟨b1, 2, none⟩)
  | 9, v, _ => v = .int .i64 x.lines
  | 10, v, _ => v = .string (digS x.lines)
  | 11, v, w => RowV S w v [digS x.lines]
  | 12, v, w => NodV S w v (oneN kLines [digS x.lines])
  | 13, v, _ => v = .func (.func 57) #[] #[]
  | 14, v, _ => v = .pointer (some ⟨b1, 3, none⟩)
  | 15, v, _ => v = .int .i64 x.bytes
  | 16, v, _ => v = .string (digS x.bytes)
  | 17, v, w => RowV S w v [digS x.bytes]
  | 18, v, w => NodV S w v (oneN kBytes [digS x.bytes])
  | 19, v, _ => v = .func (.func 57) #[] #[]
  | 20, v, _ => v = .pointer (some ⟨b1, 4, none⟩)
  | 21, v, _ => v = .int .i64 x.gens
  | 22, v, _ => v = .string (digS x.gens)
  | 23, v, w => RowV S w v [digS x.gens]
  | 24, v, w => NodV S w v (oneN kGens [digS x.gens])
  | 25, v, _ => v = .func (.func 57) #[] #[]
  | 26, v, _ => v = .pointer (some ⟨b1, 5, none⟩)
  | 27, v, _ => v = .int .i64 x.size
  | 28, v, _ => v = .string (digS x.size)
  | 29, v, w => RowV S w v [digS x.size]
  | 30, v, w => NodV S w v (oneN kSize [digS x.size])
  | 31, v, _ => v = .func (.func 57) #[] #[]
  | 32, v, _ => v = .pointer (some ⟨b1, 6, none⟩)
  | 33, v, _ => v = .int .i64 x.base
  | 34, v, _ => v = .string (digS x.base)
  | 35, v, _ => v = .pointer (some ⟨b1, 7, none⟩)
  | 36, v, _ => v = .int .i64 x.cap
  | 37, v, _ => v = .string (digS x.cap)
  | 38, v, _ => v = .pointer (some ⟨b1, 8, none⟩)
  | 39, v, _ => v = .int .i64 x.jitter
  | 40, v, _ => v = .string (digS x.jitter)
  | 41, v, w => RowV S w v [digS x.base, digS x.cap, digS x.jitter]
  | 42, v, w => NodV S w v (oneN kRetry [digS x.base, digS x.cap, digS x.jitter])
  | 43, v, _ => v = .func (.func 57) #[] #[]
  | 44, v, _ => v = .pointer (some ⟨b1, 9, none⟩)
  | 45, v, _ => v = .string x.init
  | 46, v, w => RowV S w v [x.init]
  | 47, v, w => NodV S w v (oneN kInit [x.init])
  | 48, v, w => NdsAt w S v (subT x)
  | 49, v, w => NodV S w v (toldN x)
  | 50, _, w => Filled S b2 (toldN x) w
  | _, _, _ => True
theorem ToldP.stable {S : Nat → Prop} {b1 b2 : Nat} {x : Con} (hS : ¬ S b2) (k : Nat) (v : Value) (w w' : World) (h : ToldR S b2 (toldN x) w w') (hp : ToldP S b1 b2 x k v w) : ToldP S b1 b2 x k v w' := by
  unfold ToldP at hp ⊢
  split at hp <;> first
    | exact hp
    | exact RowV.keeps hS hp h.1
    | exact NodV.keeps hS hp h.1
    | exact hp.keeps h.1 (fun i _ hi e => hS (e ▸ hi))
    | exact h.2.1 hp
theorem slat_cell {w : World} {b n : Nat} {l : List ByteArray} (h : SlAt strR 1 w (some ⟨b, 0, none⟩) n l) (i : Nat) (s : ByteArray) (hi : l[i]? = some s) : w.cell? ⟨b, i, none⟩ = some (.string s) := by
  obtain ⟨b', off, e, -, hc⟩ := h.2 (by have := (List.getElem?_eq_some_iff.1 hi).1; have := h.1; omega)
  injection e with e
  injection e with e1 e2
  subst e1 e2
  have := hc i s 0 (.string s) hi rfl
  rw [Nat.zero_add, Nat.mul_one, Nat.add_zero] at this
  exact this
set_option maxRecDepth 100000 in
set_option maxHeartbeats 8000000 in
theorem told_any (w : World) (x : Con) (hx : ∀ n ∈ [x.lines, x.bytes, x.gens, x.size, x.base, x.cap, x.jitter], -9223372036854775808 ≤ n ∧ n ≤ 9223372036854775807) :
    Calls Tryz.prog 24 #[.agg (conR x).toArray] w fun e w' => (∃ r, e = .returned (.agg (ndR r).toArray) ∧ NdM w' (fun i => w.heap.size ≤ i) (toldN x) r) ∧ Keeps (fun _ => False) w w' := by
  have HX := Lib.hid hx
  clear hx
  obtain ⟨wb, hwb⟩ : ∃ wb, wb = (w.alloc (.cells (conR x).toArray 42)).alloc (.cells #[.string ⟨#[]⟩, .slice none 0 0, .bool false, .slice none 0 0, .int .i64 0] 60) := ⟨_, rfl⟩
  have hk0 : Keeps (fun _ => False) w wb := by rw [hwb]; exact ((Keeps.refl _ _).alloc _).alloc _
  have hb1 : Blk wb w.heap.size 42 (conR x).toArray := by rw [hwb]; exact (Blk.new _ _ _).alloc _
  have hb2 : Blk wb (w.heap.size + 1) 60 #[.string ⟨#[]⟩, .slice none 0 0, .bool false, .slice none 0 0, .int .i64 0] := by rw [hwb]; exact Blk.new2 _ _ _ _
  have hs0 := hk0.size
  have HWB := Lib.hid hwb
  have HK0 := Lib.hid hk0
  have HB1 := Lib.hid hb1
  have HB2 := Lib.hid hb2
  have y1 : wb.cell? ⟨w.heap.size, 1, none⟩ = some (.int .i64 x.kind) := hb1.cell 1
  clear hk0 hb1 hb2 hwb
  have go : x.kind = 1 ∨ x.kind = 2 ∨ (¬ x.kind = 1 ∧ ¬ x.kind = 2) := by omega
  obtain ⟨kd, hkd⟩ : ∃ kd, kd = x.kind := ⟨_, rfl⟩
  rcases go with h1 | h1 | h1
  · have HKW : Hid (kindW x.kind = kSerial) := Lib.hid (by rw [h1]; rfl)
    have HK2 := fun W => kinds_any W
    rw [h1] at y1
    have HY1 : Hid (∀ W, Keeps (fun _ => False) wb W → W.cell? ⟨w.heap.size, 1, none⟩ = some (.int .i64 1)) := Lib.hid (fun W k => by rw [← h1]; exact (HB1.out.keeps k id).cell 1)
    clear h1 hkd kd
    go_enter Tryz.func24, Tryz.ntmps24
    go_upto_region 3 with (fail)
    rw [← HWB.out]
    go_upto_region 4 with (fail)
    go_cut [4] (fun s4 wx => s4 = .string kSerial ∧ Hid (Keeps (fun _ => False) wb wx))
    case first =>
      have x0 := HY1.out wb (Keeps.refl _ _)
      go_region_with (go_at_call 58; refine (HK2 _).mono ?_; rintro e w3 ⟨⟨kb, rfl, hkb⟩, k3⟩; have kk : Keeps (fun _ => False) wb w3 := k3.from_drew; have x3 := HY1.out w3 kk; have kc := slat_cell hkb 0 _ rfl)
      all_goals (go_wp2_with fail; go_meet)
      all_goals exact ⟨rfl, Lib.hid kk⟩
    obtain ⟨rfl, HKW2⟩ := hcut
    rename World => w3
    go_upto_region 5 with (fail)
    have HC : Hid (∀ W, Keeps (fun i => i = w.heap.size + 1) w3 W → Blk W w.heap.size 42 (conR x).toArray) := Lib.hid (fun W k => (HB1.out.keeps HKW2.out id).keeps k (fun e => absurd (show w.heap.size = w.heap.size + 1 from e) (by omega)))
    have HZ : Hid (∀ W, Keeps (fun i => i = w.heap.size + 1) w3 W → w.heap.size + 2 ≤ W.heap.size) := Lib.hid (fun W k => by have := k.size; have := HKW2.out.size; have := HB2.out.lt; omega)
    have HSH : Hid (Shaped (w.heap.size + 1) w3) := Lib.hid ⟨_, _, _, _, _, HB2.out.keeps HKW2.out id⟩
    have hS : ¬ (fun i => w.heap.size ≤ i ∧ i ≠ w.heap.size + 1) (w.heap.size + 1) := fun h => h.2 rfl
    refine wp_region_specs (n := 69) (dfs := []) (R := ToldR (fun i => w.heap.size ≤ i ∧ i ≠ w.heap.size + 1) (w.heap.size + 1) (toldN x)) (Pk := ToldP (fun i => w.heap.size ≤ i ∧ i ≠ w.heap.size + 1) w.heap.size (w.heap.size + 1) x) (by kernel_rfl) rfl rfl rfl (ToldR.of (Keeps.refl _ _).drew) (fun _ _ _ h k => h.trans k) (fun k v w w' h hp => ToldP.stable hS k v w w' h hp) (by kernel_rfl) rfl ?_ ?_
    · refine StepsL.plain rfl (fun Q a w2 hR hf hd K hK => ?_) ?_
      · have f1 : a.tmps[1]?.getD undef = .pointer (some ⟨w.heap.size, 0, none⟩) := hf.out 1 (by kernel_rfl)
        go_simp
        exact hK.out _ _ (ToldR.of (Keeps.refl _ _)) rfl
      refine StepsL.plain rfl (fun Q a w2 hR hf hd K hK => ?_) ?_
      · have d0 : a.tmps[19]?.getD undef = .pointer (some ⟨w.heap.size, 0, none⟩) := hd.get 0 (by kernel_rfl)
        have cc : w2.cell? ⟨w.heap.size, 0, none⟩ = some (.string x.name) := (HC.out w2 hR.1).cell 0
        go_simp
        exact hK.out _ _ (ToldR.of (Keeps.refl _ _)) rfl
      refine StepsL.plain rfl (fun Q a w2 hR hf hd K hK => ?_) ?_
      · have d1 : a.tmps[20]?.getD undef = .string x.name := hd.get 1 (by kernel_rfl)
        have hz := HZ.out w2 hR.1
        go_simp
        exact hK.out _ _ (ToldR.of ((Keeps.refl _ _).alloc _)) (RowV.new _ [x.name] (Nat.le_of_ble_eq_true rfl) ⟨by omega, by omega⟩)
      refine StepsL.plain rfl (fun Q a w2 hR hf hd K hK => ?_) ?_
      · have f3 : a.tmps[3]?.getD undef = .func (.func 57) #[] #[] := hf.out 3 (by kernel_rfl)
        go_simp
        exact hK.out _ _ (ToldR.of (Keeps.refl _ _)) rfl
      refine StepsL.plain rfl (fun Q a w2 hR hf hd K hK => ?_) ?_
      · have f4 : a.tmps[4]?.getD undef = .string (kindW x.kind) := by rw [HKW.out]; exact hf.out 4 (by kernel_rfl)
        go_simp
        exact hK.out _ _ (ToldR.of (Keeps.refl _ _)) rfl
      refine StepsL.plain rfl (fun Q a w2 hR hf hd K hK => ?_) ?_
      · have d4 : a.tmps[23]?.getD undef = .string (kindW x.kind) := hd.get 4 (by kernel_rfl)
        have hz := HZ.out w2 hR.1
        go_simp
        exact hK.out _ _ (ToldR.of ((Keeps.refl _ _).alloc _)) (RowV.new _ [(kindW x.kind)] (Nat.le_of_ble_eq_true rfl) ⟨by omega, by omega⟩)
      refine StepsL.plain rfl (fun Q a w2 hR hf hd K hK => ?_) ?_
      · have d3 : a.tmps[22]?.getD undef = .func (.func 57) #[] #[] := hd.get 3 (by kernel_rfl)
        have t5 : RowV (fun i => w.heap.size ≤ i ∧ i ≠ w.heap.size + 1) w2 (a.tmps[24]?.getD undef) [kindW x.kind] := hd.get 5 (by kernel_rfl)
        go_simp
        refine (told1_row _ t5).mono ?_
        rintro e w4 ⟨n, rfl, hn, k4⟩
        exact hK.out _ _ (ToldR.of k4) hn
      refine StepsL.plain rfl (fun Q a w2 hR hf hd K hK => ?_) ?_
      · have f3 : a.tmps[3]?.getD undef = .func (.func 57) #[] #[] := hf.out 3 (by kernel_rfl)
        go_simp
        exact hK.out _ _ (ToldR.of (Keeps.refl _ _)) rfl
      refine StepsL.plain rfl (fun Q a w2 hR hf hd K hK => ?_) ?_
      · have f1 : a.tmps[1]?.getD undef = .pointer (some ⟨w.heap.size, 0, none⟩) := hf.out 1 (by kernel_rfl)
        go_simp
        exact hK.out _ _ (ToldR.of (Keeps.refl _ _)) rfl
      refine StepsL.plain rfl (fun Q a w2 hR hf hd K hK => ?_) ?_
      · have d8 : a.tmps[27]?.getD undef = .pointer (some ⟨w.heap.size, 2, none⟩) := hd.get 8 (by kernel_rfl)
        have cc : w2.cell? ⟨w.heap.size, 2, none⟩ = some (.int .i64 x.lines) := (HC.out w2 hR.1).cell 2
        go_simp
        exact hK.out _ _ (ToldR.of (Keeps.refl _ _)) rfl
      refine StepsL.plain rfl (fun Q a w2 hR hf hd K hK => ?_) ?_
      · have d9 : a.tmps[28]?.getD undef = .int .i64 x.lines := hd.get 9 (by kernel_rfl)
        have hb := HX.out x.lines (by simp)
        go_simp
        go_at_call 23
        refine (put_any _ _ hb.1 hb.2).mono ?_
        rintro e w4 ⟨rfl, k4⟩
        exact hK.out _ _ (ToldR.of k4) rfl
      refine StepsL.plain rfl (fun Q a w2 hR hf hd K hK => ?_) ?_
      · have d10 : a.tmps[29]?.getD undef = .string (digS x.lines) := hd.get 10 (by kernel_rfl)
        have hz := HZ.out w2 hR.1
        go_simp
        exact hK.out _ _ (ToldR.of ((Keeps.refl _ _).alloc _)) (RowV.new _ [(digS x.lines)] (Nat.le_of_ble_eq_true rfl) ⟨by omega, by omega⟩)
      refine StepsL.plain rfl (fun Q a w2 hR hf hd K hK => ?_) ?_
      · have d7 : a.tmps[26]?.getD undef = .func (.func 57) #[] #[] := hd.get 7 (by kernel_rfl)
        have t11 : RowV (fun i => w.heap.size ≤ i ∧ i ≠ w.heap.size + 1) w2 (a.tmps[30]?.getD undef) [digS x.lines] := hd.get 11 (by kernel_rfl)
        go_simp
        refine (told1_row _ t11).mono ?_
        rintro e w4 ⟨n, rfl, hn, k4⟩
        exact hK.out _ _ (ToldR.of k4) hn
      refine StepsL.plain rfl (fun Q a w2 hR hf hd K hK => ?_) ?_
      · have f3 : a.tmps[3]?.getD undef = .func (.func 57) #[] #[] := hf.out 3 (by kernel_rfl)
        go_simp
        exact hK.out _ _ (ToldR.of (Keeps.refl _ _)) rfl
      refine StepsL.plain rfl (fun Q a w2 hR hf hd K hK => ?_) ?_
      · have f1 : a.tmps[1]?.getD undef = .pointer (some ⟨w.heap.size, 0, none⟩) := hf.out 1 (by kernel_rfl)
        go_simp
        exact hK.out _ _ (ToldR.of (Keeps.refl _ _)) rfl
      refine StepsL.plain rfl (fun Q a w2 hR hf hd K hK => ?_) ?_
      · have d14 : a.tmps[33]?.getD undef = .pointer (some ⟨w.heap.size, 3, none⟩) := hd.get 14 (by kernel_rfl)
        have cc : w2.cell? ⟨w.heap.size, 3, none⟩ = some (.int .i64 x.bytes) := (HC.out w2 hR.1).cell 3
        go_simp
        exact hK.out _ _ (ToldR.of (Keeps.refl _ _)) rfl
      refine StepsL.plain rfl (fun Q a w2 hR hf hd K hK => ?_) ?_
      · have d15 : a.tmps[34]?.getD undef = .int .i64 x.bytes := hd.get 15 (by kernel_rfl)
        have hb := HX.out x.bytes (by simp)
        go_simp
        go_at_call 23
        refine (put_any _ _ hb.1 hb.2).mono ?_
        rintro e w4 ⟨rfl, k4⟩
        exact hK.out _ _ (ToldR.of k4) rfl
      refine StepsL.plain rfl (fun Q a w2 hR hf hd K hK => ?_) ?_
      · have d16 : a.tmps[35]?.getD undef = .string (digS x.bytes) := hd.get 16 (by kernel_rfl)
        have hz := HZ.out w2 hR.1
        go_simp
        exact hK.out _ _ (ToldR.of ((Keeps.refl _ _).alloc _)) (RowV.new _ [(digS x.bytes)] (Nat.le_of_ble_eq_true rfl) ⟨by omega, by omega⟩)
      refine StepsL.plain rfl (fun Q a w2 hR hf hd K hK => ?_) ?_
      · have d13 : a.tmps[32]?.getD undef = .func (.func 57) #[] #[] := hd.get 13 (by kernel_rfl)
        have t17 : RowV (fun i => w.heap.size ≤ i ∧ i ≠ w.heap.size + 1) w2 (a.tmps[36]?.getD undef) [digS x.bytes] := hd.get 17 (by kernel_rfl)
        go_simp
        refine (told1_row _ t17).mono ?_
        rintro e w4 ⟨n, rfl, hn, k4⟩
        exact hK.out _ _ (ToldR.of k4) hn
      refine StepsL.plain rfl (fun Q a w2 hR hf hd K hK => ?_) ?_
      · have f3 : a.tmps[3]?.getD undef = .func (.func 57) #[] #[] := hf.out 3 (by kernel_rfl)
        go_simp
        exact hK.out _ _ (ToldR.of (Keeps.refl _ _)) rfl
      refine StepsL.plain rfl (fun Q a w2 hR hf hd K hK => ?_) ?_
      · have f1 : a.tmps[1]?.getD undef = .pointer (some ⟨w.heap.size, 0, none⟩) := hf.out 1 (by kernel_rfl)
        go_simp
        exact hK.out _ _ (ToldR.of (Keeps.refl _ _)) rfl
      refine StepsL.plain rfl (fun Q a w2 hR hf hd K hK => ?_) ?_
      · have d20 : a.tmps[39]?.getD undef = .pointer (some ⟨w.heap.size, 4, none⟩) := hd.get 20 (by kernel_rfl)
        have cc : w2.cell? ⟨w.heap.size, 4, none⟩ = some (.int .i64 x.gens) := (HC.out w2 hR.1).cell 4
        go_simp
        exact hK.out _ _ (ToldR.of (Keeps.refl _ _)) rfl
      refine StepsL.plain rfl (fun Q a w2 hR hf hd K hK => ?_) ?_
      · have d21 : a.tmps[40]?.getD undef = .int .i64 x.gens := hd.get 21 (by kernel_rfl)
        have hb := HX.out x.gens (by simp)
        go_simp
        go_at_call 23
        refine (put_any _ _ hb.1 hb.2).mono ?_
        rintro e w4 ⟨rfl, k4⟩
        exact hK.out _ _ (ToldR.of k4) rfl
      refine StepsL.plain rfl (fun Q a w2 hR hf hd K hK => ?_) ?_
      · have d22 : a.tmps[41]?.getD undef = .string (digS x.gens) := hd.get 22 (by kernel_rfl)
        have hz := HZ.out w2 hR.1
        go_simp
        exact hK.out _ _ (ToldR.of ((Keeps.refl _ _).alloc _)) (RowV.new _ [(digS x.gens)] (Nat.le_of_ble_eq_true rfl) ⟨by omega, by omega⟩)
      refine StepsL.plain rfl (fun Q a w2 hR hf hd K hK => ?_) ?_
      · have d19 : a.tmps[38]?.getD undef = .func (.func 57) #[] #[] := hd.get 19 (by kernel_rfl)
        have t23 : RowV (fun i => w.heap.size ≤ i ∧ i ≠ w.heap.size + 1) w2 (a.tmps[42]?.getD undef) [digS x.gens] := hd.get 23 (by kernel_rfl)
        go_simp
        refine (told1_row _ t23).mono ?_
        rintro e w4 ⟨n, rfl, hn, k4⟩
        exact hK.out _ _ (ToldR.of k4) hn
      refine StepsL.plain rfl (fun Q a w2 hR hf hd K hK => ?_) ?_
      · have f3 : a.tmps[3]?.getD undef = .func (.func 57) #[] #[] := hf.out 3 (by kernel_rfl)
        go_simp
        exact hK.out _ _ (ToldR.of (Keeps.refl _ _)) rfl
      refine StepsL.plain rfl (fun Q a w2 hR hf hd K hK => ?_) ?_
      · have f1 : a.tmps[1]?.getD undef = .pointer (some ⟨w.heap.size, 0, none⟩) := hf.out 1 (by kernel_rfl)
        go_simp
        exact hK.out _ _ (ToldR.of (Keeps.refl _ _)) rfl
      refine StepsL.plain rfl (fun Q a w2 hR hf hd K hK => ?_) ?_
      · have d26 : a.tmps[45]?.getD undef = .pointer (some ⟨w.heap.size, 5, none⟩) := hd.get 26 (by kernel_rfl)
        have cc : w2.cell? ⟨w.heap.size, 5, none⟩ = some (.int .i64 x.size) := (HC.out w2 hR.1).cell 5
        go_simp
        exact hK.out _ _ (ToldR.of (Keeps.refl _ _)) rfl
      refine StepsL.plain rfl (fun Q a w2 hR hf hd K hK => ?_) ?_
      · have d27 : a.tmps[46]?.getD undef = .int .i64 x.size := hd.get 27 (by kernel_rfl)
        have hb := HX.out x.size (by simp)
        go_simp
        go_at_call 23
        refine (put_any _ _ hb.1 hb.2).mono ?_
        rintro e w4 ⟨rfl, k4⟩
        exact hK.out _ _ (ToldR.of k4) rfl
      refine StepsL.plain rfl (fun Q a w2 hR hf hd K hK => ?_) ?_
      · have d28 : a.tmps[47]?.getD undef = .string (digS x.size) := hd.get 28 (by kernel_rfl)
        have hz := HZ.out w2 hR.1
        go_simp
        exact hK.out _ _ (ToldR.of ((Keeps.refl _ _).alloc _)) (RowV.new _ [(digS x.size)] (Nat.le_of_ble_eq_true rfl) ⟨by omega, by omega⟩)
      refine StepsL.plain rfl (fun Q a w2 hR hf hd K hK => ?_) ?_
      · have d25 : a.tmps[44]?.getD undef = .func (.func 57) #[] #[] := hd.get 25 (by kernel_rfl)
        have t29 : RowV (fun i => w.heap.size ≤ i ∧ i ≠ w.heap.size + 1) w2 (a.tmps[48]?.getD undef) [digS x.size] := hd.get 29 (by kernel_rfl)
        go_simp
        refine (told1_row _ t29).mono ?_
        rintro e w4 ⟨n, rfl, hn, k4⟩
        exact hK.out _ _ (ToldR.of k4) hn
      refine StepsL.plain rfl (fun Q a w2 hR hf hd K hK => ?_) ?_
      · have f3 : a.tmps[3]?.getD undef = .func (.func 57) #[] #[] := hf.out 3 (by kernel_rfl)
        go_simp
        exact hK.out _ _ (ToldR.of (Keeps.refl _ _)) rfl
      refine StepsL.plain rfl (fun Q a w2 hR hf hd K hK => ?_) ?_
      · have f1 : a.tmps[1]?.getD undef = .pointer (some ⟨w.heap.size, 0, none⟩) := hf.out 1 (by kernel_rfl)
        go_simp
        exact hK.out _ _ (ToldR.of (Keeps.refl _ _)) rfl
      refine StepsL.plain rfl (fun Q a w2 hR hf hd K hK => ?_) ?_
      · have d32 : a.tmps[51]?.getD undef = .pointer (some ⟨w.heap.size, 6, none⟩) := hd.get 32 (by kernel_rfl)
        have cc : w2.cell? ⟨w.heap.size, 6, none⟩ = some (.int .i64 x.base) := (HC.out w2 hR.1).cell 6
        go_simp
        exact hK.out _ _ (ToldR.of (Keeps.refl _ _)) rfl
      refine StepsL.plain rfl (fun Q a w2 hR hf hd K hK => ?_) ?_
      · have d33 : a.tmps[52]?.getD undef = .int .i64 x.base := hd.get 33 (by kernel_rfl)
        have hb := HX.out x.base (by simp)
        go_simp
        go_at_call 23
        refine (put_any _ _ hb.1 hb.2).mono ?_
        rintro e w4 ⟨rfl, k4⟩
        exact hK.out _ _ (ToldR.of k4) rfl
      refine StepsL.plain rfl (fun Q a w2 hR hf hd K hK => ?_) ?_
      · have f1 : a.tmps[1]?.getD undef = .pointer (some ⟨w.heap.size, 0, none⟩) := hf.out 1 (by kernel_rfl)
        go_simp
        exact hK.out _ _ (ToldR.of (Keeps.refl _ _)) rfl
      refine StepsL.plain rfl (fun Q a w2 hR hf hd K hK => ?_) ?_
      · have d35 : a.tmps[54]?.getD undef = .pointer (some ⟨w.heap.size, 7, none⟩) := hd.get 35 (by kernel_rfl)
        have cc : w2.cell? ⟨w.heap.size, 7, none⟩ = some (.int .i64 x.cap) := (HC.out w2 hR.1).cell 7
        go_simp
        exact hK.out _ _ (ToldR.of (Keeps.refl _ _)) rfl
      refine StepsL.plain rfl (fun Q a w2 hR hf hd K hK => ?_) ?_
      · have d36 : a.tmps[55]?.getD undef = .int .i64 x.cap := hd.get 36 (by kernel_rfl)
        have hb := HX.out x.cap (by simp)
        go_simp
        go_at_call 23
        refine (put_any _ _ hb.1 hb.2).mono ?_
        rintro e w4 ⟨rfl, k4⟩
        exact hK.out _ _ (ToldR.of k4) rfl
      refine StepsL.plain rfl (fun Q a w2 hR hf hd K hK => ?_) ?_
      · have f1 : a.tmps[1]?.getD undef = .pointer (some ⟨w.heap.size, 0, none⟩) := hf.out 1 (by kernel_rfl)
        go_simp
        exact hK.out _ _ (ToldR.of (Keeps.refl _ _)) rfl
      refine StepsL.plain rfl (fun Q a w2 hR hf hd K hK => ?_) ?_
      · have d38 : a.tmps[57]?.getD undef = .pointer (some ⟨w.heap.size, 8, none⟩) := hd.get 38 (by kernel_rfl)
        have cc : w2.cell? ⟨w.heap.size, 8, none⟩ = some (.int .i64 x.jitter) := (HC.out w2 hR.1).cell 8
        go_simp
        exact hK.out _ _ (ToldR.of (Keeps.refl _ _)) rfl
      refine StepsL.plain rfl (fun Q a w2 hR hf hd K hK => ?_) ?_
      · have d39 : a.tmps[58]?.getD undef = .int .i64 x.jitter := hd.get 39 (by kernel_rfl)
        have hb := HX.out x.jitter (by simp)
        go_simp
        go_at_call 23
        refine (put_any _ _ hb.1 hb.2).mono ?_
        rintro e w4 ⟨rfl, k4⟩
        exact hK.out _ _ (ToldR.of k4) rfl
      refine StepsL.plain rfl (fun Q a w2 hR hf hd K hK => ?_) ?_
      · have d34 : a.tmps[53]?.getD undef = .string (digS x.base) := hd.get 34 (by kernel_rfl)
        have d37 : a.tmps[56]?.getD undef = .string (digS x.cap) := hd.get 37 (by kernel_rfl)
        have d40 : a.tmps[59]?.getD undef = .string (digS x.jitter) := hd.get 40 (by kernel_rfl)
        have hz := HZ.out w2 hR.1
        go_simp
        exact hK.out _ _ (ToldR.of ((Keeps.refl _ _).alloc _)) (RowV.new _ [(digS x.base), (digS x.cap), (digS x.jitter)] (Nat.le_of_ble_eq_true rfl) ⟨by omega, by omega⟩)
      refine StepsL.plain rfl (fun Q a w2 hR hf hd K hK => ?_) ?_
      · have d31 : a.tmps[50]?.getD undef = .func (.func 57) #[] #[] := hd.get 31 (by kernel_rfl)
        have t41 : RowV (fun i => w.heap.size ≤ i ∧ i ≠ w.heap.size + 1) w2 (a.tmps[60]?.getD undef) [digS x.base, digS x.cap, digS x.jitter] := hd.get 41 (by kernel_rfl)
        go_simp
        refine (told1_row _ t41).mono ?_
        rintro e w4 ⟨n, rfl, hn, k4⟩
        exact hK.out _ _ (ToldR.of k4) hn
      refine StepsL.plain rfl (fun Q a w2 hR hf hd K hK => ?_) ?_
      · have f3 : a.tmps[3]?.getD undef = .func (.func 57) #[] #[] := hf.out 3 (by kernel_rfl)
        go_simp
        exact hK.out _ _ (ToldR.of (Keeps.refl _ _)) rfl
      refine StepsL.plain rfl (fun Q a w2 hR hf hd K hK => ?_) ?_
      · have f1 : a.tmps[1]?.getD undef = .pointer (some ⟨w.heap.size, 0, none⟩) := hf.out 1 (by kernel_rfl)
        go_simp
        exact hK.out _ _ (ToldR.of (Keeps.refl _ _)) rfl
      refine StepsL.plain rfl (fun Q a w2 hR hf hd K hK => ?_) ?_
      · have d44 : a.tmps[63]?.getD undef = .pointer (some ⟨w.heap.size, 9, none⟩) := hd.get 44 (by kernel_rfl)
        have cc : w2.cell? ⟨w.heap.size, 9, none⟩ = some (.string x.init) := (HC.out w2 hR.1).cell 9
        go_simp
        exact hK.out _ _ (ToldR.of (Keeps.refl _ _)) rfl
      refine StepsL.plain rfl (fun Q a w2 hR hf hd K hK => ?_) ?_
      · have d45 : a.tmps[64]?.getD undef = .string x.init := hd.get 45 (by kernel_rfl)
        have hz := HZ.out w2 hR.1
        go_simp
        exact hK.out _ _ (ToldR.of ((Keeps.refl _ _).alloc _)) (RowV.new _ [x.init] (Nat.le_of_ble_eq_true rfl) ⟨by omega, by omega⟩)
      refine StepsL.plain rfl (fun Q a w2 hR hf hd K hK => ?_) ?_
      · have d43 : a.tmps[62]?.getD undef = .func (.func 57) #[] #[] := hd.get 43 (by kernel_rfl)
        have t46 : RowV (fun i => w.heap.size ≤ i ∧ i ≠ w.heap.size + 1) w2 (a.tmps[65]?.getD undef) [x.init] := hd.get 46 (by kernel_rfl)
        go_simp
        refine (told1_row _ t46).mono ?_
        rintro e w4 ⟨n, rfl, hn, k4⟩
        exact hK.out _ _ (ToldR.of k4) hn
      refine StepsL.plain rfl (fun Q a w2 hR hf hd K hK => ?_) ?_
      · have t6 : NodV (fun i => w.heap.size ≤ i ∧ i ≠ w.heap.size + 1) w2 (a.tmps[25]?.getD undef) (oneN kKind [kindW x.kind]) := hd.get 6 (by kernel_rfl)
        have t12 : NodV (fun i => w.heap.size ≤ i ∧ i ≠ w.heap.size + 1) w2 (a.tmps[31]?.getD undef) (oneN kLines [digS x.lines]) := hd.get 12 (by kernel_rfl)
        have t18 : NodV (fun i => w.heap.size ≤ i ∧ i ≠ w.heap.size + 1) w2 (a.tmps[37]?.getD undef) (oneN kBytes [digS x.bytes]) := hd.get 18 (by kernel_rfl)
        have t24 : NodV (fun i => w.heap.size ≤ i ∧ i ≠ w.heap.size + 1) w2 (a.tmps[43]?.getD undef) (oneN kGens [digS x.gens]) := hd.get 24 (by kernel_rfl)
        have t30 : NodV (fun i => w.heap.size ≤ i ∧ i ≠ w.heap.size + 1) w2 (a.tmps[49]?.getD undef) (oneN kSize [digS x.size]) := hd.get 30 (by kernel_rfl)
        have t42 : NodV (fun i => w.heap.size ≤ i ∧ i ≠ w.heap.size + 1) w2 (a.tmps[61]?.getD undef) (oneN kRetry [digS x.base, digS x.cap, digS x.jitter]) := hd.get 42 (by kernel_rfl)
        have t47 : NodV (fun i => w.heap.size ≤ i ∧ i ≠ w.heap.size + 1) w2 (a.tmps[66]?.getD undef) (oneN kInit [x.init]) := hd.get 47 (by kernel_rfl)
        have hz := HZ.out w2 hR.1
        clear hd hf
        obtain ⟨r6, d6, m6⟩ := t6
        obtain ⟨r12, d12, m12⟩ := t12
        obtain ⟨r18, d18, m18⟩ := t18
        obtain ⟨r24, d24, m24⟩ := t24
        obtain ⟨r30, d30, m30⟩ := t30
        obtain ⟨r42, d42, m42⟩ := t42
        obtain ⟨r47, d47, m47⟩ := t47
        simp only [ndR] at d6 d12 d18 d24 d30 d42 d47
        go_simp
        exact hK.out _ _ (ToldR.of ((Keeps.refl _ _).alloc _)) (NdsAt.new7 w2 r6 r12 r18 r24 r30 r42 r47 m6 m12 m18 m24 m30 m42 m47 ⟨by omega, by omega⟩)
      refine StepsL.plain rfl (fun Q a w2 hR hf hd K hK => ?_) ?_
      · have t2 : RowV (fun i => w.heap.size ≤ i ∧ i ≠ w.heap.size + 1) w2 (a.tmps[21]?.getD undef) [x.name] := hd.get 2 (by kernel_rfl)
        have t48 : NdsAt w2 (fun i => w.heap.size ≤ i ∧ i ≠ w.heap.size + 1) (a.tmps[67]?.getD undef) (subT x) := hd.get 48 (by kernel_rfl)
        have tt := NodV.console t2 t48
        obtain ⟨a2, c2, e2⟩ := t2.sl
        obtain ⟨a48, c48, e48, -⟩ := t48.sl
        clear hd hf t2 t48
        rw [e2, e48] at tt
        go_simp
        exact hK.out _ _ (ToldR.of (Keeps.refl _ _)) tt
      refine StepsL.plain rfl (fun Q a w2 hR hf hd K hK => ?_) ?_
      · have t49 : NodV (fun i => w.heap.size ≤ i ∧ i ≠ w.heap.size + 1) w2 (a.tmps[68]?.getD undef) (toldN x) := hd.get 49 (by kernel_rfl)
        have f2 : a.tmps[2]?.getD undef = .pointer (some ⟨w.heap.size + 1, 0, none⟩) := hf.out 2 (by kernel_rfl)
        have hz := HZ.out w2 hR.1
        have hsh := hR.2.2 HSH.out
        clear hd hf
        obtain ⟨v0, v1, v2, v3, v4, hb2⟩ := hsh
        obtain ⟨⟨x0, x1, x2, x3, x4⟩, g0, g1, g2, g3, g4⟩ := hb2.all5
        obtain ⟨r, d49, m⟩ := t49
        have hfin := ToldR.filled hS hb2 m
        simp only [ndR] at d49
        go_simp
        exact hK.out undef _ hfin.1 hfin.2
      exact StepsL.nil
    · intro a w2 hn hdf hR hf hv
      have f2 : a.tmps[2]?.getD undef = .pointer (some ⟨w.heap.size + 1, 0, none⟩) := hf 2 (by kernel_rfl)
      have hF : Filled (fun i => w.heap.size ≤ i ∧ i ≠ w.heap.size + 1) (w.heap.size + 1) (toldN x) w2 := hv 50 _ rfl
      clear hf hv
      obtain ⟨r, hb2, m⟩ := hF
      have kk : Keeps (fun _ => False) w w2 := (HK0.out.trans HKW2.out).and_ hR.1 (fun i hi e => by omega)
      go_wp2_with fail
      refine ret_cell rfl (w.heap.size + 1) 60 _ _ (by rw [Array.getD_eq_getD_getElem?]; exact f2) hb2 Tryz.underlying60 rfl (by kernel_rfl) hdf ?_
      exact ⟨⟨r, rfl, m.mono fun i hi => hi.1⟩, kk⟩
  · have HKW : Hid (kindW x.kind = kPty) := Lib.hid (by rw [h1]; rfl)
    have HK2 := fun W => kinds_any W
    rw [h1] at y1
    have HY1 : Hid (∀ W, Keeps (fun _ => False) wb W → W.cell? ⟨w.heap.size, 1, none⟩ = some (.int .i64 2)) := Lib.hid (fun W k => by rw [← h1]; exact (HB1.out.keeps k id).cell 1)
    clear h1 hkd kd
    go_enter Tryz.func24, Tryz.ntmps24
    go_upto_region 3 with (fail)
    rw [← HWB.out]
    go_upto_region 4 with (fail)
    go_cut [4] (fun s4 wx => s4 = .string kPty ∧ Hid (Keeps (fun _ => False) wb wx))
    case first =>
      have x0 := HY1.out wb (Keeps.refl _ _)
      go_region_with (go_at_call 58; refine (HK2 _).mono ?_; rintro e w3 ⟨⟨kb, rfl, hkb⟩, k3⟩; have kk : Keeps (fun _ => False) wb w3 := k3.from_drew; have x3 := HY1.out w3 kk; have kc := slat_cell hkb 1 _ rfl)
      all_goals (go_wp2_with fail; go_meet)
      all_goals exact ⟨rfl, Lib.hid kk⟩
    obtain ⟨rfl, HKW2⟩ := hcut
    rename World => w3
    go_upto_region 5 with (fail)
    have HC : Hid (∀ W, Keeps (fun i => i = w.heap.size + 1) w3 W → Blk W w.heap.size 42 (conR x).toArray) := Lib.hid (fun W k => (HB1.out.keeps HKW2.out id).keeps k (fun e => absurd (show w.heap.size = w.heap.size + 1 from e) (by omega)))
    have HZ : Hid (∀ W, Keeps (fun i => i = w.heap.size + 1) w3 W → w.heap.size + 2 ≤ W.heap.size) := Lib.hid (fun W k => by have := k.size; have := HKW2.out.size; have := HB2.out.lt; omega)
    have HSH : Hid (Shaped (w.heap.size + 1) w3) := Lib.hid ⟨_, _, _, _, _, HB2.out.keeps HKW2.out id⟩
    have hS : ¬ (fun i => w.heap.size ≤ i ∧ i ≠ w.heap.size + 1) (w.heap.size + 1) := fun h => h.2 rfl
    refine wp_region_specs (n := 69) (dfs := []) (R := ToldR (fun i => w.heap.size ≤ i ∧ i ≠ w.heap.size + 1) (w.heap.size + 1) (toldN x)) (Pk := ToldP (fun i => w.heap.size ≤ i ∧ i ≠ w.heap.size + 1) w.heap.size (w.heap.size + 1) x) (by kernel_rfl) rfl rfl rfl (ToldR.of (Keeps.refl _ _).drew) (fun _ _ _ h k => h.trans k) (fun k v w w' h hp => ToldP.stable hS k v w w' h hp) (by kernel_rfl) rfl ?_ ?_
    · refine StepsL.plain rfl (fun Q a w2 hR hf hd K hK => ?_) ?_
      · have f1 : a.tmps[1]?.getD undef = .pointer (some ⟨w.heap.size, 0, none⟩) := hf.out 1 (by kernel_rfl)
        go_simp
        exact hK.out _ _ (ToldR.of (Keeps.refl _ _)) rfl
      refine StepsL.plain rfl (fun Q a w2 hR hf hd K hK => ?_) ?_
      · have d0 : a.tmps[19]?.getD undef = .pointer (some ⟨w.heap.size, 0, none⟩) := hd.get 0 (by kernel_rfl)
        have cc : w2.cell? ⟨w.heap.size, 0, none⟩ = some (.string x.name) := (HC.out w2 hR.1).cell 0
        go_simp
        exact hK.out _ _ (ToldR.of (Keeps.refl _ _)) rfl
      refine StepsL.plain rfl (fun Q a w2 hR hf hd K hK => ?_) ?_
      · have d1 : a.tmps[20]?.getD undef = .string x.name := hd.get 1 (by kernel_rfl)
        have hz := HZ.out w2 hR.1
        go_simp
        exact hK.out _ _ (ToldR.of ((Keeps.refl _ _).alloc _)) (RowV.new _ [x.name] (Nat.le_of_ble_eq_true rfl) ⟨by omega, by omega⟩)
      refine StepsL.plain rfl (fun Q a w2 hR hf hd K hK => ?_) ?_
      · have f3 : a.tmps[3]?.getD undef = .func (.func 57) #[] #[] := hf.out 3 (by kernel_rfl)
        go_simp
        exact hK.out _ _ (ToldR.of (Keeps.refl _ _)) rfl
      refine StepsL.plain rfl (fun Q a w2 hR hf hd K hK => ?_) ?_
      · have f4 : a.tmps[4]?.getD undef = .string (kindW x.kind) := by rw [HKW.out]; exact hf.out 4 (by kernel_rfl)
        go_simp
        exact hK.out _ _ (ToldR.of (Keeps.refl _ _)) rfl
      refine StepsL.plain rfl (fun Q a w2 hR hf hd K hK => ?_) ?_
      · have d4 : a.tmps[23]?.getD undef = .string (kindW x.kind) := hd.get 4 (by kernel_rfl)
        have hz := HZ.out w2 hR.1
        go_simp
        exact hK.out _ _ (ToldR.of ((Keeps.refl _ _).alloc _)) (RowV.new _ [(kindW x.kind)] (Nat.le_of_ble_eq_true rfl) ⟨by omega, by omega⟩)
      refine StepsL.plain rfl (fun Q a w2 hR hf hd K hK => ?_) ?_
      · have d3 : a.tmps[22]?.getD undef = .func (.func 57) #[] #[] := hd.get 3 (by kernel_rfl)
        have t5 : RowV (fun i => w.heap.size ≤ i ∧ i ≠ w.heap.size + 1) w2 (a.tmps[24]?.getD undef) [kindW x.kind] := hd.get 5 (by kernel_rfl)
        go_simp
        refine (told1_row _ t5).mono ?_
        rintro e w4 ⟨n, rfl, hn, k4⟩
        exact hK.out _ _ (ToldR.of k4) hn
      refine StepsL.plain rfl (fun Q a w2 hR hf hd K hK => ?_) ?_
      · have f3 : a.tmps[3]?.getD undef = .func (.func 57) #[] #[] := hf.out 3 (by kernel_rfl)
        go_simp
        exact hK.out _ _ (ToldR.of (Keeps.refl _ _)) rfl
      refine StepsL.plain rfl (fun Q a w2 hR hf hd K hK => ?_) ?_
      · have f1 : a.tmps[1]?.getD undef = .pointer (some ⟨w.heap.size, 0, none⟩) := hf.out 1 (by kernel_rfl)
        go_simp
        exact hK.out _ _ (ToldR.of (Keeps.refl _ _)) rfl
      refine StepsL.plain rfl (fun Q a w2 hR hf hd K hK => ?_) ?_
      · have d8 : a.tmps[27]?.getD undef = .pointer (some ⟨w.heap.size, 2, none⟩) := hd.get 8 (by kernel_rfl)
        have cc : w2.cell? ⟨w.heap.size, 2, none⟩ = some (.int .i64 x.lines) := (HC.out w2 hR.1).cell 2
        go_simp
        exact hK.out _ _ (ToldR.of (Keeps.refl _ _)) rfl
      refine StepsL.plain rfl (fun Q a w2 hR hf hd K hK => ?_) ?_
      · have d9 : a.tmps[28]?.getD undef = .int .i64 x.lines := hd.get 9 (by kernel_rfl)
        have hb := HX.out x.lines (by simp)
        go_simp
        go_at_call 23
        refine (put_any _ _ hb.1 hb.2).mono ?_
        rintro e w4 ⟨rfl, k4⟩
        exact hK.out _ _ (ToldR.of k4) rfl
      refine StepsL.plain rfl (fun Q a w2 hR hf hd K hK => ?_) ?_
      · have d10 : a.tmps[29]?.getD undef = .string (digS x.lines) := hd.get 10 (by kernel_rfl)
        have hz := HZ.out w2 hR.1
        go_simp
        exact hK.out _ _ (ToldR.of ((Keeps.refl _ _).alloc _)) (RowV.new _ [(digS x.lines)] (Nat.le_of_ble_eq_true rfl) ⟨by omega, by omega⟩)
      refine StepsL.plain rfl (fun Q a w2 hR hf hd K hK => ?_) ?_
      · have d7 : a.tmps[26]?.getD undef = .func (.func 57) #[] #[] := hd.get 7 (by kernel_rfl)
        have t11 : RowV (fun i => w.heap.size ≤ i ∧ i ≠ w.heap.size + 1) w2 (a.tmps[30]?.getD undef) [digS x.lines] := hd.get 11 (by kernel_rfl)
        go_simp
        refine (told1_row _ t11).mono ?_
        rintro e w4 ⟨n, rfl, hn, k4⟩
        exact hK.out _ _ (ToldR.of k4) hn
      refine StepsL.plain rfl (fun Q a w2 hR hf hd K hK => ?_) ?_
      · have f3 : a.tmps[3]?.getD undef = .func (.func 57) #[] #[] := hf.out 3 (by kernel_rfl)
        go_simp
        exact hK.out _ _ (ToldR.of (Keeps.refl _ _)) rfl
      refine StepsL.plain rfl (fun Q a w2 hR hf hd K hK => ?_) ?_
      · have f1 : a.tmps[1]?.getD undef = .pointer (some ⟨w.heap.size, 0, none⟩) := hf.out 1 (by kernel_rfl)
        go_simp
        exact hK.out _ _ (ToldR.of (Keeps.refl _ _)) rfl
      refine StepsL.plain rfl (fun Q a w2 hR hf hd K hK => ?_) ?_
      · have d14 : a.tmps[33]?.getD undef = .pointer (some ⟨w.heap.size, 3, none⟩) := hd.get 14 (by kernel_rfl)
        have cc : w2.cell? ⟨w.heap.size, 3, none⟩ = some (.int .i64 x.bytes) := (HC.out w2 hR.1).cell 3
        go_simp
        exact hK.out _ _ (ToldR.of (Keeps.refl _ _)) rfl
      refine StepsL.plain rfl (fun Q a w2 hR hf hd K hK => ?_) ?_
      · have d15 : a.tmps[34]?.getD undef = .int .i64 x.bytes := hd.get 15 (by kernel_rfl)
        have hb := HX.out x.bytes (by simp)
        go_simp
        go_at_call 23
        refine (put_any _ _ hb.1 hb.2).mono ?_
        rintro e w4 ⟨rfl, k4⟩
        exact hK.out _ _ (ToldR.of k4) rfl
      refine StepsL.plain rfl (fun Q a w2 hR hf hd K hK => ?_) ?_
      · have d16 : a.tmps[35]?.getD undef = .string (digS x.bytes) := hd.get 16 (by kernel_rfl)
        have hz := HZ.out w2 hR.1
        go_simp
        exact hK.out _ _ (ToldR.of ((Keeps.refl _ _).alloc _)) (RowV.new _ [(digS x.bytes)] (Nat.le_of_ble_eq_true rfl) ⟨by omega, by omega⟩)
      refine StepsL.plain rfl (fun Q a w2 hR hf hd K hK => ?_) ?_
      · have d13 : a.tmps[32]?.getD undef = .func (.func 57) #[] #[] := hd.get 13 (by kernel_rfl)
        have t17 : RowV (fun i => w.heap.size ≤ i ∧ i ≠ w.heap.size + 1) w2 (a.tmps[36]?.getD undef) [digS x.bytes] := hd.get 17 (by kernel_rfl)
        go_simp
        refine (told1_row _ t17).mono ?_
        rintro e w4 ⟨n, rfl, hn, k4⟩
        exact hK.out _ _ (ToldR.of k4) hn
      refine StepsL.plain rfl (fun Q a w2 hR hf hd K hK => ?_) ?_
      · have f3 : a.tmps[3]?.getD undef = .func (.func 57) #[] #[] := hf.out 3 (by kernel_rfl)
        go_simp
        exact hK.out _ _ (ToldR.of (Keeps.refl _ _)) rfl
      refine StepsL.plain rfl (fun Q a w2 hR hf hd K hK => ?_) ?_
      · have f1 : a.tmps[1]?.getD undef = .pointer (some ⟨w.heap.size, 0, none⟩) := hf.out 1 (by kernel_rfl)
        go_simp
        exact hK.out _ _ (ToldR.of (Keeps.refl _ _)) rfl
      refine StepsL.plain rfl (fun Q a w2 hR hf hd K hK => ?_) ?_
      · have d20 : a.tmps[39]?.getD undef = .pointer (some ⟨w.heap.size, 4, none⟩) := hd.get 20 (by kernel_rfl)
        have cc : w2.cell? ⟨w.heap.size, 4, none⟩ = some (.int .i64 x.gens) := (HC.out w2 hR.1).cell 4
        go_simp
        exact hK.out _ _ (ToldR.of (Keeps.refl _ _)) rfl
      refine StepsL.plain rfl (fun Q a w2 hR hf hd K hK => ?_) ?_
      · have d21 : a.tmps[40]?.getD undef = .int .i64 x.gens := hd.get 21 (by kernel_rfl)
        have hb := HX.out x.gens (by simp)
        go_simp
        go_at_call 23
        refine (put_any _ _ hb.1 hb.2).mono ?_
        rintro e w4 ⟨rfl, k4⟩
        exact hK.out _ _ (ToldR.of k4) rfl
      refine StepsL.plain rfl (fun Q a w2 hR hf hd K hK => ?_) ?_
      · have d22 : a.tmps[41]?.getD undef = .string (digS x.gens) := hd.get 22 (by kernel_rfl)
        have hz := HZ.out w2 hR.1
        go_simp
        exact hK.out _ _ (ToldR.of ((Keeps.refl _ _).alloc _)) (RowV.new _ [(digS x.gens)] (Nat.le_of_ble_eq_true rfl) ⟨by omega, by omega⟩)
      refine StepsL.plain rfl (fun Q a w2 hR hf hd K hK => ?_) ?_
      · have d19 : a.tmps[38]?.getD undef = .func (.func 57) #[] #[] := hd.get 19 (by kernel_rfl)
        have t23 : RowV (fun i => w.heap.size ≤ i ∧ i ≠ w.heap.size + 1) w2 (a.tmps[42]?.getD undef) [digS x.gens] := hd.get 23 (by kernel_rfl)
        go_simp
        refine (told1_row _ t23).mono ?_
        rintro e w4 ⟨n, rfl, hn, k4⟩
        exact hK.out _ _ (ToldR.of k4) hn
      refine StepsL.plain rfl (fun Q a w2 hR hf hd K hK => ?_) ?_
      · have f3 : a.tmps[3]?.getD undef = .func (.func 57) #[] #[] := hf.out 3 (by kernel_rfl)
        go_simp
        exact hK.out _ _ (ToldR.of (Keeps.refl _ _)) rfl
      refine StepsL.plain rfl (fun Q a w2 hR hf hd K hK => ?_) ?_
      · have f1 : a.tmps[1]?.getD undef = .pointer (some ⟨w.heap.size, 0, none⟩) := hf.out 1 (by kernel_rfl)
        go_simp
        exact hK.out _ _ (ToldR.of (Keeps.refl _ _)) rfl
      refine StepsL.plain rfl (fun Q a w2 hR hf hd K hK => ?_) ?_
      · have d26 : a.tmps[45]?.getD undef = .pointer (some ⟨w.heap.size, 5, none⟩) := hd.get 26 (by kernel_rfl)
        have cc : w2.cell? ⟨w.heap.size, 5, none⟩ = some (.int .i64 x.size) := (HC.out w2 hR.1).cell 5
        go_simp
        exact hK.out _ _ (ToldR.of (Keeps.refl _ _)) rfl
      refine StepsL.plain rfl (fun Q a w2 hR hf hd K hK => ?_) ?_
      · have d27 : a.tmps[46]?.getD undef = .int .i64 x.size := hd.get 27 (by kernel_rfl)
        have hb := HX.out x.size (by simp)
        go_simp
        go_at_call 23
        refine (put_any _ _ hb.1 hb.2).mono ?_
        rintro e w4 ⟨rfl, k4⟩
        exact hK.out _ _ (ToldR.of k4) rfl
      refine StepsL.plain rfl (fun Q a w2 hR hf hd K hK => ?_) ?_
      · have d28 : a.tmps[47]?.getD undef = .string (digS x.size) := hd.get 28 (by kernel_rfl)
        have hz := HZ.out w2 hR.1
        go_simp
        exact hK.out _ _ (ToldR.of ((Keeps.refl _ _).alloc _)) (RowV.new _ [(digS x.size)] (Nat.le_of_ble_eq_true rfl) ⟨by omega, by omega⟩)
      refine StepsL.plain rfl (fun Q a w2 hR hf hd K hK => ?_) ?_
      · have d25 : a.tmps[44]?.getD undef = .func (.func 57) #[] #[] := hd.get 25 (by kernel_rfl)
        have t29 : RowV (fun i => w.heap.size ≤ i ∧ i ≠ w.heap.size + 1) w2 (a.tmps[48]?.getD undef) [digS x.size] := hd.get 29 (by kernel_rfl)
        go_simp
        refine (told1_row _ t29).mono ?_
        rintro e w4 ⟨n, rfl, hn, k4⟩
        exact hK.out _ _ (ToldR.of k4) hn
      refine StepsL.plain rfl (fun Q a w2 hR hf hd K hK => ?_) ?_
      · have f3 : a.tmps[3]?.getD undef = .func (.func 57) #[] #[] := hf.out 3 (by kernel_rfl)
        go_simp
        exact hK.out _ _ (ToldR.of (Keeps.refl _ _)) rfl
      refine StepsL.plain rfl (fun Q a w2 hR hf hd K hK => ?_) ?_
      · have f1 : a.tmps[1]?.getD undef = .pointer (some ⟨w.heap.size, 0, none⟩) := hf.out 1 (by kernel_rfl)
        go_simp
        exact hK.out _ _ (ToldR.of (Keeps.refl _ _)) rfl
      refine StepsL.plain rfl (fun Q a w2 hR hf hd K hK => ?_) ?_
      · have d32 : a.tmps[51]?.getD undef = .pointer (some ⟨w.heap.size, 6, none⟩) := hd.get 32 (by kernel_rfl)
        have cc : w2.cell? ⟨w.heap.size, 6, none⟩ = some (.int .i64 x.base) := (HC.out w2 hR.1).cell 6
        go_simp
        exact hK.out _ _ (ToldR.of (Keeps.refl _ _)) rfl
      refine StepsL.plain rfl (fun Q a w2 hR hf hd K hK => ?_) ?_
      · have d33 : a.tmps[52]?.getD undef = .int .i64 x.base := hd.get 33 (by kernel_rfl)
        have hb := HX.out x.base (by simp)
        go_simp
        go_at_call 23
        refine (put_any _ _ hb.1 hb.2).mono ?_
        rintro e w4 ⟨rfl, k4⟩
        exact hK.out _ _ (ToldR.of k4) rfl
      refine StepsL.plain rfl (fun Q a w2 hR hf hd K hK => ?_) ?_
      · have f1 : a.tmps[1]?.getD undef = .pointer (some ⟨w.heap.size, 0, none⟩) := hf.out 1 (by kernel_rfl)
        go_simp
        exact hK.out _ _ (ToldR.of (Keeps.refl _ _)) rfl
      refine StepsL.plain rfl (fun Q a w2 hR hf hd K hK => ?_) ?_
      · have d35 : a.tmps[54]?.getD undef = .pointer (some ⟨w.heap.size, 7, none⟩) := hd.get 35 (by kernel_rfl)
        have cc : w2.cell? ⟨w.heap.size, 7, none⟩ = some (.int .i64 x.cap) := (HC.out w2 hR.1).cell 7
        go_simp
        exact hK.out _ _ (ToldR.of (Keeps.refl _ _)) rfl
      refine StepsL.plain rfl (fun Q a w2 hR hf hd K hK => ?_) ?_
      · have d36 : a.tmps[55]?.getD undef = .int .i64 x.cap := hd.get 36 (by kernel_rfl)
        have hb := HX.out x.cap (by simp)
        go_simp
        go_at_call 23
        refine (put_any _ _ hb.1 hb.2).mono ?_
        rintro e w4 ⟨rfl, k4⟩
        exact hK.out _ _ (ToldR.of k4) rfl
      refine StepsL.plain rfl (fun Q a w2 hR hf hd K hK => ?_) ?_
      · have f1 : a.tmps[1]?.getD undef = .pointer (some ⟨w.heap.size, 0, none⟩) := hf.out 1 (by kernel_rfl)
        go_simp
        exact hK.out _ _ (ToldR.of (Keeps.refl _ _)) rfl
      refine StepsL.plain rfl (fun Q a w2 hR hf hd K hK => ?_) ?_
      · have d38 : a.tmps[57]?.getD undef = .pointer (some ⟨w.heap.size, 8, none⟩) := hd.get 38 (by kernel_rfl)
        have cc : w2.cell? ⟨w.heap.size, 8, none⟩ = some (.int .i64 x.jitter) := (HC.out w2 hR.1).cell 8
        go_simp
        exact hK.out _ _ (ToldR.of (Keeps.refl _ _)) rfl
      refine StepsL.plain rfl (fun Q a w2 hR hf hd K hK => ?_) ?_
      · have d39 : a.tmps[58]?.getD undef = .int .i64 x.jitter := hd.get 39 (by kernel_rfl)
        have hb := HX.out x.jitter (by simp)
        go_simp
        go_at_call 23
        refine (put_any _ _ hb.1 hb.2).mono ?_
        rintro e w4 ⟨rfl, k4⟩
        exact hK.out _ _ (ToldR.of k4) rfl
      refine StepsL.plain rfl (fun Q a w2 hR hf hd K hK => ?_) ?_
      · have d34 : a.tmps[53]?.getD undef = .string (digS x.base) := hd.get 34 (by kernel_rfl)
        have d37 : a.tmps[56]?.getD undef = .string (digS x.cap) := hd.get 37 (by kernel_rfl)
        have d40 : a.tmps[59]?.getD undef = .string (digS x.jitter) := hd.get 40 (by kernel_rfl)
        have hz := HZ.out w2 hR.1
        go_simp
        exact hK.out _ _ (ToldR.of ((Keeps.refl _ _).alloc _)) (RowV.new _ [(digS x.base), (digS x.cap), (digS x.jitter)] (Nat.le_of_ble_eq_true rfl) ⟨by omega, by omega⟩)
      refine StepsL.plain rfl (fun Q a w2 hR hf hd K hK => ?_) ?_
      · have d31 : a.tmps[50]?.getD undef = .func (.func 57) #[] #[] := hd.get 31 (by kernel_rfl)
        have t41 : RowV (fun i => w.heap.size ≤ i ∧ i ≠ w.heap.size + 1) w2 (a.tmps[60]?.getD undef) [digS x.base, digS x.cap, digS x.jitter] := hd.get 41 (by kernel_rfl)
        go_simp
        refine (told1_row _ t41).mono ?_
        rintro e w4 ⟨n, rfl, hn, k4⟩
        exact hK.out _ _ (ToldR.of k4) hn
      refine StepsL.plain rfl (fun Q a w2 hR hf hd K hK => ?_) ?_
      · have f3 : a.tmps[3]?.getD undef = .func (.func 57) #[] #[] := hf.out 3 (by kernel_rfl)
        go_simp
        exact hK.out _ _ (ToldR.of (Keeps.refl _ _)) rfl
      refine StepsL.plain rfl (fun Q a w2 hR hf hd K hK => ?_) ?_
      · have f1 : a.tmps[1]?.getD undef = .pointer (some ⟨w.heap.size, 0, none⟩) := hf.out 1 (by kernel_rfl)
        go_simp
        exact hK.out _ _ (ToldR.of (Keeps.refl _ _)) rfl
      refine StepsL.plain rfl (fun Q a w2 hR hf hd K hK => ?_) ?_
      · have d44 : a.tmps[63]?.getD undef = .pointer (some ⟨w.heap.size, 9, none⟩) := hd.get 44 (by kernel_rfl)
        have cc : w2.cell? ⟨w.heap.size, 9, none⟩ = some (.string x.init) := (HC.out w2 hR.1).cell 9
        go_simp
        exact hK.out _ _ (ToldR.of (Keeps.refl _ _)) rfl
      refine StepsL.plain rfl (fun Q a w2 hR hf hd K hK => ?_) ?_
      · have d45 : a.tmps[64]?.getD undef = .string x.init := hd.get 45 (by kernel_rfl)
        have hz := HZ.out w2 hR.1
        go_simp
        exact hK.out _ _ (ToldR.of ((Keeps.refl _ _).alloc _)) (RowV.new _ [x.init] (Nat.le_of_ble_eq_true rfl) ⟨by omega, by omega⟩)
      refine StepsL.plain rfl (fun Q a w2 hR hf hd K hK => ?_) ?_
      · have d43 : a.tmps[62]?.getD undef = .func (.func 57) #[] #[] := hd.get 43 (by kernel_rfl)
        have t46 : RowV (fun i => w.heap.size ≤ i ∧ i ≠ w.heap.size + 1) w2 (a.tmps[65]?.getD undef) [x.init] := hd.get 46 (by kernel_rfl)
        go_simp
        refine (told1_row _ t46).mono ?_
        rintro e w4 ⟨n, rfl, hn, k4⟩
        exact hK.out _ _ (ToldR.of k4) hn
      refine StepsL.plain rfl (fun Q a w2 hR hf hd K hK => ?_) ?_
      · have t6 : NodV (fun i => w.heap.size ≤ i ∧ i ≠ w.heap.size + 1) w2 (a.tmps[25]?.getD undef) (oneN kKind [kindW x.kind]) := hd.get 6 (by kernel_rfl)
        have t12 : NodV (fun i => w.heap.size ≤ i ∧ i ≠ w.heap.size + 1) w2 (a.tmps[31]?.getD undef) (oneN kLines [digS x.lines]) := hd.get 12 (by kernel_rfl)
        have t18 : NodV (fun i => w.heap.size ≤ i ∧ i ≠ w.heap.size + 1) w2 (a.tmps[37]?.getD undef) (oneN kBytes [digS x.bytes]) := hd.get 18 (by kernel_rfl)
        have t24 : NodV (fun i => w.heap.size ≤ i ∧ i ≠ w.heap.size + 1) w2 (a.tmps[43]?.getD undef) (oneN kGens [digS x.gens]) := hd.get 24 (by kernel_rfl)
        have t30 : NodV (fun i => w.heap.size ≤ i ∧ i ≠ w.heap.size + 1) w2 (a.tmps[49]?.getD undef) (oneN kSize [digS x.size]) := hd.get 30 (by kernel_rfl)
        have t42 : NodV (fun i => w.heap.size ≤ i ∧ i ≠ w.heap.size + 1) w2 (a.tmps[61]?.getD undef) (oneN kRetry [digS x.base, digS x.cap, digS x.jitter]) := hd.get 42 (by kernel_rfl)
        have t47 : NodV (fun i => w.heap.size ≤ i ∧ i ≠ w.heap.size + 1) w2 (a.tmps[66]?.getD undef) (oneN kInit [x.init]) := hd.get 47 (by kernel_rfl)
        have hz := HZ.out w2 hR.1
        clear hd hf
        obtain ⟨r6, d6, m6⟩ := t6
        obtain ⟨r12, d12, m12⟩ := t12
        obtain ⟨r18, d18, m18⟩ := t18
        obtain ⟨r24, d24, m24⟩ := t24
        obtain ⟨r30, d30, m30⟩ := t30
        obtain ⟨r42, d42, m42⟩ := t42
        obtain ⟨r47, d47, m47⟩ := t47
        simp only [ndR] at d6 d12 d18 d24 d30 d42 d47
        go_simp
        exact hK.out _ _ (ToldR.of ((Keeps.refl _ _).alloc _)) (NdsAt.new7 w2 r6 r12 r18 r24 r30 r42 r47 m6 m12 m18 m24 m30 m42 m47 ⟨by omega, by omega⟩)
      refine StepsL.plain rfl (fun Q a w2 hR hf hd K hK => ?_) ?_
      · have t2 : RowV (fun i => w.heap.size ≤ i ∧ i ≠ w.heap.size + 1) w2 (a.tmps[21]?.getD undef) [x.name] := hd.get 2 (by kernel_rfl)
        have t48 : NdsAt w2 (fun i => w.heap.size ≤ i ∧ i ≠ w.heap.size + 1) (a.tmps[67]?.getD undef) (subT x) := hd.get 48 (by kernel_rfl)
        have tt := NodV.console t2 t48
        obtain ⟨a2, c2, e2⟩ := t2.sl
        obtain ⟨a48, c48, e48, -⟩ := t48.sl
        clear hd hf t2 t48
        rw [e2, e48] at tt
        go_simp
        exact hK.out _ _ (ToldR.of (Keeps.refl _ _)) tt
      refine StepsL.plain rfl (fun Q a w2 hR hf hd K hK => ?_) ?_
      · have t49 : NodV (fun i => w.heap.size ≤ i ∧ i ≠ w.heap.size + 1) w2 (a.tmps[68]?.getD undef) (toldN x) := hd.get 49 (by kernel_rfl)
        have f2 : a.tmps[2]?.getD undef = .pointer (some ⟨w.heap.size + 1, 0, none⟩) := hf.out 2 (by kernel_rfl)
        have hz := HZ.out w2 hR.1
        have hsh := hR.2.2 HSH.out
        clear hd hf
        obtain ⟨v0, v1, v2, v3, v4, hb2⟩ := hsh
        obtain ⟨⟨x0, x1, x2, x3, x4⟩, g0, g1, g2, g3, g4⟩ := hb2.all5
        obtain ⟨r, d49, m⟩ := t49
        have hfin := ToldR.filled hS hb2 m
        simp only [ndR] at d49
        go_simp
        exact hK.out undef _ hfin.1 hfin.2
      exact StepsL.nil
    · intro a w2 hn hdf hR hf hv
      have f2 : a.tmps[2]?.getD undef = .pointer (some ⟨w.heap.size + 1, 0, none⟩) := hf 2 (by kernel_rfl)
      have hF : Filled (fun i => w.heap.size ≤ i ∧ i ≠ w.heap.size + 1) (w.heap.size + 1) (toldN x) w2 := hv 50 _ rfl
      clear hf hv
      obtain ⟨r, hb2, m⟩ := hF
      have kk : Keeps (fun _ => False) w w2 := (HK0.out.trans HKW2.out).and_ hR.1 (fun i hi e => by omega)
      go_wp2_with fail
      refine ret_cell rfl (w.heap.size + 1) 60 _ _ (by rw [Array.getD_eq_getD_getElem?]; exact f2) hb2 Tryz.underlying60 rfl (by kernel_rfl) hdf ?_
      exact ⟨⟨r, rfl, m.mono fun i hi => hi.1⟩, kk⟩
  · have HKW : Hid (kindW x.kind = ⟨#[]⟩) := Lib.hid (by unfold kindW; rw [if_neg h1.1, if_neg h1.2])
    have hd1 : (x.kind == 1) = false := beq_eq_false_iff_ne.2 h1.1
    have hd2 : (x.kind == 2) = false := beq_eq_false_iff_ne.2 h1.2
    obtain ⟨h11, h12⟩ := h1
    have HKB : Hid (Keeps (fun _ => False) wb wb) := Lib.hid (Keeps.refl _ _)
    clear hkd kd
    go_enter Tryz.func24, Tryz.ntmps24
    go_upto_region 3 with (fail)
    rw [← HWB.out]
    go_upto_region 5 with (fail)
    have HC : Hid (∀ W, Keeps (fun i => i = w.heap.size + 1) wb W → Blk W w.heap.size 42 (conR x).toArray) := Lib.hid (fun W k => (HB1.out.keeps HKB.out id).keeps k (fun e => absurd (show w.heap.size = w.heap.size + 1 from e) (by omega)))
    have HZ : Hid (∀ W, Keeps (fun i => i = w.heap.size + 1) wb W → w.heap.size + 2 ≤ W.heap.size) := Lib.hid (fun W k => by have := k.size; have := HKB.out.size; have := HB2.out.lt; omega)
    have HSH : Hid (Shaped (w.heap.size + 1) wb) := Lib.hid ⟨_, _, _, _, _, HB2.out.keeps HKB.out id⟩
    have hS : ¬ (fun i => w.heap.size ≤ i ∧ i ≠ w.heap.size + 1) (w.heap.size + 1) := fun h => h.2 rfl
    refine wp_region_specs (n := 69) (dfs := []) (R := ToldR (fun i => w.heap.size ≤ i ∧ i ≠ w.heap.size + 1) (w.heap.size + 1) (toldN x)) (Pk := ToldP (fun i => w.heap.size ≤ i ∧ i ≠ w.heap.size + 1) w.heap.size (w.heap.size + 1) x) (by kernel_rfl) rfl rfl rfl (ToldR.of (Keeps.refl _ _).drew) (fun _ _ _ h k => h.trans k) (fun k v w w' h hp => ToldP.stable hS k v w w' h hp) (by kernel_rfl) rfl ?_ ?_
    · refine StepsL.plain rfl (fun Q a w2 hR hf hd K hK => ?_) ?_
      · have f1 : a.tmps[1]?.getD undef = .pointer (some ⟨w.heap.size, 0, none⟩) := hf.out 1 (by kernel_rfl)
        go_simp
        exact hK.out _ _ (ToldR.of (Keeps.refl _ _)) rfl
      refine StepsL.plain rfl (fun Q a w2 hR hf hd K hK => ?_) ?_
      · have d0 : a.tmps[19]?.getD undef = .pointer (some ⟨w.heap.size, 0, none⟩) := hd.get 0 (by kernel_rfl)
        have cc : w2.cell? ⟨w.heap.size, 0, none⟩ = some (.string x.name) := (HC.out w2 hR.1).cell 0
        go_simp
        exact hK.out _ _ (ToldR.of (Keeps.refl _ _)) rfl
      refine StepsL.plain rfl (fun Q a w2 hR hf hd K hK => ?_) ?_
      · have d1 : a.tmps[20]?.getD undef = .string x.name := hd.get 1 (by kernel_rfl)
        have hz := HZ.out w2 hR.1
        go_simp
        exact hK.out _ _ (ToldR.of ((Keeps.refl _ _).alloc _)) (RowV.new _ [x.name] (Nat.le_of_ble_eq_true rfl) ⟨by omega, by omega⟩)
      refine StepsL.plain rfl (fun Q a w2 hR hf hd K hK => ?_) ?_
      · have f3 : a.tmps[3]?.getD undef = .func (.func 57) #[] #[] := hf.out 3 (by kernel_rfl)
        go_simp
        exact hK.out _ _ (ToldR.of (Keeps.refl _ _)) rfl
      refine StepsL.plain rfl (fun Q a w2 hR hf hd K hK => ?_) ?_
      · have f4 : a.tmps[4]?.getD undef = .string (kindW x.kind) := by rw [HKW.out]; exact hf.out 4 (by kernel_rfl)
        go_simp
        exact hK.out _ _ (ToldR.of (Keeps.refl _ _)) rfl
      refine StepsL.plain rfl (fun Q a w2 hR hf hd K hK => ?_) ?_
      · have d4 : a.tmps[23]?.getD undef = .string (kindW x.kind) := hd.get 4 (by kernel_rfl)
        have hz := HZ.out w2 hR.1
        go_simp
        exact hK.out _ _ (ToldR.of ((Keeps.refl _ _).alloc _)) (RowV.new _ [(kindW x.kind)] (Nat.le_of_ble_eq_true rfl) ⟨by omega, by omega⟩)
      refine StepsL.plain rfl (fun Q a w2 hR hf hd K hK => ?_) ?_
      · have d3 : a.tmps[22]?.getD undef = .func (.func 57) #[] #[] := hd.get 3 (by kernel_rfl)
        have t5 : RowV (fun i => w.heap.size ≤ i ∧ i ≠ w.heap.size + 1) w2 (a.tmps[24]?.getD undef) [kindW x.kind] := hd.get 5 (by kernel_rfl)
        go_simp
        refine (told1_row _ t5).mono ?_
        rintro e w4 ⟨n, rfl, hn, k4⟩
        exact hK.out _ _ (ToldR.of k4) hn
      refine StepsL.plain rfl (fun Q a w2 hR hf hd K hK => ?_) ?_
      · have f3 : a.tmps[3]?.getD undef = .func (.func 57) #[] #[] := hf.out 3 (by kernel_rfl)
        go_simp
        exact hK.out _ _ (ToldR.of (Keeps.refl _ _)) rfl
      refine StepsL.plain rfl (fun Q a w2 hR hf hd K hK => ?_) ?_
      · have f1 : a.tmps[1]?.getD undef = .pointer (some ⟨w.heap.size, 0, none⟩) := hf.out 1 (by kernel_rfl)
        go_simp
        exact hK.out _ _ (ToldR.of (Keeps.refl _ _)) rfl
      refine StepsL.plain rfl (fun Q a w2 hR hf hd K hK => ?_) ?_
      · have d8 : a.tmps[27]?.getD undef = .pointer (some ⟨w.heap.size, 2, none⟩) := hd.get 8 (by kernel_rfl)
        have cc : w2.cell? ⟨w.heap.size, 2, none⟩ = some (.int .i64 x.lines) := (HC.out w2 hR.1).cell 2
        go_simp
        exact hK.out _ _ (ToldR.of (Keeps.refl _ _)) rfl
      refine StepsL.plain rfl (fun Q a w2 hR hf hd K hK => ?_) ?_
      · have d9 : a.tmps[28]?.getD undef = .int .i64 x.lines := hd.get 9 (by kernel_rfl)
        have hb := HX.out x.lines (by simp)
        go_simp
        go_at_call 23
        refine (put_any _ _ hb.1 hb.2).mono ?_
        rintro e w4 ⟨rfl, k4⟩
        exact hK.out _ _ (ToldR.of k4) rfl
      refine StepsL.plain rfl (fun Q a w2 hR hf hd K hK => ?_) ?_
      · have d10 : a.tmps[29]?.getD undef = .string (digS x.lines) := hd.get 10 (by kernel_rfl)
        have hz := HZ.out w2 hR.1
        go_simp
        exact hK.out _ _ (ToldR.of ((Keeps.refl _ _).alloc _)) (RowV.new _ [(digS x.lines)] (Nat.le_of_ble_eq_true rfl) ⟨by omega, by omega⟩)
      refine StepsL.plain rfl (fun Q a w2 hR hf hd K hK => ?_) ?_
      · have d7 : a.tmps[26]?.getD undef = .func (.func 57) #[] #[] := hd.get 7 (by kernel_rfl)
        have t11 : RowV (fun i => w.heap.size ≤ i ∧ i ≠ w.heap.size + 1) w2 (a.tmps[30]?.getD undef) [digS x.lines] := hd.get 11 (by kernel_rfl)
        go_simp
        refine (told1_row _ t11).mono ?_
        rintro e w4 ⟨n, rfl, hn, k4⟩
        exact hK.out _ _ (ToldR.of k4) hn
      refine StepsL.plain rfl (fun Q a w2 hR hf hd K hK => ?_) ?_
      · have f3 : a.tmps[3]?.getD undef = .func (.func 57) #[] #[] := hf.out 3 (by kernel_rfl)
        go_simp
        exact hK.out _ _ (ToldR.of (Keeps.refl _ _)) rfl
      refine StepsL.plain rfl (fun Q a w2 hR hf hd K hK => ?_) ?_
      · have f1 : a.tmps[1]?.getD undef = .pointer (some ⟨w.heap.size, 0, none⟩) := hf.out 1 (by kernel_rfl)
        go_simp
        exact hK.out _ _ (ToldR.of (Keeps.refl _ _)) rfl
      refine StepsL.plain rfl (fun Q a w2 hR hf hd K hK => ?_) ?_
      · have d14 : a.tmps[33]?.getD undef = .pointer (some ⟨w.heap.size, 3, none⟩) := hd.get 14 (by kernel_rfl)
        have cc : w2.cell? ⟨w.heap.size, 3, none⟩ = some (.int .i64 x.bytes) := (HC.out w2 hR.1).cell 3
        go_simp
        exact hK.out _ _ (ToldR.of (Keeps.refl _ _)) rfl
      refine StepsL.plain rfl (fun Q a w2 hR hf hd K hK => ?_) ?_
      · have d15 : a.tmps[34]?.getD undef = .int .i64 x.bytes := hd.get 15 (by kernel_rfl)
        have hb := HX.out x.bytes (by simp)
        go_simp
        go_at_call 23
        refine (put_any _ _ hb.1 hb.2).mono ?_
        rintro e w4 ⟨rfl, k4⟩
        exact hK.out _ _ (ToldR.of k4) rfl
      refine StepsL.plain rfl (fun Q a w2 hR hf hd K hK => ?_) ?_
      · have d16 : a.tmps[35]?.getD undef = .string (digS x.bytes) := hd.get 16 (by kernel_rfl)
        have hz := HZ.out w2 hR.1
        go_simp
        exact hK.out _ _ (ToldR.of ((Keeps.refl _ _).alloc _)) (RowV.new _ [(digS x.bytes)] (Nat.le_of_ble_eq_true rfl) ⟨by omega, by omega⟩)
      refine StepsL.plain rfl (fun Q a w2 hR hf hd K hK => ?_) ?_
      · have d13 : a.tmps[32]?.getD undef = .func (.func 57) #[] #[] := hd.get 13 (by kernel_rfl)
        have t17 : RowV (fun i => w.heap.size ≤ i ∧ i ≠ w.heap.size + 1) w2 (a.tmps[36]?.getD undef) [digS x.bytes] := hd.get 17 (by kernel_rfl)
        go_simp
        refine (told1_row _ t17).mono ?_
        rintro e w4 ⟨n, rfl, hn, k4⟩
        exact hK.out _ _ (ToldR.of k4) hn
      refine StepsL.plain rfl (fun Q a w2 hR hf hd K hK => ?_) ?_
      · have f3 : a.tmps[3]?.getD undef = .func (.func 57) #[] #[] := hf.out 3 (by kernel_rfl)
        go_simp
        exact hK.out _ _ (ToldR.of (Keeps.refl _ _)) rfl
      refine StepsL.plain rfl (fun Q a w2 hR hf hd K hK => ?_) ?_
      · have f1 : a.tmps[1]?.getD undef = .pointer (some ⟨w.heap.size, 0, none⟩) := hf.out 1 (by kernel_rfl)
        go_simp
        exact hK.out _ _ (ToldR.of (Keeps.refl _ _)) rfl
      refine StepsL.plain rfl (fun Q a w2 hR hf hd K hK => ?_) ?_
      · have d20 : a.tmps[39]?.getD undef = .pointer (some ⟨w.heap.size, 4, none⟩) := hd.get 20 (by kernel_rfl)
        have cc : w2.cell? ⟨w.heap.size, 4, none⟩ = some (.int .i64 x.gens) := (HC.out w2 hR.1).cell 4
        go_simp
        exact hK.out _ _ (ToldR.of (Keeps.refl _ _)) rfl
      refine StepsL.plain rfl (fun Q a w2 hR hf hd K hK => ?_) ?_
      · have d21 : a.tmps[40]?.getD undef = .int .i64 x.gens := hd.get 21 (by kernel_rfl)
        have hb := HX.out x.gens (by simp)
        go_simp
        go_at_call 23
        refine (put_any _ _ hb.1 hb.2).mono ?_
        rintro e w4 ⟨rfl, k4⟩
        exact hK.out _ _ (ToldR.of k4) rfl
      refine StepsL.plain rfl (fun Q a w2 hR hf hd K hK => ?_) ?_
      · have d22 : a.tmps[41]?.getD undef = .string (digS x.gens) := hd.get 22 (by kernel_rfl)
        have hz := HZ.out w2 hR.1
        go_simp
        exact hK.out _ _ (ToldR.of ((Keeps.refl _ _).alloc _)) (RowV.new _ [(digS x.gens)] (Nat.le_of_ble_eq_true rfl) ⟨by omega, by omega⟩)
      refine StepsL.plain rfl (fun Q a w2 hR hf hd K hK => ?_) ?_
      · have d19 : a.tmps[38]?.getD undef = .func (.func 57) #[] #[] := hd.get 19 (by kernel_rfl)
        have t23 : RowV (fun i => w.heap.size ≤ i ∧ i ≠ w.heap.size + 1) w2 (a.tmps[42]?.getD undef) [digS x.gens] := hd.get 23 (by kernel_rfl)
        go_simp
        refine (told1_row _ t23).mono ?_
        rintro e w4 ⟨n, rfl, hn, k4⟩
        exact hK.out _ _ (ToldR.of k4) hn
      refine StepsL.plain rfl (fun Q a w2 hR hf hd K hK => ?_) ?_
      · have f3 : a.tmps[3]?.getD undef = .func (.func 57) #[] #[] := hf.out 3 (by kernel_rfl)
        go_simp
        exact hK.out _ _ (ToldR.of (Keeps.refl _ _)) rfl
      refine StepsL.plain rfl (fun Q a w2 hR hf hd K hK => ?_) ?_
      · have f1 : a.tmps[1]?.getD undef = .pointer (some ⟨w.heap.size, 0, none⟩) := hf.out 1 (by kernel_rfl)
        go_simp
        exact hK.out _ _ (ToldR.of (Keeps.refl _ _)) rfl
      refine StepsL.plain rfl (fun Q a w2 hR hf hd K hK => ?_) ?_
      · have d26 : a.tmps[45]?.getD undef = .pointer (some ⟨w.heap.size, 5, none⟩) := hd.get 26 (by kernel_rfl)
        have cc : w2.cell? ⟨w.heap.size, 5, none⟩ = some (.int .i64 x.size) := (HC.out w2 hR.1).cell 5
        go_simp
        exact hK.out _ _ (ToldR.of (Keeps.refl _ _)) rfl
      refine StepsL.plain rfl (fun Q a w2 hR hf hd K hK => ?_) ?_
      · have d27 : a.tmps[46]?.getD undef = .int .i64 x.size := hd.get 27 (by kernel_rfl)
        have hb := HX.out x.size (by simp)
        go_simp
        go_at_call 23
        refine (put_any _ _ hb.1 hb.2).mono ?_
        rintro e w4 ⟨rfl, k4⟩
        exact hK.out _ _ (ToldR.of k4) rfl
      refine StepsL.plain rfl (fun Q a w2 hR hf hd K hK => ?_) ?_
      · have d28 : a.tmps[47]?.getD undef = .string (digS x.size) := hd.get 28 (by kernel_rfl)
        have hz := HZ.out w2 hR.1
        go_simp
        exact hK.out _ _ (ToldR.of ((Keeps.refl _ _).alloc _)) (RowV.new _ [(digS x.size)] (Nat.le_of_ble_eq_true rfl) ⟨by omega, by omega⟩)
      refine StepsL.plain rfl (fun Q a w2 hR hf hd K hK => ?_) ?_
      · have d25 : a.tmps[44]?.getD undef = .func (.func 57) #[] #[] := hd.get 25 (by kernel_rfl)
        have t29 : RowV (fun i => w.heap.size ≤ i ∧ i ≠ w.heap.size + 1) w2 (a.tmps[48]?.getD undef) [digS x.size] := hd.get 29 (by kernel_rfl)
        go_simp
        refine (told1_row _ t29).mono ?_
        rintro e w4 ⟨n, rfl, hn, k4⟩
        exact hK.out _ _ (ToldR.of k4) hn
      refine StepsL.plain rfl (fun Q a w2 hR hf hd K hK => ?_) ?_
      · have f3 : a.tmps[3]?.getD undef = .func (.func 57) #[] #[] := hf.out 3 (by kernel_rfl)
        go_simp
        exact hK.out _ _ (ToldR.of (Keeps.refl _ _)) rfl
      refine StepsL.plain rfl (fun Q a w2 hR hf hd K hK => ?_) ?_
      · have f1 : a.tmps[1]?.getD undef = .pointer (some ⟨w.heap.size, 0, none⟩) := hf.out 1 (by kernel_rfl)
        go_simp
        exact hK.out _ _ (ToldR.of (Keeps.refl _ _)) rfl
      refine StepsL.plain rfl (fun Q a w2 hR hf hd K hK => ?_) ?_
      · have d32 : a.tmps[51]?.getD undef = .pointer (some ⟨w.heap.size, 6, none⟩) := hd.get 32 (by kernel_rfl)
        have cc : w2.cell? ⟨w.heap.size, 6, none⟩ = some (.int .i64 x.base) := (HC.out w2 hR.1).cell 6
        go_simp
        exact hK.out _ _ (ToldR.of (Keeps.refl _ _)) rfl
      refine StepsL.plain rfl (fun Q a w2 hR hf hd K hK => ?_) ?_
      · have d33 : a.tmps[52]?.getD undef = .int .i64 x.base := hd.get 33 (by kernel_rfl)
        have hb := HX.out x.base (by simp)
        go_simp
        go_at_call 23
        refine (put_any _ _ hb.1 hb.2).mono ?_
        rintro e w4 ⟨rfl, k4⟩
        exact hK.out _ _ (ToldR.of k4) rfl
      refine StepsL.plain rfl (fun Q a w2 hR hf hd K hK => ?_) ?_
      · have f1 : a.tmps[1]?.getD undef = .pointer (some ⟨w.heap.size, 0, none⟩) := hf.out 1 (by kernel_rfl)
        go_simp
        exact hK.out _ _ (ToldR.of (Keeps.refl _ _)) rfl
      refine StepsL.plain rfl (fun Q a w2 hR hf hd K hK => ?_) ?_
      · have d35 : a.tmps[54]?.getD undef = .pointer (some ⟨w.heap.size, 7, none⟩) := hd.get 35 (by kernel_rfl)
        have cc : w2.cell? ⟨w.heap.size, 7, none⟩ = some (.int .i64 x.cap) := (HC.out w2 hR.1).cell 7
        go_simp
        exact hK.out _ _ (ToldR.of (Keeps.refl _ _)) rfl
      refine StepsL.plain rfl (fun Q a w2 hR hf hd K hK => ?_) ?_
      · have d36 : a.tmps[55]?.getD undef = .int .i64 x.cap := hd.get 36 (by kernel_rfl)
        have hb := HX.out x.cap (by simp)
        go_simp
        go_at_call 23
        refine (put_any _ _ hb.1 hb.2).mono ?_
        rintro e w4 ⟨rfl, k4⟩
        exact hK.out _ _ (ToldR.of k4) rfl
      refine StepsL.plain rfl (fun Q a w2 hR hf hd K hK => ?_) ?_
      · have f1 : a.tmps[1]?.getD undef = .pointer (some ⟨w.heap.size, 0, none⟩) := hf.out 1 (by kernel_rfl)
        go_simp
        exact hK.out _ _ (ToldR.of (Keeps.refl _ _)) rfl
      refine StepsL.plain rfl (fun Q a w2 hR hf hd K hK => ?_) ?_
      · have d38 : a.tmps[57]?.getD undef = .pointer (some ⟨w.heap.size, 8, none⟩) := hd.get 38 (by kernel_rfl)
        have cc : w2.cell? ⟨w.heap.size, 8, none⟩ = some (.int .i64 x.jitter) := (HC.out w2 hR.1).cell 8
        go_simp
        exact hK.out _ _ (ToldR.of (Keeps.refl _ _)) rfl
      refine StepsL.plain rfl (fun Q a w2 hR hf hd K hK => ?_) ?_
      · have d39 : a.tmps[58]?.getD undef = .int .i64 x.jitter := hd.get 39 (by kernel_rfl)
        have hb := HX.out x.jitter (by simp)
        go_simp
        go_at_call 23
        refine (put_any _ _ hb.1 hb.2).mono ?_
        rintro e w4 ⟨rfl, k4⟩
        exact hK.out _ _ (ToldR.of k4) rfl
      refine StepsL.plain rfl (fun Q a w2 hR hf hd K hK => ?_) ?_
      · have d34 : a.tmps[53]?.getD undef = .string (digS x.base) := hd.get 34 (by kernel_rfl)
        have d37 : a.tmps[56]?.getD undef = .string (digS x.cap) := hd.get 37 (by kernel_rfl)
        have d40 : a.tmps[59]?.getD undef = .string (digS x.jitter) := hd.get 40 (by kernel_rfl)
        have hz := HZ.out w2 hR.1
        go_simp
        exact hK.out _ _ (ToldR.of ((Keeps.refl _ _).alloc _)) (RowV.new _ [(digS x.base), (digS x.cap), (digS x.jitter)] (Nat.le_of_ble_eq_true rfl) ⟨by omega, by omega⟩)
      refine StepsL.plain rfl (fun Q a w2 hR hf hd K hK => ?_) ?_
      · have d31 : a.tmps[50]?.getD undef = .func (.func 57) #[] #[] := hd.get 31 (by kernel_rfl)
        have t41 : RowV (fun i => w.heap.size ≤ i ∧ i ≠ w.heap.size + 1) w2 (a.tmps[60]?.getD undef) [digS x.base, digS x.cap, digS x.jitter] := hd.get 41 (by kernel_rfl)
        go_simp
        refine (told1_row _ t41).mono ?_
        rintro e w4 ⟨n, rfl, hn, k4⟩
        exact hK.out _ _ (ToldR.of k4) hn
      refine StepsL.plain rfl (fun Q a w2 hR hf hd K hK => ?_) ?_
      · have f3 : a.tmps[3]?.getD undef = .func (.func 57) #[] #[] := hf.out 3 (by kernel_rfl)
        go_simp
        exact hK.out _ _ (ToldR.of (Keeps.refl _ _)) rfl
      refine StepsL.plain rfl (fun Q a w2 hR hf hd K hK => ?_) ?_
      · have f1 : a.tmps[1]?.getD undef = .pointer (some ⟨w.heap.size, 0, none⟩) := hf.out 1 (by kernel_rfl)
        go_simp
        exact hK.out _ _ (ToldR.of (Keeps.refl _ _)) rfl
      refine StepsL.plain rfl (fun Q a w2 hR hf hd K hK => ?_) ?_
      · have d44 : a.tmps[63]?.getD undef = .pointer (some ⟨w.heap.size, 9, none⟩) := hd.get 44 (by kernel_rfl)
        have cc : w2.cell? ⟨w.heap.size, 9, none⟩ = some (.string x.init) := (HC.out w2 hR.1).cell 9
        go_simp
        exact hK.out _ _ (ToldR.of (Keeps.refl _ _)) rfl
      refine StepsL.plain rfl (fun Q a w2 hR hf hd K hK => ?_) ?_
      · have d45 : a.tmps[64]?.getD undef = .string x.init := hd.get 45 (by kernel_rfl)
        have hz := HZ.out w2 hR.1
        go_simp
        exact hK.out _ _ (ToldR.of ((Keeps.refl _ _).alloc _)) (RowV.new _ [x.init] (Nat.le_of_ble_eq_true rfl) ⟨by omega, by omega⟩)
      refine StepsL.plain rfl (fun Q a w2 hR hf hd K hK => ?_) ?_
      · have d43 : a.tmps[62]?.getD undef = .func (.func 57) #[] #[] := hd.get 43 (by kernel_rfl)
        have t46 : RowV (fun i => w.heap.size ≤ i ∧ i ≠ w.heap.size + 1) w2 (a.tmps[65]?.getD undef) [x.init] := hd.get 46 (by kernel_rfl)
        go_simp
        refine (told1_row _ t46).mono ?_
        rintro e w4 ⟨n, rfl, hn, k4⟩
        exact hK.out _ _ (ToldR.of k4) hn
      refine StepsL.plain rfl (fun Q a w2 hR hf hd K hK => ?_) ?_
      · have t6 : NodV (fun i => w.heap.size ≤ i ∧ i ≠ w.heap.size + 1) w2 (a.tmps[25]?.getD undef) (oneN kKind [kindW x.kind]) := hd.get 6 (by kernel_rfl)
        have t12 : NodV (fun i => w.heap.size ≤ i ∧ i ≠ w.heap.size + 1) w2 (a.tmps[31]?.getD undef) (oneN kLines [digS x.lines]) := hd.get 12 (by kernel_rfl)
        have t18 : NodV (fun i => w.heap.size ≤ i ∧ i ≠ w.heap.size + 1) w2 (a.tmps[37]?.getD undef) (oneN kBytes [digS x.bytes]) := hd.get 18 (by kernel_rfl)
        have t24 : NodV (fun i => w.heap.size ≤ i ∧ i ≠ w.heap.size + 1) w2 (a.tmps[43]?.getD undef) (oneN kGens [digS x.gens]) := hd.get 24 (by kernel_rfl)
        have t30 : NodV (fun i => w.heap.size ≤ i ∧ i ≠ w.heap.size + 1) w2 (a.tmps[49]?.getD undef) (oneN kSize [digS x.size]) := hd.get 30 (by kernel_rfl)
        have t42 : NodV (fun i => w.heap.size ≤ i ∧ i ≠ w.heap.size + 1) w2 (a.tmps[61]?.getD undef) (oneN kRetry [digS x.base, digS x.cap, digS x.jitter]) := hd.get 42 (by kernel_rfl)
        have t47 : NodV (fun i => w.heap.size ≤ i ∧ i ≠ w.heap.size + 1) w2 (a.tmps[66]?.getD undef) (oneN kInit [x.init]) := hd.get 47 (by kernel_rfl)
        have hz := HZ.out w2 hR.1
        clear hd hf
        obtain ⟨r6, d6, m6⟩ := t6
        obtain ⟨r12, d12, m12⟩ := t12
        obtain ⟨r18, d18, m18⟩ := t18
        obtain ⟨r24, d24, m24⟩ := t24
        obtain ⟨r30, d30, m30⟩ := t30
        obtain ⟨r42, d42, m42⟩ := t42
        obtain ⟨r47, d47, m47⟩ := t47
        simp only [ndR] at d6 d12 d18 d24 d30 d42 d47
        go_simp
        exact hK.out _ _ (ToldR.of ((Keeps.refl _ _).alloc _)) (NdsAt.new7 w2 r6 r12 r18 r24 r30 r42 r47 m6 m12 m18 m24 m30 m42 m47 ⟨by omega, by omega⟩)
      refine StepsL.plain rfl (fun Q a w2 hR hf hd K hK => ?_) ?_
      · have t2 : RowV (fun i => w.heap.size ≤ i ∧ i ≠ w.heap.size + 1) w2 (a.tmps[21]?.getD undef) [x.name] := hd.get 2 (by kernel_rfl)
        have t48 : NdsAt w2 (fun i => w.heap.size ≤ i ∧ i ≠ w.heap.size + 1) (a.tmps[67]?.getD undef) (subT x) := hd.get 48 (by kernel_rfl)
        have tt := NodV.console t2 t48
        obtain ⟨a2, c2, e2⟩ := t2.sl
        obtain ⟨a48, c48, e48, -⟩ := t48.sl
        clear hd hf t2 t48
        rw [e2, e48] at tt
        go_simp
        exact hK.out _ _ (ToldR.of (Keeps.refl _ _)) tt
      refine StepsL.plain rfl (fun Q a w2 hR hf hd K hK => ?_) ?_
      · have t49 : NodV (fun i => w.heap.size ≤ i ∧ i ≠ w.heap.size + 1) w2 (a.tmps[68]?.getD undef) (toldN x) := hd.get 49 (by kernel_rfl)
        have f2 : a.tmps[2]?.getD undef = .pointer (some ⟨w.heap.size + 1, 0, none⟩) := hf.out 2 (by kernel_rfl)
        have hz := HZ.out w2 hR.1
        have hsh := hR.2.2 HSH.out
        clear hd hf
        obtain ⟨v0, v1, v2, v3, v4, hb2⟩ := hsh
        obtain ⟨⟨x0, x1, x2, x3, x4⟩, g0, g1, g2, g3, g4⟩ := hb2.all5
        obtain ⟨r, d49, m⟩ := t49
        have hfin := ToldR.filled hS hb2 m
        simp only [ndR] at d49
        go_simp
        exact hK.out undef _ hfin.1 hfin.2
      exact StepsL.nil
    · intro a w2 hn hdf hR hf hv
      have f2 : a.tmps[2]?.getD undef = .pointer (some ⟨w.heap.size + 1, 0, none⟩) := hf 2 (by kernel_rfl)
      have hF : Filled (fun i => w.heap.size ≤ i ∧ i ≠ w.heap.size + 1) (w.heap.size + 1) (toldN x) w2 := hv 50 _ rfl
      clear hf hv
      obtain ⟨r, hb2, m⟩ := hF
      have kk : Keeps (fun _ => False) w w2 := (HK0.out.trans HKB.out).and_ hR.1 (fun i hi e => by omega)
      go_wp2_with fail
      refine ret_cell rfl (w.heap.size + 1) 60 _ _ (by rw [Array.getD_eq_getD_getElem?]; exact f2) hb2 Tryz.underlying60 rfl (by kernel_rfl) hdf ?_
      exact ⟨⟨r, rfl, m.mono fun i hi => hi.1⟩, kk⟩
end Go.Proofs.YtfpajgmdejlaeaaGreatDoor
