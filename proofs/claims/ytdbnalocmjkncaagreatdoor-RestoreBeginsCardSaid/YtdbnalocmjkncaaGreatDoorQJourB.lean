/-
  journal: Add, Sync, Reopen, New; law22's fine.
-/
import Derived.Test.YtdbnalocmjkncaaGreatDoorQJourA
import Derived.Test.YtdbnalocmjkncaaGreatDoorQRecG
import Derived.Test.YtdbnalocmjkncaaGreatDoorQActs
namespace Go.Proofs.YtdbnalocmjkncaaGreatDoor
open Go.RowKit Go.Maps
variable [Res]

/-- the kinds of blocks that a journal and its store are made of -/
def JT (w : World) (i : Nat) : Prop := StR w i ∨ ∃ cs, Blk w i 160 cs
theorem JT.not {w : World} {i : Nat} {t : TypeId} {cs : Array Value} (h : JT w i) (hb : Blk w i t cs) (h1 : t ≠ 81) (h2 : t ≠ 84) (h3 : t ≠ 5) (h4 : t ≠ 160) : False := by
  rcases h with h | ⟨cs', h⟩
  · exact h.not hb h1 h2 h3
  · exact hb.ne_ h h4 rfl
/-- a block of another kind stays -/
theorem Blk.otherJ {w w' : World} {F : Nat → Prop} {g : Nat} {t : TypeId} {cs : Array Value} (hb : Blk w g t cs) (k : Keeps (fun i => F i ∧ JT w i) w w') (h1 : t ≠ 81) (h2 : t ≠ 84) (h3 : t ≠ 5) (h4 : t ≠ 160) : Blk w' g t cs :=
  hb.keeps k fun h => h.2.not hb h1 h2 h3 h4
theorem Keeps.st {F : Nat → Prop} {w w' : World} (k : Keeps (fun i => F i ∧ StR w i) w w') : Keeps (fun i => F i ∧ JT w i) w w' := k.mono fun _ _ h => ⟨h.1, .inl h.2⟩
theorem Keeps.noneJ {F : Nat → Prop} {w w' : World} (k : Keeps (fun _ => False) w w') : Keeps (fun i => F i ∧ JT w i) w w' := k.none_
section
variable {w0 w w' w2 : World} {s M jb bad n k size lost : Nat} {most : Int} {L : List SRep} {base : ByteArray} {rest : Bool}
/-- what is a journal's block behind an act was one before, or is new -/
theorem Keeps.thenJ {F : Nat → Prop} {a b c : World} (h : Keeps (fun i => F i ∧ JT a i) a b) (kk : Keeps (fun _ => False) b c) : Keeps (fun i => F i ∧ JT a i) a c := h.and_ kk (fun _ _ h => h.elim)
/-- .. and then a journal's own block is written -/
theorem Keeps.thenB {F : Nat → Prop} {a b c : World} {g : Nat} {cs : Array Value} (h : Keeps (fun i => F i ∧ JT a i) a b) (hb : Blk a g 160 cs) (hF : F g) (kk : Keeps (fun i => i = g) b c) : Keeps (fun i => F i ∧ JT a i) a c := h.and_ kk (fun i _ e => by rw [e]; exact ⟨hF, .inr ⟨cs, hb⟩⟩)
omit [Res] in
theorem Keeps.set1 {a b : World} (h : Keeps (fun _ => False) a b) (g i : Nat) (u : Value) : Keeps (fun j => j = g) a (b.setCell ⟨g, i, none⟩ u) := (h.none_ (S := fun j => j = g)).setCell (fun _ => rfl) u
/-- the journal's own block is written: rest, and how many are lost -/
theorem Jour.put_ {rest' : Bool} {lost' : Nat} (h : Jour w0 w s M jb most bad L n base k size rest lost) (kk : Keeps (fun i => i = jb) w w') (hb : Blk w' jb 160 #[.pointer (some ⟨s, 0, none⟩), .string base, .int .i64 k, .int .i64 size, .bool rest', .int .i64 lost']) (hl : lost' ≤ 1048576) : Jour w0 w' s M jb most bad L n base k size rest' lost' :=
  ⟨h.sto.beside kk (fun i e => by rw [e]; exact ⟨h.lo, _, _, h.blk, by decide, by decide, by decide⟩), hb, h.lo, h.k1, h.sz, h.bz, hl⟩
/-- behind Add -/
def Added (w0 w : World) (s M jb : Nat) (most : Int) (bad : Nat) (l : List SFile) (n : Nat) (base : ByteArray) (k size : Nat) (rest : Bool) (lost : Nat) (R : Int × Nat × List SFile) (e : Ending) (w' : World) : Prop :=
  (∃ L', e = .returned (.bool true) ∧ rest = false ∧ R.1 = 0 ∧ Jour w0 w' s M jb most R.2.1 L' n base k size false lost ∧ L'.map SRep.f = R.2.2 ∧ Keeps (fun i => w0.heap.size ≤ i ∧ JT w i) w w') ∨
  (∃ L', e = .returned (.bool false) ∧ rest = false ∧ R.1 ≠ 0 ∧ Jour w0 w' s M jb most R.2.1 L' n base k size true (lost + 1) ∧ L'.map SRep.f = R.2.2 ∧ Keeps (fun i => w0.heap.size ≤ i ∧ JT w i) w w') ∨
  (∃ L', e = .returned (.bool false) ∧ rest = true ∧ Jour w0 w' s M jb most bad L' n base k size true (lost + 1) ∧ L'.map SRep.f = l ∧ Keeps (fun i => w0.heap.size ≤ i ∧ JT w i) w w')
set_option maxRecDepth 100000 in
set_option maxHeartbeats 1000000 in
theorem jadd (h : Jour w0 w s M jb most bad L n base k size rest lost) (hn : n ≤ 999000) (hbn : base.size ≤ 64) (hll : lost ≤ 1000000) (x : Itm) (hx : x.ok) :
    Calls Tryz.prog 37 #[.pointer (some ⟨jb, 0, none⟩), itmV x] w (Added w0 w s M jb most bad (L.map SRep.f) (n + 19) base k size rest lost (putP most base k size bad (L.map SRep.f) (str (recP x)))) := by
  have H := Lib.hid h
  obtain ⟨R, hR⟩ : ∃ R, R = putP most base k size bad (L.map SRep.f) (str (recP x)) := ⟨_, rfl⟩
  rw [← hR]
  have hrl := recP_len x
  have hxb := hx.2.2
  have hrp := fun W => rput_ok W x hx
  have hjp := fun W (hj : Jour w0 W s M jb most bad L n base k size rest lost) => jput hj hn (str (recP x)) (by rw [str_size]; omega) hbn
  rw [← hR] at hjp
  obtain ⟨bs, hbs⟩ : ∃ bs, bs = str (recP x) := ⟨_, rfl⟩
  rw [← hbs] at hrp hjp
  obtain ⟨k0, t0, b0⟩ := x
  unfold itmV at hrp ⊢
  have HRP := Lib.hid hrp
  have HJP := Lib.hid hjp
  have HM := Lib.hid (fun W (hj : Jour w0 W s M jb most bad L n base k size rest lost) => jmade hj)
  clear h hR hrp hjp hbs hrl hxb hx
  cases rest with
  | false =>
    go_enter Tryz.func37, Tryz.ntmps37
    go_wp2_with fail
    refine (HM.out _ (H.out.same ((Keeps.refl _ _).alloc _))).mono ?_
    rintro e w2 ⟨rfl, hw⟩
    obtain ⟨c0, c1, c2⟩ := (show Blk w2 w.heap.size 43 #[.int .i64 k0, .int .i64 t0, .string b0] by rw [hw]; exact Blk.new w _ _).cells3
    have hk2 : Keeps (fun _ => False) w w2 := by rw [hw]; (repeat (first | (with_reducible assumption) | (with_reducible exact Keeps.refl _ _) | refine Keeps.drew ?_ | refine Keeps.drewN ?_ _ | refine Keeps.setCell ?_ (by simp) _ | refine Keeps.setRow ?_ (by simp) _ | refine Keeps.alloc ?_ _))
    have HK2 := Lib.hid hk2
    obtain ⟨⟨-, -, -, -, d4, d5⟩, f4, f5⟩ := (H.out.same hk2).blk.all6
    clear hw hk2
    go_wp2_with fail
    refine (HRP.out _).mono ?_
    rintro e w3 ⟨rfl, k3⟩
    have HK3 := Lib.hid (HK2.out.trans k3)
    clear c0 c1 c2 d4 d5 f4 f5 k3
    obtain ⟨⟨-, -, -, -, d4, d5⟩, f4, f5⟩ := (H.out.same HK3.out).blk.all6
    go_wp2_with fail
    refine (HJP.out _ (H.out.same HK3.out)).mono ?_
    rintro e w4 ⟨v4, L4, rfl, hE, hJ4, hl4, k4⟩
    have HJ4 := Lib.hid hJ4
    have HL4 := Lib.hid hl4
    have HK4 := Lib.hid (St.none_ HK3.out k4)
    clear d4 d5 f4 f5 hl4 k4 hJ4
    obtain ⟨⟨-, -, -, -, d4, d5⟩, f4, f5⟩ := HJ4.out.blk.all6
    by_cases hR0 : R.1 = 0
    · rw [hR0] at hE
      obtain rfl := hE.nil_
      have HR0 := Lib.hid hR0
      clear hE hR0
      go_wp2_with fail
      go_ret
      exact .inl ⟨L4, rfl, rfl, HR0.out, HJ4.out, HL4.out, HK4.out.st⟩
    · obtain ⟨ty, x', rfl⟩ := hE.iface hR0
      have HR0 := Lib.hid hR0
      clear hE hR0
      go_wp2_with fail
      go_ret
      exact .inr (.inl ⟨L4, rfl, rfl, HR0.out, HJ4.out.put_ (((Keeps.refl _ _).set1 jb 4 _).setCell (fun _ => rfl) _) ((HJ4.out.blk.set_ 4 (.bool true)).set_ 5 (.int .i64 ((lost : Int) + 1))) (by omega), HL4.out, HK4.out.st.thenB H.out.blk H.out.lo (((Keeps.refl _ _).set1 jb 4 _).setCell (fun _ => rfl) _)⟩)
  | true =>
    go_enter Tryz.func37, Tryz.ntmps37
    go_wp2_with fail
    refine (HM.out _ (H.out.same ((Keeps.refl _ _).alloc _))).mono ?_
    rintro e w2 ⟨rfl, hw⟩
    obtain ⟨c0, c1, c2⟩ := (show Blk w2 w.heap.size 43 #[.int .i64 k0, .int .i64 t0, .string b0] by rw [hw]; exact Blk.new w _ _).cells3
    have hk2 : Keeps (fun _ => False) w w2 := by rw [hw]; (repeat (first | (with_reducible assumption) | (with_reducible exact Keeps.refl _ _) | refine Keeps.drew ?_ | refine Keeps.drewN ?_ _ | refine Keeps.setCell ?_ (by simp) _ | refine Keeps.setRow ?_ (by simp) _ | refine Keeps.alloc ?_ _))
    have HK2 := Lib.hid hk2
    obtain ⟨⟨-, -, -, -, d4, d5⟩, f4, f5⟩ := (H.out.same hk2).blk.all6
    clear hw hk2
    go_wp2_with fail
    refine (HRP.out _).mono ?_
    rintro e w3 ⟨rfl, k3⟩
    have HK3 := Lib.hid (HK2.out.trans k3)
    clear c0 c1 c2 d4 d5 f4 f5 k3
    have HJ3 := Lib.hid (H.out.same HK3.out)
    obtain ⟨⟨-, -, -, -, d4, d5⟩, f4, f5⟩ := HJ3.out.blk.all6
    go_wp2_with fail
    go_ret
    exact .inr (.inr ⟨L, rfl, rfl, (HJ3.out.le_n (m := n + 19) (by omega) (by omega)).put_ (((Keeps.refl _ _).set1 jb 4 _).setCell (fun _ => rfl) _) ((HJ3.out.blk.set_ 4 (.bool true)).set_ 5 (.int .i64 ((lost : Int) + 1))) (by omega), rfl, HK3.out.noneJ.thenB H.out.blk H.out.lo (((Keeps.refl _ _).set1 jb 4 _).setCell (fun _ => rfl) _)⟩)
omit [Res] in
set_option maxRecDepth 100000 in
theorem jnone_any (w : World) {c : Int} {v : Value} (h : ErrV w c v) (hc : c ≠ 0) : Calls Tryz.prog 92 #[v] w fun e w' => e = .returned (.bool (decide (c = 7))) ∧ w' = w := by
  obtain ⟨h0, -⟩ | ⟨-, l, hl⟩ := h
  · exact absurd h0 hc
  have HI := Lib.hid (is_ok c 7 l v w hl)
  obtain ⟨ty, x, rfl⟩ := hl.form
  clear hl hc
  go_enter Tryz.func92, Tryz.ntmps92
  go_wp2_with fail
  refine HI.out.mono ?_
  rintro e w2 ⟨rfl, hw⟩
  obtain rfl : w = w2 := hw.symm
  go_wp2_with fail
  go_ret
  exact ⟨rfl, rfl⟩
/-- behind Sync -/
def Synced (w0 w : World) (s M jb : Nat) (most : Int) (bad : Nat) (l : List SFile) (n : Nat) (base : ByteArray) (k size : Nat) (rest : Bool) (lost : Nat) (x : Int × Nat × List SFile) (e : Ending) (w' : World) : Prop :=
  (∃ L', e = .returned (.bool true) ∧ rest = false ∧ (x.1 = 0 ∨ x.1 = 7) ∧ Jour w0 w' s M jb most x.2.1 L' n base k size false lost ∧ L'.map SRep.f = x.2.2 ∧ Keeps (fun i => w0.heap.size ≤ i ∧ JT w i) w w') ∨
  (∃ L', e = .returned (.bool false) ∧ rest = false ∧ ¬ (x.1 = 0 ∨ x.1 = 7) ∧ Jour w0 w' s M jb most x.2.1 L' n base k size true lost ∧ L'.map SRep.f = x.2.2 ∧ Keeps (fun i => w0.heap.size ≤ i ∧ JT w i) w w') ∨
  (∃ L', e = .returned (.bool false) ∧ rest = true ∧ Jour w0 w' s M jb most bad L' n base k size true lost ∧ L'.map SRep.f = l ∧ Keeps (fun i => w0.heap.size ≤ i ∧ JT w i) w w')
set_option maxRecDepth 100000 in
set_option maxHeartbeats 1000000 in
theorem jsync (h : Jour w0 w s M jb most bad L n base k size rest lost) (hn : n ≤ 999000) : Calls Tryz.prog 38 #[.pointer (some ⟨jb, 0, none⟩)] w (Synced w0 w s M jb most bad (L.map SRep.f) (n + 19) base k size rest lost (syncP bad (L.map SRep.f) base)) := by
  have H := Lib.hid h
  obtain ⟨x, hx⟩ : ∃ x, x = syncP bad (L.map SRep.f) base := ⟨_, rfl⟩
  rw [← hx]
  have hS := fun W (kk : Keeps (fun _ => False) w W) => ssync (h.sto.same kk) (by omega) base
  rw [← hx] at hS
  have HS := Lib.hid hS
  have HM := Lib.hid (jmade h)
  obtain ⟨⟨c0, c1, c2, c3, c4, c5⟩, f4, f5⟩ := h.blk.all6
  clear h hx hS c2 c3 c5 f5
  cases rest with
  | true =>
    go_enter Tryz.func38, Tryz.ntmps38
    go_wp2_with fail
    refine HM.out.mono ?_
    rintro e w2 ⟨rfl, hw⟩
    obtain rfl : w = w2 := hw.symm
    go_wp2_with fail
    go_ret
    exact .inr (.inr ⟨L, rfl, rfl, H.out.le_n (m := n + 19) (by omega) (by omega), rfl, Keeps.refl _ _⟩)
  | false =>
    go_enter Tryz.func38, Tryz.ntmps38
    go_wp2_with fail
    refine HM.out.mono ?_
    rintro e w2 ⟨rfl, hw⟩
    obtain rfl : w = w2 := hw.symm
    go_wp2_with fail
    go_region_held3 (fun w2 => w2.cell? ⟨jb, 0, none⟩ = some (.pointer (some ⟨s, 0, none⟩)) ∧ w2.cell? ⟨jb, 1, none⟩ = some (.string base))
      ((first | exact ⟨c0, c1⟩ | exact ⟨d0, d1⟩))
      ((go_at_call 32; refine (HS.out _ (by (repeat (first | (with_reducible assumption) | (with_reducible exact Keeps.refl _ _) | refine Keeps.drew ?_ | refine Keeps.drewN ?_ _ | refine Keeps.setCell ?_ (by simp) _ | refine Keeps.setRow ?_ (by simp) _ | refine Keeps.alloc ?_ _)))).mono ?_; rintro e w3 ⟨v, L3, rfl, hE, hS3, hl3, k3⟩; have k3 := k3.from_drew; have HJ3 := Lib.hid (H.out.move hS3 k3); have HE3 := Lib.hid hE; have HL3 := Lib.hid hl3; have HK3 := Lib.hid k3; obtain ⟨⟨d0, d1, -, -, d4, -⟩, g4, -⟩ := HJ3.out.blk.all6; clear hS3 hl3 k3))
    have HKK := Lib.hid (show Keeps (fun i => w0.heap.size ≤ i ∧ StR w i) w w3 from HK3.out)
    clear HK3 c0 c1
    by_cases hx0 : x.1 = 0
    · rw [hx0] at hE
      obtain rfl := hE.nil_
      have HX0 := Lib.hid hx0
      clear hE hx0
      go_wp2_with fail
      go_ret
      exact .inl ⟨L3, rfl, rfl, .inl HX0.out, (HJ3.out.le_n (m := n + 19) (by omega) (by omega)).put_ ((Keeps.refl _ _).set1 jb 4 _) (HJ3.out.blk.set_ 4 (.bool false)) H.out.ll, HL3.out, HKK.out.st.thenB H.out.blk H.out.lo ((Keeps.refl _ _).set1 jb 4 _)⟩
    · obtain ⟨ty, x', rfl⟩ := hE.iface hx0
      have HX0 := Lib.hid hx0
      clear hE
      have HNN := Lib.hid (jnone_any _ HE3.out HX0.out)
      go_wp2_with fail
      refine HNN.out.mono ?_
      rintro e w4 ⟨rfl, hw⟩
      obtain rfl : w3 = w4 := hw.symm
      by_cases h7 : x.1 = 7
      · have HX7 := Lib.hid h7
        rw [decide_eq_true h7]
        clear h7 hx0
        go_wp2_with fail
        go_ret
        exact .inl ⟨L3, rfl, rfl, .inr HX7.out, (HJ3.out.le_n (m := n + 19) (by omega) (by omega)).put_ ((Keeps.refl _ _).set1 jb 4 _) (HJ3.out.blk.set_ 4 (.bool false)) H.out.ll, HL3.out, HKK.out.st.thenB H.out.blk H.out.lo ((Keeps.refl _ _).set1 jb 4 _)⟩
      · have HX7 := Lib.hid h7
        rw [decide_eq_false h7]
        clear h7 hx0
        go_wp2_with fail
        go_ret
        exact .inr (.inl ⟨L3, rfl, rfl, fun hh => hh.elim HX0.out HX7.out, (HJ3.out.le_n (m := n + 19) (by omega) (by omega)).put_ ((Keeps.refl _ _).set1 jb 4 _) (HJ3.out.blk.set_ 4 (.bool true)) H.out.ll, HL3.out, HKK.out.st.thenB H.out.blk H.out.lo ((Keeps.refl _ _).set1 jb 4 _)⟩)
end
end Go.Proofs.YtdbnalocmjkncaaGreatDoor
