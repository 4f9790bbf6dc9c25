/-
  Lower texts of this claim, joined.
-/
import Derived.Test.YtfpajgmdejlaeaaGreatDoorQGround2
import Derived.Recover
import Derived.Defers
import Derived.Stop.Asserts
import Derived.Test.YtfpajgmdejlaeaaGreatDoorQGround1
import Derived.ScopeJumps
import Derived.WalkMore
/-
  tree.Read.
-/
namespace Go.Proofs.YtfpajgmdejlaeaaGreatDoor
open Go.RowKit

theorem isErr (v : Value) (xT : TypeId) (w : World) : (Instr.typeAssert (.iface tPFault v) xT 31 true).run Tryz.prog w = .ok (.tuple #[.iface tPFault v, .bool true]) w := run_typeAssert_hasB Tryz.underlying31 (by kernel_rfl) v xT w
set_option maxRecDepth 100000 in
theorem tcatch_pan (W : World) (a b : Nat) (va vb : Value) (p : Value) (older : List PanicEntry) (ha : Blk W a 50 #[va]) (hb : Blk W b 31 #[vb]) (hne : a ≠ b) :
    CallsD Tryz.prog 46 #[.pointer (some ⟨a, 0, none⟩), .pointer (some ⟨b, 0, none⟩)] (.panicking ({ v := .iface tPFault p, recovered := false } :: older)) W fun e u' w' =>
      e = .returned (.tuple #[]) ∧ u' = .panicking ({ v := .iface tPFault p, recovered := true } :: older) ∧ Blk w' a 50 #[.slice none 0 0] ∧ Blk w' b 31 #[.iface tPFault p] ∧ Keeps (fun i => i = a ∨ i = b) W w' := by
  refine callsD_of_wpS Tryz.func46 rfl fun c₀ cs hu => ?_
  apply wpS_seq
  apply wpS_region
  simp [wpOpsS, go_sem, recoverD, hu, Tryz.ntmps46, Exit.thenS]
  refine wpS_of_wp ?_
  have a0 := ha.cell 0
  have b0 := hb.cell 0
  have fa := ha.frozen 0
  have fb := hb.frozen 0
  simp only [List.getElem?_toArray, List.getElem?_cons_zero] at a0 b0
  rw [show (#[Value.pointer (some ⟨a, 0, none⟩), .pointer (some ⟨b, 0, none⟩)] ++ (Array.replicate 8 undef).setIfInBounds 2 (.iface tPFault p)) = #[.pointer (some ⟨a, 0, none⟩), .pointer (some ⟨b, 0, none⟩), undef, undef, .iface tPFault p, undef, undef, undef, undef, undef] from rfl]
  have HA := Lib.hid ha
  have HB := Lib.hid hb
  have hne2 : ¬ a = b := hne
  have hta := isErr
  clear ha hb hu
  go_wp2_with fail
  refine ⟨rfl, _, rfl, _, results_none rfl _ _ _, rfl, rfl, ?_, ?_, ?_⟩
  · exact (HA.out.set_ 0 _).far (p := ⟨b, 0, none⟩) hne _
  · exact (HB.out.far (p := ⟨a, 0, none⟩) (Ne.symm hne) _).set_ 0 _
  · exact ((Keeps.refl _ _).setCell (p := ⟨a, 0, none⟩) (fun _ => .inl rfl) _).setCell (p := ⟨b, 0, none⟩) (fun _ => .inr rfl) _
theorem tcatch_idle (W : World) (a b : Nat) :
    CallsD Tryz.prog 46 #[.pointer (some ⟨a, 0, none⟩), .pointer (some ⟨b, 0, none⟩)] .returning W fun e u' w' => e = .returned (.tuple #[]) ∧ u' = .returning ∧ w' = W := by
  refine callsD_of_wpS Tryz.func46 rfl fun c₀ cs hu => ?_
  apply wpS_seq
  apply wpS_region
  simp [wpOpsS, go_sem, recoverD, hu, Tryz.ntmps46, Exit.thenS]
  refine wpS_of_wp ?_
  rw [show (#[Value.pointer (some ⟨a, 0, none⟩), .pointer (some ⟨b, 0, none⟩)] ++ (Array.replicate 8 undef).setIfInBounds 2 .nilIface) = #[.pointer (some ⟨a, 0, none⟩), .pointer (some ⟨b, 0, none⟩), undef, undef, .nilIface, undef, undef, undef, undef, undef] from rfl]
  have HU := Lib.hid hu
  clear hu
  go_wp2_with fail
  refine ⟨rfl, .returning, ?_, _, results_none rfl _ _ _, rfl, rfl, rfl⟩
  have := HU.out
  cases c₀
  simp_all

theorem readP_many : ∀ (f : Nat) (ln : Int) (l : List UInt8) (out xs : List Pc), out.length ≤ 8192 → readP f ln l out = .inr xs → xs.length ≤ 8192
  | 0, ln, l, out, xs, h, he => by rw [readP] at he; injection he with he; subst he; exact h
  | f + 1, ln, l, out, xs, h, he => by
    rw [readP] at he
    obtain ⟨q, hq⟩ : ∃ q, q = skipP false ln l := ⟨_, rfl⟩
    rw [← hq] at he
    obtain ⟨q1, q2⟩ := q
    simp only at he
    by_cases h1 : q2 = []
    · rw [if_pos h1] at he; injection he with he; subst he; exact h
    · rw [if_neg h1] at he
      by_cases h2 : out.length = 8192
      · rw [if_pos h2] at he; cases he
      · rw [if_neg h2] at he
        cases hh : oneP q2 with
        | none => rw [hh] at he; cases he
        | some p =>
          obtain ⟨k, t, r⟩ := p
          rw [hh] at he
          exact readP_many f q1 r _ xs (by rw [List.length_append]; simp only [List.length_cons, List.length_nil]; omega) he
theorem lexP_many {s : List UInt8} {xs : List Pc} (h : lexP s = .inr xs) : xs.length ≤ 8192 := by
  unfold lexP at h
  split at h
  · cases h
  · exact readP_many _ _ _ _ _ (by simp) h
/-- a parser to begin with -/
theorem IsP.begin_ {w : World} {B : Nat} {e : TypeId} {v : Value} {l : List Pc} (h : OwnS pcR 3 w B e v l) (hl : l.length ≤ 8192) : IsP (w.alloc (.cells #[v, .int .i64 0] 104)) w.heap.size (w.heap.size + 1) l 0 := by
  obtain ⟨a, c, rfl, h1, h2, h3, h4⟩ := h.shape pcR_len
  refine ⟨⟨a, c, Blk.new _ _ _, ⟨rfl, fun hn => ?_⟩, fun hn => ?_⟩, by omega, by simp, by omega, by omega⟩
  · obtain ⟨g, ha, hg, hlt, cs, hb⟩ := h3 hn
    refine ⟨g, 0, ha, by simp; omega, fun i x j v hx hv => ?_⟩
    have hk : Keeps (fun _ => False) w (w.alloc (.cells #[.slice a l.length c, .int .i64 0] 104)) := (Keeps.refl _ _).alloc _
    rw [World.cell?_of_block (w := w) (hk.block g hlt id)]
    have := (h4 g ha i x j v hx hv).1
    rw [Nat.zero_add]
    exact this
  · obtain ⟨g, ha, hg, hlt, -⟩ := h3 hn
    exact ⟨g, 0, ha, by omega, by omega⟩
/-- both results lie in memory, and nothing is deferred any more -/
theorem tread_ret {W : World} {a b : Nat} {u v : Value} {tmps : Array Value} {R : Ending → World → Prop} (ht2 : tmps[2]?.getD undef = .pointer (some ⟨a, 0, none⟩)) (ht3 : tmps[3]?.getD undef = .pointer (some ⟨b, 0, none⟩)) (ha : Blk W a 50 #[u]) (hb : Blk W b 31 #[v]) (hR : R (.returned (.tuple #[u, v])) W) :
    Leaves Tryz.prog Tryz.f19 tmps R [] .returning W := by
  have y2 := ha.cell 0
  have y3 := hb.cell 0
  simp only [List.getElem?_toArray, List.getElem?_cons_zero] at y2 y3
  refine ⟨.tuple #[u, v], ?_, hR⟩
  simp [results, Tryz.results19, go_sem, ht2, ht3, y2, y3]
/-- what Read hands back -/
def TreePost (O : (Int × Int) ⊕ List Nd) (w : World) (e : Ending) (w' : World) : Prop :=
  (∀ xs, O = .inr xs → ∃ v, e = .returned (.tuple #[v, .nilIface]) ∧ NdsBack w.heap.size v xs w') ∧
  (∀ c n, O = .inl (c, n) → ∃ v s, e = .returned (.tuple #[.slice none 0 0, v]) ∧ Chain w' [(n, s)] c v) ∧ Keeps (fun _ => False) w w'
set_option maxRecDepth 100000 in
theorem tread_any (w : World) (s : ByteArray) (hs : s.size ≤ 1073741820) : Calls Tryz.prog 19 #[.string s] w fun e w' => TreePost (treeP s.data.toList) w e w' := by
  have hmf : ∀ (fn : Fn) (first cap : Array Value) (w : World), (Instr.makeFunc fn first cap).run Tryz.prog w = .ok (.func fn first cap) w := fun _ _ _ _ => rfl
  obtain ⟨O, hO⟩ : ∃ O, O = lexP s.data.toList := ⟨_, rfl⟩
  obtain ⟨wa, hwa⟩ : ∃ wa, wa = (w.alloc (.cells #[.slice none 0 0] 50)).alloc (.cells #[.nilIface] 31) := ⟨_, rfl⟩
  have HWA := Lib.hid hwa
  have HL := Lib.hid (lread_any wa s hs)
  rw [← hO] at HL
  have hka : Keeps (fun _ => False) w wa := by rw [hwa]; exact ((Keeps.refl _ _).alloc _).alloc _
  have HKA := Lib.hid hka
  have h2 : Blk wa w.heap.size 50 #[.slice none 0 0] := by rw [hwa]; exact (Blk.new _ _ _).alloc _
  have h3 : Blk wa (w.heap.size + 1) 31 #[.nilIface] := by rw [hwa]; exact Blk.new2 _ _ _ _
  have HB2 := Lib.hid h2
  have HB3 := Lib.hid h3
  have hsz := hka.size
  have h3l := h3.lt
  have HO := Lib.hid hO
  clear hwa hka h2 h3 hO
  go_enter_defers Tryz.func19, Tryz.ntmps19
  go_wp2_with fail
  rw [← HWA.out]
  refine HL.out.mono ?_
  rintro e w2 ⟨hok, hbad, k2⟩
  have b2 := HB2.out.keeps k2 id
  have b3 := HB3.out.keeps k2 id
  have HB2b := Lib.hid b2
  have HB3b := Lib.hid b3
  have HK2 := Lib.hid (HKA.out.trans k2)
  have a2 := b2.cell 0
  have a3 := b3.cell 0
  have f2 := b2.frozen 0
  have f3 := b3.frozen 0
  simp only [List.getElem?_toArray, List.getElem?_cons_zero] at a2 a3
  have hs2 := k2.size
  clear HL b2 b3
  cases O with
  | inl ee =>
    obtain ⟨c, n⟩ := ee
    obtain ⟨v, rfl, hc⟩ := hbad _ _ rfl
    obtain ⟨ty, x, rfl⟩ := hc.form
    have HEND := Lib.hid (show treeP s.data.toList = .inl (c, n) by unfold treeP; rw [← HO.out])
    have ks := Keeps.set1 w2 (w.heap.size + 1) 0 (.iface ty x)
    have HC := Lib.hid (hc.keeps ks (fun i cs hb e => Blk.ne_ hb HB3b.out (by decide) e))
    have d2 := HB2b.out.keeps ks (by omega)
    have d3 : Blk _ (w.heap.size + 1) 31 #[.iface ty x] := HB3b.out.set_ 0 (.iface ty x)
    have HKS := Lib.hid (HK2.out.and_ ks (fun i hi e => by omega))
    clear hok hbad k2 hc
    go_upto_region 3 with (fail)
    obtain ⟨w3, hw3⟩ : ∃ w3, w3 = w2.setCell ⟨w.heap.size + 1, 0, none⟩ (.iface ty x) := ⟨_, rfl⟩
    rw [← hw3] at d2 d3 HC HKS ⊢
    have a2 := d2.cell 0
    have a3 := d3.cell 0
    have f2 := d2.frozen 0
    have f3 := d3.frozen 0
    simp only [List.getElem?_toArray, List.getElem?_cons_zero] at a2 a3
    have HD2 := Lib.hid d2
    have HD3 := Lib.hid d3
    clear hw3 d2 d3 ks
    go_region
    all_goals
      go_wp2_with fail
      refine tread_ret (a := w.heap.size) (b := w.heap.size + 1) (u := .slice none 0 0) (v := .iface ty x) rfl rfl (((HD2.out.set_ 0 _).far (p := ⟨w.heap.size + 1, 0, none⟩) (by simp) _).drew) (((HD3.out.far (p := ⟨w.heap.size, 0, none⟩) (by simp) _).set_ 0 _).drew) ?_
      have kf := (((Keeps.refl (fun i => i = w.heap.size ∨ i = w.heap.size + 1) w3).setCell (p := ⟨w.heap.size, 0, none⟩) (fun _ => .inl rfl) (.slice none 0 0)).setCell (p := ⟨w.heap.size + 1, 0, none⟩) (fun _ => .inr rfl) (.iface ty x)).drew
      refine ⟨fun xs he => ?_, fun c' n' he => ?_, HKS.out.and_ kf (fun i hi e => by omega)⟩
      · rw [HEND.out] at he; cases he
      · rw [HEND.out] at he; injection he with he; injection he with e1 e2; subst e1 e2
        exact ⟨_, _, rfl, HC.out.keeps kf (fun i cs hb e => by
          rcases e with e | e
          · exact Blk.ne_ hb HD2.out (by decide) e
          · exact Blk.ne_ hb HD3.out (by decide) e)⟩
  | inr l =>
    obtain ⟨v, rfl, hown⟩ := hok _ rfl
    have hlm := lexP_many HO.out.symm
    have ks := Keeps.set1 w2 (w.heap.size + 1) 0 .nilIface
    have d2 := HB2b.out.keeps ks (by omega)
    have d3 : Blk _ (w.heap.size + 1) 31 #[.nilIface] := HB3b.out.set_ 0 .nilIface
    have HKS := Lib.hid (HK2.out.and_ ks (fun i hi e => by omega))
    have hown2 : OwnS pcR 3 _ (w.heap.size + 2) 192 v l := OwnS.keeps (OwnS.moreS hown (by omega)) ks (fun i hi _ _ e => by omega)
    obtain ⟨a, c, rfl⟩ := OwnS.sl hown2
    have HP := Lib.hid (IsP.begin_ hown2 hlm)
    have hs3 : (w2.setCell ⟨w.heap.size + 1, 0, none⟩ .nilIface).heap.size = w2.heap.size := by simp
    rw [hs3] at HP
    have kal : Keeps (fun _ => False) (w2.setCell ⟨w.heap.size + 1, 0, none⟩ .nilIface) ((w2.setCell ⟨w.heap.size + 1, 0, none⟩ .nilIface).alloc (.cells #[.slice a l.length c, .int .i64 0] 104)) := (Keeps.refl _ _).alloc _
    have HD2 := Lib.hid (d2.keeps kal id)
    have HD3 := Lib.hid (d3.keeps kal id)
    have HKS2 := Lib.hid (HKS.out.trans kal)
    have HLI := Lib.hid (plist_any l.length 0 _ 0 (by omega) (by omega) HP.out)
    have HEND := Lib.hid (show treeP s.data.toList = match restP l 0 [] 0 with | .inl e => .inl e | .inr (out, _) => .inr out by unfold treeP restP; rw [← HO.out]; rfl)
    clear hok hbad k2 hown hown2 ks kal d2 d3
    go_wp2_with fail
    refine HLI.out.mono ?_
    rintro e w5 ⟨hok, hbad, k5⟩
    have HD2b := Lib.hid (HD2.out.keeps k5 (by omega))
    have HD3b := Lib.hid (HD3.out.keeps k5 (by omega))
    have HK5 := Lib.hid (HKS2.out.and_ k5 (fun i hi e => by omega))
    cases hres : restP l 0 [] 0 with
    | inl ee =>
      obtain ⟨cc, n⟩ := ee
      obtain ⟨v5, rfl, hch⟩ := hbad _ _ hres
      have hend := HEND.out
      rw [hres] at hend
      simp only at hend
      obtain ⟨p5, rfl⟩ : ∃ p5, v5 = .iface tPFault p5 := by cases hch; exact ⟨_, rfl⟩
      refine leaves_cons (f := 46) (args := #[.pointer (some ⟨w.heap.size, 0, none⟩), .pointer (some ⟨w.heap.size + 1, 0, none⟩)]) (by simp) (by simp [go_sem]) ?_
      refine (tcatch_pan w5 w.heap.size (w.heap.size + 1) _ _ p5 [] HD2b.out HD3b.out (by simp)).mono ?_
      rintro e u' w7 ⟨rfl, rfl, h2, h3, k7⟩
      show Leaves _ _ _ _ [] (settle _) w7
      simp only [settle, List.dropWhile_nil]
      refine tread_ret rfl rfl h2 h3 ⟨fun xs he => ?_, fun c' n' he => ?_, HK5.out.and_ k7 (fun i hi e => by omega)⟩
      · rw [hend] at he; cases he
      · rw [hend] at he; injection he with he; injection he with e1 e2; subst e1 e2
        exact ⟨_, _, rfl, hch.keeps k7 (fun i cs hb e => by
          rcases e with e | e
          · exact Blk.ne_ hb HD2b.out (by decide) e
          · exact Blk.ne_ hb HD3b.out (by decide) e)⟩
    | inr p =>
      obtain ⟨xs, t5⟩ := p
      obtain ⟨v5, j5, rfl, hb5, -, -⟩ := hok _ _ hres
      obtain ⟨a5, c5, rfl⟩ := hb5.sl
      have hend := HEND.out
      rw [hres] at hend
      simp only at hend
      have y2 := HD2b.out.cell 0
      have y3 := HD3b.out.cell 0
      have f2 := HD2b.out.frozen 0
      have f3 := HD3b.out.frozen 0
      simp only [List.getElem?_toArray, List.getElem?_cons_zero] at y2 y3
      have HX5 := Lib.hid hb5
      have HE5 := Lib.hid hend
      clear hok hbad hb5 hend hres
      go_wp2_with fail
      have kf := ((Keeps.refl (fun i => i = w.heap.size ∨ i = w.heap.size + 1) w5).setCell (p := ⟨w.heap.size, 0, none⟩) (fun _ => .inl rfl) (.slice a5 xs.length c5)).setCell (p := ⟨w.heap.size + 1, 0, none⟩) (fun _ => .inr rfl) .nilIface
      have e2 := (HD2b.out.set_ 0 (.slice a5 xs.length c5)).far (p := ⟨w.heap.size + 1, 0, none⟩) (by simp) .nilIface
      have e3 := (HD3b.out.far (p := ⟨w.heap.size, 0, none⟩) (by simp) (.slice a5 xs.length c5)).set_ 0 .nilIface
      have E2 := Lib.hid e2
      have E3 := Lib.hid e3
      have KF := Lib.hid kf
      clear e2 e3 kf
      refine leaves_cons (f := 46) (args := #[.pointer (some ⟨w.heap.size, 0, none⟩), .pointer (some ⟨w.heap.size + 1, 0, none⟩)]) (by simp) (by simp [go_sem]) ?_
      refine (tcatch_idle _ w.heap.size (w.heap.size + 1)).mono ?_
      rintro e u' w7 ⟨rfl, rfl, rfl⟩
      show Leaves _ _ _ _ [] (settle _) _
      simp only [settle]
      refine tread_ret rfl rfl E2.out E3.out ⟨fun xs' he => ?_, fun c' n' he => ?_, HK5.out.and_ KF.out (fun i hi e => by omega)⟩
      · rw [HE5.out] at he; injection he with he; subst he
        exact ⟨_, rfl, (HX5.out.keeps KF.out (fun i hi e => by have := HP.out.up; omega)).more (by have := HP.out.up; omega)⟩
      · rw [HE5.out] at he; cases he
end Go.Proofs.YtfpajgmdejlaeaaGreatDoor

/-
  tree.Count; tree.Same of the same statements.
-/
namespace Go.Proofs.YtfpajgmdejlaeaaGreatDoor
open Go.RowKit

mutual
def countN : Nd → Nat | .mk _ _ _ l _ => 1 + countL l
def countL : List Nd → Nat | [] => 0 | x :: xs => countN x + countL xs
end
def subsN : Nd → List Nd | .mk _ _ _ l _ => l
/-- a statement of a row: its cells, and what they mean -/
theorem nds_at {w : World} {S : Nat → Prop} {a : Option Addr} {n c : Nat} {xs : List Nd} (h : NdsAt w S (.slice a n c) xs) {i : Nat} {x : Nd} (hx : xs[i]? = some x) :
    ∃ b off r, a = some ⟨b, off, none⟩ ∧ b < w.heap.size ∧ S b ∧ n = xs.length ∧ i < xs.length ∧ xs.length ≤ maxLen ∧ NdM w S x r ∧ ∀ W, Keeps (fun j => j ≠ b) w W →
      W.cell? ⟨b, off + i * 5, none⟩ = some (.string r.key) ∧ W.cell? ⟨b, off + i * 5 + 1, none⟩ = some (.slice r.aa r.an r.ac) ∧ W.cell? ⟨b, off + i * 5 + 2, none⟩ = some (.bool r.block) ∧ W.cell? ⟨b, off + i * 5 + 3, none⟩ = some (.slice r.la r.ln r.lc) ∧ W.cell? ⟨b, off + i * 5 + 4, none⟩ = some (.int .i64 r.line) := by
  obtain ⟨a2, c2, rs, hv, h1, h2, h3, h4, h5⟩ := h
  injection hv with e1 e2 e3
  subst e1 e3 e2
  have hi : i < xs.length := (List.getElem?_eq_some_iff.1 hx).1
  obtain ⟨b, off, ha, hb, hc⟩ := h1.2 (by omega)
  obtain ⟨b', off', ha', hS⟩ := h2 (by omega)
  obtain rfl : b = b' := by rw [ha] at ha'; injection ha' with e; injection e
  obtain ⟨r, hr, hm⟩ := NdAll.get xs rs h5 i x hx
  refine ⟨b, off, r, ha, hb, hS, rfl, hi, by omega, hm, fun W k => ?_⟩
  have hh : ∀ j v, (ndR r)[j]? = some v → W.cell? ⟨b, off + i * 5 + j, none⟩ = some v := fun j v hj => (World.cell?_of_block (w := w) (k.block b hb (by simp))).trans (hc i r j v hr hj)
  exact ⟨hh 0 _ rfl, hh 1 _ rfl, hh 2 _ rfl, hh 3 _ rfl, hh 4 _ rfl⟩
theorem NdM.subs {w : World} {S : Nat → Prop} {x : Nd} {r : NdV} (h : NdM w S x r) : NdsAt w S (.slice r.la r.ln r.lc) (subsN x) := by
  obtain ⟨k, as_, b, l, li⟩ := x
  rw [NdM] at h
  obtain ⟨-, -, -, -, rs, h1, h2, h3, h4, h5⟩ := h
  have hl := NdAll.len _ _ h5
  have : r.ln = l.length := by rw [hl, h1.1]
  rw [this] at h1 h2 h3 ⊢
  exact ⟨r.la, r.lc, rs, rfl, h1, h2, h3, h4, h5⟩
theorem countL_len : ∀ xs : List Nd, xs.length ≤ countL xs
  | [] => Nat.zero_le _
  | .mk _ _ _ l _ :: xs => by rw [countL, countN, List.length_cons]; have := countL_len xs; omega
theorem countL_drop : ∀ (xs : List Nd) (i : Nat) (x : Nd), xs[i]? = some x → countL (xs.drop i) = 1 + countL (subsN x) + countL (xs.drop (i + 1))
  | [], i, x, h => by simp at h
  | y :: xs, 0, x, h => by
    simp at h; subst h
    obtain ⟨k, as_, b, l, li⟩ := y
    rw [List.drop_zero, countL, countN]
    rfl
  | y :: xs, i + 1, x, h => by
    simp at h
    rw [List.drop_succ_cons, List.drop_succ_cons]
    exact countL_drop xs i x h
theorem countL_sub : ∀ (xs : List Nd) (i : Nat) (x : Nd), xs[i]? = some x → countL (subsN x) < countL xs
  | [], i, x, h => by simp at h
  | y :: xs, 0, x, h => by
    simp at h; subst h
    obtain ⟨k, as_, b, l, li⟩ := y
    rw [countL, countN]
    show countL l < _
    omega
  | y :: xs, i + 1, x, h => by
    simp at h
    have := countL_sub xs i x h
    rw [countL]; omega
theorem Nds.fit {w w' : World} {S : Nat → Prop} {v : Value} {xs : List Nd} (h : NdsAt w S v xs) (k : Keeps (fun _ => False) w w') : NdsAt w' S v xs := h.keeps k (fun _ _ _ => id)

/-- slices.Equal at texts -/
theorem seq_any (w : World) (a a2 : Option Addr) (n c n2 c2 : Nat) (l : List ByteArray) (h1 : SlAt strR 1 w a n l) (h2 : SlAt strR 1 w a2 n2 l) (hn : n ≤ maxLen) :
    Calls Tryz.prog 33 #[.slice a n c, .slice a2 n2 c2] w fun e w' => e = .returned (.bool true) ∧ Keeps (fun _ => False) w w' := by
  obtain rfl : n = n2 := by rw [← h1.1, h2.1]
  have hl := h1.1
  have hn2 : n ≤ 9223372036854775807 := by unfold maxLen at hn; omega
  have H1 := Lib.hid h1
  have H2 := Lib.hid h2
  clear h1 h2
  go_enter Tryz.func33, Tryz.ntmps33
  go_wp2_with fail
  go_loopw [13] (fun u wr => ∃ i : Nat, i ≤ n ∧ u = .int .i64 i ∧ Keeps (fun _ => False) w wr) (fun u _ => n - (intOf u).toNat)
  case atStart => exact ⟨0, Nat.zero_le _, rfl, Keeps.refl _ _⟩
  case round =>
    obtain ⟨i, hi, rfl, hK⟩ := hrel
    have HK := Lib.hid hK
    clear hK
    by_cases hlt : i < n
    · obtain ⟨x, hx⟩ : ∃ x, l[i]? = some x := ⟨_, List.getElem?_eq_getElem (by omega)⟩
      obtain ⟨b, off, rfl, hb, hc⟩ := H1.out.2 (by omega)
      obtain ⟨b2, off2, rfl, hb2, hc2⟩ := H2.out.2 (by omega)
      have y0 := (World.cell?_of_block (w := w) (HK.out.block b hb id)).trans (SlAt.str hc i x hx)
      have y1 := (World.cell?_of_block (w := w) (HK.out.block b2 hb2 id)).trans (SlAt.str hc2 i x hx)
      clear hc hc2 hx
      go_wp2_with fail
      go_region
      all_goals
        go_wp2_with fail
        go_roundw
        case rel => exact ⟨i + 1, by omega, by go_num, HK.out.drew⟩
        case measure => simp [intOf] <;> omega
    · have hie : i = n := by omega
      subst hie
      go_wp2_with fail
      go_ret
      exact ⟨rfl, HK.out⟩
theorem sameL_get : ∀ (xs ys : List Nd), sameL xs ys → ∀ (i : Nat) (x y : Nd), xs[i]? = some x → ys[i]? = some y → sameN x y
  | [], _, _, i, x, y, h, _ => by simp at h
  | a :: xs, [], h, _, _, _, _, _ => by rw [sameL] at h; exact h.elim; simp; simp
  | a :: xs, b :: ys, h, 0, x, y, hx, hy => by
    rw [sameL] at h
    simp at hx hy
    subst hx hy
    exact h.1
  | a :: xs, b :: ys, h, i + 1, x, y, hx, hy => by
    rw [sameL] at h
    simp at hx hy
    exact sameL_get xs ys h.2 i x y hx hy
theorem NdM.parts {w : World} {S : Nat → Prop} {x : Nd} {r : NdV} (h : NdM w S x r) : ∃ as_, SlAt strR 1 w r.aa r.an as_ ∧ r.an ≤ maxLen ∧ x = .mk r.key as_ r.block (subsN x) r.line := by
  obtain ⟨k, as_, b, l, li⟩ := x
  rw [NdM] at h
  obtain ⟨h1, h2, h3, ⟨h4, h5, h6, h7⟩, -⟩ := h
  subst h1 h2 h3
  exact ⟨as_, h4, by omega, rfl⟩

end Go.Proofs.YtfpajgmdejlaeaaGreatDoor

/-
  digit.Read: the number that a text tells in decimal.
-/
namespace Go.Proofs.YtfpajgmdejlaeaaGreatDoor
open Go.RowKit

def digB (c : UInt8) : Bool := decide (48 ≤ c.toNat) && decide (c.toNat ≤ 57)
theorem digB_iff {c : UInt8} : digB c = true ↔ 48 ≤ c.toNat ∧ c.toNat ≤ 57 := by unfold digB; simp
theorem decN_all (n : Nat) : (decN n).all digB = true := List.all_eq_true.2 fun c hc => digB_iff.2 (decN_dig n c hc)
theorem decN_head : ∀ (n : Nat), 1 ≤ n → (decN n)[0]? ≠ some 48 := by
  intro n
  induction n using Nat.strongRecOn with
  | ind n ih =>
    intro hn
    by_cases h : n < 10
    · rw [decN_small h]
      simp only [List.getElem?_cons_zero, ne_eq, Option.some.injEq]
      intro e
      have := congrArg UInt8.toNat e
      rw [digc_nat h] at this
      have h48 : (48 : UInt8).toNat = 48 := rfl
      omega
    · rw [decN_big (by omega), List.getElem?_append_left (decN_pos _)]
      exact ih (n / 10) (by omega) (by omega)
theorem valI_all : ∀ (k : Nat) (l : List UInt8), l.length = k → l.all digB = true → 0 ≤ valI l
  | 0, l, h, _ => by obtain rfl := List.eq_nil_of_length_eq_zero h; exact Int.le_refl _
  | k + 1, l, h, ha => by
    obtain ⟨m, c, rfl⟩ : ∃ m c, l = m ++ [c] := ⟨l.dropLast, l.getLast (by intro e; rw [e] at h; cases h), (List.dropLast_concat_getLast _).symm⟩
    rw [List.all_append, Bool.and_eq_true] at ha
    have ih := valI_all k m (by simpa using h) ha.1
    have hc := digB_iff.1 (by simpa using ha.2)
    rw [valI_snoc]
    omega
/-- digits, without a nought ahead, are those of the number that they tell -/
theorem dec_val : ∀ (k : Nat) (l : List UInt8), l.length = k + 1 → l.all digB = true → (k = 0 ∨ l[0]? ≠ some 48) → decN (valI l).toNat = l ∧ (l[0]? ≠ some 48 → 1 ≤ valI l)
  | 0, l, h, ha, _ => by
    obtain ⟨c, rfl⟩ := List.length_eq_one_iff.1 h
    have hc := digB_iff.1 (by simpa using ha)
    have e : valI [c] = (c.toNat : Int) - 48 := by simp [valI]
    have hn : (valI [c]).toNat < 10 := by rw [e]; omega
    refine ⟨?_, fun h48 => ?_⟩
    · rw [decN_small hn]
      congr 1
      apply UInt8.toNat_inj.1
      rw [digc_nat hn, e]
      omega
    · rw [e]
      have : c.toNat ≠ 48 := fun e2 => h48 (by simp; exact UInt8.toNat_inj.1 e2)
      omega
  | k + 1, l, h, ha, h0 => by
    obtain ⟨m, c, rfl⟩ : ∃ m c, l = m ++ [c] := ⟨l.dropLast, l.getLast (by intro e; rw [e] at h; cases h), (List.dropLast_concat_getLast _).symm⟩
    have hm : m.length = k + 1 := by simpa using h
    have h48 : m[0]? ≠ some 48 := by
      rcases h0 with h0 | h0
      · omega
      · rwa [List.getElem?_append_left (by omega)] at h0
    rw [List.all_append, Bool.and_eq_true] at ha
    have hc := digB_iff.1 (by simpa using ha.2)
    obtain ⟨i1, i2⟩ := dec_val k m hm ha.1 (.inr h48)
    have hv := i2 h48
    have e := valI_snoc m c
    have e10 : (valI (m ++ [c])).toNat = 10 * (valI m).toNat + (c.toNat - 48) := by rw [e]; omega
    refine ⟨?_, fun _ => by rw [e]; omega⟩
    rw [e10, decN_big (by omega), show (10 * (valI m).toNat + (c.toNat - 48)) / 10 = (valI m).toNat by omega, show (10 * (valI m).toNat + (c.toNat - 48)) % 10 = c.toNat - 48 by omega, i1]
    congr 2
    apply UInt8.toNat_inj.1
    rw [digc_nat (by omega)]
    omega
/-! what digit.Read tells, by its tests -/
theorem tickV_bad {l : List UInt8} (h : tickB l = false) : tickV l = .tuple #[.int .i64 0, .int .i64 3] := by unfold tickV; rw [if_neg (by rw [h]; simp)]
theorem tick_no {l : List UInt8} (h : ∀ v : Nat, v ≤ 1099511627776 → decN v ≠ l) : tickB l = false := by
  unfold tickB
  by_cases h0 : 0 ≤ valI (l.take 14)
  · by_cases h1 : valI (l.take 14) ≤ 1099511627776
    · have := h (valI (l.take 14)).toNat (by omega)
      rw [decide_eq_false (p := dec (valI (l.take 14)) = l) (by rw [dec_pos h0]; exact this)]
      simp
    · rw [decide_eq_false h1]; simp
  · rw [decide_eq_false h0]; simp
theorem decN_13 {v : Nat} (h : v ≤ 1099511627776) : (decN v).length ≤ 13 := decN_len v 12 (by have e : 10 ^ (12 + 1) = 10000000000000 := by decide
                                                                                              omega)
theorem tick_nil {l : List UInt8} (h : l.length = 0) : tickB l = false := tick_no fun v _ e => by have := decN_pos v; rw [e] at this; omega
theorem tick_long {l : List UInt8} (h : 13 < l.length) : tickB l = false := tick_no fun v hv e => by have := decN_13 hv; rw [e] at this; omega
theorem tick_nought {l : List UInt8} (h : l[0]? = some 48) (h1 : 1 < l.length) : tickB l = false := tick_no fun v hv e => by
  rcases Nat.eq_zero_or_pos v with h0 | h0
  · rw [h0, decN_small (by omega)] at e
    rw [← e] at h1
    simp at h1
  · exact decN_head v h0 (by rw [e]; exact h)
theorem tick_odd {l : List UInt8} {i : Nat} {c : UInt8} (h : l[i]? = some c) (hc : digB c = false) : tickB l = false := tick_no fun v hv e => by
  have := List.all_eq_true.1 (decN_all v) c (by rw [e]; exact List.mem_of_getElem? h)
  rw [hc] at this
  cases this
theorem tick_big {l : List UInt8} (hl : l.length ≤ 13) (h : 1099511627776 < valI l) : tickB l = false := by
  unfold tickB
  rw [List.take_of_length_le (by omega), decide_eq_false (p := valI l ≤ 1099511627776) (by omega)]
  simp
theorem tick_good {l : List UInt8} {k : Nat} (hk : l.length = k + 1) (hl : l.length ≤ 13) (ha : l.all digB = true) (h0 : k = 0 ∨ l[0]? ≠ some 48) (h : valI l ≤ 1099511627776) : tickV l = .tuple #[.int .i64 (valI l), .int .i64 0] := by
  have hp := valI_all l.length l rfl ha
  have hd := (dec_val k l hk ha h0).1
  have ht : tickB l = true := by
    unfold tickB
    rw [List.take_of_length_le (by omega), decide_eq_true hp, decide_eq_true h, decide_eq_true (by rw [dec_pos hp]; exact hd)]
    rfl
  unfold tickV
  rw [if_pos ht, List.take_of_length_le (by omega)]
def ReadJ (w : World) (s : ByteArray) (l : List UInt8) (a : Act) (w' : World) : Prop :=
  ∃ (i : Nat) (h : Int) (u1 u2 u3 u6 u7 u8 u9 u10 u11 u12 u13 u14 u15 u16 u17 u18 u19 u20 u21 u22 u23 u24 u25 u26 u27 u28 u29 u30 u31 u32 u33 u34 u35 u36 u37 u38 u39 u40 u41 u42 u43 u44 u45 u46 u47 u48 u49 : Value), a = ⟨#[.string s, u1, u2, u3, .int .i64 h, .int .i64 (i : Nat), u6, u7, u8, u9, u10, u11, u12, u13, u14, u15, u16, u17, u18, u19, u20, u21, u22, u23, u24, u25, u26, u27, u28, u29, u30, u31, u32, u33, u34, u35, u36, u37, u38, u39, u40, u41, u42, u43, u44, u45, u46, u47, u48, u49], []⟩ ∧ w = w' ∧ i < s.size ∧ 0 ≤ h ∧ h ≤ 2300000000000000 ∧ h = valI (l.take i) ∧ (l.take i).all digB = true
def ReadM (s : ByteArray) (a : Act) (_w : World) : Nat := s.size - (intOf (a.tmps.getD 5 undef)).toNat
set_option maxRecDepth 100000 in
set_option maxHeartbeats 2000000 in
theorem dread_any (w : World) (s : ByteArray) (hs : s.size ≤ 4611686018427387904) : Calls Tryz.prog 125 #[.string s] w fun e w' => e = .returned (tickV s.data.toList) ∧ w' = w := by
  have hlen : s.data.toList.length = s.size := by simp
  obtain ⟨l, hl⟩ : ∃ l, l = s.data.toList := ⟨_, rfl⟩
  rw [← hl] at hlen ⊢
  have hget : ∀ (k : Nat) c, l[k]? = some c → ∀ h, s[k]'h = c := by
    intro k c hc h
    rw [hl] at hc
    rw [← (List.getElem?_eq_some_iff.1 hc).2]; rfl
  obtain ⟨V, hV⟩ : ∃ V, V = tickV l := ⟨_, rfl⟩
  rw [← hV]
  have HV := Lib.hid hV
  have HL := Lib.hid hl
  have HN := Lib.hid hlen
  have HG := Lib.hid hget
  clear hV hl hlen hget
  have hbad : tickB l = false → V = .tuple #[.int .i64 0, .int .i64 3] := fun h => by rw [HV.out]; exact tickV_bad h
  have HB := Lib.hid hbad
  clear hbad
  by_cases h0 : s.size = 0
  · obtain rfl : s = ⟨#[]⟩ := by apply ba_ext; exact List.eq_nil_of_length_eq_zero (by simpa using h0)
    have HV2 := Lib.hid (HB.out (tick_nil (by rw [HN.out]; exact h0)))
    clear h0
    go_enter Tryz.func125, Tryz.ntmps125
    go_wp2_with fail
    (try go_step3)
    go_wp2_with fail
    (try rw [Exit.noGoto_ret])
    go_ret2
    exact ⟨by rw [HV2.out]; rfl, rfl⟩
  · have hsne : s.toList.isEmpty = false := by
      rw [ByteArray.toList_eq, ← HL.out]
      cases hq : l with
      | nil => rw [hq] at HN; exact absurd HN.out.symm h0
      | cons a t => rfl
    by_cases h13 : 13 < s.size
    · have HV2 := Lib.hid (HB.out (tick_long (by rw [HN.out]; exact h13)))
      have h13i : (13 : Int) < s.size := by omega
      clear h0 h13
      go_enter Tryz.func125, Tryz.ntmps125
      go_wp2_with fail
      (try go_step3)
      go_wp2_with fail
      (try rw [Exit.noGoto_ret])
      go_ret2
      exact ⟨by rw [HV2.out]; rfl, rfl⟩
    · have h13i : ¬ (13 : Int) < s.size := by omega
      obtain ⟨c, hc⟩ : ∃ c, l[0]? = some c := ⟨_, List.getElem?_eq_getElem (by rw [HN.out]; omega)⟩
      have hsc := HG.out 0 c hc
      have HC := Lib.hid hc
      clear hc
      by_cases hz : c = 48 ∧ 1 < s.size
      · obtain ⟨rfl, hz⟩ := hz
        have HV2 := Lib.hid (HB.out (tick_nought HC.out (by rw [HN.out]; exact hz)))
        have hzi : (1 : Int) < s.size := by omega
        clear h0 h13 hz
        go_enter Tryz.func125, Tryz.ntmps125
        go_wp2_with fail
        (try go_step3)
        go_wp2_with fail
        (try rw [Exit.noGoto_ret])
        go_ret2
        exact ⟨by rw [HV2.out]; rfl, rfl⟩
      · have hzz : ((c.toNat : Int) == 48) = false ∨ (c = 48 ∧ ¬ (1 : Int) < s.size) := by
          by_cases h48 : c = 48
          · exact .inr ⟨h48, by have : ¬ 1 < s.size := fun hh => hz ⟨h48, hh⟩; omega⟩
          · left; rw [beq_eq_false_iff_ne]; intro e; exact h48 (UInt8.toNat_inj.1 (by show c.toNat = 48; omega))
        have hk0 : s.size - 1 = 0 ∨ l[0]? ≠ some 48 := by
          by_cases h48 : c = 48
          · left; have : ¬ 1 < s.size := fun hh => hz ⟨h48, hh⟩; omega
          · right; rw [HC.out]; exact fun e => h48 (Option.some.inj e)
        have HK0 := Lib.hid hk0
        have h13n : s.size ≤ 13 := by omega
        have hs1 : 1 ≤ s.size := by omega
        clear h0 h13 hz hk0
        rcases hzz with hzz | ⟨rfl, hzz⟩
        all_goals
          go_enter Tryz.func125, Tryz.ntmps125
          go_wp2_with fail
          refine wp_scope_both 0 (ReadJ w s l) (ReadM s) rfl ?pass ?first
          case pass =>
            rintro a w1 ⟨i, h, u1, u2, u3, u6, u7, u8, u9, u10, u11, u12, u13, u14, u15, u16, u17, u18, u19, u20, u21, u22, u23, u24, u25, u26, u27, u28, u29, u30, u31, u32, u33, u34, u35, u36, u37, u38, u39, u40, u41, u42, u43, u44, u45, u46, u47, u48, u49, rfl, rfl, hi, hh0, hh1, hhv, hall⟩
            have HHV := Lib.hid hhv
            have HAL := Lib.hid hall
            obtain ⟨d, hd⟩ : ∃ d, l[i]? = some d := ⟨_, List.getElem?_eq_getElem (by rw [HN.out]; exact hi)⟩
            have hsd := HG.out i d hd
            have HD := Lib.hid hd
            have hdl := d.toNat_lt
            have hdl2 : (d.toNat : Int) ≤ 255 := by omega
            clear hhv hall hd hsc hdl
            by_cases hlo : (d.toNat : Int) < 48
            · have HV2 := Lib.hid (HB.out (tick_odd HD.out (by unfold digB; rw [decide_eq_false (by omega)]; rfl)))
              go_wp2_with fail
              simp only [Exit.jump]
              go_ret2
              exact ⟨by rw [HV2.out]; rfl, rfl⟩
            · by_cases hhi : (57 : Int) < d.toNat
              · have HV2 := Lib.hid (HB.out (tick_odd HD.out (by unfold digB; rw [decide_eq_false (p := d.toNat ≤ 57) (by omega)]; simp)))
                go_wp2_with fail
                simp only [Exit.jump]
                go_ret2
                exact ⟨by rw [HV2.out]; rfl, rfl⟩
              · have hst := valI_take HD.out
                rw [← HHV.out] at hst
                have hbb := valI_le (l := l.take (i + 1)) (by rw [List.length_take]; omega)
                rw [hst] at hbb
                have hal2 : (l.take (i + 1)).all digB = true := by
                  rw [List.take_add_one, HD.out, List.all_append, HAL.out]
                  simp only [Option.toList_some, List.all_cons, List.all_nil, Bool.and_true, Bool.true_and]
                  exact digB_iff.2 ⟨by omega, by omega⟩
                have hu8 : IntKind.u8.wrap ((d.toNat : Int) - 48) = (d.toNat : Int) - 48 := by
                  rw [IntKind.wrap_u8]; omega
                have HST := Lib.hid hst
                have HAL2 := Lib.hid hal2
                obtain ⟨hb1, hb2⟩ := hbb
                clear hst hal2
                by_cases hmore : i + 1 < s.size
                · have hmi : (i : Int) + 1 < s.size := by omega
                  go_wp2_with fail
                  go_step3
                  refine And.intro rfl (And.intro ⟨i + 1, 10 * h + ((d.toNat : Int) - 48), _, _, _, _, _, _, _, _, _, _, _, _, _, _, _, _, _, _, _, _, _, _, _, _, _, _, _, _, _, _, _, _, _, _, _, _, _, _, _, _, _, _, _, _, _, _, _, rfl, rfl, by omega, by omega, by omega, by rw [HST.out]; omega, HAL2.out⟩ ?_)
                  simp [ReadM, intOf]
                  omega
                · have hmi : ¬ (i : Int) + 1 < s.size := by omega
                  have hfull : l.take (i + 1) = l := List.take_of_length_le (by rw [HN.out]; omega)
                  have hst2 := HST.out
                  rw [hfull] at hst2
                  have hal3 := HAL2.out
                  rw [hfull] at hal3
                  have HST2 := Lib.hid hst2
                  have HAL3 := Lib.hid hal3
                  clear hst2 hal3 hfull
                  by_cases hbig : 1099511627776 < 10 * h + (d.toNat : Int) - 48
                  · have HV2 := Lib.hid (HB.out (tick_big (by rw [HN.out]; omega) (by rw [HST2.out]; omega)))
                    have hbig2 : 1099511627776 < 10 * h + ((d.toNat : Int) - 48) := by omega
                    go_wp2_with fail
                    simp only [Exit.jump]
                    go_ret2
                    exact ⟨by rw [HV2.out]; rfl, rfl⟩
                  · have hV2 : V = .tuple #[.int .i64 (10 * h + ((d.toNat : Int) - 48)), .int .i64 0] := by
                      rw [HV.out, tick_good (k := s.size - 1) (by rw [HN.out]; omega) (by rw [HN.out]; omega) HAL3.out HK0.out (by rw [HST2.out]; omega), HST2.out]
                      rw [show 10 * h + ((d.toNat : Int) - 48) = 10 * h + (d.toNat : Int) - 48 by omega]
                    have HV2 := Lib.hid hV2
                    have hbig2 : ¬ 1099511627776 < 10 * h + ((d.toNat : Int) - 48) := by omega
                    clear hV2
                    go_wp2_with fail
                    simp only [Exit.jump]
                    go_ret2
                    exact ⟨by rw [HV2.out]; rfl, rfl⟩
          case first =>
            intro hpass
            go_wp2_with fail
            refine wp_label ?_
            rename_i hk
            exact hk _ _ (hpass.out _ _ ⟨0, 0, _, _, _, _, _, _, _, _, _, _, _, _, _, _, _, _, _, _, _, _, _, _, _, _, _, _, _, _, _, _, _, _, _, _, _, _, _, _, _, _, _, _, _, _, _, _, _, rfl, rfl, by omega, by omega, by omega, rfl, rfl⟩)
end Go.Proofs.YtfpajgmdejlaeaaGreatDoor

/-
  conf: Usual, levels, kinds, wrong, form, number, one.
-/
namespace Go.Proofs.YtfpajgmdejlaeaaGreatDoor
open Go.RowKit

def conR (x : Con) : List Value := [.string x.name, .int .i64 x.kind, .int .i64 x.lines, .int .i64 x.bytes, .int .i64 x.gens, .int .i64 x.size, .int .i64 x.base, .int .i64 x.cap, .int .i64 x.jitter, .string x.init]
theorem conR_len (x : Con) : (conR x).length = 10 := rfl
theorem conR_one (x : Con) : ∀ u ∈ conR x, u.oneCell' = true := by
  intro u hu; simp [conR] at hu; rcases hu with rfl | rfl | rfl | rfl | rfl | rfl | rfl | rfl | rfl | rfl <;> rfl
theorem usual_any (w : World) : Calls Tryz.prog 20 #[] w fun e w' => e = .returned (.agg (conR usual0).toArray) ∧ Keeps (fun _ => False) w w' := by
  go_enter Tryz.func20, Tryz.ntmps20
  go_wp2_with fail
  refine ret_cell rfl w.heap.size 42 _ _ rfl (Blk.new _ _ _) Tryz.underlying42 rfl (by kernel_rfl) rfl ?_
  exact ⟨rfl, (Keeps.refl _ _).alloc _⟩
theorem levels_any (w : World) : Calls Tryz.prog 25 #[] w fun e w' => (∃ b, e = .returned (.slice (some ⟨b, 0, none⟩) 4 4) ∧ SlAt strR 1 w' (some ⟨b, 0, none⟩) 4 levels15) ∧ Keeps (fun _ => False) w w' := by
  go_enter Tryz.func25, Tryz.ntmps25
  go_wp2_with fail
  go_ret
  refine ⟨⟨w.heap.size, rfl, ⟨rfl, fun _ => ⟨w.heap.size, 0, rfl, by simp, fun i x j v hx hv => ?_⟩⟩⟩, (Keeps.refl _ _).alloc _⟩
  have hj : j < 1 := (List.getElem?_eq_some_iff.1 hv).1
  obtain rfl : j = 0 := by omega
  have hv2 : Value.string x = v := by simpa [strR] using hv
  rw [Nat.zero_add, Nat.mul_one, Nat.add_zero, (Blk.new w 9 _).cell i, ← hv2]
  have : ∀ (i : Nat) (x : ByteArray), levels15[i]? = some x → (#[Value.string ⟨#[110, 111, 110, 101]⟩, Value.string ⟨#[108, 111, 111, 107]⟩, Value.string ⟨#[104, 97, 110, 100]⟩, Value.string ⟨#[99, 104, 105, 101, 102]⟩])[i]? = some (Value.string x) := by
    intro i x h
    unfold levels15 at h
    match i, h with
    | 0, h => simp at h; subst h; rfl
    | 1, h => simp at h; subst h; rfl
    | 2, h => simp at h; subst h; rfl
    | 3, h => simp at h; subst h; rfl
    | i + 4, h => simp at h
  exact this i x hx
theorem kinds_any (w : World) : Calls Tryz.prog 58 #[] w fun e w' => (∃ b, e = .returned (.slice (some ⟨b, 0, none⟩) 2 2) ∧ SlAt strR 1 w' (some ⟨b, 0, none⟩) 2 kinds15) ∧ Keeps (fun _ => False) w w' := by
  go_enter Tryz.func58, Tryz.ntmps58
  go_wp2_with fail
  go_ret
  refine ⟨⟨w.heap.size, rfl, ⟨rfl, fun _ => ⟨w.heap.size, 0, rfl, by simp, fun i x j v hx hv => ?_⟩⟩⟩, (Keeps.refl _ _).alloc _⟩
  have hj : j < 1 := (List.getElem?_eq_some_iff.1 hv).1
  obtain rfl : j = 0 := by omega
  have hv2 : Value.string x = v := by simpa [strR] using hv
  rw [Nat.zero_add, Nat.mul_one, Nat.add_zero, (Blk.new w 9 _).cell i, ← hv2]
  have : ∀ (i : Nat) (x : ByteArray), kinds15[i]? = some x → (#[Value.string ⟨#[115, 101, 114, 105, 97, 108]⟩, Value.string ⟨#[112, 116, 121]⟩])[i]? = some (Value.string x) := by
    intro i x h
    unfold kinds15 kSerial kPty at h
    match i, h with
    | 0, h => simp at h; subst h; rfl
    | 1, h => simp at h; subst h; rfl
    | i + 2, h => simp at h
  exact this i x hx
/-- an error of a statement -/
def Wrong (c line : Int) (key : ByteArray) (e : Ending) (w' : World) : Prop := ∃ v, e = .returned v ∧ Chain w' [(line, key)] c v
theorem Blk.nd {w : World} {g : Nat} {t : TypeId} {r : NdV} (h : Blk w g t (ndR r).toArray) : w.cell? ⟨g, 0, none⟩ = some (.string r.key) ∧ w.cell? ⟨g, 1, none⟩ = some (.slice r.aa r.an r.ac) ∧ w.cell? ⟨g, 2, none⟩ = some (.bool r.block) ∧ w.cell? ⟨g, 3, none⟩ = some (.slice r.la r.ln r.lc) ∧ w.cell? ⟨g, 4, none⟩ = some (.int .i64 r.line) :=
  ⟨h.cell 0, h.cell 1, h.cell 2, h.cell 3, h.cell 4⟩
theorem wrong_any (w : World) (c : Int) (r : NdV) (hc : c ≠ 0) : Calls Tryz.prog 55 #[.int .i64 c, .agg (ndR r).toArray] w fun e w' => Wrong c r.line r.key e w' ∧ Keeps (fun _ => False) w w' := by
  obtain ⟨rk, ra, rn, rc, rb, rla, rln, rlc, rli⟩ := r
  simp only [ndR]
  go_enter Tryz.func55, Tryz.ntmps55
  go_wp2_with fail
  refine (new_flt _ c rli rk hc).mono ?_
  rintro e w2 ⟨rfl, hw⟩
  have HW := Lib.hid hw
  clear hw
  go_wp2_with fail
  go_ret
  refine ⟨⟨_, rfl, ?_⟩, ?_⟩
  · rw [HW.out]
    exact .layer _ _ _ _ _ _ (Blk.new2 _ _ _ _) (.kind c)
  · rw [HW.out]
    exact ((Keeps.refl _ _).alloc _).alloc _
set_option maxRecDepth 100000 in
theorem form_any (w : World) (r : NdV) (many : Nat) (b : Bool) (_hm : many ≤ 100) : Calls Tryz.prog 53 #[.agg (ndR r).toArray, .int .i64 many, .bool b] w fun e w' =>
    (r.an = many ∧ r.block = b → e = .returned .nilIface) ∧ (¬ (r.an = many ∧ r.block = b) → Wrong 3 r.line r.key e w') ∧ Keeps (fun _ => False) w w' := by
  have HWR := Lib.hid (fun W => wrong_any W 3 r (by decide))
  obtain ⟨rk, ra, rn, rc, rb, rla, rln, rlc, rli⟩ := r
  simp only [ndR] at HWR ⊢
  by_cases h1 : rn = many
  · have e1 : ((rn : Int) != (many : Int)) = false := by rw [bne_eq_false_iff_eq]; omega
    have HH := Lib.hid h1
    clear h1
    cases rb <;> cases b
    all_goals first
      | (go_enter Tryz.func53, Tryz.ntmps53
         go_wp2_with fail
         go_ret
         exact ⟨fun _ => rfl, fun h => absurd ⟨HH.out, trivial⟩ h, (Keeps.refl _ _).alloc _⟩)
      | (go_enter Tryz.func53, Tryz.ntmps53
         go_wp2_with fail
         refine (HWR.out _).mono ?_
         rintro e w2 ⟨⟨v, rfl, hc⟩, k2⟩
         have HC := Lib.hid hc
         clear hc
         go_wp2_with fail
         go_ret
         exact ⟨fun h => absurd h.2 (by decide), fun _ => ⟨_, rfl, HC.out⟩, ((Keeps.refl _ _).alloc _).trans k2⟩)
  · have e1 : ((rn : Int) != (many : Int)) = true := by rw [bne_iff_ne]; omega
    have HH := Lib.hid h1
    clear h1
    go_enter Tryz.func53, Tryz.ntmps53
    go_wp2_with fail
    refine (HWR.out _).mono ?_
    rintro e w2 ⟨⟨v, rfl, hc⟩, k2⟩
    have HC := Lib.hid hc
    clear hc
    go_wp2_with fail
    go_ret
    exact ⟨fun h => absurd h.1 HH.out, fun _ => ⟨_, rfl, HC.out⟩, ((Keeps.refl _ _).alloc _).trans k2⟩
theorem tick_bound {l : List UInt8} (h : tickB l = true) : 0 ≤ valI (l.take 14) ∧ valI (l.take 14) ≤ 1099511627776 := by
  unfold tickB at h
  simp only [Bool.and_eq_true, decide_eq_true_eq] at h
  exact h.1
set_option maxRecDepth 100000 in
theorem number_any (w : World) (r : NdV) (as_ : List ByteArray) (i : Nat) (s : ByteArray) (lo hi : Int) (ha : SlAt strR 1 w r.aa r.an as_) (hi_ : as_[i]? = some s) (hn : r.an ≤ 4611686018427387904) (hs : s.size ≤ 4611686018427387904) (_hlo : 0 ≤ lo ∧ lo ≤ 1000000000) (_hhi : 0 ≤ hi ∧ hi ≤ 1000000000) :
    Calls Tryz.prog 91 #[.agg (ndR r).toArray, .int .i64 i, .int .i64 lo, .int .i64 hi] w fun e w' =>
      (∀ v, numP s lo hi = .inr v → e = .returned (.tuple #[.int .i64 v, .nilIface])) ∧ (∀ c, numP s lo hi = .inl c → ∃ v, e = .returned (.tuple #[.int .i64 0, v]) ∧ Chain w' [(r.line, r.key)] c v) ∧ Keeps (fun _ => False) w w' := by
  have HW3 := Lib.hid (fun W => wrong_any W 3 r (by decide))
  have HW2 := Lib.hid (fun W => wrong_any W 2 r (by decide))
  obtain ⟨rk, ra, rn, rc, rb, rla, rln, rlc, rli⟩ := r
  simp only [ndR] at HW3 HW2 ha hn ⊢
  have hl := ha.1
  have hil : i < rn := by have := (List.getElem?_eq_some_iff.1 hi_).1; omega
  obtain ⟨b, off, rfl, hb, hc⟩ := ha.2 (by omega)
  have y0 := SlAt.str hc i s hi_
  have kk : Keeps (fun _ => False) w (w.alloc (.cells #[.string rk, .slice (some ⟨b, off, none⟩) rn rc, .bool rb, .slice rla rln rlc, .int .i64 rli] 60)) := (Keeps.refl _ _).alloc _
  have y1 := (World.cell?_of_block (w := w) (kk.block b hb id)).trans y0
  have hil2 : (i : Int) < rn := by omega
  have hi0 : (0 : Int) ≤ i := by omega
  have HK := Lib.hid kk
  have HD := Lib.hid (fun W => dread_any W s hs)
  obtain ⟨O, hO⟩ : ∃ O, O = numP s lo hi := ⟨_, rfl⟩
  rw [← hO]
  unfold numP at hO
  unfold tickV at HD
  clear hc ha hi_ hl kk y0
  cases ht : tickB s.data.toList with
  | false =>
    rw [ht] at hO HD
    have HO := Lib.hid hO
    simp only [if_neg Bool.false_ne_true] at HD
    clear hO ht
    go_enter Tryz.func91, Tryz.ntmps91
    go_wp2_with fail
    refine (HD.out _).mono ?_
    rintro e w2 ⟨rfl, rfl⟩
    go_wp2_with fail
    refine (HW3.out _).mono ?_
    rintro e w3 ⟨⟨v, rfl, hc⟩, k3⟩
    have HC := Lib.hid hc
    clear hc
    go_wp2_with fail
    go_ret2
    refine ⟨fun v he => ?_, fun c he => ?_, HK.out.trans k3⟩
    · rw [HO.out] at he; cases he
    · rw [HO.out] at he; injection he with he; subst he; exact ⟨_, rfl, HC.out⟩
  | true =>
    rw [ht] at hO HD
    simp only [if_true] at hO HD
    obtain ⟨v, hv⟩ : ∃ v, v = valI (s.data.toList.take 14) := ⟨_, rfl⟩
    rw [← hv] at hO HD
    have hvb := tick_bound ht
    rw [← hv] at hvb
    obtain ⟨hv1, hv2⟩ := hvb
    clear ht hv
    by_cases h1 : v < lo
    · rw [if_pos (.inl h1)] at hO
      have HO := Lib.hid hO
      clear hO
      go_enter Tryz.func91, Tryz.ntmps91
      go_wp2_with fail
      refine (HD.out _).mono ?_
      rintro e w2 ⟨rfl, rfl⟩
      go_wp2_with fail
      refine (HW2.out _).mono ?_
      rintro e w3 ⟨⟨v, rfl, hc⟩, k3⟩
      have HC := Lib.hid hc
      clear hc
      go_wp2_with fail
      go_ret2
      refine ⟨fun v he => ?_, fun c he => ?_, HK.out.trans k3⟩
      · rw [HO.out] at he; cases he
      · rw [HO.out] at he; injection he with he; subst he; exact ⟨_, rfl, HC.out⟩
    · by_cases h2 : hi < v
      · rw [if_pos (.inr h2)] at hO
        have HO := Lib.hid hO
        clear hO
        go_enter Tryz.func91, Tryz.ntmps91
        go_wp2_with fail
        refine (HD.out _).mono ?_
        rintro e w2 ⟨rfl, rfl⟩
        go_wp2_with fail
        refine (HW2.out _).mono ?_
        rintro e w3 ⟨⟨v, rfl, hc⟩, k3⟩
        have HC := Lib.hid hc
        clear hc
        go_wp2_with fail
        go_ret2
        refine ⟨fun v he => ?_, fun c he => ?_, HK.out.trans k3⟩
        · rw [HO.out] at he; cases he
        · rw [HO.out] at he; injection he with he; subst he; exact ⟨_, rfl, HC.out⟩
      · rw [if_neg (by omega)] at hO
        have HO := Lib.hid hO
        clear hO
        go_enter Tryz.func91, Tryz.ntmps91
        go_wp2_with fail
        refine (HD.out _).mono ?_
        rintro e w2 ⟨rfl, rfl⟩
        go_wp2_with fail
        go_ret2
        refine ⟨fun v he => ?_, fun c he => ?_, HK.out⟩
        · rw [HO.out] at he; injection he with he; subst he; rfl
        · rw [HO.out] at he; cases he

/-- a console's settings, in a block of memory from some cell on -/
def ConAt (w : World) (T : TypeId) (b o : Nat) (x : Con) (cs : Array Value) : Prop := Blk w b T cs ∧ ∀ (k : Nat) v, (conR x)[k]? = some v → cs[o + k]? = some v
theorem ConAt.cell {w : World} {T : TypeId} {b o : Nat} {x : Con} {cs : Array Value} (h : ConAt w T b o x cs) {k : Nat} {v : Value} (hv : (conR x)[k]? = some v) : w.cell? ⟨b, o + k, none⟩ = some v := (h.1.cell (o + k)).trans (h.2 k v hv)
/-- other cells of the block stay -/
def Beside (cs cs' : Array Value) (o : Nat) : Prop := cs'.size = cs.size ∧ ∀ j, j < o ∨ o + 10 ≤ j → cs'[j]? = cs[j]?
theorem Beside.refl (cs : Array Value) (o : Nat) : Beside cs cs o := ⟨rfl, fun _ _ => rfl⟩
theorem Beside.trans {a b c : Array Value} {o : Nat} (h : Beside a b o) (k : Beside b c o) : Beside a c o := ⟨k.1.trans h.1, fun j hj => (k.2 j hj).trans (h.2 j hj)⟩
theorem Beside.set_ {cs cs' : Array Value} {o : Nat} (h : Beside cs cs' o) {k : Nat} (hk : k < 10) (v : Value) : Beside cs (cs'.setIfInBounds (o + k) v) o :=
  ⟨by simp [h.1], fun j hj => by rw [Array.getElem?_setIfInBounds_ne (by omega)]; exact h.2 j hj⟩
theorem ConAt.size {w : World} {T : TypeId} {b o : Nat} {x : Con} {cs : Array Value} (h : ConAt w T b o x cs) : o + 10 ≤ cs.size := by
  have := h.2 9 _ rfl
  have := (Array.getElem?_eq_some_iff.1 this).1
  omega
/-- one setting is turned -/
theorem ConAt.set_ {w : World} {T : TypeId} {b o : Nat} {x y : Con} {cs : Array Value} (h : ConAt w T b o x cs) (k : Nat) (v : Value) (hy : conR y = (conR x).set k v) (hk : k < 10) : ConAt (w.setCell ⟨b, o + k, none⟩ v) T b o y (cs.setIfInBounds (o + k) v) := by
  refine ⟨h.1.set_ (o + k) v, fun j u hu => ?_⟩
  rw [hy] at hu
  have hs := h.size
  by_cases hj : j = k
  · subst hj
    have : v = u := by
      rw [List.getElem?_set_self (by rw [conR_len]; omega)] at hu
      exact Option.some.inj hu
    rw [← this, Array.getElem?_setIfInBounds_self_of_lt (by omega)]
  · rw [List.getElem?_set_ne (by omega)] at hu
    rw [Array.getElem?_setIfInBounds_ne (by omega)]
    exact h.2 j u hu
/-- behind a setting: done, or why not -/
def SetPost (O : Int ⊕ Con) (line : Int) (key : ByteArray) (w : World) (T : TypeId) (b o : Nat) (cs : Array Value) (e : Ending) (w' : World) : Prop :=
  (∀ y, O = .inr y → e = .returned .nilIface ∧ ∃ cs', ConAt w' T b o y cs' ∧ Beside cs cs' o) ∧ (∀ c, O = .inl c → Wrong c line key e w') ∧ Keeps (fun i => i = b) w w'
theorem SetPost.done {O : Int ⊕ Con} {line : Int} {key : ByteArray} {w w' : World} {T : TypeId} {b o : Nat} {cs cs' : Array Value} {y : Con} (hO : O = .inr y) (hc : ConAt w' T b o y cs') (hb : Beside cs cs' o) (k : Keeps (fun i => i = b) w w') : SetPost O line key w T b o cs (.returned .nilIface) w' :=
  ⟨fun y' h => (by rw [hO] at h; injection h with h; subst h; exact ⟨rfl, _, hc, hb⟩), fun c h => (by rw [hO] at h; cases h), k⟩
theorem SetPost.bad {O : Int ⊕ Con} {line : Int} {key : ByteArray} {w w' : World} {T : TypeId} {b o : Nat} {cs : Array Value} {c : Int} {e : Ending} (hO : O = .inl c) (h : Wrong c line key e w') (k : Keeps (fun i => i = b) w w') : SetPost O line key w T b o cs e w' :=
  ⟨fun y' h => (by rw [hO] at h; cases h), fun c' h' => (by rw [hO] at h'; injection h' with h'; subst h'; exact h), k⟩
set_option maxRecDepth 100000 in
set_option maxHeartbeats 1000000 in
/-- a setting that is one number -/
theorem cone_any (w : World) (S : Nat → Prop) (x : Nd) (r : NdV) (lo hi : Int) (hM : NdM w S x r) (hsz : ∀ s ∈ argsN x, s.size ≤ 4611686018427387904) (hlo : 0 ≤ lo ∧ lo ≤ 1000000000) (hhi : 0 ≤ hi ∧ hi ≤ 1000000000)
    (T : TypeId) (b o k : Nat) (c : Con) (cs : Array Value) (f : Int → Con) (hC : ConAt w T b o c cs) (hk : k < 10) (hf : ∀ v, conR (f v) = (conR c).set k (.int .i64 v)) (old : Int) (hold : (conR c)[k]? = some (.int .i64 old)) :
    Calls Tryz.prog 128 #[.agg (ndR r).toArray, .pointer (some ⟨b, o + k, none⟩), .int .i64 lo, .int .i64 hi] w (SetPost (oneS x lo hi f) (lineN x) (keyN x) w T b o cs) := by
  obtain ⟨key, as_, bl, sub, line⟩ := x
  rw [NdM] at hM
  obtain ⟨hk1, hb1, hl1, ⟨ha1, ha2, ha3, ha4⟩, -⟩ := hM
  have hal := ha1.1
  obtain ⟨O, hO⟩ : ∃ O, O = oneS (.mk key as_ bl sub line) lo hi f := ⟨_, rfl⟩
  rw [← hO]
  unfold oneS at hO
  simp only [argsN] at hsz
  simp only [lineN, keyN]
  have hFM := fun W => form_any W r 1 false (by omega)
  rw [hl1, hk1, hb1, ← hal] at hFM
  have HF := Lib.hid hFM
  have hblk := hC.1.lt
  have y0 := hC.cell hold
  have f0 := hC.1.frozen (o + k)
  have HC := Lib.hid hC
  by_cases hfm : as_.length = 1 ∧ bl = false
  · have hO2 : O = mapS (numP (argN (.mk key as_ bl sub line) 0) lo hi) f := by rw [hO, formP_true (x := .mk key as_ bl sub line) hfm]; rfl
    obtain ⟨s, hs⟩ : ∃ s, as_ = [s] := by
      match as_, hfm.1 with
      | [s], _ => exact ⟨s, rfl⟩
    have hN := fun W (kk : Keeps (fun _ => False) w W) => number_any W r as_ 0 s lo hi (ha1.keeps kk (fun _ _ => id)) (by rw [hs]; rfl) (by rw [← hal, hs]; simp) (hsz s (by rw [hs]; simp)) hlo hhi
    have hnm : argN (.mk key as_ bl sub line) 0 = s := by rw [hs]; rfl
    rw [hnm] at hO2
    rw [hl1, hk1] at hN
    have HN := Lib.hid hN
    have HFM := Lib.hid hfm
    have HO2 := Lib.hid hO2
    obtain ⟨rk, ra, rn, rc, rb, rla, rln, rlc, rli⟩ := r
    simp only [ndR] at HN HF ⊢
    clear hO hO2 hs hN hnm hfm hFM hk1 hb1 hl1 ha1 ha2 ha3 ha4 hal hsz hC
    go_enter Tryz.func128, Tryz.ntmps128
    go_wp2_with fail
    refine (HF.out _).mono ?_
    rintro e w2 ⟨hgood, -, k2⟩
    obtain rfl := hgood HFM.out
    have HK2 := Lib.hid (((Keeps.refl _ _).alloc (.cells #[.string rk, .slice ra rn rc, .bool rb, .slice rla rln rlc, .int .i64 rli] 60)).trans k2)
    have hbx := ((Blk.new w 60 #[.string rk, .slice ra rn rc, .bool rb, .slice rla rln rlc, .int .i64 rli]).keeps k2 id)
    obtain ⟨⟨x0, x1, x2, x3, x4⟩, -⟩ := hbx.all5
    have y0 := (HC.out.1.keeps HK2.out id).cell (o + k) |>.trans (HC.out.2 k _ hold)
    have f0 := (HC.out.1.keeps HK2.out id).frozen (o + k)
    clear hgood k2 hbx
    cases hq : numP s lo hi with
    | inl c1 =>
      have HE : Hid (O = .inl c1) := Lib.hid (by rw [HO2.out, hq]; rfl)
      have HQ := Lib.hid hq
      clear hq
      go_wp2_with fail
      refine (HN.out _ HK2.out).mono ?_
      rintro e w3 ⟨-, hbad, k3⟩
      obtain ⟨v, rfl, hc⟩ := hbad _ HQ.out
      obtain ⟨ty, vx, rfl⟩ := hc.form
      have HCh := Lib.hid hc
      have HK3 := Lib.hid (HK2.out.trans k3)
      clear hbad hc k3
      go_wp2_with fail
      go_ret
      exact .bad HE.out ⟨_, rfl, HCh.out⟩ HK3.out.none_
    | inr v1 =>
      have HE : Hid (O = .inr (f v1)) := Lib.hid (by rw [HO2.out, hq]; rfl)
      have HQ := Lib.hid hq
      clear hq
      go_wp2_with fail
      refine (HN.out _ HK2.out).mono ?_
      rintro e w3 ⟨hgood, -, k3⟩
      obtain rfl := hgood _ HQ.out
      have HK3 := Lib.hid (HK2.out.trans k3)
      have hb3 := HC.out.1.keeps HK3.out id
      have y0 := (hb3.cell (o + k)).trans (HC.out.2 k _ hold)
      have f0 := hb3.frozen (o + k)
      have HB3 := Lib.hid hb3
      clear hgood k3 hb3
      go_wp2_with fail
      go_ret
      exact .done HE.out (ConAt.set_ ⟨HB3.out, HC.out.2⟩ k (.int .i64 v1) (hf v1) hk) ((Beside.refl cs o).set_ hk _) (HK3.out.none_.and_ (Keeps.set1 _ b (o + k) _) (fun _ _ h => h))
  · have HE : Hid (O = .inl 3) := Lib.hid (by rw [hO, formP_false (x := .mk key as_ bl sub line) hfm]; rfl)
    have HFM := Lib.hid hfm
    obtain ⟨rk, ra, rn, rc, rb, rla, rln, rlc, rli⟩ := r
    simp only [ndR] at HF ⊢
    clear hO hfm hFM hk1 hb1 hl1 ha1 ha2 ha3 ha4 hal hsz hC
    go_enter Tryz.func128, Tryz.ntmps128
    go_wp2_with fail
    refine (HF.out _).mono ?_
    rintro e w2 ⟨-, hbad, k2⟩
    obtain ⟨v, rfl, hc⟩ := hbad HFM.out
    obtain ⟨ty, vx, rfl⟩ := hc.form
    have HCh := Lib.hid hc
    have HK2 := Lib.hid (((Keeps.refl _ _).alloc (.cells #[.string rk, .slice ra rn rc, .bool rb, .slice rla rln rlc, .int .i64 rli] 60)).trans k2)
    clear hbad k2 hc
    go_wp2_with fail
    go_ret
    exact .bad HE.out ⟨_, rfl, HCh.out⟩ HK2.out.none_
end Go.Proofs.YtfpajgmdejlaeaaGreatDoor

/-
  conf: searches (slices.Index, ContainsFunc), fits, secret, Find.
-/
namespace Go.Proofs.YtfpajgmdejlaeaaGreatDoor
open Go.RowKit

theorem idx_none {α : Type} {p : α → Bool} : ∀ {l : List α}, idx p l = none → ∀ x ∈ l, p x = false
  | [], _, x, hx => by cases hx
  | y :: l, h, x, hx => by
    unfold idx at h
    split at h
    · cases h
    · rename_i hp
      rcases List.mem_cons.1 hx with rfl | hx
      · simpa using hp
      · exact idx_none (by simpa using h) x hx
theorem idx_some {α : Type} {p : α → Bool} : ∀ {l : List α} {k : Nat}, idx p l = some k → (∃ x, l[k]? = some x ∧ p x = true) ∧ ∀ i x, i < k → l[i]? = some x → p x = false
  | [], k, h => by cases h
  | y :: l, k, h => by
    unfold idx at h
    split at h
    · rename_i hp
      injection h with h; subst h
      exact ⟨⟨y, rfl, hp⟩, fun i x hi _ => by omega⟩
    · rename_i hp
      cases hq : idx p l with
      | none => rw [hq] at h; cases h
      | some m =>
        rw [hq] at h
        injection h with h; subst h
        obtain ⟨⟨x, hx, hpx⟩, hr⟩ := idx_some hq
        refine ⟨⟨x, by simpa using hx, hpx⟩, fun i z hi hz => ?_⟩
        cases i with
        | zero => simp at hz; subst hz; simpa using hp
        | succ i => exact hr i z (by have hi' : i + 1 < m + 1 := hi; omega) (by simpa using hz)
/-- the first place, if so many are not so and this one is -/
theorem idx_at {α : Type} {p : α → Bool} : ∀ {l : List α} {k : Nat} {x : α}, l[k]? = some x → p x = true → (∀ y ∈ l.take k, p y = false) → idx p l = some k
  | [], k, x, h, _, _ => by simp at h
  | y :: l, 0, x, h, hp, _ => by simp at h; subst h; unfold idx; rw [if_pos hp]
  | y :: l, k + 1, x, h, hp, ha => by
    unfold idx
    rw [if_neg (by rw [ha y (by simp)]; simp), idx_at (by simpa using h) hp (fun z hz => ha z (by simp [hz]))]
    rfl
theorem idx_all {α : Type} {p : α → Bool} : ∀ {l : List α}, (∀ y ∈ l, p y = false) → idx p l = none
  | [], _ => rfl
  | y :: l, h => by unfold idx; rw [if_neg (by rw [h y (by simp)]; simp), idx_all (fun z hz => h z (by simp [hz]))]; rfl
def idxV (o : Option Nat) : Value := match o with | some k => .int .i64 k | none => .int .i64 (-1)
theorem take_all {α : Type} {p : α → Bool} {l : List α} {i : Nat} {x : α} (hx : l[i]? = some x) (h : ∀ y ∈ l.take i, p y = false) (hp : p x = false) : ∀ y ∈ l.take (i + 1), p y = false := by
  intro y hy
  rw [List.take_add_one, hx] at hy
  rcases List.mem_append.1 hy with hy | hy
  · exact h y hy
  · rw [Option.toList_some, List.mem_singleton] at hy; subst hy; exact hp
theorem toList_ne15 {s t : ByteArray} (h : s ≠ t) : (s.toList == t.toList) = false := by
  rw [beq_eq_false_iff_ne]
  intro e
  rw [ByteArray.toList_eq, ByteArray.toList_eq] at e
  exact h (ba_ext e)
theorem slat_one {w : World} {a : Option Addr} {n : Nat} {l : List ByteArray} (h : SlAt strR 1 w a n l) {i : Nat} {s : ByteArray} (hs : l[i]? = some s) : ∃ b off, a = some ⟨b, off, none⟩ ∧ b < w.heap.size ∧ w.cell? ⟨b, off + i, none⟩ = some (.string s) := by
  have := (List.getElem?_eq_some_iff.1 hs).1
  obtain ⟨b, off, rfl, hb, hc⟩ := h.2 (by rw [← h.1]; omega)
  exact ⟨b, off, rfl, hb, SlAt.str hc i s hs⟩
set_option maxRecDepth 100000 in
theorem sindex_any (w : World) (a : Option Addr) (n c : Nat) (l : List ByteArray) (s : ByteArray) (h : SlAt strR 1 w a n l) (hn : n ≤ 4611686018427387904) :
    Calls Tryz.prog 90 #[.slice a n c, .string s] w fun e w' => e = .returned (idxV (idx (fun x => decide (x = s)) l)) ∧ Keeps (fun _ => False) w w' := by
  have HLN := Lib.hid h.1
  have HL := Lib.hid h
  obtain ⟨O, hO⟩ : ∃ O, O = idx (fun x => decide (x = s)) l := ⟨_, rfl⟩
  rw [← hO]
  have HO := Lib.hid hO
  clear h hO
  go_enter Tryz.func90, Tryz.ntmps90
  go_wp2_with fail
  go_loopw [8] (fun u wr => ∃ i : Nat, u = .int .i64 i ∧ i ≤ n ∧ Hid ((∀ y ∈ l.take i, decide (y = s) = false) ∧ Keeps (fun _ => False) w wr)) (fun u _ => n - (intOf u).toNat)
  case atStart => exact ⟨0, rfl, Nat.zero_le _, Lib.hid ⟨by simp, Keeps.refl _ _⟩⟩
  case round =>
    obtain ⟨i, rfl, hi, HI⟩ := hrel
    have hK := HI.out.2
    by_cases hlt : i < n
    · obtain ⟨x, hx⟩ : ∃ x, l[i]? = some x := ⟨_, List.getElem?_eq_getElem (by rw [HLN.out]; exact hlt)⟩
      obtain ⟨b, off, rfl, hb, y0⟩ := slat_one (HL.out.keeps hK (fun _ _ => id)) hx
      by_cases hxs : x = s
      · subst hxs
        have HE : Hid (O = some i) := Lib.hid (by rw [HO.out]; exact idx_at hx (by simp) HI.out.1)
        clear hx
        go_wp2_with fail
        go_ret
        exact ⟨by rw [HE.out]; rfl, hK⟩
      · have hb1 : (s.toList == x.toList) = false := toList_ne15 (fun e => hxs e.symm)
        have HN := Lib.hid (take_all hx HI.out.1 (by simpa using hxs))
        clear hxs hx
        go_wp2_with fail
        go_roundw
        case rel => exact ⟨i + 1, by go_num, by omega, Lib.hid ⟨HN.out, hK⟩⟩
        case measure => simp [intOf] <;> omega
    · have hie : i = n := by omega
      subst hie
      have HE : Hid (O = none) := Lib.hid (by
        have := HI.out.1
        rw [List.take_of_length_le (by rw [HLN.out]; exact Nat.le_refl _)] at this
        rw [HO.out]; exact idx_all this)
      go_wp2_with fail
      go_ret
      exact ⟨by rw [HE.out]; rfl, hK⟩
theorem fits1_any (w : World) (s : ByteArray) (hs : s.size ≤ 4611686018427387904) : Calls Tryz.prog 122 #[.string s] w fun e w' => e = .returned (.bool (!fitsB s)) ∧ w' = w := by
  have HF := Lib.hid (fits_any w s hs)
  go_enter Tryz.func122, Tryz.ntmps122
  go_wp2_with fail
  refine HF.out.mono ?_
  rintro e w2 ⟨rfl, rfl⟩
  go_wp2_with fail
  go_ret
  exact ⟨rfl, rfl⟩
set_option maxRecDepth 100000 in
theorem sindexf_any (w : World) (a : Option Addr) (n c : Nat) (l : List ByteArray) (h : SlAt strR 1 w a n l) (hn : n ≤ 4611686018427387904) (hsz : ∀ s ∈ l, s.size ≤ 4611686018427387904) :
    Calls Tryz.prog 145 #[.slice a n c, .func (.func 122) #[] #[]] w fun e w' => e = .returned (idxV (idx (fun x => !fitsB x) l)) ∧ Keeps (fun _ => False) w w' := by
  have HLN := Lib.hid h.1
  have HL := Lib.hid h
  have HSZ := Lib.hid hsz
  obtain ⟨O, hO⟩ : ∃ O, O = idx (fun x => !fitsB x) l := ⟨_, rfl⟩
  rw [← hO]
  have HO := Lib.hid hO
  clear h hO hsz
  go_enter Tryz.func145, Tryz.ntmps145
  go_wp2_with fail
  go_loopw [8] (fun u wr => ∃ i : Nat, u = .int .i64 i ∧ i ≤ n ∧ Hid ((∀ y ∈ l.take i, (!fitsB y) = false) ∧ Keeps (fun _ => False) w wr)) (fun u _ => n - (intOf u).toNat)
  case atStart => exact ⟨0, rfl, Nat.zero_le _, Lib.hid ⟨by simp, Keeps.refl _ _⟩⟩
  case round =>
    obtain ⟨i, rfl, hi, HI⟩ := hrel
    have hK := HI.out.2
    by_cases hlt : i < n
    · obtain ⟨x, hx⟩ : ∃ x, l[i]? = some x := ⟨_, List.getElem?_eq_getElem (by rw [HLN.out]; exact hlt)⟩
      obtain ⟨b, off, rfl, hb, y0⟩ := slat_one (HL.out.keeps hK (fun _ _ => id)) hx
      have HF := Lib.hid (fun W => fits1_any W x (HSZ.out x (List.mem_of_getElem? hx)))
      have HX := Lib.hid hx
      clear hx
      cases hfx : fitsB x with
      | false =>
        have HE : Hid (O = some i) := Lib.hid (by rw [HO.out]; exact idx_at HX.out (by rw [hfx]; rfl) HI.out.1)
        rw [hfx] at HF
        clear hfx
        go_wp2_with fail
        refine (HF.out _).mono ?_
        rintro e w2 ⟨rfl, rfl⟩
        go_wp2_with fail
        go_ret
        exact ⟨by rw [HE.out]; rfl, hK⟩
      | true =>
        have HN := Lib.hid (take_all HX.out HI.out.1 (by rw [hfx]; rfl))
        rw [hfx] at HF
        clear hfx
        go_wp2_with fail
        refine (HF.out _).mono ?_
        rintro e w2 ⟨rfl, rfl⟩
        go_wp2_with fail
        go_roundw
        case rel => exact ⟨i + 1, by go_num, by omega, Lib.hid ⟨HN.out, hK⟩⟩
        case measure => simp [intOf] <;> omega
    · have hie : i = n := by omega
      subst hie
      have HE : Hid (O = none) := Lib.hid (by
        have := HI.out.1
        rw [List.take_of_length_le (by rw [HLN.out]; exact Nat.le_refl _)] at this
        rw [HO.out]; exact idx_all this)
      go_wp2_with fail
      go_ret
      exact ⟨by rw [HE.out]; rfl, hK⟩
theorem idx_fits {l : List ByteArray} : l.all fitsB = (idx (fun x => !fitsB x) l).isNone := by
  cases hq : idx (fun x => !fitsB x) l with
  | none =>
    have := idx_none hq
    rw [Option.isNone_none, List.all_eq_true]
    intro x hx
    have := this x hx
    simpa using this
  | some k =>
    obtain ⟨⟨x, hx, hp⟩, -⟩ := idx_some hq
    rw [Option.isNone_some, List.all_eq_false]
    exact ⟨x, List.mem_of_getElem? hx, by simpa using hp⟩
theorem scontains_any (w : World) (a : Option Addr) (n c : Nat) (l : List ByteArray) (h : SlAt strR 1 w a n l) (hn : n ≤ 4611686018427387904) (hsz : ∀ s ∈ l, s.size ≤ 4611686018427387904) :
    Calls Tryz.prog 121 #[.slice a n c, .func (.func 122) #[] #[]] w fun e w' => e = .returned (.bool (!(l.all fitsB))) ∧ Keeps (fun _ => False) w w' := by
  have HF := Lib.hid (sindexf_any w a n c l h hn hsz)
  rw [idx_fits]
  obtain ⟨O, hO⟩ : ∃ O, O = idx (fun x => !fitsB x) l := ⟨_, rfl⟩
  rw [← hO] at HF ⊢
  clear h hsz hO
  go_enter Tryz.func121, Tryz.ntmps121
  go_wp2_with fail
  refine HF.out.mono ?_
  rintro e w2 ⟨rfl, k2⟩
  cases O with
  | none =>
    unfold idxV
    simp only
    go_wp2_with fail
    go_ret
    exact ⟨rfl, k2⟩
  | some k =>
    unfold idxV
    simp only
    have h0 : (0 : Int) ≤ (k : Int) := by omega
    go_wp2_with fail
    go_ret
    exact ⟨by simp, k2⟩
/-- are all patterns -/
theorem cfits_any (w : World) (r : NdV) (a : Option Addr) (n c : Nat) (l : List ByteArray) (h : SlAt strR 1 w a n l) (hn : n ≤ 4611686018427387904) (hsz : ∀ s ∈ l, s.size ≤ 4611686018427387904) :
    Calls Tryz.prog 87 #[.agg (ndR r).toArray, .slice a n c] w fun e w' => (l.all fitsB = true → e = .returned .nilIface) ∧ (l.all fitsB = false → Wrong 3 r.line r.key e w') ∧ Keeps (fun _ => False) w w' := by
  have HWR := Lib.hid (fun W => wrong_any W 3 r (by decide))
  have HC := Lib.hid (fun W (k : Keeps (fun _ => False) w W) => scontains_any W a n c l (h.keeps k (fun _ _ => id)) hn hsz)
  obtain ⟨rk, ra, rn, rc, rb, rla, rln, rlc, rli⟩ := r
  simp only [ndR] at HWR ⊢
  have HKA := Lib.hid ((Keeps.refl (fun _ => False) w).alloc (.cells #[.string rk, .slice ra rn rc, .bool rb, .slice rla rln rlc, .int .i64 rli] 60))
  clear h hsz
  cases hbb : l.all fitsB with
  | true =>
    have HBB : Hid (∀ P : Prop, (true = false → P)) := Lib.hid (fun P h => by cases h)
    rw [hbb] at HC
    clear hbb
    go_enter Tryz.func87, Tryz.ntmps87
    go_wp2_with fail
    refine (HC.out _ HKA.out).mono ?_
    rintro e w2 ⟨rfl, k2⟩
    go_wp2_with fail
    go_ret
    exact ⟨fun _ => rfl, HBB.out _, HKA.out.trans k2⟩
  | false =>
    have HBB : Hid (∀ P : Prop, (false = true → P)) := Lib.hid (fun P h => by cases h)
    rw [hbb] at HC
    clear hbb
    go_enter Tryz.func87, Tryz.ntmps87
    go_wp2_with fail
    refine (HC.out _ HKA.out).mono ?_
    rintro e w2 ⟨rfl, k2⟩
    have hA := (Blk.new w 60 #[.string rk, .slice ra rn rc, .bool rb, .slice rla rln rlc, .int .i64 rli]).keeps k2 id
    obtain ⟨⟨x0, x1, x2, x3, x4⟩, -⟩ := hA.all5
    have HK2 := Lib.hid (HKA.out.trans k2)
    clear k2 hA
    go_wp2_with fail
    refine (HWR.out _).mono ?_
    rintro e w3 ⟨⟨v, rfl, hc⟩, k3⟩
    have HCh := Lib.hid hc
    clear hc
    go_wp2_with fail
    go_ret
    exact ⟨HBB.out _, fun _ => ⟨_, rfl, HCh.out⟩, HK2.out.trans k3⟩
end Go.Proofs.YtfpajgmdejlaeaaGreatDoor

/-
  conf: secret, Find, like.
-/
namespace Go.Proofs.YtfpajgmdejlaeaaGreatDoor
open Go.RowKit

set_option maxRecDepth 100000 in
theorem secret_any (w : World) (s : ByteArray) (hs : s.size ≤ 1073741824) : Calls Tryz.prog 89 #[.string s] w fun e w' => e = .returned (.bool (secretB s)) ∧ Keeps (fun _ => False) w w' := by
  have HW := Lib.hid (fun W => wordy_any W s (by omega))
  obtain ⟨V, hV⟩ : ∃ V, V = secretB s := ⟨_, rfl⟩
  rw [← hV]
  unfold secretB at hV
  by_cases h0 : s.size = 0
  · obtain rfl : s = ⟨#[]⟩ := by apply ba_ext; exact List.eq_nil_of_length_eq_zero (by simpa using h0)
    have HE : Hid (V = false) := Lib.hid (by rw [hV]; rfl)
    clear h0 hV
    go_enter Tryz.func89, Tryz.ntmps89
    go_wp2
    go_ret
    exact ⟨by rw [HE.out]; rfl, Keeps.refl _ _⟩
  · have hsne : s.toList.isEmpty = false := ne_nil (fun e => h0 (ba_len e))
    rw [decide_eq_true h0] at hV
    clear h0
    by_cases hb : s.size ≤ 32
    · rw [decide_eq_true hb] at hV
      have HE := Lib.hid hV
      have hb2 : (s.size : Int) ≤ 32 := by omega
      clear hb hV
      go_enter Tryz.func89, Tryz.ntmps89
      go_wp2_with fail
      refine (HW.out _).mono ?_
      rintro e w2 ⟨rfl, k2⟩
      go_wp2_with fail
      go_ret
      exact ⟨by rw [HE.out]; rfl, k2⟩
    · rw [decide_eq_false hb] at hV
      have HE : Hid (V = false) := Lib.hid (by rw [hV]; rfl)
      have hb2 : ¬ (s.size : Int) ≤ 32 := by omega
      clear hb hV
      go_enter Tryz.func89, Tryz.ntmps89
      go_wp2
      go_ret
      exact ⟨by rw [HE.out]; rfl, Keeps.refl _ _⟩
theorem con_at {w : World} {a : Option Addr} {n : Nat} {l : List Con} (h : SlAt conR 10 w a n l) {i : Nat} {x : Con} (hx : l[i]? = some x) : ∃ b off, a = some ⟨b, off, none⟩ ∧ b < w.heap.size ∧ ∀ W, Keeps (fun j => j ≠ b) w W →
    W.cell? ⟨b, off + i * 10, none⟩ = some (.string x.name) ∧ W.cell? ⟨b, off + i * 10 + 1, none⟩ = some (.int .i64 x.kind) ∧ W.cell? ⟨b, off + i * 10 + 2, none⟩ = some (.int .i64 x.lines) ∧ W.cell? ⟨b, off + i * 10 + 3, none⟩ = some (.int .i64 x.bytes) ∧ W.cell? ⟨b, off + i * 10 + 4, none⟩ = some (.int .i64 x.gens) ∧
    W.cell? ⟨b, off + i * 10 + 5, none⟩ = some (.int .i64 x.size) ∧ W.cell? ⟨b, off + i * 10 + 6, none⟩ = some (.int .i64 x.base) ∧ W.cell? ⟨b, off + i * 10 + 7, none⟩ = some (.int .i64 x.cap) ∧ W.cell? ⟨b, off + i * 10 + 8, none⟩ = some (.int .i64 x.jitter) ∧ W.cell? ⟨b, off + i * 10 + 9, none⟩ = some (.string x.init) := by
  have hi : i < l.length := (List.getElem?_eq_some_iff.1 hx).1
  obtain ⟨b, off, ha, hb, hc⟩ := h.2 (by rw [← h.1]; omega)
  refine ⟨b, off, ha, hb, fun W k => ?_⟩
  have hh : ∀ j v, (conR x)[j]? = some v → W.cell? ⟨b, off + i * 10 + j, none⟩ = some v := fun j v hj => (World.cell?_of_block (w := w) (k.block b hb (by simp))).trans (hc i x j v hx hj)
  exact ⟨hh 0 _ rfl, hh 1 _ rfl, hh 2 _ rfl, hh 3 _ rfl, hh 4 _ rfl, hh 5 _ rfl, hh 6 _ rfl, hh 7 _ rfl, hh 8 _ rfl, hh 9 _ rfl⟩
/-- a configuration's cells -/
def cfL (cv gv uv av : Value) (b0 b1 b2 b3 b4 b5 b6 b7 b8 b9 : ByteArray) : List Value := [cv, gv, uv, av, .string b0, .string b1, .string b2, .string b3, .string b4, .string b5, .string b6, .string b7, .string b8, .string b9]
set_option maxRecDepth 100000 in
set_option maxHeartbeats 1000000 in
theorem find_any (w : World) (a : Option Addr) (n c : Nat) (gv uv av : Value) (b0 b1 b2 b3 b4 b5 b6 b7 b8 b9 : ByteArray) (l : List Con) (nm : ByteArray) (h : SlAt conR 10 w a n l) (hn : n ≤ 4611686018427387904) :
    Calls Tryz.prog 18 #[.agg (cfL (.slice a n c) gv uv av b0 b1 b2 b3 b4 b5 b6 b7 b8 b9).toArray, .string nm] w fun e w' => e = .returned (idxV (findC l nm)) ∧ Keeps (fun _ => False) w w' := by
  have HLN := Lib.hid h.1
  have HL := Lib.hid h
  obtain ⟨O, hO⟩ : ∃ O, O = findC l nm := ⟨_, rfl⟩
  rw [← hO]
  have HO := Lib.hid hO
  clear h hO
  simp only [cfL]
  go_enter Tryz.func18, Tryz.ntmps18
  go_wp2_with fail
  go_step3
  go_wp2_with fail
  go_step3
  go_wp2_with fail
  go_loopw [5, 11] (fun u5 u11 wr => ∃ i : Nat, u11 = .int .i64 i ∧ u5 = .int .i64 (-1) ∧ i ≤ n ∧ Hid ((∀ y ∈ l.take i, decide (y.name = nm) = false) ∧ Keeps (fun _ => False) w wr)) (fun _ u11 _ => n - (intOf u11).toNat)
  case atStart => exact ⟨0, rfl, rfl, Nat.zero_le _, Lib.hid ⟨by simp, (Keeps.refl _ _).alloc _⟩⟩
  case round =>
    obtain ⟨i, rfl, rfl, hi, HI⟩ := hrel
    rename World => wr
    have hK := HI.out.2
    by_cases hlt : i < n
    · obtain ⟨x, hx⟩ : ∃ x, l[i]? = some x := ⟨_, List.getElem?_eq_getElem (by rw [HLN.out]; exact hlt)⟩
      obtain ⟨b, off, rfl, hb, hc⟩ := con_at (HL.out.keeps hK (fun _ _ => id)) hx
      obtain ⟨x0, x1, x2, x3, x4, x5, x6, x7, x8, x9⟩ := hc wr (Keeps.refl _ _)
      by_cases hxs : x.name = nm
      · have hb1 : (x.name.toList == nm.toList) = true := by rw [hxs]; exact beq_self_eq_true _
        have HE : Hid (O = some i) := Lib.hid (by rw [HO.out]; exact idx_at hx (by simpa using hxs) HI.out.1)
        clear hx hxs hc
        go_wp2_with fail
        (try rw [Exit.noGoto_ret])
        go_ret
        exact ⟨by rw [HE.out]; rfl, by (repeat (first | (with_reducible assumption) | (with_reducible exact Keeps.refl _ _) | refine Keeps.drew ?_ | refine Keeps.drewN ?_ _ | refine Keeps.setCell ?_ (by simp) _ | refine Keeps.setRow ?_ (by simp) _ | refine Keeps.alloc ?_ _))⟩
      · have hb1 : (x.name.toList == nm.toList) = false := toList_ne15 hxs
        have HN := Lib.hid (take_all hx HI.out.1 (by simpa using hxs))
        clear hxs hx hc
        go_wp2_with fail
        go_roundw
        case rel => exact ⟨i + 1, by go_num, rfl, by omega, Lib.hid ⟨HN.out, by (repeat (first | (with_reducible assumption) | (with_reducible exact Keeps.refl _ _) | refine Keeps.drew ?_ | refine Keeps.drewN ?_ _ | refine Keeps.setCell ?_ (by simp) _ | refine Keeps.setRow ?_ (by simp) _ | refine Keeps.alloc ?_ _))⟩⟩
        case measure => simp [intOf] <;> omega
    · have hie : i = n := by omega
      subst hie
      have HE : Hid (O = none) := Lib.hid (by
        have := HI.out.1
        rw [List.take_of_length_le (by rw [HLN.out]; exact Nat.le_refl _)] at this
        rw [HO.out]; exact idx_all this)
      go_wp2_with fail
      (try rw [Exit.noGoto_ret])
      go_ret
      exact ⟨by rw [HE.out]; rfl, hK⟩
end Go.Proofs.YtfpajgmdejlaeaaGreatDoor

/-
  conf: like.
-/
namespace Go.Proofs.YtfpajgmdejlaeaaGreatDoor
open Go.RowKit

theorem both15 {a b : Prop} (h : b → a) (hb : b) : a ∧ b := ⟨h hb, hb⟩
def likeS (cs : List Con) (c : Con) (x : Nd) : Int ⊕ Con := match findC cs (argN x 0) with | none => .inl 7 | some i => .inr { (cs.getD i usual0) with name := c.name }
/-- all settings of a console are turned, then its name -/
theorem ConAt.copy {w : World} {T : TypeId} {b o : Nat} {x : Con} {cs : Array Value} (h : ConAt w T b o x cs) (c : Con) (nm : ByteArray) : ∃ cs', ConAt (((((((((((w.setCell ⟨b, o, none⟩ (.string c.name)).setCell ⟨b, o + 1, none⟩ (.int .i64 c.kind)).setCell ⟨b, o + 2, none⟩ (.int .i64 c.lines)).setCell ⟨b, o + 3, none⟩ (.int .i64 c.bytes)).setCell ⟨b, o + 4, none⟩ (.int .i64 c.gens)).setCell ⟨b, o + 5, none⟩ (.int .i64 c.size)).setCell ⟨b, o + 6, none⟩ (.int .i64 c.base)).setCell ⟨b, o + 7, none⟩ (.int .i64 c.cap)).setCell ⟨b, o + 8, none⟩ (.int .i64 c.jitter)).setCell ⟨b, o + 9, none⟩ (.string c.init)).setCell ⟨b, o, none⟩ (.string nm)) T b o { c with name := nm } cs' ∧ Beside cs cs' o := by
  have h0 := h.set_ (y := { x with name := c.name }) 0 (.string c.name) rfl (by omega)
  have h1 := h0.set_ (y := { x with name := c.name, kind := c.kind }) 1 (.int .i64 c.kind) rfl (by omega)
  have h2 := h1.set_ (y := { x with name := c.name, kind := c.kind, lines := c.lines }) 2 (.int .i64 c.lines) rfl (by omega)
  have h3 := h2.set_ (y := { x with name := c.name, kind := c.kind, lines := c.lines, bytes := c.bytes }) 3 (.int .i64 c.bytes) rfl (by omega)
  have h4 := h3.set_ (y := { x with name := c.name, kind := c.kind, lines := c.lines, bytes := c.bytes, gens := c.gens }) 4 (.int .i64 c.gens) rfl (by omega)
  have h5 := h4.set_ (y := { x with name := c.name, kind := c.kind, lines := c.lines, bytes := c.bytes, gens := c.gens, size := c.size }) 5 (.int .i64 c.size) rfl (by omega)
  have h6 := h5.set_ (y := { x with name := c.name, kind := c.kind, lines := c.lines, bytes := c.bytes, gens := c.gens, size := c.size, base := c.base }) 6 (.int .i64 c.base) rfl (by omega)
  have h7 := h6.set_ (y := { x with name := c.name, kind := c.kind, lines := c.lines, bytes := c.bytes, gens := c.gens, size := c.size, base := c.base, cap := c.cap }) 7 (.int .i64 c.cap) rfl (by omega)
  have h8 := h7.set_ (y := { x with name := c.name, kind := c.kind, lines := c.lines, bytes := c.bytes, gens := c.gens, size := c.size, base := c.base, cap := c.cap, jitter := c.jitter }) 8 (.int .i64 c.jitter) rfl (by omega)
  have h9 := h8.set_ (y := c) 9 (.string c.init) rfl (by omega)
  have hA := h9.set_ (y := { c with name := nm }) 0 (.string nm) rfl (by omega)
  exact ⟨_, hA, (((((((((((Beside.refl cs o).set_ (k := 0) (by omega) _).set_ (k := 1) (by omega) _).set_ (k := 2) (by omega) _).set_ (k := 3) (by omega) _).set_ (k := 4) (by omega) _).set_ (k := 5) (by omega) _).set_ (k := 6) (by omega) _).set_ (k := 7) (by omega) _).set_ (k := 8) (by omega) _).set_ (k := 9) (by omega) _).set_ (k := 0) (by omega) _⟩
theorem Keeps.set11 (W : World) (b o : Nat) (v0 v1 v2 v3 v4 v5 v6 v7 v8 v9 vA : Value) : Keeps (fun i => i = b) W (((((((((((W.setCell ⟨b, o, none⟩ v0).setCell ⟨b, o + 1, none⟩ v1).setCell ⟨b, o + 2, none⟩ v2).setCell ⟨b, o + 3, none⟩ v3).setCell ⟨b, o + 4, none⟩ v4).setCell ⟨b, o + 5, none⟩ v5).setCell ⟨b, o + 6, none⟩ v6).setCell ⟨b, o + 7, none⟩ v7).setCell ⟨b, o + 8, none⟩ v8).setCell ⟨b, o + 9, none⟩ v9).setCell ⟨b, o, none⟩ vA) :=
  (((((((((((Keeps.refl _ _).setCell (by simp) _).setCell (by simp) _).setCell (by simp) _).setCell (by simp) _).setCell (by simp) _).setCell (by simp) _).setCell (by simp) _).setCell (by simp) _).setCell (by simp) _).setCell (by simp) _).setCell (by simp) _
set_option maxRecDepth 100000 in
set_option maxHeartbeats 4000000 in
theorem like_any (w : World) (S : Nat → Prop) (x : Nd) (r : NdV) (hM : NdM w S x r) (s : ByteArray) (hs : argsN x = [s])
    (T : TypeId) (b o : Nat) (c : Con) (cs : Array Value) (hC : ConAt w T b o c cs)
    (g : Nat) (a : Option Addr) (n cc : Nat) (gv uv av : Value) (b0 b1 b2 b3 b4 b5 b6 b7 b8 b9 : ByteArray) (l : List Con) (hl : SlAt conR 10 w a n l) (hn : n ≤ 4611686018427387904) (hg : g < w.heap.size)
    (hcs : ∀ k v, (cfL (.slice a n cc) gv uv av b0 b1 b2 b3 b4 b5 b6 b7 b8 b9)[k]? = some v → w.cell? ⟨g, k, none⟩ = some v) :
    Calls Tryz.prog 147 #[.pointer (some ⟨g, 0, none⟩), .agg (ndR r).toArray, .pointer (some ⟨b, o, none⟩)] w (SetPost (likeS l c x) (lineN x) (keyN x) w T b o cs) := by
  obtain ⟨key, as_, bl, sub, line⟩ := x
  rw [NdM] at hM
  obtain ⟨hk1, hb1, hl1, ⟨ha1, -, -, -⟩, -⟩ := hM
  simp only [argsN] at hs
  subst hs
  obtain ⟨O, hO⟩ : ∃ O, O = likeS l c (.mk key [s] bl sub line) := ⟨_, rfl⟩
  rw [← hO]
  have hO2 : O = (match findC l s with | none => .inl 7 | some i => .inr { (l.getD i usual0) with name := c.name }) := hO
  obtain ⟨ab, ao, haa, hab, hac⟩ := slat_one ha1 (i := 0) rfl
  have hrn : r.an = 1 := ha1.1.symm
  have HW7 := Lib.hid (fun W => wrong_any W 7 r (by decide))
  obtain ⟨rk, ra, rn, rc, rb, rla, rln, rlc, rli⟩ := r
  simp only at hk1 hl1 hb1 haa hrn
  subst hk1 hl1 hb1 haa hrn
  simp only [ndR] at HW7 ⊢
  simp only [lineN, keyN]
  obtain ⟨wa, hwa⟩ : ∃ wa, wa = w.alloc (.cells #[.string rk, .slice (some ⟨ab, ao, none⟩) 1 rc, .bool rb, .slice rla rln rlc, .int .i64 rli] 60) := ⟨_, rfl⟩
  have hka : Keeps (fun _ => False) w wa := by rw [hwa]; exact (Keeps.refl _ _).alloc _
  have hA : Blk wa w.heap.size 60 #[.string rk, .slice (some ⟨ab, ao, none⟩) 1 rc, .bool rb, .slice rla rln rlc, .int .i64 rli] := by rw [hwa]; exact Blk.new _ _ _
  have HWA := Lib.hid hwa
  have HKA := Lib.hid hka
  have HA := Lib.hid hA
  have hsz := hka.size
  have hF : ∀ W, Keeps (fun _ => False) wa W → (W.cell? ⟨g, 0, none⟩ = some (.slice a n cc) ∧ W.cell? ⟨g, 1, none⟩ = some gv ∧ W.cell? ⟨g, 2, none⟩ = some uv ∧ W.cell? ⟨g, 3, none⟩ = some av ∧ W.cell? ⟨g, 4, none⟩ = some (.string b0) ∧ W.cell? ⟨g, 5, none⟩ = some (.string b1) ∧ W.cell? ⟨g, 6, none⟩ = some (.string b2) ∧ W.cell? ⟨g, 7, none⟩ = some (.string b3) ∧ W.cell? ⟨g, 8, none⟩ = some (.string b4) ∧ W.cell? ⟨g, 9, none⟩ = some (.string b5) ∧ W.cell? ⟨g, 10, none⟩ = some (.string b6) ∧ W.cell? ⟨g, 11, none⟩ = some (.string b7) ∧ W.cell? ⟨g, 12, none⟩ = some (.string b8) ∧ W.cell? ⟨g, 13, none⟩ = some (.string b9) ∧ W.cell? ⟨w.heap.size, 1, none⟩ = some (.slice (some ⟨ab, ao, none⟩) 1 rc) ∧ W.cell? ⟨ab, ao, none⟩ = some (.string s)) := fun W k => by
    have hh : ∀ k' v, (cfL (.slice a n cc) gv uv av b0 b1 b2 b3 b4 b5 b6 b7 b8 b9)[k']? = some v → W.cell? ⟨g, k', none⟩ = some v := fun k' v hv => (World.cell?_of_block (w := w) ((hka.trans k).block g hg id)).trans (hcs k' v hv)
    exact ⟨hh 0 _ rfl, hh 1 _ rfl, hh 2 _ rfl, hh 3 _ rfl, hh 4 _ rfl, hh 5 _ rfl, hh 6 _ rfl, hh 7 _ rfl, hh 8 _ rfl, hh 9 _ rfl, hh 10 _ rfl, hh 11 _ rfl, hh 12 _ rfl, hh 13 _ rfl, (hA.keeps k id).all5.1.2.1, (World.cell?_of_block (w := w) ((hka.trans k).block ab hab id)).trans hac⟩
  have HF := Lib.hid hF
  have HL := Lib.hid hl
  have HC := Lib.hid hC
  have HO := Lib.hid hO2
  have hbl := hC.1.lt
  have HFI := Lib.hid (fun W (k : Keeps (fun _ => False) w W) => find_any W a n cc gv uv av b0 b1 b2 b3 b4 b5 b6 b7 b8 b9 l s (hl.keeps k (fun _ _ => id)) hn)
  simp only [cfL] at HFI
  have hcell1 : ∀ k v, (conR c)[k]? = some v → w.cell? ⟨b, o + k, none⟩ = some v := fun k v hv => hC.cell hv
  have HC1 := Lib.hid hcell1
  clear hO hO2 hwa hka hA hF hl hC hcs ha1 hab hac hcell1
  go_enter Tryz.func147, Tryz.ntmps147
  go_wp2_with fail
  rw [← HWA.out]
  go_region_held3 (fun W => (W.cell? ⟨g, 0, none⟩ = some (.slice a n cc) ∧ W.cell? ⟨g, 1, none⟩ = some gv ∧ W.cell? ⟨g, 2, none⟩ = some uv ∧ W.cell? ⟨g, 3, none⟩ = some av ∧ W.cell? ⟨g, 4, none⟩ = some (.string b0) ∧ W.cell? ⟨g, 5, none⟩ = some (.string b1) ∧ W.cell? ⟨g, 6, none⟩ = some (.string b2) ∧ W.cell? ⟨g, 7, none⟩ = some (.string b3) ∧ W.cell? ⟨g, 8, none⟩ = some (.string b4) ∧ W.cell? ⟨g, 9, none⟩ = some (.string b5) ∧ W.cell? ⟨g, 10, none⟩ = some (.string b6) ∧ W.cell? ⟨g, 11, none⟩ = some (.string b7) ∧ W.cell? ⟨g, 12, none⟩ = some (.string b8) ∧ W.cell? ⟨g, 13, none⟩ = some (.string b9) ∧ W.cell? ⟨w.heap.size, 1, none⟩ = some (.slice (some ⟨ab, ao, none⟩) 1 rc) ∧ W.cell? ⟨ab, ao, none⟩ = some (.string s)) ∧ Keeps (fun _ => False) wa W)
    ((refine both15 (HF.out _) ?_; first | exact (Keeps.refl _ _).drew | exact kk))
    ((go_at_call 18; rename_i hh _ _; have hk := hh.2; refine (HFI.out _ (HKA.out.trans hk)).mono ?_; rintro e w3 ⟨rfl, k3⟩; have kk := hk.trans k3))
  rename_i hh
  have HH := Lib.hid (HKA.out.trans hh.2)
  have hA3 := HA.out.keeps hh.2 id
  obtain ⟨⟨x0, x1, x2, x3, x4⟩, -⟩ := hA3.all5
  obtain ⟨⟨q0, q1, q2, q3, q4, q5, q6, q7, q8, q9, q10, q11, q12, q13, -, -⟩, -⟩ := hh
  clear hA3
  cases hf : findC l s with
  | none =>
    have HE : Hid (O = .inl 7) := Lib.hid (by rw [HO.out, hf])
    clear hf
    unfold idxV
    simp only
    go_wp2_with fail
    refine (HW7.out _).mono ?_
    rintro e w4 ⟨⟨v, rfl, hc⟩, k4⟩
    have HCh := Lib.hid hc
    clear hc
    go_wp2_with fail
    go_ret
    exact .bad HE.out ⟨_, rfl, HCh.out⟩ ((HH.out.trans k4).none_)
  | some i =>
    obtain ⟨⟨y, hy, -⟩, -⟩ := idx_some hf
    have HE : Hid (O = .inr { y with name := c.name }) := Lib.hid (by rw [HO.out, hf]; simp only; rw [List.getD_eq_getElem?_getD, hy]; rfl)
    have hil : i < n := by rw [← HL.out.1]; exact (List.getElem?_eq_some_iff.1 hy).1
    obtain ⟨rb2, off, rfl, hrb, hrc⟩ := con_at (HL.out.keeps HH.out (fun _ _ => id)) hy
    obtain ⟨y0, y1, y2, y3, y4, y5, y6, y7, y8, y9⟩ := hrc _ (Keeps.refl _ _)
    have hcb := HC.out.1.keeps HH.out id
    have HCB := Lib.hid (⟨hcb, HC.out.2⟩ : ConAt _ T b o c cs)
    have z0 := ConAt.cell HCB.out (k := 0) rfl
    have z1 := ConAt.cell HCB.out (k := 1) rfl
    have z2 := ConAt.cell HCB.out (k := 2) rfl
    have z3 := ConAt.cell HCB.out (k := 3) rfl
    have z4 := ConAt.cell HCB.out (k := 4) rfl
    have z5 := ConAt.cell HCB.out (k := 5) rfl
    have z6 := ConAt.cell HCB.out (k := 6) rfl
    have z7 := ConAt.cell HCB.out (k := 7) rfl
    have z8 := ConAt.cell HCB.out (k := 8) rfl
    have z9 := ConAt.cell HCB.out (k := 9) rfl
    have f0 := hcb.frozen o
    have f1 := hcb.frozen (o + 1)
    have f2 := hcb.frozen (o + 2)
    have f3 := hcb.frozen (o + 3)
    have f4 := hcb.frozen (o + 4)
    have f5 := hcb.frozen (o + 5)
    have f6 := hcb.frozen (o + 6)
    have f7 := hcb.frozen (o + 7)
    have f8 := hcb.frozen (o + 8)
    have f9 := hcb.frozen (o + 9)
    have hi2 : (i : Int) < n := by omega
    have hi0 : (0 : Int) ≤ i := by omega
    rw [Nat.add_zero] at z0
    clear hf hy hrc hcb
    unfold idxV
    simp only
    go_wp2_with fail
    go_ret
    obtain ⟨cs', h1, h2⟩ := ConAt.copy HCB.out y c.name
    exact .done HE.out h1 h2 (HH.out.none_.and_ (Keeps.set11 _ b o _ _ _ _ _ _ _ _ _ _ _) (fun _ _ h => h))
end Go.Proofs.YtfpajgmdejlaeaaGreatDoor

/-
  conf: retry.
-/
namespace Go.Proofs.YtfpajgmdejlaeaaGreatDoor
open Go.RowKit

theorem tickV_some {s : ByteArray} (h : tickB s.data.toList = true) : tickV s.data.toList = .tuple #[.int .i64 (tk s), .int .i64 0] := by unfold tickV tk; rw [if_pos h]
theorem tickV_none {s : ByteArray} (h : tickB s.data.toList = false) : tickV s.data.toList = .tuple #[.int .i64 0, .int .i64 3] := by unfold tickV; rw [if_neg (by rw [h]; simp)]
theorem tk_bound {s : ByteArray} (h : tickB s.data.toList = true) : 0 ≤ tk s ∧ tk s ≤ 1099511627776 := tick_bound h
/-- what the local row holds behind so many -/
def tkAt (as_ : List ByteArray) (i k : Nat) : Int := if k < i then tk (as_.getD k ⟨#[]⟩) else 0
theorem ConAt.keepsC {w w3 wr : World} {T : TypeId} {b o q : Nat} {x : Con} {cs : Array Value} (h : ConAt w T b o x cs) (k : Keeps (fun _ => False) w w3) (k2 : Keeps (fun j => j = q) w3 wr) (hq : b ≠ q) : ConAt wr T b o x cs := ⟨(h.1.keeps k id).keeps k2 hq, h.2⟩
theorem three_of : ∀ {l : List ByteArray}, l.length = 3 → ∃ a b c, l = [a, b, c]
  | [a, b, c], _ => ⟨a, b, c, rfl⟩
set_option maxRecDepth 100000 in
set_option maxHeartbeats 1000000 in
theorem retry_any (w : World) (S : Nat → Prop) (x : Nd) (r : NdV) (hM : NdM w S x r) (hsz : ∀ s ∈ argsN x, s.size ≤ 4611686018427387904)
    (T : TypeId) (b o : Nat) (c : Con) (cs : Array Value) (hC : ConAt w T b o c cs) :
    Calls Tryz.prog 129 #[.agg (ndR r).toArray, .pointer (some ⟨b, o, none⟩)] w (SetPost (retryS c x) (lineN x) (keyN x) w T b o cs) := by
  obtain ⟨key, as_, bl, sub, line⟩ := x
  rw [NdM] at hM
  obtain ⟨hk1, hb1, hl1, ⟨ha1, -, -, -⟩, -⟩ := hM
  simp only [argsN] at hsz
  simp only [lineN, keyN]
  have hal := ha1.1
  obtain ⟨O, hO⟩ : ∃ O, O = retryS c (.mk key as_ bl sub line) := ⟨_, rfl⟩
  rw [← hO]
  unfold retryS at hO
  simp only [argsN] at hO
  have hFM := fun W => form_any W r 3 false (by omega)
  have HW3 := Lib.hid (fun W => wrong_any W 3 r (by decide))
  have HW2 := Lib.hid (fun W => wrong_any W 2 r (by decide))
  obtain ⟨rk, ra, rn, rc, rb, rla, rln, rlc, rli⟩ := r
  simp only at hk1 hb1 hl1 ha1 hal hFM
  subst hk1 hb1 hl1
  have HF := Lib.hid hFM
  have HAL := Lib.hid hal
  have hblk := hC.1.lt
  have HC := Lib.hid hC
  have HA := Lib.hid ha1
  have HSZ := Lib.hid hsz
  simp only [ndR] at HW3 HW2 HF ⊢
  obtain ⟨wa, hwa⟩ : ∃ wa, wa = w.alloc (.cells #[.string rk, .slice ra rn rc, .bool rb, .slice rla rln rlc, .int .i64 rli] 60) := ⟨_, rfl⟩
  have hka : Keeps (fun _ => False) w wa := by rw [hwa]; exact (Keeps.refl _ _).alloc _
  have hN : Blk wa w.heap.size 60 #[.string rk, .slice ra rn rc, .bool rb, .slice rla rln rlc, .int .i64 rli] := by rw [hwa]; exact Blk.new _ _ _
  have HWA := Lib.hid hwa
  have HKA := Lib.hid hka
  have HN := Lib.hid hN
  obtain ⟨⟨x0, x1, x2, x3, x4⟩, -⟩ := hN.all5
  have hsa := hka.size
  by_cases hfm : rn = 3 ∧ rb = false
  · rw [if_pos (formP_true (x := .mk rk as_ rb sub rli) ⟨by rw [show argsN (.mk rk as_ rb sub rli) = as_ from rfl, hal]; exact hfm.1, hfm.2⟩)] at hO
    have HFM := Lib.hid hfm
    obtain ⟨s0, s1, s2, hs⟩ := three_of (hal.trans hfm.1)
    obtain ⟨h3, -⟩ := hfm
    subst hs h3
    simp only [argN, argsN, List.getD_cons_zero, List.getD_cons_succ] at hO
    have HO := Lib.hid hO
    clear hO hwa hka hN hC ha1 hsz hFM hal
    go_enter Tryz.func129, Tryz.ntmps129
    go_wp2_with fail
    rw [← HWA.out]
    refine (HF.out _).mono ?_
    rintro e w2 ⟨hgood, -, k2⟩
    obtain rfl := hgood HFM.out
    have HK2 := Lib.hid (HKA.out.trans k2)
    have HN2 := Lib.hid (HN.out.keeps k2 id)
    obtain ⟨⟨x0, x1, x2, x3, x4⟩, -⟩ := HN2.out.all5
    have hs2 := k2.size
    clear hgood k2
    go_upto_region 5 with (fail)
    obtain ⟨w3, hw3⟩ : ∃ w3, w3 = w2.alloc (.cells #[.int .i64 0, .int .i64 0, .int .i64 0] 223) := ⟨_, rfl⟩
    have k3 : Keeps (fun _ => False) w2 w3 := by rw [hw3]; exact (Keeps.refl _ _).alloc _
    have hL : Blk w3 w2.heap.size 223 #[.int .i64 0, .int .i64 0, .int .i64 0] := by rw [hw3]; exact Blk.new _ _ _
    have HL := Lib.hid hL
    have HK3 := Lib.hid (HK2.out.trans k3)
    have hN3 := HN2.out.keeps k3 id
    obtain ⟨⟨x0, x1, x2, x3, x4⟩, -⟩ := hN3.all5
    have HN3 := Lib.hid hN3
    have hs3 := k3.size
    obtain ⟨ab, ao, rfl, hab, hac⟩ := slat_one HA.out (i := 0) rfl
    have HA3 := Lib.hid (HA.out.keeps HK3.out (fun _ _ => id))
    obtain ⟨q, hq⟩ : ∃ q, q = w2.heap.size := ⟨_, rfl⟩
    rw [← hq] at HL ⊢
    have hqw : w.heap.size < q := by rw [hq]; have := HN2.out.lt; omega
    rw [← hw3]
    clear hw3 k3 hL hN3 hac hq
    go_wp2_with fail
    go_loopw [19] (fun u wr => ∃ i : Nat, u = .int .i64 i ∧ i ≤ 3 ∧ Hid (Blk wr q 223 #[.int .i64 (tkAt [s0, s1, s2] i 0), .int .i64 (tkAt [s0, s1, s2] i 1), .int .i64 (tkAt [s0, s1, s2] i 2)] ∧ (∀ y ∈ [s0, s1, s2].take i, tickB y.data.toList = true) ∧ Keeps (fun j => j = q) w3 wr)) (fun u _ => 3 - (intOf u).toNat)
    case atStart => exact ⟨0, rfl, by omega, Lib.hid ⟨HL.out, by simp, Keeps.refl _ _⟩⟩
    case round =>
      obtain ⟨i, rfl, hi, HI⟩ := hrel
      rename World => wr
      obtain ⟨hB, hT, hK⟩ := HI.out
      have HB := Lib.hid hB
      have HK := Lib.hid hK
      have HT := Lib.hid hT
      have hNr := HN3.out.keeps hK (by omega)
      obtain ⟨⟨x0, x1, x2, x3, x4⟩, -⟩ := hNr.all5
      have HCr := Lib.hid (ConAt.keepsC HC.out (HK3.out) hK (by omega))
      by_cases hlt : i < 3
      · obtain ⟨s, hsi⟩ : ∃ s, [s0, s1, s2][i]? = some s := ⟨_, List.getElem?_eq_getElem (by simpa using hlt)⟩
        obtain ⟨ab', ao', e, hab', y0⟩ := slat_one HA3.out hsi
        injection e with e
        injection e with e1 e2
        subst e1 e2
        have y1 := (World.cell?_of_block (w := w3) (hK.block ab hab' (by omega))).trans y0
        have hD := fun W => dread_any W s (HSZ.out s (List.mem_of_getElem? hsi))
        have c0 := hB.cell i
        have f0 := hB.frozen i
        have HSI := Lib.hid hsi
        clear hB hT hK y0 hNr hsi
        cases ht : tickB s.data.toList with
        | false =>
          rw [tickV_none ht] at hD
          have HD := Lib.hid hD
          have HE : Hid (O = .inl 3) := Lib.hid (by
            rw [HO.out]
            have : ([s0, s1, s2].all fun s => tickB s.data.toList) = false := by rw [List.all_eq_false]; exact ⟨s, List.mem_of_getElem? HSI.out, by rw [ht]; simp⟩
            rw [this]; rfl)
          clear hD ht
          go_wp2_with fail
          refine (HD.out _).mono ?_
          rintro e w5 ⟨rfl, rfl⟩
          go_wp2_with fail
          refine (HW3.out _).mono ?_
          rintro e w6 ⟨⟨v, rfl, hc⟩, k6⟩
          have HCh := Lib.hid hc
          clear hc
          go_wp2_with fail
          go_ret
          exact .bad HE.out ⟨_, rfl, HCh.out⟩ ((HK3.out.and_ HK.out (fun j hj e => by omega)).trans k6).none_
        | true =>
          rw [tickV_some ht] at hD
          have HD := Lib.hid hD
          have HTN : Hid (∀ y ∈ [s0, s1, s2].take (i + 1), tickB y.data.toList = true) := Lib.hid (fun y hy => by
            rw [List.take_add_one, HSI.out] at hy
            rcases List.mem_append.1 hy with hy | hy
            · exact HT.out y hy
            · rw [Option.toList_some, List.mem_singleton] at hy; subst hy; exact ht)
          have hi3 : i = 0 ∨ i = 1 ∨ i = 2 := by omega
          clear hD ht c0 f0
          rcases hi3 with rfl | rfl | rfl
          all_goals
            obtain rfl := Option.some.inj HSI.out
            have c0 := HB.out.cell 0
            have c1 := HB.out.cell 1
            have c2 := HB.out.cell 2
            have f0 := HB.out.frozen 0
            have f1 := HB.out.frozen 1
            have f2 := HB.out.frozen 2
            simp only [List.getElem?_toArray, List.getElem?_cons_zero, List.getElem?_cons_succ] at c0 c1 c2
            try simp only [Nat.add_zero] at y1
            go_wp2_with fail
            refine (HD.out _).mono ?_
            rintro e w5 ⟨rfl, rfl⟩
            go_wp2_with fail
            go_roundw
            case measure => simp [intOf]
          case rel => exact ⟨1, by go_num, by omega, Lib.hid ⟨HB.out.set_ 0 (.int .i64 (tk s0)), HTN.out, HK.out.setCell (p := ⟨q, 0, none⟩) (fun _ => rfl) _⟩⟩
          case rel => exact ⟨2, by go_num, by omega, Lib.hid ⟨HB.out.set_ 1 (.int .i64 (tk s1)), HTN.out, HK.out.setCell (p := ⟨q, 1, none⟩) (fun _ => rfl) _⟩⟩
          case rel => exact ⟨3, by go_num, by omega, Lib.hid ⟨HB.out.set_ 2 (.int .i64 (tk s2)), HTN.out, HK.out.setCell (p := ⟨q, 2, none⟩) (fun _ => rfl) _⟩⟩
      · have hi3 : i = 3 := by omega
        subst hi3
        have ht0 := hT s0 (by simp)
        have ht1 := hT s1 (by simp)
        have ht2 := hT s2 (by simp)
        obtain ⟨b0, b0'⟩ := tk_bound ht0
        obtain ⟨b1, b1'⟩ := tk_bound ht1
        obtain ⟨b2, b2'⟩ := tk_bound ht2
        have HAL3 : Hid (([s0, s1, s2].all fun s => tickB s.data.toList) = true) := Lib.hid (by simp [ht0, ht1, ht2])
        have c0 : wr.cell? ⟨q, 0, none⟩ = some (.int .i64 (tk s0)) := hB.cell 0
        have c1 : wr.cell? ⟨q, 1, none⟩ = some (.int .i64 (tk s1)) := hB.cell 1
        have c2 : wr.cell? ⟨q, 2, none⟩ = some (.int .i64 (tk s2)) := hB.cell 2
        obtain ⟨t0, ht0⟩ : ∃ t0, t0 = tk s0 := ⟨_, rfl⟩
        obtain ⟨t1, ht1⟩ : ∃ t1, t1 = tk s1 := ⟨_, rfl⟩
        obtain ⟨t2, ht2⟩ : ∃ t2, t2 = tk s2 := ⟨_, rfl⟩
        rw [← ht0] at c0 b0 b0'
        rw [← ht1] at c1 b1 b1'
        rw [← ht2] at c2 b2 b2'
        have HO2 : Hid (O = if t0 < 1 ∨ 3600 < t0 ∨ t1 < t0 ∨ 86400 < t1 ∨ 3600 < t2 then .inl 2 else .inr { c with base := t0, cap := t1, jitter := t2 }) := Lib.hid (by rw [HO.out, if_pos HAL3.out, ht0, ht1, ht2])
        have HK4 := Lib.hid (HK3.out.and_ hK (fun j hj e => by omega))
        clear hB hT hK hNr ht0 ht1 ht2
        by_cases hbad : t0 < 1 ∨ 3600 < t0 ∨ t1 < t0 ∨ 86400 < t1 ∨ 3600 < t2
        · have HE : Hid (O = .inl 2) := Lib.hid (by rw [HO2.out, if_pos hbad])
          have HBAD := Lib.hid hbad
          clear hbad
          go_wp2_with fail
          all_goals first
            | (refine (HW2.out _).mono ?_
               rintro e w6 ⟨⟨v, rfl, hc⟩, k6⟩
               have HCh := Lib.hid hc
               clear hc
               go_wp2_with fail
               go_ret
               exact .bad HE.out ⟨_, rfl, HCh.out⟩ (HK4.out.trans k6).none_)
            | (exfalso; have := HBAD.out; omega)
        · have HE : Hid (O = .inr { c with base := t0, cap := t1, jitter := t2 }) := Lib.hid (by rw [HO2.out, if_neg hbad])
          have n1 : ¬ t0 < 1 := fun h => hbad (.inl h)
          have n2 : ¬ 3600 < t0 := fun h => hbad (.inr (.inl h))
          have n3 : ¬ t1 < t0 := fun h => hbad (.inr (.inr (.inl h)))
          have n4 : ¬ 86400 < t1 := fun h => hbad (.inr (.inr (.inr (.inl h))))
          have n5 : ¬ 3600 < t2 := fun h => hbad (.inr (.inr (.inr (.inr h))))
          have hcb := HCr.out
          have z6 := ConAt.cell hcb (k := 6) rfl
          have z7 := ConAt.cell hcb (k := 7) rfl
          have z8 := ConAt.cell hcb (k := 8) rfl
          have f6 := hcb.1.frozen (o + 6)
          have f7 := hcb.1.frozen (o + 7)
          have f8 := hcb.1.frozen (o + 8)
          clear hbad hcb
          go_wp2_with fail
          go_region
          all_goals
            go_wp2_with fail
            go_ret
            have h6 := ConAt.set_ (y := { c with base := t0 }) HCr.out 6 (.int .i64 t0) rfl (by omega)
            have h7 := h6.set_ (y := { c with base := t0, cap := t1 }) 7 (.int .i64 t1) rfl (by omega)
            have h8 := h7.set_ (y := { c with base := t0, cap := t1, jitter := t2 }) 8 (.int .i64 t2) rfl (by omega)
            exact .done HE.out ⟨h8.1.drew, h8.2⟩ ((((Beside.refl cs o).set_ (k := 6) (by omega) _).set_ (k := 7) (by omega) _).set_ (k := 8) (by omega) _) (((HK4.out.none_.and_ (Keeps.set1 _ b (o + 6) _) (fun _ _ h => h)).and_ (Keeps.set1 _ b (o + 7) _) (fun _ _ h => h)).and_ (Keeps.set1 _ b (o + 8) _) (fun _ _ h => h)).drew
  · rw [if_neg (by rw [formP_false (x := .mk rk as_ rb sub rli) (fun h => hfm ⟨by rw [← hal]; exact h.1, h.2⟩)]; simp)] at hO
    have HE := Lib.hid hO
    have HFM := Lib.hid hfm
    clear hO hwa hka hN hC ha1 hsz hfm hFM hal
    go_enter Tryz.func129, Tryz.ntmps129
    go_wp2_with fail
    rw [← HWA.out]
    refine (HF.out _).mono ?_
    rintro e w2 ⟨-, hbad, k2⟩
    obtain ⟨v, rfl, hc⟩ := hbad HFM.out
    obtain ⟨ty, vx, rfl⟩ := hc.form
    have HCh := Lib.hid hc
    have HK2 := Lib.hid (HKA.out.trans k2)
    clear hbad k2 hc
    go_wp2_with fail
    go_ret
    exact .bad HE.out ⟨_, rfl, HCh.out⟩ HK2.out.none_
end Go.Proofs.YtfpajgmdejlaeaaGreatDoor

/-
  conf: word, set.
-/
namespace Go.Proofs.YtfpajgmdejlaeaaGreatDoor
open Go.RowKit

/-- the consoles that a loader at g has so far -/
structure LdCons (w : World) (g : Nat) (a : Option Addr) (n cc : Nat) (gv uv av : Value) (b0 b1 b2 b3 b4 b5 b6 b7 b8 b9 : ByteArray) (l : List Con) : Prop where
  sl : SlAt conR 10 w a n l
  hn : n ≤ 4611686018427387904
  lt : g < w.heap.size
  cs : ∀ k v, (cfL (.slice a n cc) gv uv av b0 b1 b2 b3 b4 b5 b6 b7 b8 b9)[k]? = some v → w.cell? ⟨g, k, none⟩ = some v
theorem LdCons.same {w w' : World} {g : Nat} {a : Option Addr} {n cc : Nat} {gv uv av : Value} {b0 b1 b2 b3 b4 b5 b6 b7 b8 b9 : ByteArray} {l : List Con} (h : LdCons w g a n cc gv uv av b0 b1 b2 b3 b4 b5 b6 b7 b8 b9 l) (k : Keeps (fun _ => False) w w') : LdCons w' g a n cc gv uv av b0 b1 b2 b3 b4 b5 b6 b7 b8 b9 l :=
  ⟨h.sl.keeps k (fun _ _ => id), h.hn, Nat.lt_of_lt_of_le h.lt k.size, fun j v hv => (World.cell?_of_block (w := w) (k.block g h.lt id)).trans (h.cs j v hv)⟩
theorem wordS_bad {cs : List Con} {c : Con} {x : Nd} (h : formP x 1 false = false) : wordS cs c x = .inl 3 := by unfold wordS; rw [h]; rfl
theorem wordS_kind {cs : List Con} {c : Con} {x : Nd} (h : formP x 1 false = true) (hk : keyN x = kKind) : wordS cs c x = (match idx (fun s => decide (s = argN x 0)) kinds15 with | none => .inl 3 | some k => .inr { c with kind := k + 1 }) := by unfold wordS; rw [if_pos h, if_pos hk]; rfl
theorem wordS_init {cs : List Con} {c : Con} {x : Nd} (h : formP x 1 false = true) (hk : keyN x = kInit) : wordS cs c x = (if (brkP (argN x 0).data.toList).1 ≠ 0 then .inl (brkP (argN x 0).data.toList).1 else .inr { c with init := argN x 0 }) := by
  unfold wordS; rw [if_pos h, if_neg (by rw [hk]; decide), if_pos hk]
theorem wordS_like {cs : List Con} {c : Con} {x : Nd} (h : formP x 1 false = true) (hk : keyN x = kLike) : wordS cs c x = likeS cs c x := by
  unfold wordS; rw [if_pos h, if_neg (by rw [hk]; decide), if_neg (by rw [hk]; decide)]; rfl
theorem one_of : ∀ {l : List ByteArray}, l.length = 1 → ∃ a, l = [a]
  | [a], _ => ⟨a, rfl⟩
set_option maxRecDepth 100000 in
set_option maxHeartbeats 1000000 in
theorem cword_any (w : World) (S : Nat → Prop) (x : Nd) (r : NdV) (hM : NdM w S x r) (hsz : ∀ s ∈ argsN x, s.size ≤ 1073741824)
    (T : TypeId) (b o : Nat) (c : Con) (cs : Array Value) (hC : ConAt w T b o c cs)
    (g : Nat) (a : Option Addr) (n cc : Nat) (gv uv av : Value) (b0 b1 b2 b3 b4 b5 b6 b7 b8 b9 : ByteArray) (l : List Con) (hL : LdCons w g a n cc gv uv av b0 b1 b2 b3 b4 b5 b6 b7 b8 b9 l)
    (hkey : keyN x = kKind ∨ keyN x = kInit ∨ keyN x = kLike) :
    Calls Tryz.prog 130 #[.pointer (some ⟨g, 0, none⟩), .agg (ndR r).toArray, .pointer (some ⟨b, o, none⟩)] w (SetPost (wordS l c x) (lineN x) (keyN x) w T b o cs) := by
  have HMX := Lib.hid hM
  have HXX : Hid (∃ y, y = x) := Lib.hid ⟨x, rfl⟩
  have hMk := hM
  obtain ⟨O, hO⟩ : ∃ O, O = wordS l c x := ⟨_, rfl⟩
  rw [← hO]
  have HO := Lib.hid hO
  clear hO
  obtain ⟨key, as_, bl, sub, line⟩ := x
  rw [NdM] at hM
  obtain ⟨hk1, hb1, hl1, ⟨ha1, -, -, -⟩, -⟩ := hM
  simp only [argsN] at hsz
  simp only [lineN, keyN]
  have hal := ha1.1
  have hFM := fun W => form_any W r 1 false (by omega)
  have HW3 := Lib.hid (fun W => wrong_any W 3 r (by decide))
  have HWC := Lib.hid (fun W c hc => wrong_any W c r hc)
  have HLK : Hid (∀ W, Keeps (fun _ => False) w W → ∀ s, as_ = [s] → Calls Tryz.prog 147 #[.pointer (some ⟨g, 0, none⟩), .agg (ndR r).toArray, .pointer (some ⟨b, o, none⟩)] W (SetPost (likeS l c (.mk key as_ bl sub line)) line key W T b o cs)) := Lib.hid (fun W k s hs =>
    like_any W S _ r (NdM.keeps k (fun _ _ _ => id) _ _ hMk) s hs T b o c cs ⟨hC.1.keeps k id, hC.2⟩ g a n cc gv uv av b0 b1 b2 b3 b4 b5 b6 b7 b8 b9 l (hL.same k).sl hL.hn (hL.same k).lt (hL.same k).cs)
  obtain ⟨rk, ra, rn, rc, rb, rla, rln, rlc, rli⟩ := r
  simp only at hk1 hb1 hl1 ha1 hal hFM
  subst hk1 hb1 hl1
  have HF := Lib.hid hFM
  have hblk := hC.1.lt
  have HC := Lib.hid hC
  simp only [ndR] at HW3 HWC HF HLK ⊢
  obtain ⟨wa, hwa⟩ : ∃ wa, wa = w.alloc (.cells #[.string rk, .slice ra rn rc, .bool rb, .slice rla rln rlc, .int .i64 rli] 60) := ⟨_, rfl⟩
  have hka : Keeps (fun _ => False) w wa := by rw [hwa]; exact (Keeps.refl _ _).alloc _
  have hN : Blk wa w.heap.size 60 #[.string rk, .slice ra rn rc, .bool rb, .slice rla rln rlc, .int .i64 rli] := by rw [hwa]; exact Blk.new _ _ _
  have HWA := Lib.hid hwa
  have HKA := Lib.hid hka
  have HN := Lib.hid hN
  obtain ⟨⟨x0, x1, x2, x3, x4⟩, -⟩ := hN.all5
  have hsa := hka.size
  by_cases hfm : rn = 1 ∧ rb = false
  · have hfp : formP (.mk rk as_ rb sub rli) 1 false = true := formP_true (x := .mk rk as_ rb sub rli) ⟨by rw [show argsN (.mk rk as_ rb sub rli) = as_ from rfl, hal]; exact hfm.1, hfm.2⟩
    have HFM := Lib.hid hfm
    have HFP := Lib.hid hfp
    obtain ⟨s, hs⟩ := one_of (hal.trans hfm.1)
    obtain ⟨h1, h2⟩ := hfm
    subst hs h1
    obtain ⟨ab, ao, rfl, hab, hac⟩ := slat_one ha1 (i := 0) rfl
    rw [Nat.add_zero] at hac
    have hss := hsz s (by simp)
    have HAC := Lib.hid (fun W (k : Keeps (fun _ => False) w W) => (World.cell?_of_block (w := w) (k.block ab hab id)).trans hac)
    simp only [keyN] at hkey
    clear hwa hka hN hC ha1 hsz hFM hal hfp hMk hL hac h2
    rcases hkey with hkey | hkey | hkey
    · have HO2 := Lib.hid (HO.out.trans (wordS_kind HFP.out hkey))
      obtain rfl := hkey
      unfold kKind at *
      go_enter Tryz.func130, Tryz.ntmps130
      go_wp2_with fail
      rw [← HWA.out]
      refine (HF.out _).mono ?_
      rintro e w2 ⟨hgood, -, k2⟩
      obtain rfl := hgood HFM.out
      have HK2 := Lib.hid (HKA.out.trans k2)
      have HN2 := Lib.hid (HN.out.keeps k2 id)
      obtain ⟨⟨x0, x1, x2, x3, x4⟩, -⟩ := HN2.out.all5
      clear hgood k2
      go_upto_region 6 with (fail)
      have HFA : Hid (∀ W, Keeps (fun _ => False) w2 W → (W.cell? ⟨w.heap.size, 1, none⟩ = some (.slice (some ⟨ab, ao, none⟩) 1 rc) ∧ W.cell? ⟨ab, ao, none⟩ = some (.string s))) := Lib.hid (fun W k => ⟨(HN2.out.keeps k id).all5.1.2.1, HAC.out _ (HK2.out.trans k)⟩)
      go_region_held3 (fun W => (W.cell? ⟨w.heap.size, 1, none⟩ = some (.slice (some ⟨ab, ao, none⟩) 1 rc) ∧ W.cell? ⟨ab, ao, none⟩ = some (.string s)) ∧ Keeps (fun _ => False) w2 W)
        ((refine both15 (HFA.out _) ?_; first | exact (Keeps.refl _ _).drew | exact kk))
        (first
          | (go_at_call 58; rename_i hh _ _; have hk := hh.2; refine (kinds_any _).mono ?_; rintro e w3 ⟨⟨kb, rfl, hkb⟩, k3⟩; have kk := hk.trans k3)
          | (go_at_call 90; rename_i hh _ _; have hk := hh.2; refine (sindex_any _ _ _ _ kinds15 s hkb (by omega)).mono ?_; rintro e w4 ⟨rfl, k4⟩; have kk := hk.trans k4))
      rename_i hh
      have HK4 := Lib.hid (HK2.out.trans hh.2)
      have HN4 := Lib.hid (HN2.out.keeps hh.2 id)
      have hsz4 := HK4.out.size
      obtain ⟨⟨x0, x1, x2, x3, x4⟩, -⟩ := HN4.out.all5
      clear hh hkb
      have HO3 : Hid (O = (match idx (fun x => decide (x = s)) kinds15 with | none => .inl 3 | some k => .inr { c with kind := k + 1 })) := Lib.hid HO2.out
      cases hix : idx (fun x => decide (x = s)) kinds15 with
      | none =>
        have HE : Hid (O = .inl 3) := Lib.hid (by rw [HO3.out, hix])
        clear hix
        unfold idxV
        simp only
        go_wp2_with fail
        refine (HW3.out _).mono ?_
        rintro e w6 ⟨⟨v, rfl, hc⟩, k6⟩
        have HCh := Lib.hid hc
        clear hc
        go_wp2_with fail
        go_ret
        exact .bad HE.out ⟨_, rfl, HCh.out⟩ (HK4.out.trans k6).none_
      | some k =>
        have HE : Hid (O = .inr { c with kind := (k : Int) + 1 }) := Lib.hid (by rw [HO3.out, hix])
        have hk2 : k < 2 := by obtain ⟨⟨y, hy, -⟩, -⟩ := idx_some hix; exact (List.getElem?_eq_some_iff.1 hy).1
        have hwr : IntKind.i64.wrap ((k : Int) + 1) = (k : Int) + 1 := IntWalk.i64_in _ (by omega)
        have hcb : ConAt _ T b o c cs := ⟨HC.out.1.keeps HK4.out id, HC.out.2⟩
        have HCB := Lib.hid hcb
        have z1 := ConAt.cell hcb (k := 1) rfl
        have f1 := hcb.1.frozen (o + 1)
        have hk0 : ¬ ((k : Int) < 0) := by omega
        clear hix hcb
        unfold idxV
        simp only
        go_wp2_with fail
        go_ret
        exact .done HE.out (ConAt.set_ HCB.out 1 (.int .i64 ((k : Int) + 1)) rfl (by omega)) ((Beside.refl cs o).set_ (k := 1) (by omega) _) (HK4.out.none_.and_ (Keeps.set1 _ b (o + 1) _) (fun _ _ h => h))
    · have HO2 := Lib.hid (HO.out.trans (wordS_init HFP.out hkey))
      obtain rfl := hkey
      unfold kInit at *
      have HBR := Lib.hid (fun W => bread_any W s hss)
      go_enter Tryz.func130, Tryz.ntmps130
      go_wp2_with fail
      rw [← HWA.out]
      refine (HF.out _).mono ?_
      rintro e w2 ⟨hgood, -, k2⟩
      obtain rfl := hgood HFM.out
      have HK2 := Lib.hid (HKA.out.trans k2)
      have HN2 := Lib.hid (HN.out.keeps k2 id)
      obtain ⟨⟨x0, x1, x2, x3, x4⟩, -⟩ := HN2.out.all5
      have y0 := HAC.out _ HK2.out
      clear hgood k2
      obtain ⟨Q, hQ⟩ : ∃ Q, Q = brkP s.data.toList := ⟨_, rfl⟩
      have HO3 : Hid (O = if Q.1 ≠ 0 then .inl Q.1 else .inr { c with init := s }) := Lib.hid (by rw [hQ]; exact HO2.out)
      rw [← hQ] at HBR
      obtain ⟨qc, ql⟩ := Q
      simp only at HO3
      clear hQ
      go_wp2_with fail
      refine (HBR.out _).mono ?_
      rintro e w3 ⟨⟨v3, rfl, -⟩, k3⟩
      have HK3 := Lib.hid (HK2.out.trans k3)
      have HN3 := Lib.hid (HN2.out.keeps k3 id)
      obtain ⟨⟨x0, x1, x2, x3, x4⟩, -⟩ := HN3.out.all5
      have y0 := HAC.out _ HK3.out
      have hcb : ConAt _ T b o c cs := ⟨HC.out.1.keeps HK3.out id, HC.out.2⟩
      have HCB := Lib.hid hcb
      have z9 := ConAt.cell hcb (k := 9) rfl
      have f9 := hcb.1.frozen (o + 9)
      clear k3 hcb
      by_cases hq0 : qc = 0
      · have HE : Hid (O = .inr { c with init := s }) := Lib.hid (by rw [HO3.out, if_neg (by simp [hq0])])
        subst hq0
        go_wp2_with fail
        go_ret
        exact .done HE.out (ConAt.set_ HCB.out 9 (.string s) rfl (by omega)) ((Beside.refl cs o).set_ (k := 9) (by omega) _) (HK3.out.none_.and_ (Keeps.set1 _ b (o + 9) _) (fun _ _ h => h))
      · have HE : Hid (O = .inl qc) := Lib.hid (by rw [HO3.out, if_pos hq0])
        have hb0 : (qc != 0) = true := by rw [bne_iff_ne]; exact hq0
        have HQ0 := Lib.hid hq0
        clear hq0
        go_wp2_with fail
        refine (HWC.out _ qc HQ0.out).mono ?_
        rintro e w6 ⟨⟨v, rfl, hc⟩, k6⟩
        have HCh := Lib.hid hc
        clear hc
        go_wp2_with fail
        go_ret
        exact .bad HE.out ⟨_, rfl, HCh.out⟩ (HK3.out.trans k6).none_
    · have HO2 := Lib.hid (HO.out.trans (wordS_like HFP.out hkey))
      obtain rfl := hkey
      unfold kLike at *
      go_enter Tryz.func130, Tryz.ntmps130
      go_wp2_with fail
      rw [← HWA.out]
      refine (HF.out _).mono ?_
      rintro e w2 ⟨hgood, -, k2⟩
      obtain rfl := hgood HFM.out
      have HK2 := Lib.hid (HKA.out.trans k2)
      have HN2 := Lib.hid (HN.out.keeps k2 id)
      obtain ⟨⟨x0, x1, x2, x3, x4⟩, -⟩ := HN2.out.all5
      clear hgood k2
      go_wp2_with fail
      refine (HLK.out _ HK2.out s rfl).mono ?_
      rintro e w3 ⟨hok, hbad, k3⟩
      have HK3 := Lib.hid (HK2.out.none_.and_ k3 (fun _ _ h => h))
      clear k3
      rw [← HO2.out] at hok hbad
      cases O with
      | inl c1 =>
        obtain ⟨v, rfl, hc⟩ := hbad _ rfl
        have HCh := Lib.hid hc
        clear hok hbad hc
        go_wp2_with fail
        go_ret
        exact .bad rfl ⟨_, rfl, HCh.out⟩ HK3.out
      | inr y =>
        obtain ⟨rfl, cs', hc, hb⟩ := hok _ rfl
        have HCh := Lib.hid (And.intro hc hb)
        clear hok hbad hc hb
        go_wp2_with fail
        go_ret
        exact .done rfl HCh.out.1 HCh.out.2 HK3.out
  · have HE := Lib.hid (HO.out.trans (wordS_bad (formP_false (x := .mk rk as_ rb sub rli) (fun h => hfm ⟨by rw [← hal]; exact h.1, h.2⟩))))
    have HFM := Lib.hid hfm
    clear hwa hka hN hC ha1 hsz hfm hFM hal hMk hL hkey
    go_enter Tryz.func130, Tryz.ntmps130
    go_wp2_with fail
    rw [← HWA.out]
    refine (HF.out _).mono ?_
    rintro e w2 ⟨-, hbad, k2⟩
    obtain ⟨v, rfl, hc⟩ := hbad HFM.out
    obtain ⟨ty, vx, rfl⟩ := hc.form
    have HCh := Lib.hid hc
    have HK2 := Lib.hid (HKA.out.trans k2)
    clear hbad k2 hc
    go_wp2_with fail
    go_ret
    exact .bad HE.out ⟨_, rfl, HCh.out⟩ HK2.out.none_
end Go.Proofs.YtfpajgmdejlaeaaGreatDoor

/-
  conf: set, settings.
-/
namespace Go.Proofs.YtfpajgmdejlaeaaGreatDoor
open Go.RowKit

theorem setS_else {cs : List Con} {c : Con} {x : Nd} (h : ∀ k ∈ [kLines, kBytes, kGens, kSize, kRetry, kKind, kInit, kLike], keyN x ≠ k) : setS cs c x = .inl 3 := by
  simp only [List.mem_cons, List.not_mem_nil, or_false, forall_eq_or_imp, forall_eq] at h
  obtain ⟨h1, h2, h3, h4, h5, h6, h7, h8⟩ := h
  unfold setS
  rw [if_neg h1, if_neg h2, if_neg h3, if_neg h4, if_neg h5, if_neg (by simp [h6, h7, h8])]
theorem setS_word {cs : List Con} {c : Con} {x : Nd} (h : keyN x = kKind ∨ keyN x = kInit ∨ keyN x = kLike) : setS cs c x = wordS cs c x := by
  have ne : ∀ k, k = kLines ∨ k = kBytes ∨ k = kGens ∨ k = kSize ∨ k = kRetry → ¬ keyN x = k := by
    intro k hk e
    rw [e] at h
    rcases hk with rfl | rfl | rfl | rfl | rfl <;> revert h <;> decide
  unfold setS
  rw [if_neg (ne _ (by simp)), if_neg (ne _ (by simp)), if_neg (ne _ (by simp)), if_neg (ne _ (by simp)), if_neg (ne _ (by simp)), if_pos h]
theorem setS_lines {cs : List Con} {c : Con} {x : Nd} (h : keyN x = kLines) : setS cs c x = oneS x 1 1024 (fun v => { c with lines := v }) := by unfold setS; rw [if_pos h]
theorem setS_bytes {cs : List Con} {c : Con} {x : Nd} (h : keyN x = kBytes) : setS cs c x = oneS x 1 65536 (fun v => { c with bytes := v }) := by unfold setS; rw [if_neg (by rw [h]; decide)]; rw [if_pos h]
theorem setS_gens {cs : List Con} {c : Con} {x : Nd} (h : keyN x = kGens) : setS cs c x = oneS x 1 16 (fun v => { c with gens := v }) := by unfold setS; rw [if_neg (by rw [h]; decide)]; rw [if_neg (by rw [h]; decide)]; rw [if_pos h]
theorem setS_size {cs : List Con} {c : Con} {x : Nd} (h : keyN x = kSize) : setS cs c x = oneS x 64 1048576 (fun v => { c with size := v }) := by unfold setS; rw [if_neg (by rw [h]; decide)]; rw [if_neg (by rw [h]; decide)]; rw [if_neg (by rw [h]; decide)]; rw [if_pos h]
theorem setS_retry {cs : List Con} {c : Con} {x : Nd} (h : keyN x = kRetry) : setS cs c x = retryS c x := by unfold setS; rw [if_neg (by rw [h]; decide), if_neg (by rw [h]; decide), if_neg (by rw [h]; decide), if_neg (by rw [h]; decide), if_pos h]
/-- an error, or none, is handed back -/
theorem SetPost.ret {O : Int ⊕ Con} {line : Int} {key : ByteArray} {w w' : World} {T : TypeId} {b o : Nat} {cs : Array Value} {e : Ending} (h : SetPost O line key w T b o cs e w') : ∃ v, e = .returned v ∧ SetPost O line key w T b o cs (.returned v) w' := by
  cases O with
  | inl c => obtain ⟨v, rfl, hc⟩ := h.2.1 _ rfl; exact ⟨v, rfl, h⟩
  | inr y => obtain ⟨rfl, -⟩ := h.1 _ rfl; exact ⟨_, rfl, h⟩
theorem SetPost.from_ {O O' : Int ⊕ Con} {line : Int} {key : ByteArray} {w wa w' : World} {T : TypeId} {b o : Nat} {cs : Array Value} {e : Ending} (h : SetPost O line key wa T b o cs e w') (k : Keeps (fun _ => False) w wa) (hO : O' = O) : SetPost O' line key w T b o cs e w' := by
  subst hO; exact ⟨h.1, h.2.1, k.none_.and_ h.2.2 (fun _ _ h => h)⟩
theorem lit_ne {s : ByteArray} (l : List UInt8) (h : s ≠ str l) : (s.toList == l) = false := by
  rw [beq_eq_false_iff_ne]
  intro e
  rw [ByteArray.toList_eq] at e
  exact h (ba_ext (by rw [e, str_list]))
set_option maxRecDepth 100000 in
set_option maxHeartbeats 1000000 in
theorem cset_any (w : World) (S : Nat → Prop) (x : Nd) (r : NdV) (hM : NdM w S x r) (hsz : ∀ s ∈ argsN x, s.size ≤ 1073741824)
    (T : TypeId) (b o : Nat) (c : Con) (cs : Array Value) (hC : ConAt w T b o c cs)
    (g : Nat) (a : Option Addr) (n cc : Nat) (gv uv av : Value) (b0 b1 b2 b3 b4 b5 b6 b7 b8 b9 : ByteArray) (l : List Con) (hL : LdCons w g a n cc gv uv av b0 b1 b2 b3 b4 b5 b6 b7 b8 b9 l) :
    Calls Tryz.prog 93 #[.pointer (some ⟨g, 0, none⟩), .agg (ndR r).toArray, .pointer (some ⟨b, o, none⟩)] w (SetPost (setS l c x) (lineN x) (keyN x) w T b o cs) := by
  have hkr : r.key = keyN x := by obtain ⟨_, _, _, _, _⟩ := x; rw [NdM] at hM; exact hM.1
  have hlr : r.line = lineN x := by obtain ⟨_, _, _, _, _⟩ := x; rw [NdM] at hM; exact hM.2.2.1
  have hc2 : ∀ {W}, Keeps (fun _ => False) w W → ConAt W T b o c cs := fun k => ⟨hC.1.keeps k id, hC.2⟩
  have hm2 : ∀ {W}, Keeps (fun _ => False) w W → NdM W S x r := fun k => NdM.keeps k (fun _ _ _ => id) _ _ hM
  have hsz2 : ∀ s ∈ argsN x, s.size ≤ 4611686018427387904 := fun s hs => Nat.le_trans (hsz s hs) (by omega)
  have HWR := Lib.hid (fun W => wrong_any W 3 r (by decide))
  have Hlines := Lib.hid (fun W (kk : Keeps (fun _ => False) w W) => cone_any W S x r 1 1024 (hm2 kk) hsz2 (by omega) (by omega) T b o 2 c cs (fun v => { c with lines := v }) (hc2 kk) (by omega) (fun _ => rfl) c.lines rfl)
  have Hbytes := Lib.hid (fun W (kk : Keeps (fun _ => False) w W) => cone_any W S x r 1 65536 (hm2 kk) hsz2 (by omega) (by omega) T b o 3 c cs (fun v => { c with bytes := v }) (hc2 kk) (by omega) (fun _ => rfl) c.bytes rfl)
  have Hgens := Lib.hid (fun W (kk : Keeps (fun _ => False) w W) => cone_any W S x r 1 16 (hm2 kk) hsz2 (by omega) (by omega) T b o 4 c cs (fun v => { c with gens := v }) (hc2 kk) (by omega) (fun _ => rfl) c.gens rfl)
  have Hsize := Lib.hid (fun W (kk : Keeps (fun _ => False) w W) => cone_any W S x r 64 1048576 (hm2 kk) hsz2 (by omega) (by omega) T b o 5 c cs (fun v => { c with size := v }) (hc2 kk) (by omega) (fun _ => rfl) c.size rfl)
  have Hretry := Lib.hid (fun W (kk : Keeps (fun _ => False) w W) => retry_any W S x r (hm2 kk) hsz2 T b o c cs (hc2 kk))
  have Hword := Lib.hid (fun W (kk : Keeps (fun _ => False) w W) hkey => cword_any W S x r (hm2 kk) hsz T b o c cs (hc2 kk) g a n cc gv uv av b0 b1 b2 b3 b4 b5 b6 b7 b8 b9 l (hL.same kk) hkey)
  obtain ⟨O, hO⟩ : ∃ O, O = setS l c x := ⟨_, rfl⟩
  rw [← hO]
  have HO := Lib.hid hO
  obtain ⟨X, hX⟩ : ∃ X, X = x := ⟨_, rfl⟩
  obtain ⟨rk, ra, rn, rc, rb, rla, rln, rlc, rli⟩ := r
  simp only at hkr hlr
  have HKR := Lib.hid hkr
  rw [← hkr, ← hlr] at Hlines Hbytes Hgens Hsize Hretry Hword ⊢
  simp only [ndR] at HWR Hlines Hbytes Hgens Hsize Hretry Hword ⊢
  have hblk := hC.1.lt
  obtain ⟨wa, hwa⟩ : ∃ wa, wa = w.alloc (.cells #[.string rk, .slice ra rn rc, .bool rb, .slice rla rln rlc, .int .i64 rli] 60) := ⟨_, rfl⟩
  have hka : Keeps (fun _ => False) w wa := by rw [hwa]; exact (Keeps.refl _ _).alloc _
  have hN : Blk wa w.heap.size 60 #[.string rk, .slice ra rn rc, .bool rb, .slice rla rln rlc, .int .i64 rli] := by rw [hwa]; exact Blk.new _ _ _
  have HWA := Lib.hid hwa
  have HKA := Lib.hid hka
  have HF := Lib.hid (fun W (k : Keeps (fun i => i = b) wa W) => (hN.keeps k (by omega)).all5.1)
  have hne : w.heap.size ≠ b := by omega
  obtain ⟨⟨x0, x1, x2, x3, x4⟩, -⟩ := hN.all5
  clear hO hC hL hM hc2 hm2 hsz hsz2 hkr hlr hwa hka hN
  by_cases hlines : rk = kLines
  · have HO2 := Lib.hid (HO.out.trans (setS_lines (by have := HKR.out; rw [← this]; exact hlines)))
    obtain rfl := hlines
    unfold kLines at *
    go_enter Tryz.func93, Tryz.ntmps93
    go_wp2_with fail
    rw [← HWA.out]
    go_region_held3 (fun W => W.cell? ⟨w.heap.size, 0, none⟩ = some (.string ⟨#[108, 105, 110, 101, 115]⟩) ∧ W.cell? ⟨w.heap.size, 1, none⟩ = some (.slice ra rn rc) ∧ W.cell? ⟨w.heap.size, 2, none⟩ = some (.bool rb) ∧ W.cell? ⟨w.heap.size, 3, none⟩ = some (.slice rla rln rlc) ∧ W.cell? ⟨w.heap.size, 4, none⟩ = some (.int .i64 rli))
      (first | exact HF.out _ (Keeps.refl _ _).drew | exact HF.out _ kk)
      ((go_at_call 128; refine (Hlines.out _ HKA.out.drew).mono ?_; rintro e w3 hsp; obtain ⟨v3, rfl, hsp⟩ := hsp.ret; have kk : Keeps (fun i => i = b) wa w3 := ((Keeps.refl _ _).drew).trans hsp.2.2; have HSP := Lib.hid hsp; clear hsp))
    go_wp2_with fail
    go_ret
    exact HSP.out.from_ HKA.out.drew HO2.out
  · by_cases hbytes : rk = kBytes
    · have HO2 := Lib.hid (HO.out.trans (setS_bytes (by have := HKR.out; rw [← this]; exact hbytes)))
      obtain rfl := hbytes
      unfold kBytes at *
      go_enter Tryz.func93, Tryz.ntmps93
      go_wp2_with fail
      rw [← HWA.out]
      go_region_held3 (fun W => W.cell? ⟨w.heap.size, 0, none⟩ = some (.string ⟨#[98, 121, 116, 101, 115]⟩) ∧ W.cell? ⟨w.heap.size, 1, none⟩ = some (.slice ra rn rc) ∧ W.cell? ⟨w.heap.size, 2, none⟩ = some (.bool rb) ∧ W.cell? ⟨w.heap.size, 3, none⟩ = some (.slice rla rln rlc) ∧ W.cell? ⟨w.heap.size, 4, none⟩ = some (.int .i64 rli))
        (first | exact HF.out _ (Keeps.refl _ _).drew | exact HF.out _ kk)
        ((go_at_call 128; refine (Hbytes.out _ HKA.out.drew).mono ?_; rintro e w3 hsp; obtain ⟨v3, rfl, hsp⟩ := hsp.ret; have kk : Keeps (fun i => i = b) wa w3 := ((Keeps.refl _ _).drew).trans hsp.2.2; have HSP := Lib.hid hsp; clear hsp))
      go_wp2_with fail
      go_ret
      exact HSP.out.from_ HKA.out.drew HO2.out
    · by_cases hgens : rk = kGens
      · have HO2 := Lib.hid (HO.out.trans (setS_gens (by have := HKR.out; rw [← this]; exact hgens)))
        obtain rfl := hgens
        unfold kGens at *
        go_enter Tryz.func93, Tryz.ntmps93
        go_wp2_with fail
        rw [← HWA.out]
        go_region_held3 (fun W => W.cell? ⟨w.heap.size, 0, none⟩ = some (.string ⟨#[103, 101, 110, 115]⟩) ∧ W.cell? ⟨w.heap.size, 1, none⟩ = some (.slice ra rn rc) ∧ W.cell? ⟨w.heap.size, 2, none⟩ = some (.bool rb) ∧ W.cell? ⟨w.heap.size, 3, none⟩ = some (.slice rla rln rlc) ∧ W.cell? ⟨w.heap.size, 4, none⟩ = some (.int .i64 rli))
          (first | exact HF.out _ (Keeps.refl _ _).drew | exact HF.out _ kk)
          ((go_at_call 128; refine (Hgens.out _ HKA.out.drew).mono ?_; rintro e w3 hsp; obtain ⟨v3, rfl, hsp⟩ := hsp.ret; have kk : Keeps (fun i => i = b) wa w3 := ((Keeps.refl _ _).drew).trans hsp.2.2; have HSP := Lib.hid hsp; clear hsp))
        go_wp2_with fail
        go_ret
        exact HSP.out.from_ HKA.out.drew HO2.out
      · by_cases hsize : rk = kSize
        · have HO2 := Lib.hid (HO.out.trans (setS_size (by have := HKR.out; rw [← this]; exact hsize)))
          obtain rfl := hsize
          unfold kSize at *
          go_enter Tryz.func93, Tryz.ntmps93
          go_wp2_with fail
          rw [← HWA.out]
          go_region_held3 (fun W => W.cell? ⟨w.heap.size, 0, none⟩ = some (.string ⟨#[115, 105, 122, 101]⟩) ∧ W.cell? ⟨w.heap.size, 1, none⟩ = some (.slice ra rn rc) ∧ W.cell? ⟨w.heap.size, 2, none⟩ = some (.bool rb) ∧ W.cell? ⟨w.heap.size, 3, none⟩ = some (.slice rla rln rlc) ∧ W.cell? ⟨w.heap.size, 4, none⟩ = some (.int .i64 rli))
            (first | exact HF.out _ (Keeps.refl _ _).drew | exact HF.out _ kk)
            ((go_at_call 128; refine (Hsize.out _ HKA.out.drew).mono ?_; rintro e w3 hsp; obtain ⟨v3, rfl, hsp⟩ := hsp.ret; have kk : Keeps (fun i => i = b) wa w3 := ((Keeps.refl _ _).drew).trans hsp.2.2; have HSP := Lib.hid hsp; clear hsp))
          go_wp2_with fail
          go_ret
          exact HSP.out.from_ HKA.out.drew HO2.out
        · by_cases hretry : rk = kRetry
          · have HO2 := Lib.hid (HO.out.trans (setS_retry (by have := HKR.out; rw [← this]; exact hretry)))
            obtain rfl := hretry
            unfold kRetry at *
            go_enter Tryz.func93, Tryz.ntmps93
            go_wp2_with fail
            rw [← HWA.out]
            refine (Hretry.out _ HKA.out).mono ?_
            rintro e w3 hsp
            obtain ⟨v3, rfl, hsp⟩ := hsp.ret
            have HSP := Lib.hid hsp
            clear hsp
            go_wp2_with fail
            go_ret
            exact HSP.out.from_ HKA.out HO2.out
          · by_cases hkind : rk = kKind
            · have HWD := Lib.hid (fun W kk => Hword.out W kk (.inl hkind))
              have HO2 := Lib.hid (HO.out.trans (setS_word (by have := HKR.out; rw [← this]; exact (.inl hkind))))
              obtain rfl := hkind
              unfold kKind at *
              go_enter Tryz.func93, Tryz.ntmps93
              go_wp2_with fail
              rw [← HWA.out]
              refine (HWD.out _ HKA.out).mono ?_
              rintro e w3 hsp
              obtain ⟨v3, rfl, hsp⟩ := hsp.ret
              have HSP := Lib.hid hsp
              clear hsp
              go_wp2_with fail
              go_ret
              exact HSP.out.from_ HKA.out HO2.out
            · by_cases hinit : rk = kInit
              · have HWD := Lib.hid (fun W kk => Hword.out W kk (.inr (.inl hinit)))
                have HO2 := Lib.hid (HO.out.trans (setS_word (by have := HKR.out; rw [← this]; exact (.inr (.inl hinit)))))
                obtain rfl := hinit
                unfold kInit at *
                go_enter Tryz.func93, Tryz.ntmps93
                go_wp2_with fail
                rw [← HWA.out]
                refine (HWD.out _ HKA.out).mono ?_
                rintro e w3 hsp
                obtain ⟨v3, rfl, hsp⟩ := hsp.ret
                have HSP := Lib.hid hsp
                clear hsp
                go_wp2_with fail
                go_ret
                exact HSP.out.from_ HKA.out HO2.out
              · by_cases hlike : rk = kLike
                · have HWD := Lib.hid (fun W kk => Hword.out W kk (.inr (.inr hlike)))
                  have HO2 := Lib.hid (HO.out.trans (setS_word (by have := HKR.out; rw [← this]; exact (.inr (.inr hlike)))))
                  obtain rfl := hlike
                  unfold kLike at *
                  go_enter Tryz.func93, Tryz.ntmps93
                  go_wp2_with fail
                  rw [← HWA.out]
                  refine (HWD.out _ HKA.out).mono ?_
                  rintro e w3 hsp
                  obtain ⟨v3, rfl, hsp⟩ := hsp.ret
                  have HSP := Lib.hid hsp
                  clear hsp
                  go_wp2_with fail
                  go_ret
                  exact HSP.out.from_ HKA.out HO2.out
                · have HE : Hid (O = .inl 3) := Lib.hid (by
                    rw [HO.out]
                    refine setS_else ?_
                    rw [← HKR.out]
                    simp only [List.mem_cons, List.not_mem_nil, or_false, forall_eq_or_imp, forall_eq]
                    exact ⟨hlines, hbytes, hgens, hsize, hretry, hkind, hinit, hlike⟩)
                  have nlines : (rk.toList == [108, 105, 110, 101, 115]) = false := lit_ne [108, 105, 110, 101, 115] hlines
                  have nbytes : (rk.toList == [98, 121, 116, 101, 115]) = false := lit_ne [98, 121, 116, 101, 115] hbytes
                  have ngens : (rk.toList == [103, 101, 110, 115]) = false := lit_ne [103, 101, 110, 115] hgens
                  have nsize : (rk.toList == [115, 105, 122, 101]) = false := lit_ne [115, 105, 122, 101] hsize
                  have nretry : (rk.toList == [114, 101, 116, 114, 121]) = false := lit_ne [114, 101, 116, 114, 121] hretry
                  have nkind : (rk.toList == [107, 105, 110, 100]) = false := lit_ne [107, 105, 110, 100] hkind
                  have ninit : (rk.toList == [105, 110, 105, 116]) = false := lit_ne [105, 110, 105, 116] hinit
                  have nlike : (rk.toList == [108, 105, 107, 101]) = false := lit_ne [108, 105, 107, 101] hlike
                  clear hlines hbytes hgens hsize hretry hkind hinit hlike
                  go_enter Tryz.func93, Tryz.ntmps93
                  go_wp2_with fail
                  rw [← HWA.out]
                  refine (HWR.out _).mono ?_
                  rintro e w6 ⟨⟨v, rfl, hc⟩, k6⟩
                  have HCh := Lib.hid hc
                  clear hc
                  go_wp2_with fail
                  go_ret
                  exact .bad HE.out ⟨_, rfl, HCh.out⟩ (HKA.out.trans k6).none_
end Go.Proofs.YtfpajgmdejlaeaaGreatDoor

/-
  conf: settings.
-/
namespace Go.Proofs.YtfpajgmdejlaeaaGreatDoor
open Go.RowKit

/-- a loader's consoles, while other settings are turned -/
theorem LdCons.turn {w w' : World} {g : Nat} {a : Option Addr} {n cc : Nat} {gv uv av : Value} {b0 b1 b2 b3 b4 b5 b6 b7 b8 b9 : ByteArray} {l : List Con} (h : LdCons w g a n cc gv uv av b0 b1 b2 b3 b4 b5 b6 b7 b8 b9 l)
    {T : TypeId} {b o : Nat} {c c' : Con} {cs cs' : Array Value} (k : Keeps (fun i => i = b) w w') (h1 : ConAt w T b o c cs) (h2 : ConAt w' T b o c' cs') (hB : Beside cs cs' o) (hr : InS (fun i => i ≠ b) a n) (hg : g ≠ b ∨ o = 14) : LdCons w' g a n cc gv uv av b0 b1 b2 b3 b4 b5 b6 b7 b8 b9 l := by
  refine ⟨h.sl.keepsS hr k (fun _ _ hi e => hi e), h.hn, Nat.lt_of_lt_of_le h.lt k.size, fun j v hv => ?_⟩
  by_cases hgb : g = b
  · subst hgb
    have ho : o = 14 := hg.resolve_left (fun h => h rfl)
    subst ho
    have hj : j < 14 := by have := (List.getElem?_eq_some_iff.1 hv).1; exact this
    have e := h.cs j v hv
    rw [h1.1.cell j] at e
    rw [h2.1.cell j, hB.2 j (.inl hj)]
    exact e
  · exact (World.cell?_of_block (w := w) (k.block g h.lt hgb)).trans (h.cs j v hv)
/-- behind settings: done, or why not -/
def SetsPost (O : (Int × Int) ⊕ Con) (key : ByteArray) (w : World) (T : TypeId) (b o : Nat) (cs : Array Value) (e : Ending) (w' : World) : Prop :=
  (∀ y, O = .inr y → e = .returned .nilIface ∧ ∃ cs', ConAt w' T b o y cs' ∧ Beside cs cs' o) ∧ (∀ c n, O = .inl (c, n) → ∃ v k2, e = .returned v ∧ Chain w' [(0, key), (n, k2)] c v) ∧ Keeps (fun i => i = b) w w'
set_option maxRecDepth 100000 in
set_option maxHeartbeats 1000000 in
theorem csettings_any (w : World) (S : Nat → Prop) (x : Nd) (r : NdV) (hM : NdM w S x r) (hsz : ∀ y ∈ subN x, ∀ s ∈ argsN y, s.size ≤ 1073741824)
    (T : TypeId) (b o : Nat) (c : Con) (cs : Array Value) (hC : ConAt w T b o c cs) (hSb : ∀ i, S i → i ≠ b)
    (g : Nat) (a : Option Addr) (n cc : Nat) (gv uv av : Value) (b0 b1 b2 b3 b4 b5 b6 b7 b8 b9 : ByteArray) (l : List Con) (hL : LdCons w g a n cc gv uv av b0 b1 b2 b3 b4 b5 b6 b7 b8 b9 l) (hr : InS (fun i => i ≠ b) a n) (hg : g ≠ b ∨ o = 14) :
    Calls Tryz.prog 54 #[.pointer (some ⟨g, 0, none⟩), .agg (ndR r).toArray, .pointer (some ⟨b, o, none⟩)] w (SetsPost (setsS l c (subN x)) (keyN x) w T b o cs) := by
  have hkr : r.key = keyN x := by obtain ⟨_, _, _, _, _⟩ := x; rw [NdM] at hM; exact hM.1
  have hsub : NdsAt w S (.slice r.la r.ln r.lc) (subN x) := by
    have := NdM.subs hM
    obtain ⟨_, _, _, _, _⟩ := x
    exact this
  obtain ⟨sub, hse⟩ : ∃ sub, sub = subN x := ⟨_, rfl⟩
  rw [← hse] at hsub hsz ⊢
  obtain ⟨O, hO⟩ : ∃ O, O = setsS l c sub := ⟨_, rfl⟩
  rw [← hO]
  have HO := Lib.hid hO
  obtain ⟨rk, ra, rn, rc, rb, rla, rln, rlc, rli⟩ := r
  simp only at hkr hsub
  rw [← hkr]
  simp only [ndR]
  have hrln : rln = sub.length := by obtain ⟨_, _, he, -, -⟩ := hsub.sl; injection he
  subst hrln
  have hlnm : sub.length ≤ 9223372036854775807 := by obtain ⟨_, _, he, h1, h2⟩ := hsub.sl; injection he with _ _ h3; unfold maxLen at h2; omega
  obtain ⟨wa, hwa⟩ : ∃ wa, wa = w.alloc (.cells #[.string rk, .slice ra rn rc, .bool rb, .slice rla sub.length rlc, .int .i64 rli] 60) := ⟨_, rfl⟩
  have hka : Keeps (fun _ => False) w wa := by rw [hwa]; exact (Keeps.refl _ _).alloc _
  have hN : Blk wa w.heap.size 60 #[.string rk, .slice ra rn rc, .bool rb, .slice rla sub.length rlc, .int .i64 rli] := by rw [hwa]; exact Blk.new _ _ _
  have hblk := hC.1.lt
  have HWA := Lib.hid hwa
  have HKA := Lib.hid hka
  have HN := Lib.hid hN
  have hnb : w.heap.size ≠ b := by omega
  obtain ⟨⟨x0, x1, x2, x3, x4⟩, -⟩ := hN.all5
  have HC := Lib.hid hC
  have HSB := Lib.hid hSb
  have HSUB := Lib.hid hsub
  have HSZ := Lib.hid hsz
  have HL := Lib.hid hL
  have HR := Lib.hid (And.intro hr hg)
  have hsa := hka.size
  clear hO hM hsz hC hSb hL hr hg hsub hwa hka hN hse hkr
  go_enter Tryz.func54, Tryz.ntmps54
  go_wp2_with fail
  rw [← HWA.out]
  go_loopw [13] (fun u wr => ∃ (i : Nat) (c' : Con) (cs' : Array Value), u = .int .i64 i ∧ i ≤ sub.length ∧ Hid (ConAt wr T b o c' cs' ∧ Beside cs cs' o ∧ setsS l c' (sub.drop i) = O ∧ Keeps (fun j => j = b) w wr ∧ Blk wr w.heap.size 60 #[.string rk, .slice ra rn rc, .bool rb, .slice rla sub.length rlc, .int .i64 rli])) (fun u _ => sub.length - (intOf u).toNat)
  case atStart => exact ⟨0, c, cs, rfl, Nat.zero_le _, Lib.hid ⟨⟨HC.out.1.keeps HKA.out id, HC.out.2⟩, Beside.refl _ _, by rw [List.drop_zero]; exact HO.out.symm, HKA.out.none_, HN.out⟩⟩
  case round =>
    obtain ⟨i, c', cs', rfl, hi, HI⟩ := hrel
    rename World => wr
    obtain ⟨hc, hB, hS, hK, hNb⟩ := HI.out
    have HCr := Lib.hid hc
    have HB := Lib.hid hB
    have HS := Lib.hid hS
    have HK := Lib.hid hK
    have HNr := Lib.hid hNb
    obtain ⟨⟨x0, x1, x2, x3, x4⟩, -⟩ := hNb.all5
    have hszr := hK.size
    clear HI hc hB hS hNb
    by_cases hlt : i < sub.length
    · obtain ⟨y, hy⟩ : ∃ y, sub[i]? = some y := ⟨_, List.getElem?_eq_getElem hlt⟩
      have hsr := HSUB.out.keeps hK (fun j _ hj e => HSB.out j hj e)
      obtain ⟨bk, off, ⟨yk, ya, yn, yc, yb, yla, yln, ylc, yli⟩, rfl, hbl, hSb, -, -, hml, hMy, hcell⟩ := nds_at hsr hy
      obtain ⟨y0, y1, y2, y3, y4⟩ := hcell wr (Keeps.refl _ _)
      have HMY := Lib.hid hMy
      have hky : yk = keyN y := by obtain ⟨_, _, _, _, _⟩ := y; rw [NdM] at hMy; exact hMy.1
      have hly : yli = lineN y := by obtain ⟨_, _, _, _, _⟩ := y; rw [NdM] at hMy; exact hMy.2.2.1
      have HYK := Lib.hid (And.intro hky hly)
      have kal : Keeps (fun _ => False) wr (wr.alloc (.cells #[.string yk, .slice ya yn yc, .bool yb, .slice yla yln ylc, .int .i64 yli] 60)) := (Keeps.refl _ _).alloc _
      have HLr := Lib.hid ((HL.out.turn hK HC.out HCr.out HB.out HR.out.1 HR.out.2).same kal)
      have hset := cset_any _ S y ⟨yk, ya, yn, yc, yb, yla, yln, ylc, yli⟩ (NdM.keeps kal (fun _ _ _ => id) _ _ hMy) (HSZ.out y (List.mem_of_getElem? hy)) T b o c' cs' ⟨HCr.out.1.keeps kal id, HCr.out.2⟩ g a n cc gv uv av b0 b1 b2 b3 b4 b5 b6 b7 b8 b9 l HLr.out
      simp only [ndR] at hset
      have HSET := Lib.hid hset
      have HDR : Hid (O = match setS l c' y with | .inl e => .inl (e, lineN y) | .inr c2 => setsS l c2 (sub.drop (i + 1))) := Lib.hid (by
        have := HS.out
        rw [List.drop_eq_getElem_cons hlt, setsS] at this
        have e : sub[i] = y := by rw [List.getElem?_eq_getElem hlt] at hy; exact Option.some.inj hy
        rw [e] at this
        rw [← this]
        cases setS l c' y <;> rfl)
      have HKAL := Lib.hid (hK.and_ kal (fun _ _ h => h.elim))
      clear hset hy hsr hcell hMy hK kal hky hly
      go_wp2_with fail
      refine HSET.out.mono ?_
      rintro e w3 ⟨hok, hbad, k3⟩
      have HK3 := Lib.hid (HKAL.out.trans k3)
      have HN3 := Lib.hid ((HNr.out.alloc (.cells #[.string yk, .slice ya yn yc, .bool yb, .slice yla yln ylc, .int .i64 yli] 60)).keeps k3 hnb)
      obtain ⟨⟨x0, x1, x2, x3, x4⟩, -⟩ := HN3.out.all5
      clear k3
      cases hq : setS l c' y with
      | inl c1 =>
        obtain ⟨v, rfl, hc⟩ := hbad c1 hq
        obtain ⟨ty, vx, rfl⟩ := hc.form
        have HE : Hid (O = .inl (c1, lineN y)) := Lib.hid (by rw [HDR.out, hq])
        have HCh := Lib.hid hc
        clear hok hbad hq hc
        go_wp2_with fail
        refine (wrap_flt w3 ty vx 0 rk).mono ?_
        rintro e w4 ⟨rfl, hw4⟩
        have HW4 := Lib.hid hw4
        clear hw4
        go_wp2_with fail
        go_ret
        have hk4 : Keeps (fun _ => False) w3 w4 := by rw [HW4.out]; exact (Keeps.refl _ _).alloc _
        refine ⟨fun y h => (by rw [HE.out] at h; cases h), fun c n h => ?_, HK3.out.and_ hk4 (fun _ _ h => h.elim)⟩
        rw [HE.out] at h
        injection h with h
        injection h with h1 h2
        subst h1 h2
        refine ⟨_, keyN y, rfl, .layer _ _ _ _ _ _ (by rw [HW4.out]; exact Blk.new _ _ _) (HCh.out.keeps hk4 (fun _ _ _ => id))⟩
      | inr c2 =>
        obtain ⟨rfl, cs2, hc2, hb2⟩ := hok c2 hq
        have HSN : Hid (setsS l c2 (sub.drop (i + 1)) = O) := Lib.hid (by rw [HDR.out, hq])
        have HC2 := Lib.hid (And.intro hc2 hb2)
        clear hok hbad hq hc2 hb2
        go_wp2_with fail
        go_roundw
        case rel => exact ⟨i + 1, c2, cs2, by go_num, by omega, Lib.hid ⟨HC2.out.1, HB.out.trans HC2.out.2, HSN.out, HK3.out, HN3.out⟩⟩
        case measure => simp [intOf] <;> omega
    · have hie : i = sub.length := by omega
      subst hie
      have HE : Hid (O = .inr c') := Lib.hid (by have := HS.out; rw [List.drop_length, setsS] at this; exact this.symm)
      clear hK
      go_wp2_with fail
      go_ret
      exact ⟨fun y h => (by rw [HE.out] at h; injection h with h; subst h; exact ⟨rfl, cs', HCr.out, HB.out⟩), fun c n h => (by rw [HE.out] at h; cases h), HK.out⟩
end Go.Proofs.YtfpajgmdejlaeaaGreatDoor

/-
  A slice of one-cell elements that begins anywhere in its row: append of one value, and what lies in it. No program in sight.
-/
namespace Go.Proofs.YtfpajgmdejlaeaaGreatDoor
open Go.RowKit

/-- the slice value v, of element type e, holds the values vs; behind them, up to its capacity, the row is its own -/
def OwnQ (w : World) (e : TypeId) (v : Value) (vs : List Value) : Prop :=
  (vs = [] ∧ ∃ a, v = .slice a 0 0) ∨ ∃ g off cap cur, v = .slice (some ⟨g, off, none⟩) vs.length cap ∧ Blk w g e cur ∧ vs.length ≤ cap ∧ off + cap ≤ cur.size ∧ cap ≤ maxLen ∧ ∀ j u, vs[j]? = some u → cur[off + j]? = some u

/-- the block into which an append may write -/
def rowB : Value → Option Nat
  | .slice (some a) _ c => if c = 0 then none else some a.block
  | _ => none
theorem rowB_some (g off n c : Nat) (h : 0 < c) : rowB (.slice (some ⟨g, off, none⟩) n c) = some g := by simp only [rowB]; rw [if_neg (by omega)]
theorem rowB_zero (a : Option Addr) (n : Nat) : rowB (.slice a n 0) = none := by cases a <;> rfl

section
variable {w w' : World} {e : TypeId} {v : Value} {vs : List Value}
theorem OwnQ.none_ : OwnQ w e (.slice none 0 0) [] := .inl ⟨rfl, none, rfl⟩
theorem OwnQ.keeps {S : Nat → Prop} (h : OwnQ w e v vs) (k : Keeps S w w') (hS : ∀ i, rowB v = some i → (∃ cs, Blk w i e cs) → ¬ S i) : OwnQ w' e v vs := by
  rcases h with h | ⟨g, off, cap, cur, rfl, hb, r⟩
  · exact .inl h
  · by_cases h0 : cap = 0
    · subst h0
      exact .inl ⟨List.eq_nil_of_length_eq_zero (by omega), _, by rw [show vs.length = 0 by omega]⟩
    · exact .inr ⟨g, off, cap, cur, rfl, hb.keeps k (hS g (rowB_some _ _ _ _ (by omega)) ⟨_, hb⟩), r⟩
theorem OwnQ.row (h : OwnQ w e v vs) : ∀ i, rowB v = some i → ∃ cs, Blk w i e cs := by
  intro i hi
  rcases h with ⟨rfl, a, rfl⟩ | ⟨g, off, cap, cur, rfl, hb, r⟩
  · rw [rowB_zero] at hi; cases hi
  · by_cases h0 : cap = 0
    · subst h0; rw [rowB_zero] at hi; cases hi
    · rw [rowB_some _ _ _ _ (by omega)] at hi; injection hi with hi; subst hi; exact ⟨_, hb⟩
theorem OwnQ.sl (h : OwnQ w e v vs) : ∃ a cap, v = .slice a vs.length cap := by
  rcases h with ⟨rfl, a, rfl⟩ | ⟨g, off, cap, cur, rfl, _⟩
  · exact ⟨a, 0, rfl⟩
  · exact ⟨_, _, rfl⟩
theorem OwnQ.sl3 (h : OwnQ w e v vs) : ∃ a n c, v = .slice a n c := by obtain ⟨a, c, hv⟩ := h.sl; exact ⟨a, _, c, hv⟩
theorem OwnQ.cell (h : OwnQ w e v vs) {j : Nat} {u : Value} (hu : vs[j]? = some u) : ∃ g off cap, v = .slice (some ⟨g, off, none⟩) vs.length cap ∧ w.cell? ⟨g, off + j, none⟩ = some u ∧ w.frozen? ⟨g, off + j, none⟩ = false ∧ g < w.heap.size ∧ ∃ cs, Blk w g e cs := by
  rcases h with ⟨rfl, _⟩ | ⟨g, off, cap, cur, rfl, hb, h1, h2, h3, h4⟩
  · simp at hu
  · exact ⟨g, off, cap, rfl, by rw [hb.cell]; exact h4 j u hu, hb.frozen _, hb.lt, _, hb⟩
/-- without its first element -/
theorem OwnQ.tail {u : Value} (h : OwnQ w e v (u :: vs)) {a : Option Addr} {n c : Nat} (hv : v = .slice a n c) : OwnQ w e (.slice (if c = 1 then a else a.map (·.add 1)) (n - 1) (c - 1)) vs := by
  rcases h with ⟨h, _⟩ | ⟨g, off, cap, cur, rfl, hb, h1, h2, h3, h4⟩
  · cases h
  · injection hv with ha hn hc
    subst ha; subst hn; subst hc
    rw [List.length_cons] at h1
    by_cases h0 : cap = 1
    · subst h0
      have : vs = [] := List.eq_nil_of_length_eq_zero (by omega)
      subst this
      exact .inl ⟨rfl, _, rfl⟩
    · rw [if_neg h0]
      refine .inr ⟨g, off + 1, cap - 1, cur, ?_, hb, by omega, by omega, by omega, fun j u' hj => ?_⟩
      · simp [Addr.add]
      · have := h4 (j + 1) u' (by simpa using hj)
        rw [← this]; congr 1; omega
end

section
variable {P : Program}
theorem run_append_q (w : World) (t ty e : TypeId) (z : Value) (bytes : Nat) (ht : P.underlying t = some (.slice e))
    (hi : (P.info? e).map (fun i => (i.zero, i.size, i.bytes)) = some (some z, 1, bytes)) (hb16 : bytes ≤ 4096) (hz : z.cells.size = 1)
    (v : Value) (vs : List Value) (hown : OwnQ w e v vs) (ad : Addr) (c : Nat) (u : Value) (hu : w.cell? ad = some u) (h1 : u.oneCell' = true) (hlen : vs.length ≤ 17179869184) :
    ∃ v' w', (Builtin.append_ #[t, t] ty #[v, .slice (some ad) 1 c]).run P w = .ok v' w' ∧ OwnQ w' e v' (vs ++ [u]) ∧ Keeps (fun i => rowB v = some i) w w' ∧ (rowB v' = rowB v ∨ rowB v' = some w.heap.size) := by
  obtain ⟨i, hi0, hzi, hsi, hbi⟩ := info_parts hi
  have hnews : ∀ j u', [u][j]? = some u' → w.cell? (ad.add j) = some u' := fun j u' hj => by
    match j, hj with
    | 0, hj => simp at hj; subst hj; simpa [Addr.add] using hu
  have hone : ∀ x ∈ [u], x.oneCell' = true := fun x hx => by simp at hx; subst hx; exact h1
  have hmul : (vs.length + 1) * i.bytes ≤ 140737488355328 := by
    have := Nat.mul_le_mul (show vs.length + 1 ≤ 17179869185 by omega) (show i.bytes ≤ 4096 by omega)
    omega
  have grown : ∀ (old : Nat), ∃ w', w' = w.drew.alloc (.cells (vs.toArray ++ [u].toArray ++ Builtin.zeroCells z.cells (grownCap w (vs.length + 1) old e - (vs.length + 1))) e) ∧
      OwnQ w' e (.slice (some ⟨w.heap.size, 0, none⟩) (vs.length + 1) (grownCap w (vs.length + 1) old e)) (vs ++ [u]) ∧ Keeps (fun i => rowB v = some i) w w' := fun old => by
    have hge := grownCap_ge w (vs.length + 1) old e
    have hcm : grownCap w (vs.length + 1) old e ≤ maxLen := grownCap_le_maxLen w (vs.length + 1) old e (by unfold maxLen; omega)
    refine ⟨_, rfl, .inr ⟨w.heap.size, 0, _, _, by simp, heap_alloc_new w.drew _, by simpa using hge, ?_, hcm, fun j u' hj => ?_⟩, (Keeps.refl _ w).drew.alloc _⟩
    · simp only [Array.size_append, List.size_toArray, size_zeroCells, hz, List.length_singleton]; omega
    · rw [Nat.zero_add, Array.getElem?_append_left (by
        have := (List.getElem?_eq_some_iff.1 hj).1
        simpa using this)]
      simpa using hj
  rcases hown with ⟨rfl, a, rfl⟩ | ⟨g, off, cap, cur, rfl, hb, hnc, hcs, hcm, hget⟩
  · obtain ⟨w', hw', hO, hK⟩ := grown 0
    refine ⟨_, w', ?_, hO, hK, .inr (rowB_some _ _ _ _ (by have := grownCap_ge w (0 + 1) 0 e; simp at this ⊢; omega))⟩
    rw [hw']
    cases a with
    | none =>
      have hr := run_append_nil (P := P) w t ty e i z ht hi0 hzi ad 1 c [u] (by rw [hsi]; rfl) hnews (by omega) (by omega) (by simp at hmul; omega)
      simpa using hr
    | some b =>
      have hr := run_append_grow (P := P) w t ty e i z ht hi0 hzi b 0 0 [] (by simp) (fun j u' hj => by simp at hj) ad 1 c [u] (by rw [hsi]; rfl) hnews (by omega) (by omega) (growslice_fits (by omega) hmul)
      simpa using hr
  · by_cases hroom : vs.length + 1 ≤ cap
    · have hf := run_firstCells_some (P := P) w i.size 1 ad 1 c [u] (by rw [hsi]; rfl) hnews
      rw [hsi] at hf
      have hst := run_storeCells_at P g (off + vs.length) e [u] 0 cur w hb (by simp; omega) (fun x hx => by simp at hx; subst hx; exact h1)
      simp only [Nat.add_zero] at hst
      refine ⟨.slice (some ⟨g, off, none⟩) (vs.length + 1) cap, w.setRow g (cur.toList.take (off + vs.length) ++ [u] ++ cur.toList.drop (off + vs.length + [u].length)).toArray, ?_, .inr ⟨g, off, cap, (cur.toList.take (off + vs.length) ++ [u] ++ cur.toList.drop (off + vs.length + [u].length)).toArray, by simp, setRow_heap w g cur _ e _ hb, by simpa using hroom, ?_, hcm, fun j u' hj => ?_⟩, (Keeps.refl _ w).setRow (fun _ => rowB_some _ _ _ _ (by omega)) _, .inl ((rowB_some _ _ _ _ (by omega)).trans (rowB_some _ _ _ _ (by omega)).symm)⟩
      rotate_left
      · simp only [List.size_toArray, List.length_append, List.length_take, List.length_drop, Array.length_toList, List.length_singleton]; omega
      · have hjl : j < vs.length + 1 := by simpa using (List.getElem?_eq_some_iff.1 hj).1
        have htl : (cur.toList.take (off + vs.length)).length = off + vs.length := by simp; omega
        rw [List.getElem?_toArray, List.append_assoc]
        by_cases hjn : j < vs.length
        · rw [List.getElem?_append_left (by rw [htl]; omega), List.getElem?_take, if_pos (by omega)]
          rw [List.getElem?_append_left hjn] at hj
          simpa using hget j u' hj
        · obtain rfl : j = vs.length := by omega
          rw [List.getElem?_append_right (by rw [htl]; omega), htl]
          simpa using hj
      · simp [Builtin.append_, run_underlying ht, sizeOf, typeInfo, hi0, Builtin.lenOf, hroom, hf, Addr.add_lit, hst, hsi]
    · obtain ⟨w', hw', hO, hK⟩ := grown cap
      refine ⟨_, w', ?_, hO, hK, .inr (rowB_some _ _ _ _ (by have := grownCap_ge w (vs.length + 1) cap e; omega))⟩
      rw [hw']
      exact run_append_grow (P := P) w t ty e i z ht hi0 hzi ⟨g, off, none⟩ vs.length cap vs (by rw [hsi]; omega) (fun j u' hj => by
        rw [Addr.add_lit, hb.cell]; exact hget j u' hj) ad 1 c [u] (by rw [hsi]; rfl) hnews (by omega) (by omega) (growslice_fits (by omega) hmul)

/-- append of one value at an operation, and at a step of a region that draws its order -/
theorem wp_append_q {w : World} {o : Oper} {a : Act} {K : Act → World → Prop} {Q : Exit → Act → World → Prop} (s x : Operand) (t : TypeId)
    (ho : o.op = .call { callee := .builtin .append, args := #[s, x], argTypes := #[t, t] }) (e : TypeId) (z : Value) (bytes : Nat) (ht : P.underlying t = some (.slice e))
    (hi : (P.info? e).map (fun i => (i.zero, i.size, i.bytes)) = some (some z, 1, bytes)) (hz : z.cells.size = 1) (hb16 : bytes ≤ 4096)
    (v : Value) (vs : List Value) (hs : a.eval s = v) (hown : OwnQ w e v vs) (ad : Addr) (c : Nat) (u : Value) (hx : a.eval x = .slice (some ad) 1 c) (hu : w.cell? ad = some u) (h1 : u.oneCell' = true)
    (hlen : vs.length ≤ 17179869184)
    (h : ∀ v' w', OwnQ w' e v' (vs ++ [u]) → Keeps (fun i => rowB v = some i) w w' → (rowB v' = rowB v ∨ rowB v' = some w.heap.size) → K (a.put o.dst v') w') : o.wp P a w K Q := by
  obtain ⟨v', w', hr, h2, h3, h4⟩ := run_append_q (P := P) w t o.type e z bytes ht hi hb16 hz v vs hown ad c u hu h1 hlen
  unfold Oper.wp execOp
  simp only [ho, resolve, invoke, builtin, Sem.run_bind, Sem.run_pure, Result.andThen_ok, List.map_toArray, List.map_cons, List.map_nil, hs, hx, hr]
  exact h v' w' h2 h3 h4
theorem wpList_append_q {w : World} {ops : Array Oper} {rest : List Oper} {o : Oper} {a : Act} {Q : Exit → Act → World → Prop} (hgd : o.guard = none) (s x : Operand) (t : TypeId)
    (ho : o.op = .call { callee := .builtin .append, args := #[s, x], argTypes := #[t, t] }) (e : TypeId) (z : Value) (bytes : Nat) (ht : P.underlying t = some (.slice e))
    (hi : (P.info? e).map (fun i => (i.zero, i.size, i.bytes)) = some (some z, 1, bytes)) (hz : z.cells.size = 1) (hb16 : bytes ≤ 4096)
    (v : Value) (vs : List Value) (hs : a.eval s = v) (hown : OwnQ w e v vs) (ad : Addr) (c : Nat) (u : Value) (hx : a.eval x = .slice (some ad) 1 c) (hu : w.cell? ad = some u) (h1 : u.oneCell' = true)
    (hlen : vs.length ≤ 17179869184)
    (h : ∀ v' w', OwnQ w' e v' (vs ++ [u]) → Keeps (fun i => rowB v = some i) w w' → (rowB v' = rowB v ∨ rowB v' = some w.heap.size) → wpList P ops Q rest (a.put o.dst v') w') : wpList P ops Q (o :: rest) a w :=
  wpList_plain hgd fun _ hK => wp_append_q s x t ho e z bytes ht hi hz hb16 v vs hs hown ad c u hx hu h1 hlen fun v' w' h2 h3 h4 => hK _ _ (h v' w' h2 h3 h4)
theorem step_append_q {w : World} {ops : Array Oper} {o : Oper} {a : Act} {K : Act → World → Prop} {Q : Exit → Act → World → Prop} {E : Prop} (hgd : o.guard = none) (s x : Operand) (t : TypeId)
    (ho : o.op = .call { callee := .builtin .append, args := #[s, x], argTypes := #[t, t] }) (e : TypeId) (z : Value) (bytes : Nat) (ht : P.underlying t = some (.slice e))
    (hi : (P.info? e).map (fun i => (i.zero, i.size, i.bytes)) = some (some z, 1, bytes)) (hz : z.cells.size = 1) (hb16 : bytes ≤ 4096)
    (v : Value) (vs : List Value) (hs : a.eval s = v) (hown : OwnQ w e v vs) (ad : Addr) (c : Nat) (u : Value) (hx : a.eval x = .slice (some ad) 1 c) (hu : w.cell? ad = some u) (h1 : u.oneCell' = true)
    (hlen : vs.length ≤ 17179869184)
    (h : ∀ v' w', OwnQ w' e v' (vs ++ [u]) → Keeps (fun i => rowB v = some i) w w' → (rowB v' = rowB v ∨ rowB v' = some w.heap.size) → K (a.put o.dst v') w') :
    if Region.wanted o (yielded ops a.tmps) = true then Oper.wp P o a w K Q else E := by
  have hw : Region.wanted o (yielded ops a.tmps) = true := by simp [Region.wanted, hgd]
  rw [if_pos hw]
  exact wp_append_q s x t ho e z bytes ht hi hz hb16 v vs hs hown ad c u hx hu h1 hlen h
end
end Go.Proofs.YtfpajgmdejlaeaaGreatDoor
