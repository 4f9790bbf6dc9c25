/-
  tree.Read.
-/
import Derived.Test.YtemjbblehiaobaaDoorTreeD
import Derived.Recover
import Derived.Defers
import Derived.Stop.Asserts
namespace Go.Proofs.YtemjbblehiaobaaDoor
open Go.RowKit

theorem isErr (v : Value) (xT : TypeId) (w : World) : (Instr.typeAssert (.iface tPFault v) xT 25 true).run Tryd.prog w = .ok (.tuple #[.iface tPFault v, .bool true]) w := run_typeAssert_hasB Tryd.underlying25 (by kernel_rfl) v xT w
set_option maxRecDepth 100000 in
theorem tcatch_pan (W : World) (a b : Nat) (va vb : Value) (p : Value) (older : List PanicEntry) (ha : Blk W a 23 #[va]) (hb : Blk W b 25 #[vb]) (hne : a ≠ b) :
    CallsD Tryd.prog 12 #[.pointer (some ⟨a, 0, none⟩), .pointer (some ⟨b, 0, none⟩)] (.panicking ({ v := .iface tPFault p, recovered := false } :: older)) W fun e u' w' =>
      e = .returned (.tuple #[]) ∧ u' = .panicking ({ v := .iface tPFault p, recovered := true } :: older) ∧ Blk w' a 23 #[.slice none 0 0] ∧ Blk w' b 25 #[.iface tPFault p] ∧ Keeps (fun i => i = a ∨ i = b) W w' := by
  refine callsD_of_wpS Tryd.func12 rfl fun c₀ cs hu => ?_
  apply wpS_seq
  apply wpS_region
  simp [wpOpsS, go_sem, recoverD, hu, Tryd.ntmps12, Exit.thenS]
  refine wpS_of_wp ?_
  have a0 := ha.cell 0
  have b0 := hb.cell 0
  have fa := ha.frozen 0
  have fb := hb.frozen 0
  simp only [List.getElem?_toArray, List.getElem?_cons_zero] at a0 b0
  rw [show (#[Value.pointer (some ⟨a, 0, none⟩), .pointer (some ⟨b, 0, none⟩)] ++ (Array.replicate 8 undef).setIfInBounds 2 (.iface tPFault p)) = #[.pointer (some ⟨a, 0, none⟩), .pointer (some ⟨b, 0, none⟩), undef, undef, .iface tPFault p, undef, undef, undef, undef, undef] from rfl]
  have HA := Lib.hid ha
  have HB := Lib.hid hb
  have hne2 : ¬ a = b := hne
  have hta := isErr
  clear ha hb hu
  go_wp2_with fail
  refine ⟨rfl, _, rfl, _, results_none rfl _ _ _, rfl, rfl, ?_, ?_, ?_⟩
  · exact (HA.out.set_ 0 _).far (p := ⟨b, 0, none⟩) hne _
  · exact (HB.out.far (p := ⟨a, 0, none⟩) (Ne.symm hne) _).set_ 0 _
  · exact ((Keeps.refl _ _).setCell (p := ⟨a, 0, none⟩) (fun _ => .inl rfl) _).setCell (p := ⟨b, 0, none⟩) (fun _ => .inr rfl) _
theorem tcatch_idle (W : World) (a b : Nat) :
    CallsD Tryd.prog 12 #[.pointer (some ⟨a, 0, none⟩), .pointer (some ⟨b, 0, none⟩)] .returning W fun e u' w' => e = .returned (.tuple #[]) ∧ u' = .returning ∧ w' = W := by
  refine callsD_of_wpS Tryd.func12 rfl fun c₀ cs hu => ?_
  apply wpS_seq
  apply wpS_region
  simp [wpOpsS, go_sem, recoverD, hu, Tryd.ntmps12, Exit.thenS]
  refine wpS_of_wp ?_
  rw [show (#[Value.pointer (some ⟨a, 0, none⟩), .pointer (some ⟨b, 0, none⟩)] ++ (Array.replicate 8 undef).setIfInBounds 2 .nilIface) = #[.pointer (some ⟨a, 0, none⟩), .pointer (some ⟨b, 0, none⟩), undef, undef, .nilIface, undef, undef, undef, undef, undef] from rfl]
  have HU := Lib.hid hu
  clear hu
  go_wp2_with fail
  refine ⟨rfl, .returning, ?_, _, results_none rfl _ _ _, rfl, rfl, rfl⟩
  have := HU.out
  cases c₀
  simp_all

theorem readP_many : ∀ (f : Nat) (ln : Int) (l : List UInt8) (out xs : List Pc), out.length ≤ 8192 → readP f ln l out = .inr xs → xs.length ≤ 8192
  | 0, ln, l, out, xs, h, he => by rw [readP] at he; injection he with he; subst he; exact h
  | f + 1, ln, l, out, xs, h, he => by
    rw [readP] at he
    obtain ⟨q, hq⟩ : ∃ q, q = skipP false ln l := ⟨_, rfl⟩
    rw [← hq] at he
    obtain ⟨q1, q2⟩ := q
    simp only at he
    by_cases h1 : q2 = []
    · rw [if_pos h1] at he; injection he with he; subst he; exact h
    · rw [if_neg h1] at he
      by_cases h2 : out.length = 8192
      · rw [if_pos h2] at he; cases he
      · rw [if_neg h2] at he
        cases hh : oneP q2 with
        | none => rw [hh] at he; cases he
        | some p =>
          obtain ⟨k, t, r⟩ := p
          rw [hh] at he
          exact readP_many f q1 r _ xs (by rw [List.length_append]; simp only [List.length_cons, List.length_nil]; omega) he
theorem lexP_many {s : List UInt8} {xs : List Pc} (h : lexP s = .inr xs) : xs.length ≤ 8192 := by
  unfold lexP at h
  split at h
  · cases h
  · exact readP_many _ _ _ _ _ (by simp) h
/-- a parser to begin with -/
theorem IsP.begin_ {w : World} {B : Nat} {e : TypeId} {v : Value} {l : List Pc} (h : OwnS pcR 3 w B e v l) (hl : l.length ≤ 8192) : IsP (w.alloc (.cells #[v, .int .i64 0] 44)) w.heap.size (w.heap.size + 1) l 0 := by
  obtain ⟨a, c, rfl, h1, h2, h3, h4⟩ := h.shape pcR_len
  refine ⟨⟨a, c, Blk.new _ _ _, ⟨rfl, fun hn => ?_⟩, fun hn => ?_⟩, by omega, by simp, by omega, by omega⟩
  · obtain ⟨g, ha, hg, hlt, cs, hb⟩ := h3 hn
    refine ⟨g, 0, ha, by simp; omega, fun i x j v hx hv => ?_⟩
    have hk : Keeps (fun _ => False) w (w.alloc (.cells #[.slice a l.length c, .int .i64 0] 44)) := (Keeps.refl _ _).alloc _
    rw [World.cell?_of_block (w := w) (hk.block g hlt id)]
    have := (h4 g ha i x j v hx hv).1
    rw [Nat.zero_add]
    exact this
  · obtain ⟨g, ha, hg, hlt, -⟩ := h3 hn
    exact ⟨g, 0, ha, by omega, by omega⟩
/-- both results lie in memory, and nothing is deferred any more -/
theorem tread_ret {W : World} {a b : Nat} {u v : Value} {tmps : Array Value} {R : Ending → World → Prop} (ht2 : tmps[2]?.getD undef = .pointer (some ⟨a, 0, none⟩)) (ht3 : tmps[3]?.getD undef = .pointer (some ⟨b, 0, none⟩)) (ha : Blk W a 23 #[u]) (hb : Blk W b 25 #[v]) (hR : R (.returned (.tuple #[u, v])) W) :
    Leaves Tryd.prog Tryd.f5 tmps R [] .returning W := by
  have y2 := ha.cell 0
  have y3 := hb.cell 0
  simp only [List.getElem?_toArray, List.getElem?_cons_zero] at y2 y3
  refine ⟨.tuple #[u, v], ?_, hR⟩
  simp [results, Tryd.results5, go_sem, ht2, ht3, y2, y3]
/-- what Read hands back -/
def TreePost (O : (Int × Int) ⊕ List Nd) (w : World) (e : Ending) (w' : World) : Prop :=
  (∀ xs, O = .inr xs → ∃ v, e = .returned (.tuple #[v, .nilIface]) ∧ NdsBack w.heap.size v xs w') ∧
  (∀ c n, O = .inl (c, n) → ∃ v s, e = .returned (.tuple #[.slice none 0 0, v]) ∧ Chain w' [(n, s)] c v) ∧ Keeps (fun _ => False) w w'
set_option maxRecDepth 100000 in
theorem tread_any (w : World) (s : ByteArray) (hs : s.size ≤ 1073741820) : Calls Tryd.prog 5 #[.string s] w fun e w' => TreePost (treeP s.data.toList) w e w' := by
  have hmf : ∀ (fn : Fn) (first cap : Array Value) (w : World), (Instr.makeFunc fn first cap).run Tryd.prog w = .ok (.func fn first cap) w := fun _ _ _ _ => rfl
  obtain ⟨O, hO⟩ : ∃ O, O = lexP s.data.toList := ⟨_, rfl⟩
  obtain ⟨wa, hwa⟩ : ∃ wa, wa = (w.alloc (.cells #[.slice none 0 0] 23)).alloc (.cells #[.nilIface] 25) := ⟨_, rfl⟩
  have HWA := Lib.hid hwa
  have HL := Lib.hid (lread_any wa s hs)
  rw [← hO] at HL
  have hka : Keeps (fun _ => False) w wa := by rw [hwa]; exact ((Keeps.refl _ _).alloc _).alloc _
  have HKA := Lib.hid hka
  have h2 : Blk wa w.heap.size 23 #[.slice none 0 0] := by rw [hwa]; exact (Blk.new _ _ _).alloc _
  have h3 : Blk wa (w.heap.size + 1) 25 #[.nilIface] := by rw [hwa]; exact Blk.new2 _ _ _ _
  have HB2 := Lib.hid h2
  have HB3 := Lib.hid h3
  have hsz := hka.size
  have h3l := h3.lt
  have HO := Lib.hid hO
  clear hwa hka h2 h3 hO
  go_enter_defers Tryd.func5, Tryd.ntmps5
  go_wp2_with fail
  rw [← HWA.out]
  refine HL.out.mono ?_
  rintro e w2 ⟨hok, hbad, k2⟩
  have b2 := HB2.out.keeps k2 id
  have b3 := HB3.out.keeps k2 id
  have HB2b := Lib.hid b2
  have HB3b := Lib.hid b3
  have HK2 := Lib.hid (HKA.out.trans k2)
  have a2 := b2.cell 0
  have a3 := b3.cell 0
  have f2 := b2.frozen 0
  have f3 := b3.frozen 0
  simp only [List.getElem?_toArray, List.getElem?_cons_zero] at a2 a3
  have hs2 := k2.size
  clear HL b2 b3
  cases O with
  | inl ee =>
    obtain ⟨c, n⟩ := ee
    obtain ⟨v, rfl, hc⟩ := hbad _ _ rfl
    obtain ⟨ty, x, rfl⟩ := hc.form
    have HEND := Lib.hid (show treeP s.data.toList = .inl (c, n) by unfold treeP; rw [← HO.out])
    have ks := Keeps.set1 w2 (w.heap.size + 1) 0 (.iface ty x)
    have HC := Lib.hid (hc.keeps ks (fun i cs hb e => Blk.ne_ hb HB3b.out (by decide) e))
    have d2 := HB2b.out.keeps ks (by omega)
    have d3 : Blk _ (w.heap.size + 1) 25 #[.iface ty x] := HB3b.out.set_ 0 (.iface ty x)
    have HKS := Lib.hid (HK2.out.and_ ks (fun i hi e => by omega))
    clear hok hbad k2 hc
    go_upto_region 3 with (fail)
    obtain ⟨w3, hw3⟩ : ∃ w3, w3 = w2.setCell ⟨w.heap.size + 1, 0, none⟩ (.iface ty x) := ⟨_, rfl⟩
    rw [← hw3] at d2 d3 HC HKS ⊢
    have a2 := d2.cell 0
    have a3 := d3.cell 0
    have f2 := d2.frozen 0
    have f3 := d3.frozen 0
    simp only [List.getElem?_toArray, List.getElem?_cons_zero] at a2 a3
    have HD2 := Lib.hid d2
    have HD3 := Lib.hid d3
    clear hw3 d2 d3 ks
    go_region
    all_goals
      go_wp2_with fail
      refine tread_ret (a := w.heap.size) (b := w.heap.size + 1) (u := .slice none 0 0) (v := .iface ty x) rfl rfl (((HD2.out.set_ 0 _).far (p := ⟨w.heap.size + 1, 0, none⟩) (by simp) _).drew) (((HD3.out.far (p := ⟨w.heap.size, 0, none⟩) (by simp) _).set_ 0 _).drew) ?_
      have kf := (((Keeps.refl (fun i => i = w.heap.size ∨ i = w.heap.size + 1) w3).setCell (p := ⟨w.heap.size, 0, none⟩) (fun _ => .inl rfl) (.slice none 0 0)).setCell (p := ⟨w.heap.size + 1, 0, none⟩) (fun _ => .inr rfl) (.iface ty x)).drew
      refine ⟨fun xs he => ?_, fun c' n' he => ?_, HKS.out.and_ kf (fun i hi e => by omega)⟩
      · rw [HEND.out] at he; cases he
      · rw [HEND.out] at he; injection he with he; injection he with e1 e2; subst e1 e2
        exact ⟨_, _, rfl, HC.out.keeps kf (fun i cs hb e => by
          rcases e with e | e
          · exact Blk.ne_ hb HD2.out (by decide) e
          · exact Blk.ne_ hb HD3.out (by decide) e)⟩
  | inr l =>
    obtain ⟨v, rfl, hown⟩ := hok _ rfl
    have hlm := lexP_many HO.out.symm
    have ks := Keeps.set1 w2 (w.heap.size + 1) 0 .nilIface
    have d2 := HB2b.out.keeps ks (by omega)
    have d3 : Blk _ (w.heap.size + 1) 25 #[.nilIface] := HB3b.out.set_ 0 .nilIface
    have HKS := Lib.hid (HK2.out.and_ ks (fun i hi e => by omega))
    have hown2 : OwnS pcR 3 _ (w.heap.size + 2) 91 v l := OwnS.keeps (OwnS.moreS hown (by omega)) ks (fun i hi _ _ e => by omega)
    obtain ⟨a, c, rfl⟩ := OwnS.sl hown2
    have HP := Lib.hid (IsP.begin_ hown2 hlm)
    have hs3 : (w2.setCell ⟨w.heap.size + 1, 0, none⟩ .nilIface).heap.size = w2.heap.size := by simp
    rw [hs3] at HP
    have kal : Keeps (fun _ => False) (w2.setCell ⟨w.heap.size + 1, 0, none⟩ .nilIface) ((w2.setCell ⟨w.heap.size + 1, 0, none⟩ .nilIface).alloc (.cells #[.slice a l.length c, .int .i64 0] 44)) := (Keeps.refl _ _).alloc _
    have HD2 := Lib.hid (d2.keeps kal id)
    have HD3 := Lib.hid (d3.keeps kal id)
    have HKS2 := Lib.hid (HKS.out.trans kal)
    have HLI := Lib.hid (plist_any l.length 0 _ 0 (by omega) (by omega) HP.out)
    have HEND := Lib.hid (show treeP s.data.toList = match restP l 0 [] 0 with | .inl e => .inl e | .inr (out, _) => .inr out by unfold treeP restP; rw [← HO.out]; rfl)
    clear hok hbad k2 hown hown2 ks kal d2 d3
    go_wp2_with fail
    refine HLI.out.mono ?_
    rintro e w5 ⟨hok, hbad, k5⟩
    have HD2b := Lib.hid (HD2.out.keeps k5 (by omega))
    have HD3b := Lib.hid (HD3.out.keeps k5 (by omega))
    have HK5 := Lib.hid (HKS2.out.and_ k5 (fun i hi e => by omega))
    cases hres : restP l 0 [] 0 with
    | inl ee =>
      obtain ⟨cc, n⟩ := ee
      obtain ⟨v5, rfl, hch⟩ := hbad _ _ hres
      have hend := HEND.out
      rw [hres] at hend
      simp only at hend
      obtain ⟨p5, rfl⟩ : ∃ p5, v5 = .iface tPFault p5 := by cases hch; exact ⟨_, rfl⟩
      refine leaves_cons (f := 12) (args := #[.pointer (some ⟨w.heap.size, 0, none⟩), .pointer (some ⟨w.heap.size + 1, 0, none⟩)]) (by simp) (by simp [go_sem]) ?_
      refine (tcatch_pan w5 w.heap.size (w.heap.size + 1) _ _ p5 [] HD2b.out HD3b.out (by simp)).mono ?_
      rintro e u' w7 ⟨rfl, rfl, h2, h3, k7⟩
      show Leaves _ _ _ _ [] (settle _) w7
      simp only [settle, List.dropWhile_nil]
      refine tread_ret rfl rfl h2 h3 ⟨fun xs he => ?_, fun c' n' he => ?_, HK5.out.and_ k7 (fun i hi e => by omega)⟩
      · rw [hend] at he; cases he
      · rw [hend] at he; injection he with he; injection he with e1 e2; subst e1 e2
        exact ⟨_, _, rfl, hch.keeps k7 (fun i cs hb e => by
          rcases e with e | e
          · exact Blk.ne_ hb HD2b.out (by decide) e
          · exact Blk.ne_ hb HD3b.out (by decide) e)⟩
    | inr p =>
      obtain ⟨xs, t5⟩ := p
      obtain ⟨v5, j5, rfl, hb5, -, -⟩ := hok _ _ hres
      obtain ⟨a5, c5, rfl⟩ := hb5.sl
      have hend := HEND.out
      rw [hres] at hend
      simp only at hend
      have y2 := HD2b.out.cell 0
      have y3 := HD3b.out.cell 0
      have f2 := HD2b.out.frozen 0
      have f3 := HD3b.out.frozen 0
      simp only [List.getElem?_toArray, List.getElem?_cons_zero] at y2 y3
      have HX5 := Lib.hid hb5
      have HE5 := Lib.hid hend
      clear hok hbad hb5 hend hres
      go_wp2_with fail
      have kf := ((Keeps.refl (fun i => i = w.heap.size ∨ i = w.heap.size + 1) w5).setCell (p := ⟨w.heap.size, 0, none⟩) (fun _ => .inl rfl) (.slice a5 xs.length c5)).setCell (p := ⟨w.heap.size + 1, 0, none⟩) (fun _ => .inr rfl) .nilIface
      have e2 := (HD2b.out.set_ 0 (.slice a5 xs.length c5)).far (p := ⟨w.heap.size + 1, 0, none⟩) (by simp) .nilIface
      have e3 := (HD3b.out.far (p := ⟨w.heap.size, 0, none⟩) (by simp) (.slice a5 xs.length c5)).set_ 0 .nilIface
      have E2 := Lib.hid e2
      have E3 := Lib.hid e3
      have KF := Lib.hid kf
      clear e2 e3 kf
      refine leaves_cons (f := 12) (args := #[.pointer (some ⟨w.heap.size, 0, none⟩), .pointer (some ⟨w.heap.size + 1, 0, none⟩)]) (by simp) (by simp [go_sem]) ?_
      refine (tcatch_idle _ w.heap.size (w.heap.size + 1)).mono ?_
      rintro e u' w7 ⟨rfl, rfl, rfl⟩
      show Leaves _ _ _ _ [] (settle _) _
      simp only [settle]
      refine tread_ret rfl rfl E2.out E3.out ⟨fun xs' he => ?_, fun c' n' he => ?_, HK5.out.and_ KF.out (fun i hi e => by omega)⟩
      · rw [HE5.out] at he; injection he with he; subst he
        exact ⟨_, rfl, (HX5.out.keeps KF.out (fun i hi e => by have := HP.out.up; omega)).more (by have := HP.out.up; omega)⟩
      · rw [HE5.out] at he; cases he
end Go.Proofs.YtemjbblehiaobaaDoor
