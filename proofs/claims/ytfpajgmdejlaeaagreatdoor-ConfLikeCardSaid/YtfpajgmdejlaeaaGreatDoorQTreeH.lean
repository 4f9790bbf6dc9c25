/-
  tree.Print: statements as text, so deep.
-/
import Derived.Test.YtfpajgmdejlaeaaGreatDoorQTreeG
namespace Go.Proofs.YtfpajgmdejlaeaaGreatDoor
open Go.RowKit

def indP (d : Nat) : List UInt8 := List.replicate (2 * d) 32
mutual
/-- a statement as text, so deep -/
def putN : Nd → Nat → Option (List UInt8)
  | .mk k as_ b l _, d => if !(headPr k as_).2 || (!b && decide (0 < l.length)) || (b && decide (d = 4)) then none else
      if b then (match putL l (d + 1) with | none => none | some t => some (indP d ++ (headPr k as_).1 ++ [32, 123, 10] ++ t ++ indP d ++ [125, 10]))
      else some (indP d ++ (headPr k as_).1 ++ [59, 10])
def putL : List Nd → Nat → Option (List UInt8)
  | [], _ => some []
  | x :: xs, d => match putN x d with
    | none => none
    | some a => match putL xs d with
      | none => none
      | some b => some (a ++ b)
end
mutual
/-- how many bytes are written at most -/
def costN : Nd → Nat → Nat | .mk k as_ _ l _, d => 4 * d + (headPr k as_).1.length + 8 + costL l (d + 1)
def costL : List Nd → Nat → Nat | [], _ => 0 | x :: xs, d => costN x d + costL xs d
end
mutual
/-- no text is endless -/
def fineN : Nd → Prop | .mk k as_ _ l _ => as_.length ≤ 16384 ∧ k.size ≤ 1073741824 ∧ (∀ s ∈ as_, s.size ≤ 1073741824) ∧ fineL l
def fineL : List Nd → Prop | [] => True | x :: xs => fineN x ∧ fineL xs
end
theorem fineL_get : ∀ (xs : List Nd), fineL xs → ∀ (i : Nat) (x : Nd), xs[i]? = some x → fineN x
  | [], _, i, x, h => by simp at h
  | y :: xs, hf, 0, x, h => by rw [fineL] at hf; simp at h; subst h; exact hf.1
  | y :: xs, hf, i + 1, x, h => by rw [fineL] at hf; simp at h; exact fineL_get xs hf.2 i x h
theorem costL_drop : ∀ (xs : List Nd) (d i : Nat) (x : Nd), xs[i]? = some x → costL (xs.drop i) d = costN x d + costL (xs.drop (i + 1)) d
  | [], d, i, x, h => by simp at h
  | y :: xs, d, 0, x, h => by simp at h; subst h; rw [List.drop_zero, costL]; rfl
  | y :: xs, d, i + 1, x, h => by simp at h; rw [List.drop_succ_cons, List.drop_succ_cons]; exact costL_drop xs d i x h
theorem putL_drop : ∀ (xs : List Nd) (d i : Nat) (x : Nd), xs[i]? = some x → putL (xs.drop i) d = match putN x d with | none => none | some a => (putL (xs.drop (i + 1)) d).map (a ++ ·)
  | [], d, i, x, h => by simp at h
  | y :: xs, d, 0, x, h => by
    simp at h; subst h
    rw [List.drop_zero, putL]
    show _ = match putN y d with | none => none | some a => (putL xs d).map (a ++ ·)
    cases putN y d with
    | none => rfl
    | some a => cases putL xs d <;> rfl
  | y :: xs, d, i + 1, x, h => by simp at h; rw [List.drop_succ_cons, List.drop_succ_cons]; exact putL_drop xs d i x h
mutual
theorem putN_cost : ∀ (x : Nd) (d : Nat) (t : List UInt8), putN x d = some t → t.length ≤ costN x d
  | .mk k as_ b l li, d, t, h => by
    rw [putN] at h
    rw [costN]
    have hi : (indP d).length = 2 * d := by unfold indP; rw [List.length_replicate]
    split at h
    · cases h
    · split at h
      · cases hp : putL l (d + 1) with
        | none => rw [hp] at h; cases h
        | some u =>
          rw [hp] at h
          have := putL_cost l (d + 1) u hp
          injection h with h; subst h
          simp only [List.length_append, List.length_cons, List.length_nil]; omega
      · injection h with h; subst h
        simp only [List.length_append, List.length_cons, List.length_nil]; omega
theorem putL_cost : ∀ (xs : List Nd) (d : Nat) (t : List UInt8), putL xs d = some t → t.length ≤ costL xs d
  | [], d, t, h => by rw [putL] at h; injection h with h; subst h; simp
  | x :: xs, d, t, h => by
    rw [putL] at h
    rw [costL]
    cases hx : putN x d with
    | none => rw [hx] at h; cases h
    | some a =>
      rw [hx] at h
      cases hxs : putL xs d with
      | none => rw [hxs] at h; cases h
      | some b =>
        rw [hxs] at h
        injection h with h; subst h
        have h1 := putN_cost x d a hx
        have h2 := putL_cost xs d b hxs
        rw [List.length_append]; omega
end
theorem indent_any (w : World) (d : Nat) (hd : d ≤ 4) : Calls Tryz.prog 95 #[.string ⟨#[32, 32]⟩, .int .i64 d] w fun e w' => e = .returned (.string (str (indP d))) ∧ Keeps (fun _ => False) w w' := by
  refine (Tryz.strings_Repeat ⟨#[32, 32]⟩ d w (by omega) (by rw [show (⟨#[32, 32]⟩ : ByteArray).size = 2 from rfl]; omega)).mono ?_
  rintro e w' ⟨rfl, hb⟩
  refine ⟨?_, Keeps.of_below hb⟩
  have h := Lib.repeatL_replicate 32 2 d
  show Ending.returned (.string (⟨(Lib.repeatL (List.replicate 2 32) d).toArray⟩ : ByteArray)) = _
  rw [h, Nat.mul_comm]; rfl
theorem IsB.blk {T e : TypeId} {B b : Nat} {bs : List Value} {w : World} (h : Lib.IsBuilder T e B b bs w) : ∃ cs, Blk w b T cs := by
  rcases h with ⟨-, v, hb, -⟩ | ⟨-, v, hb, -⟩ <;> exact ⟨_, hb⟩
set_option maxHeartbeats 2000000 in
set_option maxRecDepth 100000 in
/-- what is told to a builder: the frame by types -/
theorem bwrite_t (B b : Nat) (bs : List Value) (s : ByteArray) (w : World) (h : Lib.IsBuilder 113 5 B b bs w) (hlen : bs.length + s.size ≤ 140737488355328) (hBw : B ≤ w.heap.size) :
    Calls Tryz.prog 97 #[.pointer (some ⟨b, 0, none⟩), .string s] w fun e w' => e = .returned (.tuple #[.int .i64 s.size, .nilIface]) ∧ Lib.BuilderAt 113 5 B b (.pointer (some ⟨b, 0, none⟩)) (bs ++ Lib.strCells s) w' ∧ Keeps (fun i => B ≤ i ∧ (i = b ∨ ∃ cs, Blk w i 5 cs)) w w' := by
  obtain ⟨i0, hi, hz0, hz1, hz2⟩ := info_parts (show (Tryz.prog.info? 5).map (fun i => (i.zero, i.size, i.bytes)) = some (some (.int .u8 0), 1, 1) by kernel_rfl)
  have hck : Calls Tryz.prog 137 #[.pointer (some ⟨b, 0, none⟩)] w fun e w' => e = .returned (.tuple #[]) ∧ (Lib.BuilderAt 113 5 B b (.pointer (some ⟨b, 0, none⟩)) bs w' ∧ Keeps (fun i => i = b) w w') := by
    rcases h with h | h
    · refine (bcheck_fresh b w h.cell0 h.shape h.frozen0).mono ?_
      rintro e w' ⟨rfl, rfl⟩
      exact ⟨rfl, h.used _, Keeps.set1 w b 0 _⟩
    · refine (bcheck_used b w h.cell0).mono ?_
      rintro e w' ⟨rfl, rfl⟩
      exact ⟨rfl, h, Keeps.refl _ _⟩
  have HCK := Lib.hid hck
  clear hck
  go_enter Tryz.func97, Tryz.ntmps97
  go_wp2_with (go_at_call 137; refine HCK.out.mono ?_)
  rintro e w1 ⟨rfl, h1, hb1⟩
  obtain ⟨hB, v, hbk, hown, hne⟩ := h1
  have hbt := OwnL.ownBlk (show OwnL w1 B 5 v bs from hown)
  have c0 : w1.cell? ⟨b, 0, none⟩ = some (.pointer (some ⟨b, 0, none⟩)) := by rw [Lib.cell_of_heap hbk]; rfl
  have c1 : w1.cell? ⟨b, 1, none⟩ = some v := by rw [Lib.cell_of_heap hbk]; rfl
  have hs1 := hb1.size
  have hoff : ∀ k, v.ownBlock = some k → k < w.heap.size → B ≤ k ∧ ∃ cs, Blk w k 5 cs := fun k hk hlt => by
    obtain ⟨cs, hc⟩ := hbt k hk
    have hkb : k ≠ b := fun e => by subst e; exact hne hk
    exact ⟨(hown.lt k hk).1, cs, (hb1.block k hlt hkb).symm.trans hc⟩
  have HOFF := Lib.hid hoff
  clear hbt hoff
  go_wp2_with (at_builtin; refine Lib.wpList_append_own_string _ rfl _ _ 90 9 rfl B 5 i0 Tryz.underlying90 Tryz.underlying9 hi hz0 hz1 hz2 _ _ _ rfl hown s rfl ?c3 ?c4 ?c5 ?_)
  case c3 => unfold maxLen; omega
  case c4 => omega
  case c5 => omega
  intro v' w2 hown' hgrow _
  have hlt : b < w1.heap.size := by
    rcases Nat.lt_or_ge b w1.heap.size with h' | h'
    · exact h'
    · simp [Array.getElem?_eq_none h'] at hbk
  have hb2 : w2.heap[b]? = some (.cells #[.pointer (some ⟨b, 0, none⟩), v] 113 (0, 0)) := by
    rw [hgrow.block b hlt (fun e => hne e.symm)]
    exact hbk
  have d0 : w2.cell? ⟨b, 0, none⟩ = some (.pointer (some ⟨b, 0, none⟩)) := by rw [Lib.cell_of_heap hb2]; rfl
  have d1 : w2.cell? ⟨b, 1, none⟩ = some v := by rw [Lib.cell_of_heap hb2]; rfl
  have f1 : w2.frozen? ⟨b, 1, none⟩ = false := Lib.frozen_of_heap hb2 1
  obtain ⟨ao, n', cap, rfl⟩ : ∃ ao n' cap, v' = .slice ao n' cap := by
    rcases hown'.2 with ⟨hv, _⟩ | ⟨g, cap, cur, hv, _⟩
    · exact ⟨_, _, _, hv⟩
    · exact ⟨_, _, _, hv⟩
  go_wp2
  go_ret2
  refine ⟨rfl, ?_, ?_⟩
  · exact Lib.BuilderAt.put hB hb2 (bs' := bs ++ Lib.strCells s) (by simpa [Lib.strCells_length] using hown') (by decide)
  · exact ((hb1.mono (fun i _ h => ⟨by subst h; exact hB, .inl h⟩)).grown hgrow (fun k hk hlt => ⟨(HOFF.out k hk hlt).1, .inr (HOFF.out k hk hlt).2⟩)).setCell (p := ⟨b, 1, none⟩) (fun _ => ⟨hB, .inl rfl⟩) _
theorem tell_any (B b : Nat) (X : List UInt8) (s : List UInt8) (w : World) (h : Lib.IsBuilder 113 5 B b (Lib.byteCells X) w) (hlen : X.length + s.length ≤ 140737488355328) (hBw : B ≤ w.heap.size) :
    Calls Tryz.prog 97 #[.pointer (some ⟨b, 0, none⟩), .string (str s)] w fun e w' => (∃ v, e = .returned v) ∧ Lib.IsBuilder 113 5 B b (Lib.byteCells (X ++ s)) w' ∧ (Keeps (fun i => B ≤ i) w w' ∧ ∀ g cs, Blk w g 60 cs → Blk w' g 60 cs) := by
  obtain ⟨bcs, hbb⟩ := IsB.blk h
  refine ((bwrite_t B b (Lib.byteCells X) (str s) w h (by rw [str_size]; simp [Lib.byteCells]; exact hlen) hBw)).mono ?_
  rintro e w' ⟨rfl, h1, k2⟩
  refine ⟨⟨_, rfl⟩, .inr ?_, k2.mono (fun _ _ h => h.1), fun g cs hg => hg.keeps k2 ?_⟩
  · rw [byteCells_app, str_list] at h1
    exact h1
  · rintro ⟨-, e | ⟨cs', e⟩⟩
    · subst e; exact Blk.ne_ hg hbb (by decide) rfl
    · exact Blk.ne_ hg e (by decide) rfl
theorem str_app (a b : List UInt8) : str a ++ str b = str (a ++ b) := ba_ext (by rw [append_str, str_list, str_list, str_list])
set_option maxRecDepth 100000 in
set_option maxHeartbeats 2000000 in
theorem tput_any (B b : Nat) : ∀ (m : Nat) (xs : List Nd) (w : World) (S : Nat → Prop) (v : Value) (d : Nat) (X : List UInt8), countL xs ≤ m → NdsAt w S v xs → (∀ i, S i → i < B) → fineL xs → X.length + costL xs d ≤ 1099511627776 → d ≤ 4 →
    Lib.IsBuilder 113 5 B b (Lib.byteCells X) w → B ≤ w.heap.size →
    Calls Tryz.prog 59 #[.pointer (some ⟨b, 0, none⟩), v, .int .i64 d] w fun e w' => (∀ t, putL xs d = some t → e = .returned (.bool true) ∧ Lib.IsBuilder 113 5 B b (Lib.byteCells (X ++ t)) w') ∧ (putL xs d = none → e = .returned (.bool false)) ∧ Keeps (fun i => B ≤ i) w w' := by
  intro m
  induction m using Nat.strongRecOn with
  | _ m IH =>
  intro xs w S v d X hm h hSB hfine hcost hd hbld hBw
  obtain ⟨a, c, rfl, hle, hcap⟩ := h.sl
  have hln2 : xs.length ≤ 9223372036854775807 := by unfold maxLen at hcap; omega
  have H := Lib.hid h
  have HI := Lib.hid IH
  have HSB := Lib.hid hSB
  have HF := Lib.hid (fineL_get xs hfine)
  have HB := Lib.hid hbld
  have HIN := Lib.hid (fun W => indent_any W d hd)
  have HCO := Lib.hid hcost
  obtain ⟨O, hO⟩ : ∃ O, O = putL xs d := ⟨_, rfl⟩
  rw [← hO]
  have HO := Lib.hid hO
  clear h IH hSB hfine hbld hcost hO
  go_enter Tryz.func59, Tryz.ntmps59
  go_wp2_with fail
  refine (HIN.out _).mono ?_
  rintro e w1 ⟨rfl, k1⟩
  have HK1 := Lib.hid k1
  have HB1 := Lib.hid (bld_keeps HB.out k1 (fun _ _ => id))
  clear k1
  go_wp2_with fail
  go_loopw [16] (fun u wr => ∃ (i : Nat) (tx : List UInt8), i ≤ xs.length ∧ u = .int .i64 i ∧ Hid (Lib.IsBuilder 113 5 B b (Lib.byteCells (X ++ tx)) wr ∧ O = (putL (xs.drop i) d).map (tx ++ ·) ∧ tx.length + costL (xs.drop i) d ≤ costL xs d ∧ Keeps (fun i => B ≤ i) w wr)) (fun u _ => xs.length - (intOf u).toNat)
  case atStart => exact ⟨0, [], Nat.zero_le _, rfl, Lib.hid ⟨by rw [List.append_nil]; exact HB1.out, by rw [HO.out, List.drop_zero]; cases putL xs d <;> rfl, by rw [List.drop_zero]; simp, HK1.out.none_⟩⟩
  case round =>
    obtain ⟨i, tx, hi, rfl, HR⟩ := hrel
    by_cases hlt : i < xs.length
    · obtain ⟨x, hx⟩ : ∃ x, xs[i]? = some x := ⟨_, List.getElem?_eq_getElem hlt⟩
      obtain ⟨hbl, hOe, hco, hK⟩ := HR.out
      obtain ⟨bk, off, ⟨rk, ra, rn, rc, rb, rla, rln, rlc, rli⟩, rfl, hbkl, hSb, -, -, hml, hM, hcell⟩ := nds_at H.out hx
      have hbkB := HSB.out bk hSb
      obtain ⟨x0, x1, x2, x3, x4⟩ := hcell wr (hK.mono (fun j _ h => by omega))
      obtain ⟨as_, has, han, hxe⟩ := hM.parts
      simp only at has han hxe
      have hfx := HF.out i x hx
      have hcs := countL_sub xs i x hx
      have hcd := costL_drop xs d i x hx
      have hpd := putL_drop xs d i x hx
      have hsub := NdM.subs hM
      simp only at hsub
      obtain ⟨sub, hsube⟩ : ∃ sub, sub = subsN x := ⟨_, rfl⟩
      rw [← hsube] at hxe hsub hcs
      rw [hxe] at hfx hcd hpd
      rw [fineN] at hfx
      rw [costN] at hcd
      obtain ⟨hf1, hf2, hf3, hf4⟩ := hfx
      obtain ⟨hd1, hokv⟩ : ∃ hd1 okv, headPr rk as_ = (hd1, okv) := ⟨_, _, rfl⟩
      obtain ⟨okv, hhp⟩ := hokv
      rw [hhp] at hcd
      have hcoo := HCO.out
      simp only at hcd
      have hrln : rln = sub.length := by obtain ⟨_, _, hse, -, -⟩ := hsub.sl; injection hse
      subst hrln
      have hal := has.1
      subst hal
      have hWk := fun W (k : Keeps (fun i => B ≤ i) w W) => thead_any W S x ⟨rk, ra, as_.length, rc, rb, rla, sub.length, rlc, rli⟩ as_ (NdM.keeps k (fun j _ hj => by have := HSB.out j hj; omega) _ _ hM) (has.keepsS (S := S) (by obtain ⟨_, _, _, _, _⟩ := x; rw [NdM] at hM; exact hM.2.2.2.1.2.1) k (fun j _ hj => by have := HSB.out j hj; omega)) hf1 ⟨hf2, hf3⟩ (by rw [hhp]; simp only; omega)
      simp only [ndR, hhp] at hWk
      have HHD := Lib.hid hWk
      have HSUB := Lib.hid (fun W (k : Keeps (fun i => B ≤ i) w W) => NdsAt.keeps hsub k (fun j _ hj => by have := HSB.out j hj; omega))
      have HF4 := Lib.hid hf4
      have HBL := Lib.hid hbl
      have HK := Lib.hid hK
      have hs1 : (str (indP d)).size ≤ 8 := by rw [str_size]; unfold indP; rw [List.length_replicate]; omega
      have hs2 : (str hd1).size ≤ 1099511627776 := by rw [str_size]; omega
      have hszr := hK.size
      obtain ⟨wq, hwq⟩ : ∃ wq, wq = wr.alloc (.cells #[.string rk, .slice ra as_.length rc, .bool rb, .slice rla sub.length rlc, .int .i64 rli] 60) := ⟨_, rfl⟩
      have HWQ := Lib.hid hwq
      have hkq : Keeps (fun _ => False) wr wq := by rw [hwq]; exact (Keeps.refl _ _).alloc _
      have HQ := Lib.hid (show Blk wq wr.heap.size 60 #[.string rk, .slice ra as_.length rc, .bool rb, .slice rla sub.length rlc, .int .i64 rli] by rw [hwq]; exact Blk.new _ _ _)
      have HKQ := Lib.hid (hK.and_ hkq (fun _ _ h => h.elim))
      have HBLQ := Lib.hid (bld_keeps hbl hkq (fun _ _ => id))
      have HPD := Lib.hid hpd
      have HHP := Lib.hid hhp
      have HIL : Hid ((indP d).length = 2 * d) := Lib.hid (by unfold indP; rw [List.length_replicate])
      have HOE := Lib.hid hOe
      have HCD := Lib.hid (And.intro hcd (And.intro hco hcoo))
      clear hx hcell hM has hxe hpd hsub hsube hWk hf1 hf2 hf3 hf4 hbl hOe hK hwq hkq hhp hSb hcd hco hcoo
      go_wp2_with fail
      rw [← HWQ.out]
      refine (HHD.out _ HKQ.out).mono ?_
      rintro e w2 ⟨rfl, k2⟩
      have hq2 := HQ.out.keeps k2 id
      obtain ⟨⟨y0, y1, y2, y3, y4⟩, -⟩ := hq2.all5
      have HQ2 := Lib.hid hq2
      have HK2 := Lib.hid (HKQ.out.and_ k2 (fun _ _ h => h.elim))
      have HB2 := Lib.hid (bld_keeps HBLQ.out k2 (fun _ _ => id))
      have hsz2 := HK2.out.size
      clear k2 hq2
      cases okv with
      | false =>
        have HEND : Hid (O = none) := Lib.hid (by rw [HOE.out, HPD.out, putN, HHP.out]; simp)
        go_wp2_with fail
        go_ret
        exact ⟨fun t ht => (by rw [HEND.out] at ht; cases ht), fun _ => rfl, HK2.out⟩
      | true =>
        cases rb with
        | false =>
          by_cases hl : 0 < sub.length
          · have HEND : Hid (O = none) := Lib.hid (by rw [HOE.out, HPD.out, putN, HHP.out]; simp [hl])
            go_wp2_with fail
            go_ret
            exact ⟨fun t ht => (by rw [HEND.out] at ht; cases ht), fun _ => rfl, HK2.out⟩
          · have HEND : Hid (O = (putL (xs.drop (i + 1)) d).map ((tx ++ (indP d ++ hd1 ++ [59, 10])) ++ ·)) := Lib.hid (by rw [HOE.out, HPD.out, putN, HHP.out]; simp [hl, Function.comp_def])
            go_wp2_with fail
            rw [str_app]
            refine (tell_any B b (X ++ tx) (indP d ++ hd1) w2 HB2.out (by have := HCD.out; have := HIL.out; simp only [List.length_append]; omega) (by omega)).mono ?_
            rintro e w3 ⟨⟨v3, rfl⟩, hb3, k3, kq3⟩
            have hq3 := kq3 _ _ HQ2.out
            obtain ⟨⟨y0, y1, y2, y3, y4⟩, -⟩ := hq3.all5
            have HB3 := Lib.hid hb3
            have HK3 := Lib.hid (HK2.out.trans k3)
            have hs3 := k3.size
            clear hb3 k3 kq3 hq3
            go_wp2_with fail
            refine (tell_any B b (X ++ tx ++ (indP d ++ hd1)) [59, 10] w3 HB3.out (by have := HCD.out; have := HIL.out; simp only [List.length_append, List.length_cons, List.length_nil]; omega) (by omega)).mono ?_
            rintro e w4 ⟨⟨v4, rfl⟩, hb4, k4, -⟩
            have HB4 := Lib.hid hb4
            have HK4 := Lib.hid (HK3.out.trans k4)
            clear hb4 k4
            go_wp2_with fail
            go_roundw
            case rel => exact ⟨i + 1, _, by omega, by go_num, Lib.hid ⟨by have := HB4.out; simpa only [List.append_assoc] using this, HEND.out, by have := HCD.out; have := HIL.out; simp only [List.length_append, List.length_cons, List.length_nil]; omega, HK4.out⟩⟩
            case measure => simp [intOf] <;> omega
        | true =>
          by_cases hd4 : d = 4
          · have hbe : ((d : Int) == 4) = true := by rw [beq_iff_eq]; omega
            have HEND : Hid (O = none) := Lib.hid (by rw [HOE.out, HPD.out, putN, HHP.out]; simp [hd4])
            clear hd4
            go_wp2_with fail
            go_ret
            exact ⟨fun t ht => (by rw [HEND.out] at ht; cases ht), fun _ => rfl, HK2.out⟩
          · have hbe : ((d : Int) == 4) = false := by rw [beq_eq_false_iff_ne]; omega
            have hwr : IntKind.i64.wrap ((d : Int) + 1) = (d : Int) + 1 := IntWalk.i64_in _ (by omega)
            have HOE2 : Hid (O = match (match putL sub (d + 1) with | none => none | some t => some (indP d ++ hd1 ++ [32, 123, 10] ++ t ++ indP d ++ [125, 10])) with | none => none | some a => (putL (xs.drop (i + 1)) d).map ((tx ++ a) ++ ·)) := Lib.hid (by rw [HOE.out, HPD.out, putN, HHP.out]; simp only [Bool.not_true, Bool.false_and, Bool.or_false, Bool.true_and, decide_eq_true_eq, Bool.false_or, if_neg hd4, if_true]; cases putL sub (d + 1) with | none => rfl | some t => simp [Function.comp_def])
            have hd5 : d + 1 ≤ 4 := by omega
            clear hd4
            go_wp2_with fail
            rw [str_app]
            refine (tell_any B b (X ++ tx) (indP d ++ hd1) w2 HB2.out (by have := HCD.out; have := HIL.out; simp only [List.length_append]; omega) (by omega)).mono ?_
            rintro e w3 ⟨⟨v3, rfl⟩, hb3, k3, kq3⟩
            have hq3 := kq3 _ _ HQ2.out
            obtain ⟨⟨y0, y1, y2, y3, y4⟩, -⟩ := hq3.all5
            have HQ3 := Lib.hid hq3
            have HB3 := Lib.hid hb3
            have HK3 := Lib.hid (HK2.out.trans k3)
            have hs3 := k3.size
            clear hb3 k3 kq3 hq3
            go_wp2_with fail
            refine (tell_any B b (X ++ tx ++ (indP d ++ hd1)) [32, 123, 10] w3 HB3.out (by have := HCD.out; have := HIL.out; simp only [List.length_append, List.length_cons, List.length_nil]; omega) (by omega)).mono ?_
            rintro e w4 ⟨⟨v4, rfl⟩, hb4, k4, kq4⟩
            have hq4 := kq4 _ _ HQ3.out
            obtain ⟨⟨y0, y1, y2, y3, y4⟩, -⟩ := hq4.all5
            have HB4 := Lib.hid hb4
            have HK4 := Lib.hid (HK3.out.trans k4)
            have hs4 := k4.size
            have hput := HI.out (countL sub) (by omega) sub w4 S _ (d + 1) (X ++ tx ++ (indP d ++ hd1) ++ [32, 123, 10]) (Nat.le_refl _) (HSUB.out w4 HK4.out) HSB.out HF4.out (by have := HCD.out; have := HIL.out; simp only [List.length_append, List.length_cons, List.length_nil]; omega) hd5 HB4.out (by omega)
            rw [show ((d + 1 : Nat) : Int) = (d : Int) + 1 by omega] at hput
            have HPUT := Lib.hid hput
            clear hb4 k4 kq4 hq4 hput
            cases hps : putL sub (d + 1) with
            | none =>
              have hoe := HOE2.out
              rw [hps] at hoe
              simp only at hoe
              have HEND := Lib.hid hoe
              have HPS := Lib.hid hps
              clear hoe hps
              go_wp2_with fail
              refine HPUT.out.mono ?_
              rintro e w5 ⟨-, hbad, k5⟩
              obtain rfl := hbad HPS.out
              have HK5 := Lib.hid (HK4.out.trans k5)
              clear hbad k5
              go_wp2_with fail
              go_ret
              exact ⟨fun t ht => (by rw [HEND.out] at ht; cases ht), fun _ => rfl, HK5.out⟩
            | some t =>
              have hoe := HOE2.out
              rw [hps] at hoe
              simp only at hoe
              have HEND := Lib.hid hoe
              have HPS := Lib.hid hps
              have HTL := Lib.hid (putL_cost sub (d + 1) t hps)
              clear hoe hps
              go_wp2_with fail
              refine HPUT.out.mono ?_
              rintro e w5 ⟨hok, -, k5⟩
              obtain ⟨rfl, hb5⟩ := hok t HPS.out
              have HB5 := Lib.hid hb5
              have HK5 := Lib.hid (HK4.out.trans k5)
              have hs5 := k5.size
              clear hok k5 hb5
              go_wp2_with fail
              rw [show (str (indP d) ++ ({ data := #[125, 10] } : ByteArray)) = str (indP d ++ [125, 10]) from str_app _ [125, 10]]
              refine (tell_any B b (X ++ tx ++ (indP d ++ hd1) ++ [32, 123, 10] ++ t) (indP d ++ [125, 10]) w5 HB5.out (by have := HCD.out; have := HIL.out; have := HTL.out; simp only [List.length_append, List.length_cons, List.length_nil]; omega) (by omega)).mono ?_
              rintro e w6 ⟨⟨v6, rfl⟩, hb6, k6, -⟩
              have HB6 := Lib.hid hb6
              have HK6 := Lib.hid (HK5.out.trans k6)
              clear hb6 k6
              go_wp2_with fail
              go_roundw
              case rel => exact ⟨i + 1, _, by omega, by go_num, Lib.hid ⟨by have := HB6.out; simpa only [List.append_assoc] using this, by rw [HEND.out]; simp only [List.append_assoc], by have := HCD.out; have := HIL.out; have := HTL.out; simp only [List.length_append, List.length_cons, List.length_nil]; omega, HK6.out⟩⟩
              case measure => simp [intOf] <;> omega
    · have hie : i = xs.length := by omega
      subst hie
      obtain ⟨hbl, hOe, -, hK⟩ := HR.out
      rw [List.drop_length, putL] at hOe
      have HEND := Lib.hid hOe
      have HBL := Lib.hid hbl
      have HK := Lib.hid hK
      clear hOe hbl hK
      go_wp2_with fail
      go_ret
      refine ⟨fun t ht => ?_, fun hn => (by rw [HEND.out] at hn; cases hn), HK.out⟩
      rw [HEND.out] at ht
      simp only [Option.map_some, Option.some.injEq, List.append_nil] at ht
      subst ht
      exact ⟨rfl, HBL.out⟩
end Go.Proofs.YtfpajgmdejlaeaaGreatDoor
