/-
  tree.Count; tree.Same of the same statements.
-/
import Derived.Test.YtemjbblehiaobaaDoorTreeE
namespace Go.Proofs.YtemjbblehiaobaaDoor
open Go.RowKit

mutual
def countN : Nd → Nat | .mk _ _ _ l _ => 1 + countL l
def countL : List Nd → Nat | [] => 0 | x :: xs => countN x + countL xs
end
def subsN : Nd → List Nd | .mk _ _ _ l _ => l
/-- a statement of a row: its cells, and what they mean -/
theorem nds_at {w : World} {S : Nat → Prop} {a : Option Addr} {n c : Nat} {xs : List Nd} (h : NdsAt w S (.slice a n c) xs) {i : Nat} {x : Nd} (hx : xs[i]? = some x) :
    ∃ b off r, a = some ⟨b, off, none⟩ ∧ b < w.heap.size ∧ S b ∧ n = xs.length ∧ i < xs.length ∧ xs.length ≤ maxLen ∧ NdM w S x r ∧ ∀ W, Keeps (fun j => j ≠ b) w W →
      W.cell? ⟨b, off + i * 5, none⟩ = some (.string r.key) ∧ W.cell? ⟨b, off + i * 5 + 1, none⟩ = some (.slice r.aa r.an r.ac) ∧ W.cell? ⟨b, off + i * 5 + 2, none⟩ = some (.bool r.block) ∧ W.cell? ⟨b, off + i * 5 + 3, none⟩ = some (.slice r.la r.ln r.lc) ∧ W.cell? ⟨b, off + i * 5 + 4, none⟩ = some (.int .i64 r.line) := by
  obtain ⟨a2, c2, rs, hv, h1, h2, h3, h4, h5⟩ := h
  injection hv with e1 e2 e3
  subst e1 e3 e2
  have hi : i < xs.length := (List.getElem?_eq_some_iff.1 hx).1
  obtain ⟨b, off, ha, hb, hc⟩ := h1.2 (by omega)
  obtain ⟨b', off', ha', hS⟩ := h2 (by omega)
  obtain rfl : b = b' := by rw [ha] at ha'; injection ha' with e; injection e
  obtain ⟨r, hr, hm⟩ := NdAll.get xs rs h5 i x hx
  refine ⟨b, off, r, ha, hb, hS, rfl, hi, by omega, hm, fun W k => ?_⟩
  have hh : ∀ j v, (ndR r)[j]? = some v → W.cell? ⟨b, off + i * 5 + j, none⟩ = some v := fun j v hj => (World.cell?_of_block (w := w) (k.block b hb (by simp))).trans (hc i r j v hr hj)
  exact ⟨hh 0 _ rfl, hh 1 _ rfl, hh 2 _ rfl, hh 3 _ rfl, hh 4 _ rfl⟩
theorem NdM.subs {w : World} {S : Nat → Prop} {x : Nd} {r : NdV} (h : NdM w S x r) : NdsAt w S (.slice r.la r.ln r.lc) (subsN x) := by
  obtain ⟨k, as_, b, l, li⟩ := x
  rw [NdM] at h
  obtain ⟨-, -, -, -, rs, h1, h2, h3, h4, h5⟩ := h
  have hl := NdAll.len _ _ h5
  have : r.ln = l.length := by rw [hl, h1.1]
  rw [this] at h1 h2 h3 ⊢
  exact ⟨r.la, r.lc, rs, rfl, h1, h2, h3, h4, h5⟩
theorem countL_len : ∀ xs : List Nd, xs.length ≤ countL xs
  | [] => Nat.zero_le _
  | .mk _ _ _ l _ :: xs => by rw [countL, countN, List.length_cons]; have := countL_len xs; omega
theorem countL_drop : ∀ (xs : List Nd) (i : Nat) (x : Nd), xs[i]? = some x → countL (xs.drop i) = 1 + countL (subsN x) + countL (xs.drop (i + 1))
  | [], i, x, h => by simp at h
  | y :: xs, 0, x, h => by
    simp at h; subst h
    obtain ⟨k, as_, b, l, li⟩ := y
    rw [List.drop_zero, countL, countN]
    rfl
  | y :: xs, i + 1, x, h => by
    simp at h
    rw [List.drop_succ_cons, List.drop_succ_cons]
    exact countL_drop xs i x h
theorem countL_sub : ∀ (xs : List Nd) (i : Nat) (x : Nd), xs[i]? = some x → countL (subsN x) < countL xs
  | [], i, x, h => by simp at h
  | y :: xs, 0, x, h => by
    simp at h; subst h
    obtain ⟨k, as_, b, l, li⟩ := y
    rw [countL, countN]
    show countL l < _
    omega
  | y :: xs, i + 1, x, h => by
    simp at h
    have := countL_sub xs i x h
    rw [countL]; omega
theorem Nds.fit {w w' : World} {S : Nat → Prop} {v : Value} {xs : List Nd} (h : NdsAt w S v xs) (k : Keeps (fun _ => False) w w') : NdsAt w' S v xs := h.keeps k (fun _ _ _ => id)

set_option maxRecDepth 100000 in
set_option maxHeartbeats 1000000 in
theorem tcount_any : ∀ (m : Nat) (xs : List Nd) (w : World) (S : Nat → Prop) (v : Value), countL xs ≤ m → countL xs ≤ 1099511627776 → NdsAt w S v xs →
    Calls Tryd.prog 10 #[v] w fun e w' => e = .returned (.int .i64 (countL xs : Nat)) ∧ Keeps (fun _ => False) w w' := by
  intro m
  induction m using Nat.strongRecOn with
  | _ m IH =>
  intro xs w S v hm hbig h
  obtain ⟨a, c, rfl, hle, hcap⟩ := h.sl
  have H := Lib.hid h
  have HI := Lib.hid IH
  have hln := countL_len xs
  clear h IH
  go_enter Tryd.func10, Tryd.ntmps10
  go_wp2_with fail
  go_loopw [3, 10] (fun u3 u10 wr => ∃ (i acc : Nat), i ≤ xs.length ∧ u10 = .int .i64 i ∧ u3 = .int .i64 acc ∧ Hid (acc + countL (xs.drop i) = countL xs + (xs.drop i).length) ∧ Keeps (fun _ => False) w wr) (fun _ u10 _ => xs.length - (intOf u10).toNat)
  case atStart => exact ⟨0, xs.length, Nat.zero_le _, rfl, rfl, Lib.hid (by rw [List.drop_zero]; omega), Keeps.refl _ _⟩
  case round =>
    obtain ⟨i, acc, hi, rfl, rfl, HA, hK⟩ := hrel
    have HK := Lib.hid hK
    clear hK
    by_cases hlt : i < xs.length
    · obtain ⟨x, hx⟩ : ∃ x, xs[i]? = some x := ⟨_, List.getElem?_eq_getElem hlt⟩
      obtain ⟨b, off, ⟨rk, ra, rn, rc, rb, rla, rln, rlc, rli⟩, rfl, hbl, hSb, -, -, hml, hM, hcell⟩ := nds_at H.out hx
      obtain ⟨x0, x1, x2, x3, x4⟩ := hcell wr HK.out.none_
      have HX := Lib.hid hx
      have HM := Lib.hid hM
      have hs := countL_sub xs i x hx
      have hd := countL_drop xs i x hx
      have hdl : (xs.drop i).length = (xs.drop (i + 1)).length + 1 := by rw [List.length_drop, List.length_drop]; omega
      have ha2 := HA.out
      have hdln := countL_len (xs.drop (i + 1))
      have hacc : acc + countL (subsN x) ≤ 1099511627776 := by omega
      have HA2 : Hid (acc + countL (subsN x) + countL (xs.drop (i + 1)) = countL xs + (xs.drop (i + 1)).length) := Lib.hid (by omega)
      clear hx hcell hM hd hdl ha2 hdln
      go_wp2_with fail
      refine (HI.out (countL (subsN x)) (by omega) (subsN x) _ S _ (Nat.le_refl _) (by omega) (Nds.fit (NdM.subs HM.out) (HK.out.alloc _))).mono ?_
      rintro e w3 ⟨rfl, k3⟩
      have HK3 := Lib.hid ((HK.out.alloc _).trans k3)
      clear k3
      go_wp2_with fail
      go_roundw
      case rel => exact ⟨i + 1, acc + countL (subsN x), by omega, by go_num, by go_num, HA2, HK3.out⟩
      case measure => simp [intOf] <;> omega
    · have hie : i = xs.length := by omega
      subst hie
      have hf : Hid (acc = countL xs) := Lib.hid (by have := HA.out; rw [List.drop_length] at this; simp [countL] at this; omega)
      go_wp2_with fail
      go_ret
      exact ⟨by rw [hf.out]; rfl, HK.out⟩

/-- slices.Equal at texts -/
theorem seq_any (w : World) (a a2 : Option Addr) (n c n2 c2 : Nat) (l : List ByteArray) (h1 : SlAt strR 1 w a n l) (h2 : SlAt strR 1 w a2 n2 l) (hn : n ≤ maxLen) :
    Calls Tryd.prog 19 #[.slice a n c, .slice a2 n2 c2] w fun e w' => e = .returned (.bool true) ∧ Keeps (fun _ => False) w w' := by
  obtain rfl : n = n2 := by rw [← h1.1, h2.1]
  have hl := h1.1
  have hn2 : n ≤ 9223372036854775807 := by unfold maxLen at hn; omega
  have H1 := Lib.hid h1
  have H2 := Lib.hid h2
  clear h1 h2
  go_enter Tryd.func19, Tryd.ntmps19
  go_wp2_with fail
  go_loopw [13] (fun u wr => ∃ i : Nat, i ≤ n ∧ u = .int .i64 i ∧ Keeps (fun _ => False) w wr) (fun u _ => n - (intOf u).toNat)
  case atStart => exact ⟨0, Nat.zero_le _, rfl, Keeps.refl _ _⟩
  case round =>
    obtain ⟨i, hi, rfl, hK⟩ := hrel
    have HK := Lib.hid hK
    clear hK
    by_cases hlt : i < n
    · obtain ⟨x, hx⟩ : ∃ x, l[i]? = some x := ⟨_, List.getElem?_eq_getElem (by omega)⟩
      obtain ⟨b, off, rfl, hb, hc⟩ := H1.out.2 (by omega)
      obtain ⟨b2, off2, rfl, hb2, hc2⟩ := H2.out.2 (by omega)
      have y0 := (World.cell?_of_block (w := w) (HK.out.block b hb id)).trans (SlAt.str hc i x hx)
      have y1 := (World.cell?_of_block (w := w) (HK.out.block b2 hb2 id)).trans (SlAt.str hc2 i x hx)
      clear hc hc2 hx
      go_wp2_with fail
      go_region
      all_goals
        go_wp2_with fail
        go_roundw
        case rel => exact ⟨i + 1, by omega, by go_num, HK.out.drew⟩
        case measure => simp [intOf] <;> omega
    · have hie : i = n := by omega
      subst hie
      go_wp2_with fail
      go_ret
      exact ⟨rfl, HK.out⟩
theorem sameL_get : ∀ (xs ys : List Nd), sameL xs ys → ∀ (i : Nat) (x y : Nd), xs[i]? = some x → ys[i]? = some y → sameN x y
  | [], _, _, i, x, y, h, _ => by simp at h
  | a :: xs, [], h, _, _, _, _, _ => by rw [sameL] at h; exact h.elim; simp; simp
  | a :: xs, b :: ys, h, 0, x, y, hx, hy => by
    rw [sameL] at h
    simp at hx hy
    subst hx hy
    exact h.1
  | a :: xs, b :: ys, h, i + 1, x, y, hx, hy => by
    rw [sameL] at h
    simp at hx hy
    exact sameL_get xs ys h.2 i x y hx hy
theorem NdM.parts {w : World} {S : Nat → Prop} {x : Nd} {r : NdV} (h : NdM w S x r) : ∃ as_, SlAt strR 1 w r.aa r.an as_ ∧ r.an ≤ maxLen ∧ x = .mk r.key as_ r.block (subsN x) r.line := by
  obtain ⟨k, as_, b, l, li⟩ := x
  rw [NdM] at h
  obtain ⟨h1, h2, h3, ⟨h4, h5, h6, h7⟩, -⟩ := h
  subst h1 h2 h3
  exact ⟨as_, h4, by omega, rfl⟩

set_option maxRecDepth 100000 in
/-- the closure: two statements that are the same -/
theorem tsame1_any (x y : Nd) (w : World) (S S' : Nat → Prop) (r q : NdV) (hx : NdM w S x r) (hy : NdM w S' y q) (hs : sameN x y)
    (IH : ∀ W (v v' : Value), NdsAt W S v (subsN x) → NdsAt W S' v' (subsN y) → Calls Tryd.prog 8 #[v, v'] W fun e w' => e = .returned (.bool true) ∧ Keeps (fun _ => False) W w') :
    Calls Tryd.prog 18 #[.agg (ndR r).toArray, .agg (ndR q).toArray] w fun e w' => e = .returned (.bool true) ∧ Keeps (fun _ => False) w w' := by
  obtain ⟨as1, ha1, hn1, hx1⟩ := hx.parts
  obtain ⟨as2, ha2, hn2, hy1⟩ := hy.parts
  rw [hx1, hy1, sameN] at hs
  obtain ⟨hk, rfl, hb, hs⟩ := hs
  have hsx := NdM.subs hx
  have hsy := NdM.subs hy
  obtain ⟨rk, ra, rn, rc, rb, rla, rln, rlc, rli⟩ := r
  obtain ⟨qk, qa, qn, qc, qb, qla, qln, qlc, qli⟩ := q
  simp only at hk hb ha1 ha2 hn1 hn2 hsx hsy
  subst hk hb
  simp only [ndR]
  have HE := Lib.hid (fun W (k : Keeps (fun _ => False) w W) => seq_any W ra qa rn rc qn qc as1 (ha1.keeps k (fun _ _ => id)) (ha2.keeps k (fun _ _ => id)) hn1)
  have HS := Lib.hid (fun W (k : Keeps (fun _ => False) w W) => IH W _ _ (Nds.fit hsx k) (Nds.fit hsy k))
  obtain ⟨wb, hwb⟩ : ∃ wb, wb = (w.alloc (.cells #[.string rk, .slice ra rn rc, .bool rb, .slice rla rln rlc, .int .i64 rli] 35)).alloc (.cells #[.string rk, .slice qa qn qc, .bool rb, .slice qla qln qlc, .int .i64 qli] 35) := ⟨_, rfl⟩
  have hkb : Keeps (fun _ => False) w wb := by rw [hwb]; exact ((Keeps.refl _ _).alloc _).alloc _
  have hA : Blk wb w.heap.size 35 #[.string rk, .slice ra rn rc, .bool rb, .slice rla rln rlc, .int .i64 rli] := by rw [hwb]; exact (Blk.new _ _ _).alloc _
  have hB : Blk wb (w.heap.size + 1) 35 #[.string rk, .slice qa qn qc, .bool rb, .slice qla qln qlc, .int .i64 qli] := by rw [hwb]; exact Blk.new2 _ _ _ _
  have HWB := Lib.hid hwb
  have HKB := Lib.hid hkb
  have HA := Lib.hid hA
  have HB := Lib.hid hB
  clear hx hy hx1 hy1 hs ha1 ha2 hsx hsy IH hwb hkb hA hB
  go_enter Tryd.func18, Tryd.ntmps18
  go_wp2_with fail
  rw [← HWB.out]
  refine (HE.out _ HKB.out).mono ?_
  rintro e w2 ⟨rfl, k2⟩
  have hA := HA.out.keeps k2 id
  have hB := HB.out.keeps k2 id
  obtain ⟨⟨x0, x1, x2, x3, x4⟩, -⟩ := hA.all5
  obtain ⟨⟨y0, y1, y2, y3, y4⟩, -⟩ := hB.all5
  have HK2 := Lib.hid (HKB.out.trans k2)
  clear hA hB k2
  go_wp2_with fail
  all_goals
    refine (HS.out _ HK2.out).mono ?_
    rintro e w3 ⟨rfl, k3⟩
    have HK3 := Lib.hid (HK2.out.trans k3)
    clear k3
    go_wp2_with fail
    go_ret
    exact ⟨rfl, HK3.out⟩
set_option maxRecDepth 100000 in
set_option maxHeartbeats 1000000 in
theorem tsame_any : ∀ (m : Nat) (xs ys : List Nd) (w : World) (S S' : Nat → Prop) (v v' : Value), countL xs ≤ m → sameL xs ys → NdsAt w S v xs → NdsAt w S' v' ys →
    Calls Tryd.prog 8 #[v, v'] w fun e w' => e = .returned (.bool true) ∧ Keeps (fun _ => False) w w' := by
  intro m
  induction m using Nat.strongRecOn with
  | _ m IH =>
  intro xs ys w S S' v v' hm hs h h'
  have hf : Calls Tryd.prog 17 #[v, v', .func (.func 18) #[] #[]] w fun e w' => e = .returned (.bool true) ∧ Keeps (fun _ => False) w w' := by
    have hlen := sameL_len xs ys hs
    obtain ⟨a, c, rfl, hle, hcap⟩ := h.sl
    obtain ⟨a', c', rfl, -, -⟩ := h'.sl
    rw [← hlen] at h' ⊢
    have H := Lib.hid h
    have H' := Lib.hid h'
    have HI := Lib.hid IH
    have HS := Lib.hid (sameL_get xs ys hs)
    have hln2 : xs.length ≤ 9223372036854775807 := by unfold maxLen at hcap; omega
    have HLEN := Lib.hid hlen
    clear h h' IH hs hlen
    go_enter Tryd.func17, Tryd.ntmps17
    go_wp2_with fail
    go_loopw [17] (fun u wr => ∃ i : Nat, i ≤ xs.length ∧ u = .int .i64 i ∧ Keeps (fun _ => False) w wr) (fun u _ => xs.length - (intOf u).toNat)
    case atStart => exact ⟨0, Nat.zero_le _, rfl, Keeps.refl _ _⟩
    case round =>
      obtain ⟨i, hi, rfl, hK⟩ := hrel
      have HK := Lib.hid hK
      clear hK
      by_cases hlt : i < xs.length
      · obtain ⟨x, hx⟩ : ∃ x, xs[i]? = some x := ⟨_, List.getElem?_eq_getElem hlt⟩
        obtain ⟨y, hy⟩ : ∃ y, ys[i]? = some y := ⟨_, List.getElem?_eq_getElem (by have := HLEN.out; omega)⟩
        obtain ⟨b, off, ⟨rk, ra, rn, rc, rb, rla, rln, rlc, rli⟩, rfl, hbl, hSb, -, -, hml, hM, hcell⟩ := nds_at H.out hx
        obtain ⟨b2, off2, ⟨qk, qa, qn, qc, qb, qla, qln, qlc, qli⟩, rfl, hbl2, hSb2, -, -, hml2, hM2, hcell2⟩ := nds_at H'.out hy
        obtain ⟨x0, x1, x2, x3, x4⟩ := hcell wr HK.out.none_
        obtain ⟨y0, y1, y2, y3, y4⟩ := hcell2 (wr.alloc (.cells #[.string rk, .slice ra rn rc, .bool rb, .slice rla rln rlc, .int .i64 rli] 35)) (Keeps.none_ (HK.out.alloc _))
        have hsm := HS.out i x y hx hy
        have hcs := countL_sub xs i x hx
        have HC := Lib.hid (fun W (k : Keeps (fun _ => False) w W) => tsame1_any x y W S S' _ _ (NdM.keeps k (fun _ _ _ => id) _ _ hM) (NdM.keeps k (fun _ _ _ => id) _ _ hM2) hsm (fun W v v' hv hv' => HI.out (countL (subsN x)) (by omega) (subsN x) (subsN y) W S S' v v' (Nat.le_refl _) (by obtain ⟨_, _, _, _, _⟩ := x; obtain ⟨_, _, _, _, _⟩ := y; rw [sameN] at hsm; exact hsm.2.2.2) hv hv'))
        simp only [ndR] at HC
        clear hx hy hcell hcell2 hM hM2 hsm
        go_wp2_with fail
        refine (HC.out _ ((HK.out.alloc _).alloc _)).mono ?_
        rintro e w3 ⟨rfl, k3⟩
        have HK3 := Lib.hid (((HK.out.alloc (.cells #[.string rk, .slice ra rn rc, .bool rb, .slice rla rln rlc, .int .i64 rli] 35)).alloc (.cells #[.string qk, .slice qa qn qc, .bool qb, .slice qla qln qlc, .int .i64 qli] 35)).trans k3)
        clear k3
        go_wp2_with fail
        go_roundw
        case rel => exact ⟨i + 1, by omega, by go_num, HK3.out⟩
        case measure => simp [intOf] <;> omega
      · have hie : i = xs.length := by omega
        subst hie
        go_wp2_with fail
        go_ret
        exact ⟨rfl, HK.out⟩
  have HF := Lib.hid hf
  clear hf h h' hs IH
  go_enter Tryd.func8, Tryd.ntmps8
  go_wp2_with fail
  refine HF.out.mono ?_
  rintro e w2 ⟨rfl, k2⟩
  go_wp2_with fail
  go_ret
  exact ⟨rfl, k2⟩
end Go.Proofs.YtemjbblehiaobaaDoor
