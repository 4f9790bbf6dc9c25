/-
  tree: one statement.
-/
import Derived.Test.YtemjbblehiaobaaDoorTreeB
namespace Go.Proofs.YtemjbblehiaobaaDoor
open Go.RowKit

theorem Blk.all5 {w : World} {g : Nat} {t : TypeId} {a b c d e : Value} (h : Blk w g t #[a, b, c, d, e]) : (w.cell? ⟨g, 0, none⟩ = some a ∧ w.cell? ⟨g, 1, none⟩ = some b ∧ w.cell? ⟨g, 2, none⟩ = some c ∧ w.cell? ⟨g, 3, none⟩ = some d ∧ w.cell? ⟨g, 4, none⟩ = some e) ∧ w.frozen? ⟨g, 0, none⟩ = false ∧ w.frozen? ⟨g, 1, none⟩ = false ∧ w.frozen? ⟨g, 2, none⟩ = false ∧ w.frozen? ⟨g, 3, none⟩ = false ∧ w.frozen? ⟨g, 4, none⟩ = false :=
  ⟨⟨h.cell 0, h.cell 1, h.cell 2, h.cell 3, h.cell 4⟩, h.frozen 0, h.frozen 1, h.frozen 2, h.frozen 3, h.frozen 4⟩
/-- a node handed back: its cells mean the statement, its rows lie in blocks from B on -/
def NdBack (B : Nat) (v : Value) (x : Nd) (W : World) : Prop := ∃ r S, v = .agg (ndR r).toArray ∧ NdM W S x r ∧ ∀ i, S i → B ≤ i ∧ i < W.heap.size
def NdsBack (B : Nat) (v : Value) (xs : List Nd) (W : World) : Prop := ∃ S, NdsAt W S v xs ∧ ∀ i, S i → B ≤ i ∧ i < W.heap.size
theorem OwnL.strs {W : World} {B : Nat} {e : TypeId} {a : Option Addr} {c n : Nat} {l : List ByteArray} (h : OwnL W B e (.slice a n c) (l.map Value.string)) (hn : n = l.length) : SlAt strR 1 W a n l ∧ InS (fun i => B ≤ i ∧ i < W.heap.size) a n ∧ n ≤ c ∧ c ≤ maxLen := by
  obtain ⟨a2, c2, hv, h1, h2, h3, h4⟩ := h.shape
  rw [List.length_map] at hv h1 h3
  injection hv with e1 e2 e3
  subst e1 e3 hn
  refine ⟨⟨rfl, fun hp => ?_⟩, fun hp => ?_, h1, h2⟩
  · obtain ⟨g, ha, hg, hlt⟩ := h3 hp
    refine ⟨g, 0, ha, hlt, fun i x j v hx hv => ?_⟩
    have hj : j < 1 := (List.getElem?_eq_some_iff.1 hv).1
    obtain rfl : j = 0 := by omega
    have hv2 : Value.string x = v := by simpa [strR] using hv
    subst hv2
    have := (h4 g ha i (.string x) (by rw [List.getElem?_map, hx]; rfl)).1
    rw [Nat.zero_add, Nat.mul_one, Nat.add_zero]
    exact this
  · obtain ⟨g, ha, hg, hlt⟩ := h3 hp
    exact ⟨g, 0, ha, hg, hlt⟩
theorem nd_back {W : World} {B : Nat} {e : TypeId} {k : ByteArray} {as_ : List ByteArray} {aa la : Option Addr} {ac lc : Nat} {b : Bool} {xs : List Nd} {line : Int} (ha : OwnL W B e (.slice aa as_.length ac) (as_.map Value.string)) (hl : NdsBack B (.slice la xs.length lc) xs W) :
    NdBack B (.agg #[.string k, .slice aa as_.length ac, .bool b, .slice la xs.length lc, .int .i64 line]) (.mk k as_ b xs line) W := by
  obtain ⟨S, ⟨a2, c2, rs, hv, h1, h2, h3, h4, h5⟩, hS⟩ := hl
  injection hv with e1 e2 e3
  subst e1 e3
  obtain ⟨s1, s2, s3, s4⟩ := ha.strs rfl
  refine ⟨⟨k, aa, as_.length, ac, b, la, xs.length, lc, line⟩, fun i => B ≤ i ∧ i < W.heap.size, rfl, ?_, fun i h => h⟩
  rw [NdM]
  exact ⟨rfl, rfl, rfl, ⟨s1, s2, s3, s4⟩, rs, h1, h2.mono hS, h3, h4, NdAll.mono hS _ _ h5⟩
theorem NdsBack.keeps {B : Nat} {W W' : World} {v : Value} {xs : List Nd} {T : Nat → Prop} (h : NdsBack B v xs W) (k : Keeps T W W') (hT : ∀ i, B ≤ i → ¬ T i) : NdsBack B v xs W' := by
  obtain ⟨S, h1, h2⟩ := h
  exact ⟨S, h1.keeps k (fun i _ hi => hT i (h2 i hi).1), fun i hi => ⟨(h2 i hi).1, Nat.lt_of_lt_of_le (h2 i hi).2 k.size⟩⟩
theorem NdsBack.more {B B' : Nat} {W : World} {v : Value} {xs : List Nd} (h : NdsBack B v xs W) (hB : B' ≤ B) : NdsBack B' v xs W := by
  obtain ⟨S, h1, h2⟩ := h
  exact ⟨S, h1, fun i hi => ⟨Nat.le_trans hB (h2 i hi).1, (h2 i hi).2⟩⟩
theorem NdsBack.sl {B : Nat} {W : World} {v : Value} {xs : List Nd} (h : NdsBack B v xs W) : ∃ a c, v = .slice a xs.length c := by
  obtain ⟨S, h1, h2⟩ := h
  obtain ⟨a, c, hv, -⟩ := h1.sl
  exact ⟨a, c, hv⟩
theorem Keeps.set5 (W : World) (g : Nat) (a b c d e : Value) : Keeps (fun i => i = g) W (((((W.setCell ⟨g, 0, none⟩ a).setCell ⟨g, 1, none⟩ b).setCell ⟨g, 2, none⟩ c).setCell ⟨g, 3, none⟩ d).setCell ⟨g, 4, none⟩ e) :=
  (((((Keeps.refl _ _).setCell (by simp) _).setCell (by simp) _).setCell (by simp) _).setCell (by simp) _).setCell (by simp) _
theorem Keeps.set1 (W : World) (g i : Nat) (a : Value) : Keeps (fun k => k = g) W (W.setCell ⟨g, i, none⟩ a) := (Keeps.refl _ _).setCell (by simp) _
theorem NdsBack.none_ {B : Nat} {W : World} : NdsBack B (.slice none 0 0) [] W := ⟨fun _ => False, NdsAt.none_, fun _ h => h.elim⟩
section
variable {w w' : World} {g U : Nat} {l : List Pc} {at_ : Nat}
set_option maxRecDepth 100000 in
set_option maxHeartbeats 2000000 in
theorem pone_any (depth : Nat) (hdep : depth ≤ 4) (go : List Pc → (Int × Int) ⊕ (List Nd × List Pc)) (h : IsP w g U l at_)
    (H4 : ∀ j xs t3, j ≤ l.length → at_ < j → go (l.drop j) = .inr (xs, t3) → kindP t3 = 4)
    (IH : depth < 4 → ∀ W j, IsP W g U l j → at_ < j → Calls Tryd.prog 13 #[.pointer (some ⟨g, 0, none⟩), .int .i64 ((depth : Int) + 1)] W (ParsPost (go (l.drop j)) (fun v xs W' => NdsBack W.heap.size v xs W') W g U l)) :
    Calls Tryd.prog 26 #[.pointer (some ⟨g, 0, none⟩), .int .i64 depth] w (ParsPost (oneP_t (lastP l) go depth (l.drop at_)) (fun v x W => NdBack w.heap.size v x W) w g U l) := by
  obtain ⟨O, hO⟩ : ∃ O, O = oneP_t (lastP l) go depth (l.drop at_) := ⟨_, rfl⟩
  rw [← hO]
  have HO := Lib.hid hO
  have H := Lib.hid h
  have HI := Lib.hid IH
  have HH4 := Lib.hid H4
  have hgl : g < U := h.lt
  have hup := h.up
  have k1 : Keeps (fun _ => False) w (w.alloc (.cells #[.string { data := #[] }, .slice none 0 0, .bool false, .slice none 0 0, .int .i64 0] 35)) := (Keeps.refl _ _).alloc _
  have HK1 := Lib.hid k1
  have HP1 := Lib.hid (h.same k1)
  have HKD := Lib.hid (pkind_any (h.same k1))
  clear hO h IH k1 H4
  go_enter Tryd.func26, Tryd.ntmps26
  go_wp2_with fail
  refine HKD.out.mono ?_
  rintro e w2 ⟨rfl, k2⟩
  have HP2 := Lib.hid (HP1.out.same k2)
  have HZ2 := Lib.hid ((Blk.new w 35 #[.string { data := #[] }, .slice none 0 0, .bool false, .slice none 0 0, .int .i64 0]).keeps k2 id)
  have HK2 := Lib.hid (HK1.out.trans k2)
  clear k2 HKD
  cases hd : l.drop at_ with
  | nil =>
    have HEND := Lib.hid (show O = .inl (3, lastP l) by rw [HO.out, hd]; rfl)
    have HD := Lib.hid hd
    unfold kindP
    simp only
    clear hd
    go_wp2_with fail
    refine (pline_any HP2.out).mono ?_
    rintro e w3 ⟨rfl, k3⟩
    rw [HD.out]
    unfold lineP
    simp only
    have HK3 := Lib.hid (HK2.out.trans k3)
    clear k3
    go_wp2_with fail
    refine (pstop_any w3 3 _ (by decide)).mono ?_
    rintro e w4 ⟨⟨v4, rfl, h4⟩, k4⟩
    have HG := Lib.hid h4
    have HK4 := Lib.hid (HK3.out.trans k4)
    clear h4 k4
    go_wp2_with fail
    exact ⟨rfl, .gave HEND.out ⟨_, rfl, HG.out⟩ (HK4.out.mono (fun _ _ h => h.elim))⟩
  | cons x tt =>
    obtain ⟨hx, hdt⟩ := drop_at_cons hd
    have HX := Lib.hid hx
    have HDT := Lib.hid hdt
    have HD := Lib.hid hd
    have hoo := HO.out
    rw [hd, oneP_t] at hoo
    have HOO := Lib.hid hoo
    unfold kindP
    simp only
    clear hx hdt hd hoo
    by_cases hk : x.kind = 1
    · rw [hk]
      have hoo := HOO.out
      rw [if_neg (by simp [hk])] at hoo
      have HOO2 := Lib.hid hoo
      have HT := Lib.hid (ptake_any HP2.out HX.out)
      clear hoo
      go_wp2_with fail
      refine HT.out.mono ?_
      rintro e w3 ⟨rfl, P3, k3⟩
      have HP3 := Lib.hid P3
      have HK3 := Lib.hid (Keeps.and_ (S := fun i => i = g) (HK2.out.mono (fun _ _ h => h.elim)) k3 (fun _ _ h => h))
      have HZ3 := Lib.hid (HZ2.out.keeps k3 (by omega))
      have hz3 := k3.size
      have hz2 := HK2.out.size
      clear P3 k3 HT
      go_upto_region 4 with (fail)
      obtain ⟨wa, hwa⟩ : ∃ wa, wa = w3.alloc (.cells #[.int .i64 1, .string x.text, .int .i64 x.line] 91) := ⟨_, rfl⟩
      have ka : Keeps (fun _ => False) w3 wa := by rw [hwa]; exact (Keeps.refl _ _).alloc _
      have hxa : Blk wa w3.heap.size 91 #[.int .i64 1, .string x.text, .int .i64 x.line] := by rw [hwa]; exact Blk.new _ _ _
      have HXA := Lib.hid hxa
      have HPA := Lib.hid (HP3.out.same ka)
      have HZA := Lib.hid (HZ3.out.keeps ka id)
      have HKA := Lib.hid (HK3.out.trans ka.none_)
      have hsa := ka.size
      obtain ⟨xb, hxb⟩ : ∃ xb, xb = w3.heap.size := ⟨_, rfl⟩
      have hxl := hxa.lt
      rw [← hxb] at HXA hxl ⊢
      rw [← hwa]
      have hxg : w.heap.size ≤ xb := by omega
      have hcx1 : ∀ W, Keeps (fun i => i = g) wa W → W.cell? ⟨xb, 1, none⟩ = some (.string x.text) := fun W kk => (HXA.out.keeps kk (by omega)).cells3.2.1
      have hcx2 : ∀ W, Keeps (fun i => i = g) wa W → W.cell? ⟨xb, 2, none⟩ = some (.int .i64 x.line) := fun W kk => (HXA.out.keeps kk (by omega)).cells3.2.2
      have hla : w.heap.size ≤ wa.heap.size := by omega
      clear hwa ka hxa hxb
      have HA := Lib.hid (fun W (kk : Keeps (fun _ => False) wa W) => pargs_any (HPA.out.same kk))
      rw [HDT.out] at HA
      cases ha : argsP [] tt with
      | inl ee =>
        obtain ⟨c, n⟩ := ee
        rw [ha] at HA
        have HEND := Lib.hid (show O = .inl (c, n) by rw [HOO2.out, ha])
        clear ha
        refine wp_region_held_drew (S := fun W => W.cell? ⟨xb, 1, none⟩ = some (.string x.text) ∧ W.cell? ⟨xb, 2, none⟩ = some (.int .i64 x.line) ∧ Keeps (fun _ => False) wa W) (by kernel_rfl) ⟨hcx1 _ ((Keeps.refl _ _).drew), hcx2 _ ((Keeps.refl _ _).drew), (Keeps.refl _ _).drew⟩ (fun hHeld => ?_)
        refine wpAnyH_take (i := 0) (v := .pointer (some ⟨xb, 1, none⟩)) rfl (by kernel_rfl) (by kernel_rfl) (by kernel_rfl) (fun _ _ _ h => h) (Or.inl ⟨by rfl, ?_⟩) (by assumption) ?_
        · intro w hSw
          obtain ⟨hS1, hS2, -⟩ := hSw
          go_simp
        simp only [Act.put, List.setIfInBounds_toArray]
        refine wpAnyH_take (i := 1) (v := .string x.text) rfl (by kernel_rfl) (by kernel_rfl) (by kernel_rfl) (fun _ _ _ h => h) (Or.inl ⟨by rfl, ?_⟩) (by assumption) ?_
        · intro w hSw
          obtain ⟨hS1, hS2, -⟩ := hSw
          go_simp
        simp only [Act.put]
        refine wpAnyH_take (i := 2) (v := .pointer (some ⟨xb, 2, none⟩)) rfl (by kernel_rfl) (by kernel_rfl) (by kernel_rfl) (fun _ _ _ h => h) (Or.inl ⟨by rfl, ?_⟩) (by assumption) ?_
        · intro w hSw
          obtain ⟨hS1, hS2, -⟩ := hSw
          go_simp
        simp only [Act.put]
        refine wpAnyH_take (i := 3) (v := .int .i64 x.line) rfl (by kernel_rfl) (by kernel_rfl) (by kernel_rfl) (fun _ _ _ h => h) (Or.inl ⟨by rfl, ?_⟩) (by assumption) ?_
        · intro w hSw
          obtain ⟨hS1, hS2, -⟩ := hSw
          go_simp
        simp only [Act.put]
        refine wpAnyH_take (i := 4) (v := .pointer (some ⟨g, 0, none⟩)) rfl (by kernel_rfl) (by kernel_rfl) (by kernel_rfl) (fun _ _ _ h => h) (Or.inl ⟨by rfl, ?_⟩) (by assumption) ?_
        · intro w hSw
          obtain ⟨hS1, hS2, -⟩ := hSw
          go_simp
        simp only [Act.put]
        refine wpAnyH_ready (rs := [5, 7]) (by kernel_rfl) (by simp) ?_
        refine AllReadyH.cons rfl (fun K hK => ?_) ?_
        · clear hK
          go_simp
          refine (HA.out _ ((Keeps.refl _ _).drew)).mono ?_
          rintro e w5 ⟨-, hgv, k5⟩
          obtain ⟨v5, rfl, h5⟩ := hgv _ _ rfl
          exact ⟨rfl, .gave HEND.out ⟨_, rfl, h5⟩ ((HKA.out.trans ((Keeps.refl _ _).drew)).trans k5)⟩
        · refine AllReadyH.cons rfl (fun K hK => ?_) AllReadyH.nil
          go_simp
          have kc : Keeps (fun _ => False) wa (wa.drew.alloc (.cells #[.string { data := #[] }, .slice none 0 0, .bool false, .slice none 0 0, .int .i64 0] 35)) := ((Keeps.refl _ _).drew).alloc _
          refine hK.out _ _ ⟨hcx1 _ (Keeps.none_ kc), hcx2 _ (Keeps.none_ kc), kc⟩ (fun hHeld => ?_)
          clear hK K
          refine wpAnyH_ready (rs := [5]) (by kernel_rfl) (by simp) ?_
          refine AllReadyH.cons rfl (fun K hK => ?_) AllReadyH.nil
          clear hK
          go_simp
          refine (HA.out _ kc).mono ?_
          rintro e w5 ⟨-, hgv, k5⟩
          obtain ⟨v5, rfl, h5⟩ := hgv _ _ rfl
          exact ⟨rfl, .gave HEND.out ⟨_, rfl, h5⟩ ((HKA.out.trans (Keeps.none_ kc)).trans k5)⟩
      | inr p =>
        obtain ⟨ar, t2⟩ := p
        rw [ha] at HA
        have hoo := HOO2.out
        rw [ha] at hoo
        have HO3 := Lib.hid hoo
        have har16 := argsP_many _ _ _ _ (Nat.zero_le _) ha
        have hjlt : ∀ j, j ≤ l.length → l.drop j = t2 → at_ < j := fun j hj hd => by
          have h1 := argsP_len _ _ _ _ ha
          have h2 : (l.drop at_).length = tt.length + 1 := by rw [HD.out]; rfl
          have h3 : (l.drop j).length = t2.length := by rw [hd]
          rw [List.length_drop] at h2 h3
          omega
        clear ha hoo
        go_cut [6] (fun s6 wx => ∃ (q : Nat), s6 = .pointer (some ⟨q, 0, none⟩) ∧ Hid (∃ (aa : Option Addr) (ac j : Nat), Blk wx q 35 #[.string x.text, .slice aa ar.length ac, .bool false, .slice none 0 0, .int .i64 x.line] ∧ OwnL wx wa.heap.size 9 (.slice aa ar.length ac) (ar.map Value.string) ∧ IsP wx g U l j ∧ at_ < j ∧ l.drop j = t2 ∧ wa.heap.size ≤ q ∧ Keeps (fun i => i = g) wa wx))
        case first =>
          as_aux_lemma =>
          have hga : g < wa.heap.size := by omega
          refine wp_region_held_drew (S := fun W => W.cell? ⟨xb, 1, none⟩ = some (.string x.text) ∧ W.cell? ⟨xb, 2, none⟩ = some (.int .i64 x.line) ∧ Keeps (fun i => i = g) wa W) (by kernel_rfl) ⟨hcx1 _ ((Keeps.refl _ _).drew), hcx2 _ ((Keeps.refl _ _).drew), (Keeps.refl _ _).drew⟩ (fun hHeld => ?_)
          refine wpAnyH_take (i := 0) (v := .pointer (some ⟨xb, 1, none⟩)) rfl (by kernel_rfl) (by kernel_rfl) (by kernel_rfl) (fun _ _ _ h => h) (Or.inl ⟨by rfl, ?_⟩) (by assumption) ?_
          · intro w hSw
            obtain ⟨hS1, hS2, -⟩ := hSw
            go_simp
          simp only [Act.put, List.setIfInBounds_toArray]
          refine wpAnyH_take (i := 1) (v := .string x.text) rfl (by kernel_rfl) (by kernel_rfl) (by kernel_rfl) (fun _ _ _ h => h) (Or.inl ⟨by rfl, ?_⟩) (by assumption) ?_
          · intro w hSw
            obtain ⟨hS1, hS2, -⟩ := hSw
            go_simp
          simp only [Act.put]
          refine wpAnyH_take (i := 2) (v := .pointer (some ⟨xb, 2, none⟩)) rfl (by kernel_rfl) (by kernel_rfl) (by kernel_rfl) (fun _ _ _ h => h) (Or.inl ⟨by rfl, ?_⟩) (by assumption) ?_
          · intro w hSw
            obtain ⟨hS1, hS2, -⟩ := hSw
            go_simp
          simp only [Act.put]
          refine wpAnyH_take (i := 3) (v := .int .i64 x.line) rfl (by kernel_rfl) (by kernel_rfl) (by kernel_rfl) (fun _ _ _ h => h) (Or.inl ⟨by rfl, ?_⟩) (by assumption) ?_
          · intro w hSw
            obtain ⟨hS1, hS2, -⟩ := hSw
            go_simp
          simp only [Act.put]
          refine wpAnyH_take (i := 4) (v := .pointer (some ⟨g, 0, none⟩)) rfl (by kernel_rfl) (by kernel_rfl) (by kernel_rfl) (fun _ _ _ h => h) (Or.inl ⟨by rfl, ?_⟩) (by assumption) ?_
          · intro w hSw
            obtain ⟨hS1, hS2, -⟩ := hSw
            go_simp
          simp only [Act.put]
          refine wpAnyH_ready (rs := [5, 7]) (by kernel_rfl) (by simp) ?_
          refine AllReadyH.cons rfl (fun K hK => ?_) ?_
          · go_simp
            refine (HA.out _ ((Keeps.refl _ _).drew)).mono ?_
            rintro e w5 ⟨hgv, -, k5⟩
            obtain ⟨v5, j5, rfl, h5, P5, d5⟩ := hgv _ _ rfl
            obtain ⟨a5, c5, rfl⟩ := h5.sl'
            rw [List.length_map] at h5 ⊢
            have kk5 : Keeps (fun i => i = g) wa w5 := ((Keeps.refl _ _).drew).trans k5
            refine hK.out _ _ ⟨hcx1 _ kk5, hcx2 _ kk5, kk5⟩ (fun hHeld => ?_)
            clear hK K
            refine wpAnyH_take (i := 6) (v := .agg #[.string x.text, .slice a5 ar.length c5, .bool false, .slice none 0 0, .int .i64 x.line]) rfl (by kernel_rfl) (by kernel_rfl) (by kernel_rfl) (fun _ _ _ h => h) (Or.inl ⟨by rfl, ?_⟩) (by assumption) ?_
            · intro w hSw
              obtain ⟨hS1, hS2, -⟩ := hSw
              go_simp
            simp only [Act.put, List.setIfInBounds_toArray]
            refine wpAnyH_ready (rs := [7]) (by kernel_rfl) (by simp) ?_
            refine AllReadyH.cons rfl (fun K hK => ?_) AllReadyH.nil
            go_simp
            have kk6 : Keeps (fun i => i = g) wa (w5.alloc (.cells #[.string { data := #[] }, .slice none 0 0, .bool false, .slice none 0 0, .int .i64 0] 35)) := kk5.alloc _
            refine hK.out _ _ ⟨hcx1 _ kk6, hcx2 _ kk6, kk6⟩ (fun hHeld => ?_)
            clear hK K
            refine wpAnyH_ready (rs := [8]) (by kernel_rfl) (by simp) ?_
            refine AllReadyH.cons rfl (fun K hK => ?_) AllReadyH.nil
            go_simp
            have kk7 : Keeps (fun i => i = g) wa (w5.alloc (.cells #[.string x.text, .slice a5 ar.length c5, .bool false, .slice none 0 0, .int .i64 x.line] 35)) := kk5.alloc _
            refine hK.out _ _ ⟨hcx1 _ kk7, hcx2 _ kk7, kk7⟩ (fun hHeld => ?_)
            clear hK K
            refine wpAnyH_done (by kernel_rfl) ?_ _
            go_wp2_with fail
            go_meet
            case rel => exact ⟨_, rfl, Lib.hid ⟨a5, c5, j5, Blk.new _ _ _, (by have hz := k5.size; exact OwnL.keeps (S := fun _ => False) h5 ((Keeps.refl _ _).alloc _) (fun _ _ _ => id)), P5.same ((Keeps.refl _ _).alloc _), hjlt _ P5.le d5, d5, kk5.size, kk7⟩⟩
          · refine AllReadyH.cons rfl (fun K hK => ?_) AllReadyH.nil
            go_simp
            have kc : Keeps (fun _ => False) wa (wa.drew.alloc (.cells #[.string { data := #[] }, .slice none 0 0, .bool false, .slice none 0 0, .int .i64 0] 35)) := ((Keeps.refl _ _).drew).alloc _
            refine hK.out _ _ ⟨hcx1 _ (Keeps.none_ kc), hcx2 _ (Keeps.none_ kc), Keeps.none_ kc⟩ (fun hHeld => ?_)
            clear hK K
            refine wpAnyH_ready (rs := [5]) (by kernel_rfl) (by simp) ?_
            refine AllReadyH.cons rfl (fun K hK => ?_) AllReadyH.nil
            go_simp
            have hsz1 : (wa.drew.alloc (.cells #[.string { data := #[] }, .slice none 0 0, .bool false, .slice none 0 0, .int .i64 0] 35)).heap.size = wa.heap.size + 1 := by simp
            have hup2 := HPA.out.up
            refine (HA.out _ kc).mono ?_
            rintro e w5 ⟨hgv, -, k5⟩
            obtain ⟨v5, j5, rfl, h5, P5, d5⟩ := hgv _ _ rfl
            obtain ⟨a5, c5, rfl⟩ := h5.sl'
            rw [List.length_map] at h5 ⊢
            have kk5 : Keeps (fun i => i = g) wa w5 := (Keeps.none_ kc).trans k5
            have hnb : Blk w5 wa.heap.size 35 #[.string { data := #[] }, .slice none 0 0, .bool false, .slice none 0 0, .int .i64 0] := (Blk.new wa.drew 35 #[.string { data := #[] }, .slice none 0 0, .bool false, .slice none 0 0, .int .i64 0]).keeps k5 (by show ¬ wa.heap.size = g; omega)
            have n0 : w5.cell? ⟨wa.heap.size, 0, none⟩ = some (.string { data := #[] }) := hnb.cell 0
            have n1 : w5.cell? ⟨wa.heap.size, 1, none⟩ = some (.slice none 0 0) := hnb.cell 1
            have n2 : w5.cell? ⟨wa.heap.size, 2, none⟩ = some (.bool false) := hnb.cell 2
            have n3 : w5.cell? ⟨wa.heap.size, 3, none⟩ = some (.slice none 0 0) := hnb.cell 3
            have n4 : w5.cell? ⟨wa.heap.size, 4, none⟩ = some (.int .i64 0) := hnb.cell 4
            have f0 := hnb.frozen 0
            have f1 := hnb.frozen 1
            have f2 := hnb.frozen 2
            have f3 := hnb.frozen 3
            have f4 := hnb.frozen 4
            refine hK.out _ _ ⟨hcx1 _ kk5, hcx2 _ kk5, kk5⟩ (fun hHeld => ?_)
            clear hK K
            refine wpAnyH_take (i := 6) (v := .agg #[.string x.text, .slice a5 ar.length c5, .bool false, .slice none 0 0, .int .i64 x.line]) rfl (by kernel_rfl) (by kernel_rfl) (by kernel_rfl) (fun _ _ _ h => h) (Or.inl ⟨by rfl, ?_⟩) (by assumption) ?_
            · intro w hSw
              obtain ⟨hS1, hS2, -⟩ := hSw
              go_simp
            simp only [Act.put, List.setIfInBounds_toArray]
            refine wpAnyH_ready (rs := [8]) (by kernel_rfl) (by simp) ?_
            refine AllReadyH.cons rfl (fun K hK => ?_) AllReadyH.nil
            go_simp
            have kk7 : Keeps (fun i => i = g) wa (((((w5.setCell ⟨wa.heap.size, 0, none⟩ (.string x.text)).setCell ⟨wa.heap.size, 1, none⟩ (.slice a5 ar.length c5)).setCell ⟨wa.heap.size, 2, none⟩ (.bool false)).setCell ⟨wa.heap.size, 3, none⟩ (.slice none 0 0)).setCell ⟨wa.heap.size, 4, none⟩ (.int .i64 x.line)) := ((((kk5.setCell (by simp) _).setCell (by simp) _).setCell (by simp) _).setCell (by simp) _).setCell (by simp) _
            have kn : Keeps (fun i => i = wa.heap.size) w5 (((((w5.setCell ⟨wa.heap.size, 0, none⟩ (.string x.text)).setCell ⟨wa.heap.size, 1, none⟩ (.slice a5 ar.length c5)).setCell ⟨wa.heap.size, 2, none⟩ (.bool false)).setCell ⟨wa.heap.size, 3, none⟩ (.slice none 0 0)).setCell ⟨wa.heap.size, 4, none⟩ (.int .i64 x.line)) := (((((Keeps.refl _ _).setCell (by simp) _).setCell (by simp) _).setCell (by simp) _).setCell (by simp) _).setCell (by simp) _
            have hn7 : Blk _ wa.heap.size 35 #[.string x.text, .slice a5 ar.length c5, .bool false, .slice none 0 0, .int .i64 x.line] := ((((hnb.set_ 0 (.string x.text)).set_ 1 (.slice a5 ar.length c5)).set_ 2 (.bool false)).set_ 3 (.slice none 0 0)).set_ 4 (.int .i64 x.line)
            refine hK.out _ _ ⟨hcx1 _ kk7, hcx2 _ kk7, kk7⟩ (fun hHeld => ?_)
            clear hK K
            refine wpAnyH_done (by kernel_rfl) ?_ _
            go_wp2_with fail
            go_meet
            case rel => exact ⟨_, rfl, Lib.hid ⟨a5, c5, j5, hn7, (OwnL.keeps h5 kn (fun i hi _ e => by have := hsz1; omega)).more (by rw [hsz1]; omega), P5.far kn (fun i hi => by omega), hjlt _ P5.le d5, d5, Nat.le_refl _, kk7⟩⟩
        case rest =>
          as_aux_lemma =>
          obtain ⟨q, rfl, HQ⟩ := hcut
          obtain ⟨aa, ac, j, hbq, hown, hP, hatj, hdj, hqn, kq⟩ := HQ.out
          have HBQ := Lib.hid hbq
          have HY := Lib.hid hown
          have HPC := Lib.hid hP
          have HDJ := Lib.hid hdj
          have HKC := Lib.hid (HKA.out.trans kq)
          have hnz := HZA.out.keeps kq (by omega)
          have HNZ := Lib.hid hnz
          have hsq := kq.size
          have hup2 := HPC.out.up
          have hql := hbq.lt
          clear HQ hown hP hdj kq hnz hbq hcx1 hcx2
          go_wp2_with fail
          refine (pkind_any HPC.out).mono ?_
          rintro e w7 ⟨rfl, k7⟩
          rw [HDJ.out]
          have HP7 := Lib.hid (HPC.out.same k7)
          have HBQ7 := Lib.hid (HBQ.out.keeps k7 id)
          have HNZ7 := Lib.hid (HNZ.out.keeps k7 id)
          have HY7 := Lib.hid (HY.out.keeps k7 (fun _ _ _ => id))
          have HK7 := Lib.hid (Keeps.and_ HKC.out k7 (fun _ _ h => h.elim))
          have hs7 := k7.size
          clear k7 HPC HBQ HNZ HY HKC
          by_cases hk5 : kindP t2 = 5
          · have hoo := HO3.out
            simp only [if_pos hk5] at hoo
            obtain ⟨y, t3, rfl⟩ : ∃ y t3, t2 = y :: t3 := by
              cases t2 with
              | nil => cases hk5
              | cons y t3 => exact ⟨_, _, rfl⟩
            obtain ⟨hy, hdt3⟩ := drop_at_cons HDJ.out
            have HEND := Lib.hid hoo
            have HD3 := Lib.hid hdt3
            have HTK := Lib.hid (ptake_any HP7.out hy)
            rw [hk5]
            clear hoo hy hdt3 hk5
            go_wp2_with fail
            refine HTK.out.mono ?_
            rintro e w8 ⟨rfl, P8, k8⟩
            have hb8 := HBQ7.out.keeps k8 (by omega)
            have hn8 := HNZ7.out.keeps k8 (by omega)
            obtain ⟨⟨y0, y1, y2, y3, y4⟩, -⟩ := hb8.all5
            obtain ⟨⟨z0, z1, z2, z3, z4⟩, zf0, zf1, zf2, zf3, zf4⟩ := hn8.all5
            have HN8 := Lib.hid hn8
            have HP8 := Lib.hid P8
            have HK8 := Lib.hid (HK7.out.trans k8)
            have HY8 := Lib.hid (HY7.out.keeps k8 (fun i hi _ e => by omega))
            have hs8 := k8.size
            clear P8 k8 hb8 hn8 HTK
            go_wp2_with fail
            refine ret_cell rfl w.heap.size 35 _ _ rfl (((((HN8.out.set_ 0 _).set_ 1 _).set_ 2 _).set_ 3 _).set_ 4 _) Tryd.underlying35 rfl (by kernel_rfl) rfl ?_
            have kn := Keeps.set5 w8 w.heap.size (.string x.text) (.slice aa ar.length ac) (.bool false) (.slice none 0 0) (.int .i64 x.line)
            refine .ok HEND.out (nd_back (as_ := ar) (xs := []) ((OwnL.keeps HY8.out kn (fun i hi _ e => by omega)).more hla) NdsBack.none_) (HP8.out.far kn (fun i hi => by omega)) HD3.out (HK8.out.and_ kn (fun i hi e => by omega))
          · by_cases hk3 : kindP t2 = 3
            · have hoo := HO3.out
              simp only [if_neg hk5, if_pos hk3] at hoo
              obtain ⟨y, t3, rfl⟩ : ∃ y t3, t2 = y :: t3 := by
                cases t2 with
                | nil => cases hk3
                | cons y t3 => exact ⟨_, _, rfl⟩
              obtain ⟨hy, hdt3⟩ := drop_at_cons HDJ.out
              have hjl : j + 1 ≤ l.length := (List.getElem?_eq_some_iff.1 hy).1
              have HOO := Lib.hid hoo
              have HD3 := Lib.hid hdt3
              have HTK := Lib.hid (ptake_any HP7.out hy)
              rw [hk3]
              clear hoo hy hdt3 hk3 hk5
              by_cases hd4 : depth = 4
              · have hoo := HOO.out
                rw [if_pos hd4] at hoo
                have HEND := Lib.hid hoo
                have hbe : ((depth : Int) == 4) = true := by rw [beq_iff_eq]; omega
                clear hoo hd4
                go_wp2_with fail
                refine (pline_any HP7.out).mono ?_
                rintro e w8 ⟨rfl, k8⟩
                rw [HDJ.out]
                have HK8 := Lib.hid (HK7.out.and_ k8 (fun _ _ h => h.elim))
                clear k8
                go_wp2_with fail
                refine (pstop_any w8 15 _ (by decide)).mono ?_
                rintro e w9 ⟨⟨v9, rfl, h9⟩, k9⟩
                have HG := Lib.hid h9
                have HK9 := Lib.hid (HK8.out.and_ k9 (fun _ _ h => h.elim))
                clear h9 k9
                go_wp2_with fail
                exact ⟨rfl, .gave HEND.out ⟨_, rfl, HG.out⟩ HK9.out⟩
              · have hoo := HOO.out
                rw [if_neg hd4] at hoo
                simp only [List.tail_cons] at hoo
                have HOO2 := Lib.hid hoo
                have hbe : ((depth : Int) == 4) = false := by rw [beq_eq_false_iff_ne]; omega
                have hd4' : depth < 4 := by omega
                have hwr : IntKind.i64.wrap ((depth : Int) + 1) = (depth : Int) + 1 := IntWalk.i64_in _ (by omega)
                clear hoo hd4
                go_wp2_with fail
                refine HTK.out.mono ?_
                rintro e w8 ⟨rfl, P8, k8⟩
                have hb8 := HBQ7.out.keeps k8 (by omega)
                have hn8 := HNZ7.out.keeps k8 (by omega)
                have y2 := hb8.cell 2
                have yf2 := hb8.frozen 2
                have ks8 := Keeps.set1 w8 q 2 (.bool true)
                have hb9 : Blk _ q 35 #[.string x.text, .slice aa ar.length ac, .bool true, .slice none 0 0, .int .i64 x.line] := hb8.set_ 2 (.bool true)
                have HB9 := Lib.hid hb9
                have HN9 := Lib.hid (hn8.keeps ks8 (by omega))
                have HP9 := Lib.hid (P8.far ks8 (fun i hi => by omega))
                have HK9 := Lib.hid ((HK7.out.trans k8).and_ ks8 (fun i hi e => by omega))
                have HY9 := Lib.hid (OwnL.keepsT (HY7.out.keeps k8 (fun i hi _ e => by omega)) ks8 (fun i _ ⟨_, hb⟩ e => Blk.ne_ hb hb8 (by decide) e))
                have HL := Lib.hid (HI.out hd4' _ (j + 1) HP9.out (by omega))
                have hs8 := k8.size
                have hs9 : (w8.setCell ⟨q, 2, none⟩ (.bool true)).heap.size = w8.heap.size := by simp
                simp only [List.getElem?_toArray, List.getElem?_cons_zero, List.getElem?_cons_succ] at y2
                clear P8 k8 hb8 hn8 HTK ks8 hb9
                have hl := HL.out
                rw [HD3.out] at hl
                cases hgo : go t3 with
                | inl ee =>
                  obtain ⟨c, n⟩ := ee
                  rw [hgo] at hl
                  have HEND := Lib.hid (show O = .inl (c, n) by rw [HOO2.out, hgo])
                  have HL2 := Lib.hid hl
                  clear hl hgo
                  go_wp2_with fail
                  refine HL2.out.mono ?_
                  rintro e w10 ⟨-, hgv, k10⟩
                  obtain ⟨v10, rfl, h10⟩ := hgv _ _ rfl
                  have HG := Lib.hid h10
                  have HK10 := Lib.hid (HK9.out.trans k10)
                  clear hgv h10 k10
                  go_wp2_with fail
                  exact ⟨rfl, .gave HEND.out ⟨_, rfl, HG.out⟩ HK10.out⟩
                | inr p =>
                  obtain ⟨xs, t4⟩ := p
                  rw [hgo] at hl
                  have HEND := Lib.hid (show O = .inr (.mk x.text ar true xs x.line, t4.tail) by rw [HOO2.out, hgo])
                  have h44 := HH4.out (j + 1) xs t4 hjl (by omega) (by rw [HD3.out]; exact hgo)
                  have HL2 := Lib.hid hl
                  obtain ⟨z, t5, rfl⟩ : ∃ z t5, t4 = z :: t5 := by
                    cases t4 with
                    | nil => cases h44
                    | cons z t5 => exact ⟨_, _, rfl⟩
                  clear hl hgo h44
                  go_wp2_with fail
                  refine HL2.out.mono ?_
                  rintro e w10 ⟨hgv, -, k10⟩
                  obtain ⟨v10, j10, rfl, h10, P10, d10⟩ := hgv _ _ rfl
                  obtain ⟨la, lc, rfl⟩ := h10.sl
                  obtain ⟨hz, hdt5⟩ := drop_at_cons d10
                  have hb10 := HB9.out.keeps k10 (by omega)
                  have y3 := hb10.cell 3
                  have yf3 := hb10.frozen 3
                  simp only [List.getElem?_toArray, List.getElem?_cons_zero, List.getElem?_cons_succ] at y3
                  have ks10 := Keeps.set1 w10 q 3 (.slice la xs.length lc)
                  have hb11 : Blk _ q 35 #[.string x.text, .slice aa ar.length ac, .bool true, .slice la xs.length lc, .int .i64 x.line] := hb10.set_ 3 (.slice la xs.length lc)
                  have HB11 := Lib.hid hb11
                  have HN11 := Lib.hid ((HN9.out.keeps k10 (by omega)).keeps ks10 (by omega))
                  have HP11 := Lib.hid (P10.far ks10 (fun i hi => by omega))
                  have HK11 := Lib.hid ((HK9.out.trans k10).and_ ks10 (fun i hi e => by omega))
                  have HY11 := Lib.hid (OwnL.keepsT (HY9.out.keeps k10 (fun i hi _ e => by omega)) ks10 (fun i _ ⟨_, hb⟩ e => Blk.ne_ hb hb10 (by decide) e))
                  have HX11 := Lib.hid (h10.keeps ks10 (fun i hi e => by omega))
                  have HTK := Lib.hid (ptake_any HP11.out hz)
                  have HD5 := Lib.hid hdt5
                  have hs10 := k10.size
                  clear P10 hb10 ks10 hb11 hz hdt5 d10 h10 k10 hgv
                  go_wp2_with fail
                  refine HTK.out.mono ?_
                  rintro e w12 ⟨rfl, P12, k12⟩
                  have hb12 := HB11.out.keeps k12 (by omega)
                  have hn12 := HN11.out.keeps k12 (by omega)
                  obtain ⟨⟨y0, y1, y2, y3, y4⟩, -⟩ := hb12.all5
                  obtain ⟨⟨z0, z1, z2, z3, z4⟩, zf0, zf1, zf2, zf3, zf4⟩ := hn12.all5
                  have HN12 := Lib.hid hn12
                  have HP12 := Lib.hid P12
                  have HK12 := Lib.hid (HK11.out.trans k12)
                  have HY12 := Lib.hid (HY11.out.keeps k12 (fun i hi _ e => by omega))
                  have HX12 := Lib.hid (HX11.out.keeps k12 (fun i hi e => by omega))
                  clear P12 k12 hb12 hn12 HTK
                  go_wp2_with fail
                  refine ret_cell rfl w.heap.size 35 _ _ rfl (((((HN12.out.set_ 0 _).set_ 1 _).set_ 2 _).set_ 3 _).set_ 4 _) Tryd.underlying35 rfl (by kernel_rfl) rfl ?_
                  have kn := Keeps.set5 w12 w.heap.size (.string x.text) (.slice aa ar.length ac) (.bool true) (.slice la xs.length lc) (.int .i64 x.line)
                  refine .ok HEND.out (nd_back (as_ := ar) (xs := xs) ((OwnL.keeps HY12.out kn (fun i hi _ e => by omega)).more hla) ((HX12.out.keeps kn (fun i hi e => by omega)).more (by omega))) (HP12.out.far kn (fun i hi => by omega)) HD5.out (HK12.out.and_ kn (fun i hi e => by omega))
            · have hoo := HO3.out
              simp only [if_neg hk5, if_neg hk3] at hoo
              have HEND := Lib.hid hoo
              have hb5 : (kindP t2 == 5) = false := by rw [beq_eq_false_iff_ne]; exact hk5
              have hb3 : (kindP t2 == 3) = false := by rw [beq_eq_false_iff_ne]; exact hk3
              clear hoo hk5 hk3
              go_wp2_with fail
              refine (pline_any HP7.out).mono ?_
              rintro e w8 ⟨rfl, k8⟩
              rw [HDJ.out]
              have HK8 := Lib.hid (HK7.out.and_ k8 (fun _ _ h => h.elim))
              clear k8
              go_wp2_with fail
              refine (pstop_any w8 3 _ (by decide)).mono ?_
              rintro e w9 ⟨⟨v9, rfl, h9⟩, k9⟩
              have HG := Lib.hid h9
              have HK9 := Lib.hid (HK8.out.and_ k9 (fun _ _ h => h.elim))
              clear h9 k9
              go_wp2_with fail
              exact ⟨rfl, .gave HEND.out ⟨_, rfl, HG.out⟩ HK9.out⟩
    · have hkb : (x.kind != 1) = true := by rw [bne_iff_ne]; exact hk
      have HEND := Lib.hid (show O = .inl (3, x.line) by rw [HOO.out, if_pos hk])
      clear hk
      go_wp2_with fail
      refine (pline_any HP2.out).mono ?_
      rintro e w3 ⟨rfl, k3⟩
      rw [HD.out]
      unfold lineP
      simp only
      have HK3 := Lib.hid (HK2.out.trans k3)
      clear k3
      go_wp2_with fail
      refine (pstop_any w3 3 _ (by decide)).mono ?_
      rintro e w4 ⟨⟨v4, rfl, h4⟩, k4⟩
      have HG := Lib.hid h4
      have HK4 := Lib.hid (HK3.out.trans k4)
      clear h4 k4
      go_wp2_with fail
      exact ⟨rfl, .gave HEND.out ⟨_, rfl, HG.out⟩ (HK4.out.mono (fun _ _ h => h.elim))⟩
end
end Go.Proofs.YtemjbblehiaobaaDoor
