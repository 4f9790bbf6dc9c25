/-
  wheelhouseref28.Split, over what a desk sends.
-/
import Derived.Test.YtcblaeleaebinaaBody28
import Derived.Test.YtcblaeleaebinaaOwnS
namespace Go.Proofs.Ytcblaeleaebinaa
open Go.RowKit

/-- console's bytes and a reply, again and again, and console's bytes at the end -/
def gB (G : List (List UInt8 × List UInt8)) (c : List UInt8) : List UInt8 := (G.flatMap fun x => dblP x.1 ++ toldP x.2) ++ dblP c
def conP (c : List UInt8) : List (List UInt8 × Bool) := if c = [] then [] else [(c, false)]
def outG (G : List (List UInt8 × List UInt8)) : List (List UInt8 × Bool) := G.flatMap fun x => conP x.1 ++ [(x.2, true)]
def partR (x : List UInt8 × Bool) : List Value := [.string (str x.1), .bool x.2]
theorem partR_len (x : List UInt8 × Bool) : (partR x).length = 2 := rfl
theorem partR_one (x : List UInt8 × Bool) : ∀ u ∈ partR x, u.oneCell' = true := by intro u hu; simp [partR] at hu; rcases hu with rfl | rfl <;> rfl
theorem gB_cons (a u : List UInt8) (G : List (List UInt8 × List UInt8)) (c : List UInt8) : gB ((a, u) :: G) c = dblP a ++ (255 :: 1 :: (dblP u ++ (255 :: 2 :: gB G c))) := by
  unfold gB toldP; rw [List.flatMap_cons]; simp
theorem outG_snoc (G : List (List UInt8 × List UInt8)) (a u : List UInt8) : outG (G ++ [(a, u)]) = outG G ++ conP a ++ [(u, true)] := by unfold outG; simp
theorem Blk.new2' (w : World) (T : TypeId) (o : Obj) (vs : Array Value) : Blk ((w.alloc o).alloc (.cells vs T)) (w.heap.size + 1) T vs := by
  have := Blk.new (w.alloc o) T vs
  simpa using this
theorem gB_len (G : List (List UInt8 × List UInt8)) (c : List UInt8) : G.length ≤ (gB G c).length := by
  induction G with
  | nil => simp
  | cons x r ih => obtain ⟨a, u⟩ := x; rw [gB_cons]; simp; omega

theorem outG_len (G : List (List UInt8 × List UInt8)) : (outG G).length ≤ 2 * G.length := by
  unfold outG
  induction G with
  | nil => simp
  | cons x r ih =>
    have : (conP x.1).length ≤ 1 := by unfold conP; split <;> simp
    rw [List.flatMap_cons, List.length_append, List.length_append, List.length_cons]
    simp only [List.length_cons, List.length_nil]
    omega
theorem empty_yes : (str []).toList.isEmpty = true := by rw [ByteArray.toList_eq]; rfl
theorem empty_no {a : UInt8} {t : List UInt8} : (str (a :: t)).toList.isEmpty = false := by rw [ByteArray.toList_eq]; rfl

set_option maxRecDepth 100000 in
set_option maxHeartbeats 4000000 in
theorem split_any (w : World) (G : List (List UInt8 × List UInt8)) (c : List UInt8) (hb : (gB G c).length ≤ 1073741824) :
    Calls Try.prog 24 #[.string (str (gB G c))] w fun e w' => ∃ v, e = .returned (.tuple #[v, .int .i64 0]) ∧ OwnS partR 2 w' w.heap.size 52 v (outG G ++ conP c) ∧ Keeps (fun _ => False) w w' := by
  have hgl := gB_len G c
  have hms : (str (gB G c)).size = (gB G c).length := rfl
  obtain ⟨most, hmost⟩ : ∃ most, most = (gB G c).length := ⟨_, rfl⟩
  rw [← hmost] at hms hgl hb
  have HM := Lib.hid hmost
  obtain ⟨s0, hs0⟩ : ∃ s0, s0 = str (gB G c) := ⟨_, rfl⟩
  rw [← hs0] at hms ⊢
  have HS0 := Lib.hid hs0
  clear hmost hs0
  go_enter Try.func24, Try.ntmps24
  go_wp2_with fail
  go_loopg [0, 4, 6] G.length (fun k u0 u4 u6 wr => ∃ (G1 G2 : List (List UInt8 × List UInt8)) (s : ByteArray), u0 = .string s ∧ u6 = .int .i64 (G1.length : Nat) ∧ Hid (s.data.toList = gB G2 c ∧ G = G1 ++ G2 ∧ k = G2.length ∧ s.size ≤ most ∧ OwnS partR 2 wr w.heap.size 52 u4 (outG G1) ∧ Keeps (fun _ => False) w wr))
  case atStart => exact ⟨[], G, s0, rfl, rfl, Lib.hid ⟨by rw [HS0.out, str_list], rfl, rfl, by omega, OwnS.none_, Keeps.refl _ _⟩⟩
  case round =>
    obtain ⟨G1, G2, s, rfl, rfl, HH⟩ := hrel
    obtain ⟨i, hi⟩ : ∃ i, i = G1.length := ⟨_, rfl⟩
    have hle : G1.length + G2.length = G.length := by rw [HH.out.2.1, List.length_append]
    have him : i ≤ most := by omega
    rw [← hi]
    have HI := Lib.hid hi
    have HLE := Lib.hid hle
    have hsb : s.size ≤ 1073741824 := by have := HH.out.2.2.2.1; omega
    have hszr : w.heap.size ≤ wr.heap.size := HH.out.2.2.2.2.2.size
    have hol : (outG G1).length ≤ 17179869180 := by
      have := outG_len G1
      omega
    have HOL := Lib.hid hol
    clear hi hle hol
    cases G2 with
    | nil =>
      have hsz : s.size = (dblP c).length := by
        have := congrArg List.length HH.out.1
        simpa [gB] using this
      have hbd := body_any wr s c [] (by rw [HH.out.1]; simp [gB]) (.inl rfl) hsb
      rw [← hsz] at hbd
      have hx1 : s.extract s.size s.size = ⟨#[]⟩ := by apply ba_ext; simp
      have hemp : (ByteArray.empty).toList.isEmpty = true := empty_yes
      have hemp2 : (({ data := #[] } : ByteArray)).toList.isEmpty = true := empty_yes
      have hGG : G1 = G := by have := HH.out.2.1; simpa using this.symm
      have HGG := Lib.hid hGG
      have HBD := Lib.hid hbd
      clear hbd hsz hGG
      by_cases hc : c = []
      · subst hc
        have hc1 := empty_yes
        go_wp2_with fail
        refine HBD.out.mono ?_
        rintro e w2 ⟨rfl, rfl⟩
        go_wp2_with fail
        go_ret2
        refine ⟨u4, rfl, ?_, HH.out.2.2.2.2.2⟩
        rw [← HGG.out]
        have := HH.out.2.2.2.2.1
        simpa [conP] using this
      · obtain ⟨c0, ct, hcc⟩ : ∃ c0 ct, c = c0 :: ct := by cases c with | nil => exact absurd rfl hc | cons a b => exact ⟨a, b, rfl⟩
        have hc1 : (str c).toList.isEmpty = false := by rw [hcc]; exact empty_no
        have HC := Lib.hid hc
        clear hc hcc
        go_wp2_with fail
        refine HBD.out.mono ?_
        rintro e w2 ⟨rfl, rfl⟩
        go_wp2_with (with_reducible show wpList _ _ _ (⟨some 29, _, _, _, _, _⟩ :: _) _ _; go_must (refine wpList_append_st partR 2 partR_len (by decide) rfl (.tmp 25) (.tmp 28) 48 rfl w.heap.size 52 (.agg #[.string ⟨#[]⟩, .bool false]) 24 Try.underlying48 (by kernel_rfl) rfl (by omega) _ (outG G1) rfl (OwnS.keeps (S := fun _ => False) HH.out.2.2.2.2.1 ((Keeps.refl _ _).alloc _) (fun _ _ _ _ => id)) wr.heap.size 1 (c, false) rfl (Blk.new _ _ _) (partR_one _) (by have := HOL.out; omega) (by simp; omega) ?_; intro v7 w7 O7 k7; have HO7 := Lib.hid O7; have HK7 := Lib.hid k7; have hz7 := k7.size; simp at hz7; clear O7 k7))
        go_ret2
        refine ⟨v7, rfl, ?_, ?_⟩
        · rw [← HGG.out]
          have := HO7.out
          unfold conP
          rw [if_neg HC.out]
          exact this
        · exact HH.out.2.2.2.2.2.and_ (((Keeps.refl (fun i => w.heap.size ≤ i) wr).alloc _).trans (HK7.out.mono fun i _ e => e.1)) (fun i hi e => by omega)
    | cons x G3 =>
      obtain ⟨a, u⟩ := x
      have hdat : s.data.toList = dblP a ++ (255 :: 1 :: (dblP u ++ (255 :: 2 :: gB G3 c))) := by rw [HH.out.1, gB_cons]
      have hl : s.data.toList.length = s.size := by simp
      obtain ⟨R, hR⟩ : ∃ R, R = gB G3 c := ⟨_, rfl⟩
      rw [← hR] at hdat
      have hb1 := body_any wr s a (255 :: 1 :: (dblP u ++ (255 :: 2 :: R))) hdat (.inr ⟨1, _, rfl, by decide⟩) hsb
      obtain ⟨N, hN⟩ : ∃ N, N = (dblP a).length := ⟨_, rfl⟩
      obtain ⟨m, hm⟩ : ∃ m, m = (dblP u).length := ⟨_, rfl⟩
      rw [← hN] at hb1
      have hss : s.size = N + (2 + (m + (2 + R.length))) := by rw [← hl, hdat]; simp [hN, hm]; omega
      obtain ⟨s1, hs1⟩ : ∃ s1, s.extract N s.size = s1 := ⟨_, rfl⟩
      have d1 : s1.data.toList = 255 :: 1 :: (dblP u ++ (255 :: 2 :: R)) := by rw [← hs1, ext_list, hdat, hN, List.drop_left]
      have z1 : s1.size = 2 + (m + (2 + R.length)) := by rw [← hs1, ext_size]; omega
      obtain ⟨q1, q2⟩ := ba_get s1 1 1 (by rw [d1]; rfl)
      obtain ⟨s2, hs2⟩ : ∃ s2, s1.extract 2 s1.size = s2 := ⟨_, rfl⟩
      have d2 : s2.data.toList = dblP u ++ (255 :: 2 :: R) := by rw [← hs2, ext_list, d1]; rfl
      have z2 : s2.size ≤ 1073741824 := by rw [← hs2, ext_size]; omega
      have hb2 := body_any wr s2 u (255 :: 2 :: R) d2 (.inr ⟨2, _, rfl, by decide⟩) z2
      rw [← hm] at hb2
      obtain ⟨s3, hs3⟩ : ∃ s3, s1.extract (2 + m) s1.size = s3 := ⟨_, rfl⟩
      have d3 : s3.data.toList = 255 :: 2 :: R := by
        rw [← hs3, ext_list, d1]
        show ((255 :: 1 :: dblP u) ++ (255 :: 2 :: R)).drop (2 + m) = _
        rw [show 2 + m = (255 :: 1 :: dblP u : List UInt8).length by simp [hm]; omega, List.drop_left]
      have z3 : s3.size = 2 + R.length := by rw [← hs3, ext_size]; omega
      obtain ⟨q3, q4⟩ := ba_get s3 1 2 (by rw [d3]; rfl)
      obtain ⟨s4, hs4⟩ : ∃ s4, s3.extract 2 s3.size = s4 := ⟨_, rfl⟩
      have d4 : s4.data.toList = gB G3 c := by rw [← hs4, ext_list, d3, ← hR]; rfl
      have z4 : s4.size ≤ s.size := by rw [← hs4, ext_size]; omega
      have e1 : s1.toList.isEmpty = false := by
        have : s1 = str (255 :: 1 :: (dblP u ++ (255 :: 2 :: R))) := by rw [← d1]; rfl
        rw [this]; exact empty_no
      have n1 : ((s1.size : Int) == 1) = false := by rw [beq_eq_false_iff_ne]; omega
      have n2 : ¬ s1.size = 1 := by omega
      have n3 : 2 ≤ s3.size := by omega
      have hNb : N ≤ s.size := by omega
      have h2b : 2 ≤ s1.size := by omega
      have h3b : 2 + m ≤ s1.size := by omega
      have h4b : s1.size ≤ 1073741824 := by omega
      have hw2 : IntKind.i64.wrap (2 + (m : Int)) = 2 + (m : Int) := wrap_in (by omega) (by omega)
      have hwi : IntKind.i64.wrap ((i : Int) + 1) = (i : Int) + 1 := wrap_in (by omega) (by omega)
      have hrel : (G1 ++ [(a, u)]) ++ G3 = G ∧ (G1 ++ [(a, u)]).length = i + 1 ∧ gk = G3.length + 1 := ⟨by rw [HH.out.2.1]; simp, by rw [List.length_append, HI.out]; rfl, HH.out.2.2.1⟩
      have HREL := Lib.hid hrel
      have HB1 := Lib.hid hb1
      have HB2 := Lib.hid hb2
      have HB2' := Lib.hid (fun w7 => by have := body_any w7 s2 u (255 :: 2 :: R) d2 (.inr ⟨2, _, rfl, by decide⟩) z2; rw [← hm] at this; exact this)
      have HD4 := Lib.hid d4
      have HZ4 := Lib.hid z4
      clear hdat hl hR hb1 hN hm hss d1 z1 d2 z2 hb2 d3 z3 d4 z4 hrel
      by_cases hc : a = []
      · subst hc
        have hc1 := empty_yes
        go_wp2_with fail
        refine HB1.out.mono ?_
        rintro e w2 ⟨rfl, rfl⟩
        go_wp2_with fail
        refine HB2.out.mono ?_
        rintro e w2 ⟨rfl, rfl⟩
        go_wp2_with (with_reducible show wpList _ _ _ (⟨some 66, _, _, _, _, _⟩ :: _) _ _; go_must (refine wpList_append_st partR 2 partR_len (by decide) rfl (.tmp 62) (.tmp 65) 48 rfl w.heap.size 52 (.agg #[.string ⟨#[]⟩, .bool false]) 24 Try.underlying48 (by kernel_rfl) rfl (by omega) _ (outG G1) rfl (OwnS.keeps (S := fun _ => False) HH.out.2.2.2.2.1 ((Keeps.refl _ _).alloc _) (fun _ _ _ _ => id)) wr.heap.size 1 (u, true) rfl (Blk.new _ _ _) (partR_one _) (by have := HOL.out; omega) (by simp; omega) ?_; intro v7 w7 O7 k7; have HO7 := Lib.hid O7; have HK7 := Lib.hid k7; have hz7 := k7.size; simp at hz7; clear O7 k7))
        go_roundg G3.length
        case measure => have := HREL.out.2.2; omega
        case rel =>
          refine ⟨G1 ++ [([], u)], G3, s4, rfl, by rw [HREL.out.2.1]; go_num, Lib.hid ⟨HD4.out, HREL.out.1.symm, rfl, by have := HZ4.out; have := HH.out.2.2.2.1; omega, ?_, ?_⟩⟩
          · rw [outG_snoc]
            have := HO7.out
            simpa [conP] using this
          · exact HH.out.2.2.2.2.2.and_ (((Keeps.refl (fun i => w.heap.size ≤ i) wr).alloc _).trans (HK7.out.mono fun i _ e => e.1)) (fun i hi e => by omega)
      · obtain ⟨c0, ct, hcc⟩ : ∃ c0 ct, a = c0 :: ct := by cases a with | nil => exact absurd rfl hc | cons a b => exact ⟨a, b, rfl⟩
        have hc1 : (str a).toList.isEmpty = false := by rw [hcc]; exact empty_no
        have HC := Lib.hid hc
        clear hc hcc
        go_wp2_with fail
        refine HB1.out.mono ?_
        rintro e w2 ⟨rfl, rfl⟩
        go_wp2_with (with_reducible show wpList _ _ _ (⟨some 29, _, _, _, _, _⟩ :: _) _ _; go_must (refine wpList_append_st partR 2 partR_len (by decide) rfl (.tmp 25) (.tmp 28) 48 rfl w.heap.size 52 (.agg #[.string ⟨#[]⟩, .bool false]) 24 Try.underlying48 (by kernel_rfl) rfl (by omega) _ (outG G1) rfl (OwnS.keeps (S := fun _ => False) HH.out.2.2.2.2.1 ((Keeps.refl _ _).alloc _) (fun _ _ _ _ => id)) wr.heap.size 1 (a, false) rfl (Blk.new _ _ _) (partR_one _) (by have := HOL.out; omega) (by simp; omega) ?_; intro v7 w7 O7 k7; have HO7 := Lib.hid O7; have HK7 := Lib.hid k7; have hz7 := k7.size; simp at hz7; clear O7 k7))
        refine (HB2'.out w7).mono ?_
        rintro e w2 ⟨rfl, rfl⟩
        go_wp2_with (with_reducible show wpList _ _ _ (⟨some 66, _, _, _, _, _⟩ :: _) _ _; go_must (refine wpList_append_st partR 2 partR_len (by decide) rfl (.tmp 62) (.tmp 65) 48 rfl w.heap.size 52 (.agg #[.string ⟨#[]⟩, .bool false]) 24 Try.underlying48 (by kernel_rfl) rfl (by omega) _ (outG G1 ++ [(a, false)]) rfl (OwnS.keeps (S := fun _ => False) HO7.out ((Keeps.refl _ _).alloc _) (fun _ _ _ _ => id)) w7.heap.size 1 (u, true) rfl (Blk.new _ _ _) (partR_one _) (by rw [List.length_append]; have := HOL.out; simp; omega) (by simp; omega) ?_; intro v8 w8 O8 k8; have HO8 := Lib.hid O8; have HK8 := Lib.hid k8; have hz8 := k8.size; simp at hz8; clear O8 k8))
        go_roundg G3.length
        case measure => have := HREL.out.2.2; omega
        case rel =>
          refine ⟨G1 ++ [(a, u)], G3, s4, rfl, by rw [HREL.out.2.1]; go_num, Lib.hid ⟨HD4.out, HREL.out.1.symm, rfl, by have := HZ4.out; have := HH.out.2.2.2.1; omega, ?_, ?_⟩⟩
          · rw [outG_snoc]
            have := HO8.out
            unfold conP
            rw [if_neg HC.out]
            exact this
          · exact (HH.out.2.2.2.2.2.and_ (((Keeps.refl (fun i => w.heap.size ≤ i) wr).alloc _).trans (HK7.out.mono fun i _ e => e.1)) (fun i hi e => by omega)).and_ (((Keeps.refl (fun i => w.heap.size ≤ i) w7).alloc _).trans (HK8.out.mono fun i _ e => e.1)) (fun i hi e => by omega)
end Go.Proofs.Ytcblaeleaebinaa
