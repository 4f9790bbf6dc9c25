/-
  The items of all generations (wheelhouseref22.Load), and whether items are a piece of a row (Within).
-/
import Derived.Test.YtdbnalocmjkncaaGreatQRecF
import Derived.Test.YtdbnalocmjkncaaGreatQGround2
namespace Go.Proofs.YtdbnalocmjkncaaGreat
open Go.RowKit

theorem load_snoc {ds : List ByteArray} {i : Nat} {d : ByteArray} (h : ds[i]? = some d) : loadP (ds.take (i + 1)) = loadP (ds.take i) ++ scanI d.data.toList := by
  rw [take_snoc10 h, load_app, load_one]
theorem load_len {ds : List ByteArray} {z : Nat} (h : ∀ d ∈ ds, d.size ≤ z) : (loadP ds).length ≤ ds.length * z := by
  induction ds with
  | nil => simp [loadP]
  | cons d ds ih =>
    have e : loadP (d :: ds) = scanI d.data.toList ++ loadP ds := by unfold loadP; rw [List.flatMap_cons]
    have h1 := scan_len d.data.toList
    have h2 : d.data.toList.length = d.size := by simp
    have h3 := h d (List.mem_cons_self ..)
    have h4 := ih fun x hx => h x (List.mem_cons_of_mem _ hx)
    rw [e, List.length_append, List.length_cons, Nat.succ_mul]
    omega
set_option maxRecDepth 100000 in
set_option maxHeartbeats 1000000 in
theorem rload_any (w : World) (a : Option Addr) (n c : Nat) (ds : List ByteArray) (h : SlAt strR 1 w a n ds) (hn : n ≤ 64) (hz : ∀ d ∈ ds, d.size ≤ 16777216) :
    Calls Tryz.prog 9 #[.slice a n c] w fun e w' => (∃ v, e = .returned v ∧ OwnI w' w.heap.size v (loadP ds)) ∧ Keeps (fun _ => False) w w' := by
  have HL := Lib.hid h
  have HN := Lib.hid h.1
  have hll := load_len hz
  rw [h.1] at hll
  have HLL := Lib.hid (show (loadP ds).length ≤ 1073741824 by omega)
  have HZ := Lib.hid hz
  clear h hz hll
  go_enter Tryz.func9, Tryz.ntmps9
  go_wp2_with fail
  go_loopw [3, 4] (fun u3 u4 wr => ∃ i : Nat, u4 = .int .i64 i ∧ i ≤ n ∧ Hid (OwnI wr w.heap.size u3 (loadP (ds.take i)) ∧ Keeps (fun _ => False) w wr)) (fun _ u4 _ => n - (intOf u4).toNat)
  case atStart => exact ⟨0, rfl, Nat.zero_le _, Lib.hid ⟨OwnS.none_, Keeps.refl _ _⟩⟩
  case round =>
    obtain ⟨i, rfl, hi, HI⟩ := hrel
    rename World => wr
    obtain ⟨a3, c3, rfl⟩ := HI.out.1.sl
    by_cases hlt : i < n
    · obtain ⟨d, hd⟩ : ∃ d, ds[i]? = some d := ⟨_, List.getElem?_eq_getElem (by rw [HN.out]; exact hlt)⟩
      obtain ⟨b, off, rfl, hc⟩ := slat_at (HL.out.keeps HI.out.2 (fun _ _ => id)) hd
      have hsn := load_snoc hd
      have hmem := List.mem_of_getElem? hd
      have hR := fun W => r8scan_any W d (by have := HZ.out d hmem; omega)
      have hlen : (loadP (ds.take (i + 1))).length ≤ (loadP ds).length := by
        have e : loadP ds = loadP (ds.take (i + 1)) ++ loadP (ds.drop (i + 1)) := by rw [← load_app, List.take_append_drop]
        rw [e, List.length_append]; omega
      have HR := Lib.hid hR
      have HSN := Lib.hid hsn
      have HLE := Lib.hid hlen
      clear hR hsn hlen hmem hd
      go_wp2_with fail
      refine (HR.out _).mono ?_
      rintro e w3 ⟨⟨v, rfl, hO⟩, k3⟩
      obtain ⟨av, cv, rfl⟩ := hO.sl
      have HO3 := Lib.hid hO
      have HX3 := Lib.hid (OwnS.keeps (S := fun _ => False) HI.out.1 k3 (fun _ _ _ _ => id))
      have HK3 := Lib.hid (HI.out.2.trans k3)
      clear hO k3 hc
      go_wp2_with (with_reducible show wpList _ _ _ (⟨some 23, _, _, _, _, _⟩ :: _) _ _; go_must (refine wpList_append_many itmR 3 itmR_len (by decide) itmR_ones rfl (.tmp 21) (.tmp 22) 29 rfl w.heap.size wr.heap.size 42 (.agg #[.int .i64 0, .int .i64 0, .string ⟨#[]⟩]) 32 Tryz.underlying29 (by kernel_rfl) rfl (by omega) (.slice a3 (loadP (ds.take i)).length c3) (.slice av (scanI d.data.toList).length cv) (loadP (ds.take i)) (scanI d.data.toList) rfl HX3.out rfl HO3.out (by rw [← List.length_append, ← HSN.out]; have := HLL.out; have := HLE.out; omega) HK3.out.size ?_; intro v7 w7 O7 k7))
      refine ⟨⟨i + 1, by go_num, by omega, Lib.hid ⟨by rw [HSN.out]; exact O7, Keeps.and_ HK3.out k7 (fun i hi h => absurd h.1 (by omega))⟩⟩, by simp [intOf]; omega⟩
    · have he : loadP (ds.take i) = loadP ds := by rw [List.take_of_length_le (by rw [HN.out]; omega)]
      have HE := Lib.hid he
      clear he
      go_wp2_with fail
      go_ret
      exact ⟨⟨_, rfl, by rw [← HE.out]; exact HI.out.1⟩, HI.out.2⟩
/-- a part of a row -/
theorem SlAt.part {w : World} {a : Option Addr} {n : Nat} {l : List Itm} (h : SlAt itmR 3 w a n l) {k m : Nat} (hk : k + m ≤ n) : (m = 0 ∧ ∀ a', SlAt itmR 3 w a' 0 ((l.drop k).take m)) ∨ (0 < m ∧ ∃ b off, a = some ⟨b, off, none⟩ ∧ SlAt itmR 3 w (some ⟨b, off + k * 3, none⟩) m ((l.drop k).take m)) := by
  have hl := h.1
  by_cases hm : m = 0
  · subst hm
    exact .inl ⟨rfl, fun a' => ⟨by simp, fun h => absurd h (by omega)⟩⟩
  · obtain ⟨b, off, ha, hb, hc⟩ := h.2 (by omega)
    refine .inr ⟨by omega, b, off, ha, by rw [List.length_take, List.length_drop]; omega, fun _ => ⟨b, off + k * 3, rfl, hb, fun i x j v hx hv => ?_⟩⟩
    have hlt : i < ((l.drop k).take m).length := (List.getElem?_eq_some_iff.1 hx).1
    rw [List.length_take] at hlt
    rw [List.getElem?_take, if_pos (by omega), List.getElem?_drop] at hx
    have := hc (k + i) x j v hx hv
    rw [← this]
    congr 2
    rw [Nat.add_mul]; omega
set_option maxRecDepth 100000 in
set_option maxHeartbeats 1000000 in
theorem rwithin_true (w : World) (a b : Option Addr) (n m c d : Nat) (l row : List Itm) (hl : SlAt itmR 3 w a n l) (hr : SlAt itmR 3 w b m row) (q : Int) (k0 : Nat) (hk0 : k0 + n ≤ m) (hq : q ≤ k0 + n) (heq : (row.drop k0).take n = l) (hcap : m ≤ d) (hm : m ≤ 1073741824) (hd : d ≤ maxLen) :
    Calls Tryz.prog 21 #[.slice a n c, .slice b m d, .int .i64 q] w fun e w' => e = .returned (.bool true) ∧ Keeps (fun _ => False) w w' := by
  have HL := Lib.hid hl
  have HR := Lib.hid hr
  have HEQ := Lib.hid heq
  have hd : d ≤ 9223372036854775807 := by unfold maxLen at hd; omega
  have hw1 : IntKind.i64.wrap ((m : Int) - n) = (m : Int) - n := wrap_in (by omega) (by omega)
  clear hl hr heq
  go_enter Tryz.func21, Tryz.ntmps21
  go_wp2_with fail
  go_loopw [7] (fun u7 wr => ∃ k : Nat, u7 = .int .i64 k ∧ k ≤ k0 ∧ Hid (Keeps (fun _ => False) w wr)) (fun u7 _ => k0 - (intOf u7).toNat)
  case atStart => exact ⟨0, rfl, Nat.zero_le _, Lib.hid (Keeps.refl _ _)⟩
  case round =>
    obtain ⟨k, rfl, hk, HI⟩ := hrel
    rename World => wr
    have hkn : (k : Int) ≤ (m : Int) - n := by omega
    have hw2 : IntKind.i64.wrap ((k : Int) + n) = (k : Int) + n := wrap_in (by omega) (by omega)
    by_cases hge : q ≤ (k : Int) + n
    · have hg2 : decide (q ≤ (k : Int) + n) = true := decide_eq_true hge
      have hsl1 : Hid (∀ W, Keeps (fun _ => False) w W → SlAt itmR 3 W (b.map fun x => x.add (k * 3)) n ((row.drop k).take n)) := Lib.hid fun W kW => by
        rcases (HR.out.keeps kW (fun _ _ => id)).part (k := k) (m := n) (by omega) with ⟨rfl, hh⟩ | ⟨_, b', off, rfl, hh⟩
        · exact hh _
        · rw [Option.map_some, add_plain]; exact hh
      have hsl2 : Hid (d = k → ∀ W, Keeps (fun _ => False) w W → SlAt itmR 3 W b n ((row.drop k).take n)) := Lib.hid fun hdk W kW => by
        obtain rfl : n = 0 := by omega
        exact ⟨by simp, fun h => absurd h (by omega)⟩
      obtain ⟨P, hP⟩ : ∃ P, P = (row.drop k).take n := ⟨_, rfl⟩
      rw [← hP] at hsl1 hsl2
      have hk3 : ¬ l = P → k < k0 := fun hne => by
        rcases Nat.lt_or_ge k k0 with hh | hh
        · exact hh
        · obtain rfl : k = k0 := by omega
          exact absurd (HEQ.out.symm.trans hP.symm) hne
      have HK3 := Lib.hid hk3
      clear hP hk3
      by_cases hlP : l = P
      · have HS := Lib.hid (fun W a' d' (h1 : SlAt itmR 3 W a n l) (h2 : SlAt itmR 3 W a' n P) => by have := r8same_all W a a' n n c d' l P h1 h2 (by omega) (by omega); rwa [decide_eq_true hlP] at this)
        clear hlP
        by_cases hdk : d = k
        · have HS2 := Lib.hid (hsl2.out hdk)
          clear hsl1 hsl2
          subst hdk
          go_wp2_with fail
          refine (HS.out _ _ _ (HL.out.keeps HI.out (fun _ _ => id)) (HS2.out _ HI.out)).mono ?_
          rintro e w3 ⟨rfl, k3⟩
          have HK := Lib.hid (HI.out.trans k3)
          clear k3
          go_wp2_with fail
          go_ret
          exact ⟨rfl, HK.out⟩
        · go_wp2_with fail
          refine (HS.out _ _ _ (HL.out.keeps HI.out (fun _ _ => id)) (hsl1.out _ HI.out)).mono ?_
          rintro e w3 ⟨rfl, k3⟩
          have HK := Lib.hid (HI.out.trans k3)
          clear k3
          go_wp2_with fail
          go_ret
          exact ⟨rfl, HK.out⟩
      · have HS := Lib.hid (fun W a' d' (h1 : SlAt itmR 3 W a n l) (h2 : SlAt itmR 3 W a' n P) => by have := r8same_all W a a' n n c d' l P h1 h2 (by omega) (by omega); rwa [decide_eq_false hlP] at this)
        have hlt := HK3.out hlP
        have hdk : ¬ d = k := by omega
        clear hlP
        go_wp2_with fail
        refine (HS.out _ _ _ (HL.out.keeps HI.out (fun _ _ => id)) (hsl1.out _ HI.out)).mono ?_
        rintro e w3 ⟨rfl, k3⟩
        have HK := Lib.hid (HI.out.trans k3)
        clear k3
        go_wp2_with fail
        exact ⟨⟨k + 1, by go_num, by omega, Lib.hid HK.out⟩, by simp [intOf]; omega⟩
    · have hg2 : decide (q ≤ (k : Int) + n) = false := decide_eq_false hge
      have hlt : k < k0 := by omega
      go_wp2_with fail
      exact ⟨⟨k + 1, by go_num, by omega, HI⟩, by simp [intOf]; omega⟩
end Go.Proofs.YtdbnalocmjkncaaGreat
