/-
  The document's faults (wheelhouseref09): Of, Line, Has, Text of a slice of layers.
-/
import Derived.Test.YtngjppckobfdeaaDoorFltA
import Derived.Test.YtngjppckobfdeaaDoorTextP
import Derived.Test.YtngjppckobfdeaaDoorOwnS
import Derived.Test.YtngjppckobfdeaaDoorArgs
namespace Go.Proofs.YtngjppckobfdeaaDoor
open Go.RowKit

/-- a layer of the document's -/
structure L09 where
  code : Int
  line : Int
  what : ByteArray
def layR (x : L09) : List Value := [.int .i64 x.code, .int .i64 x.line, .string x.what]
theorem layR_len (x : L09) : (layR x).length = 3 := rfl

theorem SlAt.cells3 {α : Type} {R : α → List Value} {w : World} {b off : Nat} {l : List α}
    (hc : ∀ (i : Nat) (x : α) (j : Nat) (v : Value), l[i]? = some x → (R x)[j]? = some v → w.cell? ⟨b, off + i * 3 + j, none⟩ = some v) (i : Nat) (x : α) (hi : l[i]? = some x) (v0 v1 v2 : Value) (hR : R x = [v0, v1, v2]) :
    w.cell? ⟨b, off + i * 3, none⟩ = some v0 ∧ w.cell? ⟨b, off + i * 3 + 1, none⟩ = some v1 ∧ w.cell? ⟨b, off + i * 3 + 2, none⟩ = some v2 :=
  ⟨hc i x 0 v0 hi (by rw [hR]; rfl), hc i x 1 v1 hi (by rw [hR]; rfl), hc i x 2 v2 hi (by rw [hR]; rfl)⟩
theorem OwnS.slAt {α : Type} {R : α → List Value} {size : Nat} {w : World} {B : Nat} {e : TypeId} {v : Value} {xs : List α} (h : OwnS R size w B e v xs) (hR : ∀ x, (R x).length = size) :
    ∃ a cap, v = .slice a xs.length cap ∧ SlAt R size w a xs.length xs := by
  obtain ⟨a, cap, hv, h1, h2, h3, h4⟩ := h.shape hR
  refine ⟨a, cap, hv, rfl, fun hp => ?_⟩
  obtain ⟨g, hg, _, hlt, _⟩ := h3 hp
  exact ⟨g, 0, hg, hlt, fun i x j u hx hu => by rw [Nat.zero_add]; exact (h4 g hg i x j u hx hu).1⟩

def ofL : List L09 → Int
  | [] => 0
  | x :: l => if x.code ≠ 0 then x.code else ofL l
def lineL : List L09 → Int
  | [] => 0
  | x :: l => if 0 < x.line then x.line else lineL l
def hasL (d : Int) : List L09 → Bool
  | [] => false
  | x :: l => if x.code = d ∧ d ≠ 0 then true else hasL d l
theorem drop_at {α : Type} {l : List α} {k : Nat} {x : α} (h : l[k]? = some x) : l.drop k = x :: l.drop (k + 1) := by
  obtain ⟨hk, he⟩ := List.getElem?_eq_some_iff.1 h
  rw [List.drop_eq_getElem_cons hk, he]

set_option maxRecDepth 100000 in
theorem rof_any (w : World) (a : Option Addr) (n cap : Nat) (l : List L09) (h : SlAt layR 3 w a n l) (hn : n ≤ 17179869184) :
    Calls Tryd.prog 24 #[.slice a n cap] w fun e w' => e = .returned (.int .i64 (ofL l)) ∧ w' = w := by
  obtain ⟨hl, hcs⟩ := h
  have HC := Lib.hid hcs
  clear hcs
  go_enter Tryd.func24, Tryd.ntmps24
  go_wp2_with fail
  go_loop [3] (fun u3 => ∃ k : Nat, k ≤ n ∧ u3 = .int .i64 k ∧ ofL (l.drop k) = ofL l) (fun u3 => n - (intOf u3).toNat)
  case atStart => exact ⟨0, by omega, rfl, rfl⟩
  case round =>
    obtain ⟨k, hk, rfl, ho⟩ := hrel
    by_cases hlt : k < n
    · obtain ⟨b, off, rfl, hb, hc⟩ := HC.out (by omega)
      obtain ⟨x, hx⟩ : ∃ x, l[k]? = some x := ⟨_, List.getElem?_eq_getElem (by omega)⟩
      obtain ⟨c0, -, -⟩ := SlAt.cells3 hc k x hx _ _ _ rfl
      rw [drop_at hx, ofL] at ho
      have HO := Lib.hid ho
      clear ho hc hx
      by_cases hz : x.code = 0
      · have h1 : (x.code != 0) = false := by simpa using hz
        go_wp2_with fail
        go_round
        case rel => exact ⟨k + 1, by omega, by go_num, by have := HO.out; rw [if_neg (by simpa using hz)] at this; exact this⟩
        case measure => simp [intOf]; omega
      · have h1 : (x.code != 0) = true := by simpa using hz
        go_wp2_with fail
        go_ret
        exact ⟨by have := HO.out; rw [if_pos hz] at this; rw [← this]; rfl, rfl⟩
    · have hke : k = n := by omega
      subst hke
      rw [List.drop_of_length_le (by omega)] at ho
      have HO := Lib.hid ho
      clear ho
      go_wp2_with fail
      go_ret
      exact ⟨by rw [← HO.out]; rfl, rfl⟩

set_option maxRecDepth 100000 in
theorem rline_any (w : World) (a : Option Addr) (n cap : Nat) (l : List L09) (h : SlAt layR 3 w a n l) (hn : n ≤ 17179869184) :
    Calls Tryd.prog 25 #[.slice a n cap] w fun e w' => e = .returned (.int .i64 (lineL l)) ∧ w' = w := by
  obtain ⟨hl, hcs⟩ := h
  have HC := Lib.hid hcs
  clear hcs
  go_enter Tryd.func25, Tryd.ntmps25
  go_wp2_with fail
  go_loop [3] (fun u3 => ∃ k : Nat, k ≤ n ∧ u3 = .int .i64 k ∧ lineL (l.drop k) = lineL l) (fun u3 => n - (intOf u3).toNat)
  case atStart => exact ⟨0, by omega, rfl, rfl⟩
  case round =>
    obtain ⟨k, hk, rfl, ho⟩ := hrel
    by_cases hlt : k < n
    · obtain ⟨b, off, rfl, hb, hc⟩ := HC.out (by omega)
      obtain ⟨x, hx⟩ : ∃ x, l[k]? = some x := ⟨_, List.getElem?_eq_getElem (by omega)⟩
      obtain ⟨-, c1, -⟩ := SlAt.cells3 hc k x hx _ _ _ rfl
      rw [drop_at hx, lineL] at ho
      have HO := Lib.hid ho
      clear ho hc hx
      by_cases hz : 0 < x.line
      · go_wp2_with fail
        go_ret
        exact ⟨by have := HO.out; rw [if_pos hz] at this; rw [← this]; rfl, rfl⟩
      · have hz2 : x.line ≤ 0 := by omega
        go_wp2_with fail
        go_round
        case rel => exact ⟨k + 1, by omega, by go_num, by have := HO.out; rw [if_neg (by omega)] at this; exact this⟩
        case measure => simp [intOf]; omega
    · have hke : k = n := by omega
      subst hke
      rw [List.drop_of_length_le (by omega)] at ho
      have HO := Lib.hid ho
      clear ho
      go_wp2_with fail
      go_ret
      exact ⟨by rw [← HO.out]; rfl, rfl⟩

set_option maxRecDepth 100000 in
theorem rhas_any (w : World) (a : Option Addr) (n cap : Nat) (l : List L09) (d : Int) (h : SlAt layR 3 w a n l) (hn : n ≤ 17179869184) :
    Calls Tryd.prog 27 #[.slice a n cap, .int .i64 d] w fun e w' => e = .returned (.bool (hasL d l)) ∧ w' = w := by
  obtain ⟨hl, hcs⟩ := h
  have HC := Lib.hid hcs
  clear hcs
  go_enter Tryd.func27, Tryd.ntmps27
  go_wp2_with fail
  go_loop [5] (fun u3 => ∃ k : Nat, k ≤ n ∧ u3 = .int .i64 k ∧ hasL d (l.drop k) = hasL d l) (fun u3 => n - (intOf u3).toNat)
  case atStart => exact ⟨0, by omega, rfl, rfl⟩
  case round =>
    obtain ⟨k, hk, rfl, ho⟩ := hrel
    by_cases hlt : k < n
    · obtain ⟨b, off, rfl, hb, hc⟩ := HC.out (by omega)
      obtain ⟨x, hx⟩ : ∃ x, l[k]? = some x := ⟨_, List.getElem?_eq_getElem (by omega)⟩
      obtain ⟨c0, -, -⟩ := SlAt.cells3 hc k x hx _ _ _ rfl
      rw [drop_at hx, hasL] at ho
      have HO := Lib.hid ho
      clear ho hc hx
      by_cases hz : x.code = d
      · have h1 : (x.code == d) = true := by simpa using hz
        by_cases h0 : d = 0
        · have h2 : (d != 0) = false := by simpa using h0
          have HZ := Lib.hid h0
          clear hz h0
          go_wp2_with fail
          go_round
          case rel => exact ⟨k + 1, by omega, by go_num, by have := HO.out; rw [if_neg (fun e => e.2 HZ.out)] at this; exact this⟩
          case measure => simp [intOf]; omega
        · have h2 : (d != 0) = true := by simpa using h0
          have HZ := Lib.hid (And.intro hz h0)
          clear hz h0
          go_wp2_with fail
          go_ret
          exact ⟨by have := HO.out; rw [if_pos HZ.out] at this; rw [← this]; rfl, rfl⟩
      · have h1 : (x.code == d) = false := by simpa using hz
        go_wp2_with fail
        go_round
        case rel => exact ⟨k + 1, by omega, by go_num, by have := HO.out; rw [if_neg (fun e => hz e.1)] at this; exact this⟩
        case measure => simp [intOf]; omega
    · have hke : k = n := by omega
      subst hke
      rw [List.drop_of_length_le (by omega)] at ho
      have HO := Lib.hid ho
      clear ho
      go_wp2_with fail
      go_ret
      exact ⟨by rw [← HO.out]; rfl, rfl⟩

set_option maxRecDepth 100000 in
theorem rwith_any (w : World) (s t : ByteArray) (hs : s.size ≤ 17179869184) (ht : t.size ≤ 17179869184) :
    Calls Tryd.prog 49 #[.string s, .string t] w fun e w' => e = .returned (.string (str (withP s.data.toList t.data.toList))) ∧ w' = w := by
  by_cases h1 : s.data.toList = []
  · obtain rfl : s = ⟨#[]⟩ := ba_ext h1
    have h3 : Hid (str (withP (⟨#[]⟩ : ByteArray).data.toList t.data.toList) = t) := Lib.hid (by unfold withP; rw [if_pos (.inl rfl)]; exact str_of t)
    go_enter Tryd.func49, Tryd.ntmps49
    go_wp2
    go_ret
    exact ⟨by rw [h3.out]; exact congrArg (fun s => Ending.returned (Value.string s)) (ba_ext (by simp)), rfl⟩
  · have h2 : s.toList.isEmpty = false := by
      rw [ByteArray.toList_eq]
      cases hh : s.data.toList with
      | nil => exact absurd hh h1
      | cons x y => rfl
    by_cases h4 : t.data.toList = []
    · obtain rfl : t = ⟨#[]⟩ := ba_ext h4
      have h3 : Hid (str (withP s.data.toList (⟨#[]⟩ : ByteArray).data.toList) = s) := Lib.hid (by unfold withP; rw [if_pos (.inr rfl)]; apply ba_ext; rw [str_list]; simp)
      go_enter Tryd.func49, Tryd.ntmps49
      go_wp2
      go_ret
      exact ⟨by rw [h3.out]; exact congrArg (fun s => Ending.returned (Value.string s)) (ba_ext (by simp)), rfl⟩
    · have h5 : t.toList.isEmpty = false := by
        rw [ByteArray.toList_eq]
        cases hh : t.data.toList with
        | nil => exact absurd hh h4
        | cons x y => rfl
      have h3 : Hid (str (withP s.data.toList t.data.toList) = s ++ ⟨#[58, 32]⟩ ++ t) := Lib.hid (by
        unfold withP; rw [if_neg (by rintro (e | e) <;> contradiction)]; apply ba_ext; simp [str])
      go_enter Tryd.func49, Tryd.ntmps49
      go_wp2
      go_ret
      exact ⟨by rw [h3.out]; rfl, rfl⟩
end Go.Proofs.YtngjppckobfdeaaDoor
