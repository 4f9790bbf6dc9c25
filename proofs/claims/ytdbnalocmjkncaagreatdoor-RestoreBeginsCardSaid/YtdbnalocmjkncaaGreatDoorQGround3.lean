/-
  Lower texts of this claim, joined.
-/
import Derived.Test.YtdbnalocmjkncaaGreatDoorQGround1
import Derived.Test.YtdbnalocmjkncaaGreatDoorChecked
import Derived.Test.YtdbnalocmjkncaaGreatDoorQGround2
import Derived.Deep.DeepCutAuto
import Derived.Deep.CutBlock
/-
  Sums, numbers as bytes, and items as records, plainly: what is put, and what is read of any bytes. No program in sight.
-/
namespace Go.Proofs.YtdbnalocmjkncaaGreatDoor
open Go.RowKit

/-! sums -/
def onP (h : Nat) (c : UInt8) : Nat := (h * 257 + c.toNat + 1) % 2147483647
def sumP (l : List UInt8) : Nat := l.foldl onP 0
theorem sumP_lt (l : List UInt8) : sumP l < 2147483647 := by
  unfold sumP
  have h : ∀ (l : List UInt8) (n : Nat), n < 2147483647 → l.foldl onP n < 2147483647 := by
    intro l
    induction l with
    | nil => intro n hn; exact hn
    | cons c l ih => intro n _; exact ih _ (Nat.mod_lt _ (by omega))
  exact h l 0 (by omega)
theorem sumP_snoc (l : List UInt8) (c : UInt8) : sumP (l ++ [c]) = onP (sumP l) c := by unfold sumP; rw [List.foldl_append]; rfl

/-! numbers as bytes, the highest first -/
def beP : Nat → Nat → List UInt8
  | 0, _ => []
  | k + 1, n => beP k (n / 256) ++ [UInt8.ofNat (n % 256)]
def unbe (l : List UInt8) : Nat := l.foldl (fun n c => n * 256 + c.toNat) 0
theorem beP_len : ∀ k n, (beP k n).length = k
  | 0, _ => rfl
  | k + 1, n => by unfold beP; rw [List.length_append, beP_len k]; rfl
theorem unbe_snoc (l : List UInt8) (c : UInt8) : unbe (l ++ [c]) = unbe l * 256 + c.toNat := by unfold unbe; rw [List.foldl_append]; rfl
theorem byte_mod (n : Nat) : (UInt8.ofNat (n % 256)).toNat = n % 256 := by simp
theorem unbe_be : ∀ (k n : Nat), n < 256 ^ k → unbe (beP k n) = n
  | 0, n, h => by
    have : n = 0 := by simpa using h
    subst this; rfl
  | k + 1, n, h => by
    unfold beP
    rw [unbe_snoc, unbe_be k (n / 256) (by rw [Nat.pow_succ] at h; omega), byte_mod]
    omega
theorem unbe_lt (l : List UInt8) : unbe l < 256 ^ l.length := by
  have h : ∀ l : List UInt8, unbe l.reverse < 256 ^ l.reverse.length := by
    intro l
    induction l with
    | nil => simp [unbe]
    | cons c l ih =>
      rw [List.reverse_cons, unbe_snoc, List.length_append]
      have hc : c.toNat < 256 := c.toNat_lt
      show _ < 256 ^ (l.reverse.length + 1)
      rw [Nat.pow_succ]
      omega
  have := h l.reverse
  rwa [List.reverse_reverse] at this
theorem be_unbe (l : List UInt8) : beP l.length (unbe l) = l := by
  have h : ∀ l : List UInt8, beP l.reverse.length (unbe l.reverse) = l.reverse := by
    intro l
    induction l with
    | nil => rfl
    | cons c l ih =>
      have hc : c.toNat < 256 := c.toNat_lt
      rw [List.reverse_cons, unbe_snoc, List.length_append]
      show beP (l.reverse.length + 1) _ = _
      unfold beP
      rw [show (unbe l.reverse * 256 + c.toNat) / 256 = unbe l.reverse by omega, ih, show (unbe l.reverse * 256 + c.toNat) % 256 = c.toNat by omega]
      simp
  have := h l.reverse
  rwa [List.reverse_reverse] at this

/-! items -/
structure Itm where
  kind : Int
  at_ : Int
  body : ByteArray
/-- 1: no such kind; 2: no such time; 4: too long; 0: it may be -/
def checkI (e1 e2 e3 : Int) (x : Itm) : Int := if x.kind < 1 ∨ 15 < x.kind then e1 else if x.at_ < 0 ∨ 1099511627776 < x.at_ then e2 else if 4096 < x.body.size then e3 else 0
def Itm.ok (x : Itm) : Prop := (1 ≤ x.kind ∧ x.kind ≤ 15) ∧ (0 ≤ x.at_ ∧ x.at_ ≤ 1099511627776) ∧ x.body.size ≤ 4096
/-- an item's bytes ahead of their sum -/
def headP (x : Itm) : List UInt8 := 87 :: UInt8.ofNat x.kind.toNat :: (beP 6 x.at_.toNat ++ (beP 2 x.body.size ++ x.body.data.toList))
def recP (x : Itm) : List UInt8 := headP x ++ beP 4 (sumP (headP x))
theorem headP_len (x : Itm) : (headP x).length = 10 + x.body.size := by
  unfold headP
  simp only [List.length_cons, List.length_append, beP_len]
  have : x.body.data.toList.length = x.body.size := by simp
  omega
theorem recP_len (x : Itm) : (recP x).length = 14 + x.body.size := by unfold recP; rw [List.length_append, headP_len, beP_len]; omega

def gotK (s : List UInt8) : Nat := unbe ((s.drop 8).take 2)
def gotI (s : List UInt8) : Itm := ⟨((s.getD 1 0).toNat : Int), (unbe ((s.drop 2).take 6) : Int), str ((s.drop 10).take (gotK s))⟩
/-- an item stands at the beginning of bytes, whole -/
structure Whole (s : List UInt8) : Prop where
  w : s[0]? = some 87
  kind : 1 ≤ (s.getD 1 0).toNat ∧ (s.getD 1 0).toNat ≤ 15
  at_ : unbe ((s.drop 2).take 6) ≤ 1099511627776
  len : gotK s ≤ 4096
  all : 14 + gotK s ≤ s.length
  sum : unbe ((s.drop (10 + gotK s)).take 4) = sumP (s.take (10 + gotK s))
def wholeB (s : List UInt8) : Bool := decide (s[0]? = some 87 ∧ (1 ≤ (s.getD 1 0).toNat ∧ (s.getD 1 0).toNat ≤ 15) ∧ unbe ((s.drop 2).take 6) ≤ 1099511627776 ∧ gotK s ≤ 4096 ∧ 14 + gotK s ≤ s.length ∧ unbe ((s.drop (10 + gotK s)).take 4) = sumP (s.take (10 + gotK s)))
theorem whole_iff {s : List UInt8} : wholeB s = true ↔ Whole s := by
  unfold wholeB
  rw [decide_eq_true_iff]
  exact ⟨fun ⟨a, b, c, d, e, f⟩ => ⟨a, b, c, d, e, f⟩, fun ⟨a, b, c, d, e, f⟩ => ⟨a, b, c, d, e, f⟩⟩
theorem Whole.ok {s : List UInt8} (h : Whole s) : (gotI s).ok := by
  refine ⟨⟨by have := h.kind; unfold gotI; simp only; omega, by have := h.kind; unfold gotI; simp only; omega⟩, ⟨by unfold gotI; simp only; omega, by have := h.at_; unfold gotI; simp only; omega⟩, ?_⟩
  unfold gotI
  simp only [str_size, List.length_take]
  have := h.len
  omega
theorem Whole.body {s : List UInt8} (h : Whole s) : (gotI s).body.size = gotK s := by
  unfold gotI
  simp only [str_size, List.length_take, List.length_drop]
  have := h.all
  omega
/-- what is read is what was put -/
theorem Whole.put {s : List UInt8} (h : Whole s) : s.take (14 + gotK s) = recP (gotI s) := by
  have hb := h.body
  have hall := h.all
  have hhead : s.take (10 + gotK s) = headP (gotI s) := by
    unfold headP
    rw [hb]
    match s, h.w with
    | c :: s1, hw =>
      simp at hw
      subst hw
      match s1, hall with
      | k :: s2, hall =>
        have e1 : (gotI (87 :: k :: s2)).kind.toNat = k.toNat := by unfold gotI; simp
        have e2 : (gotI (87 :: k :: s2)).at_.toNat = unbe (s2.take 6) := by unfold gotI; simp
        have e3 : gotK (87 :: k :: s2) = unbe ((s2.drop 6).take 2) := rfl
        have e4 : (gotI (87 :: k :: s2)).body.data.toList = (s2.drop 8).take (gotK (87 :: k :: s2)) := rfl
        simp only [List.length_cons] at hall
        have l6 : (s2.take 6).length = 6 := by rw [List.length_take]; omega
        have l2 : ((s2.drop 6).take 2).length = 2 := by rw [List.length_take, List.length_drop]; omega
        have b6 := be_unbe (s2.take 6)
        have b2 := be_unbe ((s2.drop 6).take 2)
        rw [l6] at b6
        rw [l2] at b2
        rw [e1, e2, b6, e4]
        rw [show beP 2 (gotK (87 :: k :: s2)) = (s2.drop 6).take 2 by rw [e3]; exact b2]
        rw [show 10 + gotK (87 :: k :: s2) = (gotK (87 :: k :: s2) + 8) + 1 + 1 by omega, List.take_succ_cons, List.take_succ_cons]
        have hk : UInt8.ofNat k.toNat = k := by simp
        rw [hk]
        congr 2
        generalize gotK (87 :: k :: s2) = g
        rw [show g + 8 = 6 + (2 + g) by omega, List.take_add, List.take_add, List.drop_drop]
  unfold recP
  rw [← hhead, ← h.sum, show 14 + gotK s = (10 + gotK s) + 4 by omega, List.take_add]
  congr 1
  have l4 : ((s.drop (10 + gotK s)).take 4).length = 4 := by rw [List.length_take, List.length_drop]; omega
  have := be_unbe ((s.drop (10 + gotK s)).take 4)
  rw [l4] at this
  exact this.symm
theorem head_parts {x : Itm} (h : x.ok) (t : List UInt8) : gotK (headP x ++ t) = x.body.size ∧ gotI (headP x ++ t) = x ∧ (headP x ++ t)[0]? = some 87 := by
  obtain ⟨⟨h1, h2⟩, ⟨h3, h4⟩, h5⟩ := h
  have l6 := beP_len 6 x.at_.toNat
  have l2 := beP_len 2 x.body.size
  have e0 : headP x ++ t = 87 :: UInt8.ofNat x.kind.toNat :: (beP 6 x.at_.toNat ++ (beP 2 x.body.size ++ (x.body.data.toList ++ t))) := by unfold headP; simp
  have hk : gotK (headP x ++ t) = x.body.size := by
    rw [e0]
    unfold gotK
    show unbe (((beP 6 x.at_.toNat ++ (beP 2 x.body.size ++ (x.body.data.toList ++ t))).drop 6).take 2) = _
    rw [List.drop_append_of_le_length (by omega), List.drop_of_length_le (by omega), List.nil_append, List.take_append_of_le_length (by omega), List.take_of_length_le (by omega)]
    exact unbe_be 2 _ (by omega)
  refine ⟨hk, ?_, by rw [e0]; rfl⟩
  unfold gotI
  rw [hk, e0]
  have ek : ((UInt8.ofNat x.kind.toNat).toNat : Int) = x.kind := by
    have : x.kind.toNat < 256 := by omega
    rw [UInt8.toNat_ofNat_of_lt' (by show x.kind.toNat < 256; omega)]
    omega
  have ea : unbe ((beP 6 x.at_.toNat ++ (beP 2 x.body.size ++ (x.body.data.toList ++ t))).take 6) = x.at_.toNat := by
    rw [List.take_append_of_le_length (by omega), List.take_of_length_le (by omega)]
    exact unbe_be 6 _ (by omega)
  have eb : (((beP 6 x.at_.toNat ++ (beP 2 x.body.size ++ (x.body.data.toList ++ t))).drop 8).take x.body.size) = x.body.data.toList := by
    rw [List.drop_append, List.drop_of_length_le (by omega), l6, List.nil_append, List.drop_append_of_le_length (by omega), List.drop_of_length_le (by omega), List.nil_append]
    have hl : x.body.data.toList.length = x.body.size := by simp
    rw [List.take_append_of_le_length (by omega), List.take_of_length_le (by omega)]
  show (⟨((UInt8.ofNat x.kind.toNat).toNat : Int), (unbe ((beP 6 x.at_.toNat ++ (beP 2 x.body.size ++ (x.body.data.toList ++ t))).take 6) : Int), str (((beP 6 x.at_.toNat ++ (beP 2 x.body.size ++ (x.body.data.toList ++ t))).drop 8).take x.body.size)⟩ : Itm) = x
  rw [ek, ea, eb]
  have : ((x.at_.toNat : Nat) : Int) = x.at_ := by omega
  rw [this, str_of]
/-- what was put is read, whatever comes behind it -/
theorem rec_whole {x : Itm} (h : x.ok) (t : List UInt8) : Whole (recP x ++ t) ∧ gotI (recP x ++ t) = x ∧ gotK (recP x ++ t) = x.body.size := by
  have e : recP x ++ t = headP x ++ (beP 4 (sumP (headP x)) ++ t) := by unfold recP; rw [List.append_assoc]
  obtain ⟨hk, hi, hw⟩ := head_parts h (beP 4 (sumP (headP x)) ++ t)
  rw [← e] at hk hi hw
  have hl := headP_len x
  have l4 := beP_len 4 (sumP (headP x))
  have hs := sumP_lt (headP x)
  have h' := h
  obtain ⟨⟨h1, h2⟩, ⟨h3, h4⟩, h5⟩ := h'
  refine ⟨⟨hw, ?_, ?_, by rw [hk]; exact h5, by rw [hk, List.length_append, recP_len]; omega, ?_⟩, hi, hk⟩
  · have := congrArg Itm.kind hi
    unfold gotI at this
    simp only at this
    omega
  · have := congrArg Itm.at_ hi
    unfold gotI at this
    simp only at this
    omega
  · rw [hk, e, List.drop_append, List.drop_of_length_le (by omega), List.nil_append, show 10 + x.body.size - (headP x).length = 0 by omega, List.drop_zero, List.take_append_of_le_length (by omega), List.take_of_length_le (by omega), List.take_append_of_le_length (by omega), List.take_of_length_le (by omega)]
    exact unbe_be 4 _ (by omega)
/-- cut off, it is none -/
theorem rec_cut {x : Itm} (h : x.ok) {m : Nat} (hm : m < (recP x).length) : ¬ Whole ((recP x).take m) := fun hw => by
  have hl := recP_len x
  have hlen : ((recP x).take m).length = m := by rw [List.length_take]; omega
  have hall := hw.all
  rw [hlen] at hall
  have hk : gotK ((recP x).take m) = gotK (recP x) := by
    unfold gotK
    have : (((recP x).take m).drop 8).take 2 = ((recP x).drop 8).take 2 := by
      rw [List.drop_take, List.take_take]
      congr 1
      omega
    rw [this]
  have := (rec_whole h []).2.2
  rw [List.append_nil] at this
  rw [hk, this] at hall
  omega

/-! one behind the other -/
def scanF : Nat → List UInt8 → List Itm
  | 0, _ => []
  | f + 1, s => if wholeB s then gotI s :: scanF f (s.drop (14 + gotK s)) else []
def scanI (s : List UInt8) : List Itm := scanF s.length s
theorem scanF_more : ∀ (f : Nat) (s : List UInt8), s.length ≤ f → scanF f s = scanI s := by
  have h : ∀ (n : Nat) (s : List UInt8), s.length ≤ n → ∀ f g, s.length ≤ f → s.length ≤ g → scanF f s = scanF g s := by
    intro n
    induction n with
    | zero =>
      intro s hs f g _ _
      have hn : wholeB s = false := by
        cases hw : wholeB s with
        | false => rfl
        | true => have := (whole_iff.1 hw).all; omega
      cases f <;> cases g <;> simp [scanF, hn]
    | succ n ih =>
      intro s hs f g hf hg
      cases hw : wholeB s with
      | false => cases f <;> cases g <;> simp [scanF, hw]
      | true =>
        have ha := (whole_iff.1 hw).all
        match f, g with
        | 0, _ => omega
        | _ + 1, 0 => omega
        | f + 1, g + 1 =>
          unfold scanF
          rw [if_pos hw, if_pos hw]
          congr 1
          exact ih _ (by rw [List.length_drop]; omega) _ _ (by rw [List.length_drop]; omega) (by rw [List.length_drop]; omega)
  intro f s hs
  exact h s.length s (Nat.le_refl _) f s.length hs (Nat.le_refl _)
theorem scan_no {s : List UInt8} (h : ¬ Whole s) : scanI s = [] := by
  have hn : wholeB s = false := by
    cases hw : wholeB s with
    | false => rfl
    | true => exact absurd (whole_iff.1 hw) h
  unfold scanI
  cases s.length <;> simp [scanF, hn]
theorem scan_more {s : List UInt8} (h : Whole s) : scanI s = gotI s :: scanI (s.drop (14 + gotK s)) := by
  have ha := h.all
  unfold scanI
  obtain ⟨n, hn⟩ : ∃ n, s.length = n + 1 := ⟨s.length - 1, by omega⟩
  rw [hn]
  show (if wholeB s then _ else _) = _
  rw [if_pos (whole_iff.2 h)]
  congr 1
  rw [scanF_more _ _ (by rw [List.length_drop]; omega), scanI]
/-- the bytes of items -/
def flatR (xs : List Itm) : List UInt8 := (xs.map recP).flatten
theorem flatR_cons (x : Itm) (xs : List Itm) : flatR (x :: xs) = recP x ++ flatR xs := rfl
theorem flatR_append (xs ys : List Itm) : flatR (xs ++ ys) = flatR xs ++ flatR ys := by unfold flatR; rw [List.map_append, List.flatten_append]
theorem scan_flat {xs : List Itm} (h : ∀ x ∈ xs, x.ok) (t : List UInt8) : scanI (flatR xs ++ t) = xs ++ scanI t := by
  induction xs with
  | nil => rfl
  | cons x xs ih =>
    have hx := h x List.mem_cons_self
    rw [flatR_cons, List.append_assoc]
    obtain ⟨h1, h2, h3⟩ := rec_whole hx (flatR xs ++ t)
    rw [scan_more h1, h2, h3, List.drop_append, List.drop_of_length_le (by rw [recP_len]; omega), recP_len, List.nil_append, show 14 + x.body.size - (14 + x.body.size) = 0 by omega, List.drop_zero, ih fun y hy => h y (List.mem_cons_of_mem _ hy)]
    rfl
/-- items' bytes cut off anywhere: those that are whole -/
theorem scan_take {xs : List Itm} (h : ∀ x ∈ xs, x.ok) (m : Nat) : ∃ k, k ≤ xs.length ∧ scanI ((flatR xs).take m) = xs.take k ∧ ((flatR xs).length ≤ m → k = xs.length) ∧ (∀ q, q ≤ xs.length → (flatR (xs.take q)).length ≤ m → q ≤ k) := by
  induction xs generalizing m with
  | nil => exact ⟨0, Nat.le_refl _, by rw [show (flatR []).take m = [] by unfold flatR; simp]; exact scan_no fun hw => by have := hw.all; simp at this, fun _ => rfl, fun q hq _ => hq⟩
  | cons x xs ih =>
    have hx := h x List.mem_cons_self
    have hl := recP_len x
    rw [flatR_cons]
    by_cases hm : m < (recP x).length
    · refine ⟨0, Nat.zero_le _, ?_, fun hh => by rw [List.length_append] at hh; omega, fun q hq hqm => ?_⟩
      · rw [List.take_append_of_le_length (by omega), scan_no (rec_cut hx hm)]; rfl
      · match q with
        | 0 => exact Nat.le_refl _
        | q + 1 =>
          rw [List.take_succ_cons, flatR_cons, List.length_append] at hqm
          omega
    · obtain ⟨k, hk1, hk2, hk3, hk4⟩ := ih (fun y hy => h y (List.mem_cons_of_mem _ hy)) (m - (recP x).length)
      refine ⟨k + 1, by simp only [List.length_cons]; omega, ?_, fun hh => ?_, fun q hq hqm => ?_⟩
      · rw [List.take_append, List.take_of_length_le (by omega)]
        have := scan_flat (xs := [x]) (fun y hy => by rw [List.mem_singleton.1 hy]; exact hx) ((flatR xs).take (m - (recP x).length))
        rw [show flatR [x] = recP x by unfold flatR; simp] at this
        rw [this, hk2]; rfl
      · rw [List.length_append] at hh
        have := hk3 (by omega)
        simp only [List.length_cons]; omega
      · match q with
        | 0 => omega
        | q + 1 =>
          rw [List.take_succ_cons, flatR_cons, List.length_append] at hqm
          simp only [List.length_cons] at hq
          have := hk4 q (by omega) (by omega)
          omega
end Go.Proofs.YtdbnalocmjkncaaGreatDoor

/-
  sum: the sum of a text, and a sum as bytes; record: a number as bytes behind others.
-/
namespace Go.Proofs.YtdbnalocmjkncaaGreatDoor
open Go.RowKit

theorem beP_cons : ∀ (k n : Nat), beP (k + 1) n = UInt8.ofNat (n / 256 ^ k % 256) :: beP k n
  | 0, n => by unfold beP; simp [beP]
  | k + 1, n => by
    have ih := beP_cons k (n / 256)
    conv => lhs; unfold beP
    rw [ih]
    conv => rhs; unfold beP
    rw [List.cons_append, Nat.div_div_eq_div_mul, Nat.pow_succ, Nat.mul_comm 256]
set_option maxRecDepth 100000 in
theorem on_any (w : World) (h : Nat) (c : UInt8) (hh : h ≤ 2147483646) : Calls Tryz.prog 234 #[.int .i64 h, .int .u8 c.toNat] w fun e w' => e = .returned (.int .i64 (onP h c : Nat)) ∧ w' = w := by
  have hc : c.toNat ≤ 255 := by have := c.toNat_lt; omega
  have ho : ((onP h c : Nat) : Int) = ((h : Int) * 257 + (c.toNat : Int) + 1) % 2147483647 := by unfold onP; omega
  obtain ⟨x, hx⟩ : ∃ x, x = c.toNat := ⟨_, rfl⟩
  rw [← hx] at hc ho ⊢
  have HO := Lib.hid ho
  clear ho hx
  go_enter Tryz.func234, Tryz.ntmps234
  go_wp2_with fail
  go_ret
  exact ⟨by rw [HO.out]; rfl, rfl⟩
theorem sum_take {s : ByteArray} {i : Nat} (h : i < s.size) : sumP (s.data.toList.take (i + 1)) = onP (sumP (s.data.toList.take i)) (s[i]'h) := by
  rw [List.take_succ_eq_append_getElem (by simpa using h), sumP_snoc]; rfl
set_option maxRecDepth 100000 in
theorem sall_any (w : World) (s : ByteArray) (hs : s.size ≤ 4611686018427387904) : Calls Tryz.prog 191 #[.int .i64 0, .string s] w fun e w' => e = .returned (.int .i64 (sumP s.data.toList : Nat)) ∧ w' = w := by
  go_enter Tryz.func191, Tryz.ntmps191
  go_wp2_with fail
  go_loopw [0, 8] (fun u0 u8 wr => w = wr ∧ ∃ i h : Nat, u8 = .int .i64 i ∧ u0 = .int .i64 h ∧ i ≤ s.size ∧ Hid (h = sumP (s.data.toList.take i))) (fun _ u8 _ => s.size - (intOf u8).toNat)
  case atStart => exact ⟨rfl, 0, 0, rfl, rfl, Nat.zero_le _, Lib.hid rfl⟩
  case round =>
    obtain ⟨rfl, i, h, rfl, rfl, hi, HH⟩ := hrel
    by_cases hlt : i < s.size
    · have hst := sum_take hlt
      rw [← HH.out] at hst
      have hb : h ≤ 2147483646 := by rw [HH.out]; have := sumP_lt (s.data.toList.take i); omega
      have HON := Lib.hid (on_any w h (s[i]'hlt) hb)
      obtain ⟨o, ho⟩ : ∃ o, o = onP h (s[i]'hlt) := ⟨_, rfl⟩
      rw [← ho] at hst HON
      have HST := Lib.hid hst
      clear hst ho
      go_wp2_with fail
      refine HON.out.mono ?_
      rintro e w2 ⟨rfl, hw⟩
      obtain rfl : w = w2 := hw.symm
      go_wp2_with fail
      go_roundw
      case rel => exact ⟨trivial, i + 1, o, by go_num, rfl, by omega, Lib.hid HST.out.symm⟩
      case measure => simp [intOf]; omega
    · have hh : h = sumP s.data.toList := by rw [HH.out, List.take_of_length_le (by simp; omega)]
      have HX := Lib.hid hh
      clear hh
      go_wp2_with fail
      go_ret
      exact ⟨by rw [← HX.out]; rfl, rfl⟩
theorem sof_any (w : World) (s : ByteArray) (hs : s.size ≤ 4611686018427387904) : Calls Tryz.prog 146 #[.string s] w fun e w' => e = .returned (.int .i64 (sumP s.data.toList : Nat)) ∧ w' = w := by
  have H := Lib.hid (sall_any w s hs)
  go_enter Tryz.func146, Tryz.ntmps146
  go_wp2_with fail
  refine H.out.mono ?_
  rintro e w2 ⟨rfl, hw⟩
  obtain rfl : w = w2 := hw.symm
  go_wp2_with fail
  go_ret
  exact ⟨rfl, rfl⟩
set_option maxRecDepth 100000 in
theorem sin_any (w : World) (n : Nat) (h : n ≤ 2147483646) : Calls Tryz.prog 190 #[.int .i64 n] w fun e w' => e = .returned (.bool true) ∧ w' = w := by
  have t1 : decide ((n : Int) < 2147483647) = true := by rw [decide_eq_true_iff]; omega
  go_enter Tryz.func190, Tryz.ntmps190
  go_wp2_with fail
  go_ret
  exact ⟨rfl, rfl⟩
set_option maxRecDepth 100000 in
theorem isTick_any (w : World) (n : Int) (b : Bool) (hb : b = (decide (0 ≤ n) && decide (n ≤ 1099511627776))) : Calls Tryz.prog 189 #[.int .i64 n] w fun e w' => e = .returned (.bool b) ∧ w' = w := by
  by_cases h1 : 0 ≤ n
  · by_cases h2 : n ≤ 1099511627776
    · rw [decide_eq_true h1, decide_eq_true h2] at hb
      have HB := Lib.hid hb
      clear hb
      go_enter Tryz.func189, Tryz.ntmps189
      go_wp2_with fail
      go_ret
      exact ⟨by rw [HB.out]; rfl, rfl⟩
    · rw [decide_eq_false h2, Bool.and_false] at hb
      have HB := Lib.hid hb
      clear hb
      go_enter Tryz.func189, Tryz.ntmps189
      go_wp2_with fail
      go_ret
      exact ⟨by rw [HB.out]; rfl, rfl⟩
  · rw [decide_eq_false h1, Bool.false_and] at hb
    have HB := Lib.hid hb
    clear hb
    go_enter Tryz.func189, Tryz.ntmps189
    go_wp2_with fail
    go_ret
    exact ⟨by rw [HB.out]; rfl, rfl⟩
theorem byte_shr (n j : Nat) : (((UInt8.ofNat (n / 256 ^ j % 256)).toNat : Nat) : Int) = (n : Int) / 2 ^ (8 * j) % 256 := by
  rw [byte_mod, show (256 : Nat) ^ j = 2 ^ (8 * j) by rw [Nat.pow_mul]]
  have : ((2 : Int) ^ (8 * j)) = ((2 ^ (8 * j) : Nat) : Int) := by rw [Int.natCast_pow]; rfl
  rw [this]
  omega
set_option maxRecDepth 100000 in
set_option maxHeartbeats 1000000 in
theorem number_any (w : World) (v : Value) (l : List UInt8) (n wide : Nat) (hv : OwnQ w 5 v (u8Vs l)) (hw8 : wide ≤ 6) (hl : l.length ≤ 1048576) :
    Calls Tryz.prog 144 #[v, .int .i64 n, .int .i64 wide] w fun e w' => ∃ v', e = .returned v' ∧ OwnQ w' 5 v' (u8Vs (l ++ beP wide n)) ∧ (rowB v' = rowB v ∨ ∃ r, rowB v' = some r ∧ w.heap.size ≤ r) ∧ Keeps (fun i => rowB v = some i) w w' := by
  have HV := Lib.hid hv
  clear hv
  go_enter Tryz.func144, Tryz.ntmps144
  go_wp2_with fail
  go_loopw [0, 7] (fun u0 u7 wr => ∃ (j : Nat) (l2 : List UInt8), u7 = .int .i64 ((j : Int) - 1) ∧ j ≤ wide ∧ Hid (l2 ++ beP j n = l ++ beP wide n ∧ OwnQ wr 5 u0 (u8Vs l2) ∧ (rowB u0 = rowB v ∨ ∃ r, rowB u0 = some r ∧ w.heap.size ≤ r) ∧ Keeps (fun i => rowB v = some i) w wr)) (fun _ u7 _ => (intOf u7 + 1).toNat)
  case atStart => exact ⟨wide, l, by first | rfl | go_num, Nat.le_refl _, Lib.hid ⟨rfl, HV.out, .inl rfl, Keeps.refl _ _⟩⟩
  case round =>
    obtain ⟨j, l2, rfl, hj, HI⟩ := hrel
    rename World => wr
    rcases j with _ | j
    · have hh := HI.out.1
      rw [show beP 0 n = [] from rfl, List.append_nil] at hh
      have HH := Lib.hid hh
      have HO := Lib.hid HI.out.2.1
      have HR := Lib.hid HI.out.2.2.1
      have HK := Lib.hid HI.out.2.2.2
      obtain ⟨a0, c0, hv0⟩ := HO.out.sl
      clear hh HI
      go_wp2_with fail
      go_ret
      exact ⟨u0, rfl, by rw [← HH.out]; exact HO.out, HR.out, HK.out⟩
    · have hbc := beP_cons j n
      have hcv := byte_shr n j
      obtain ⟨cb, hcb⟩ : ∃ cb, cb = UInt8.ofNat (n / 256 ^ j % 256) := ⟨_, rfl⟩
      rw [← hcb] at hbc hcv
      have HBC := Lib.hid hbc
      have HCV := Lib.hid hcv
      have HH := Lib.hid HI.out.1
      have HO := Lib.hid HI.out.2.1
      have HR := Lib.hid HI.out.2.2.1
      have HK := Lib.hid HI.out.2.2.2
      obtain ⟨a0, c0, hv0⟩ := HO.out.sl
      have hlen : l2.length ≤ 2097152 := by
        have h1 := congrArg List.length HI.out.1
        rw [List.length_append, List.length_append, beP_len, beP_len] at h1
        omega
      obtain ⟨m2, hm2⟩ : ∃ m2, m2 = (u8Vs l2).length := ⟨_, rfl⟩
      rw [← hm2] at hv0
      subst hv0
      have hul : (u8Vs l2).length ≤ 17179869184 := by rw [u8Vs_len]; omega
      have HUL := Lib.hid hul
      have hwz := HK.out.size
      clear hbc hcv hcb HI hm2 hul
      go_wp2_with (with_reducible show wpList _ _ _ (⟨some 21, _, _, _, _, _⟩ :: _) _ _; go_must (refine wpList_append_q rfl (.tmp 14) (.tmp 20) 82 rfl 5 (.int .u8 0) 1 Tryz.underlying82 (by kernel_rfl) rfl (by omega) (.slice a0 m2 c0) (u8Vs l2) rfl (OwnQ.keeps (S := fun _ => False) HO.out ((Keeps.refl _ _).alloc _) (fun _ _ _ => id)) ⟨wr.heap.size, 0, none⟩ 1 (.int .u8 ((n : Int) / 2 ^ (8 * j) % 256)) rfl (by go_simp) rfl HUL.out ?_; intro v7 w7 O7 k7 hr7; have HO7 := Lib.hid O7; have HK7 := Lib.hid k7; have HR7 := Lib.hid hr7; clear O7 k7 hr7))
      go_roundw
      case rel =>
        have hk : Keeps (fun i => rowB v = some i) w w7 := (HK.out.alloc _).and_ HK7.out (fun i hi e => by
          rcases HR.out with h1 | ⟨r, h1, h2⟩
          · rw [← h1]; exact e
          · rw [h1] at e; injection e with e; omega)
        refine ⟨j, l2 ++ [cb], by go_num, by omega, Lib.hid ⟨by rw [List.append_assoc, List.singleton_append, ← HBC.out]; exact HH.out, ?_, ?_, hk⟩⟩
        · have := HO7.out
          rw [← HCV.out] at this
          rw [u8Vs_app]
          exact this
        · rcases HR7.out with h1 | h1
          · rw [h1]; exact HR.out
          · exact .inr ⟨_, h1, by simp; omega⟩
      case measure => simp [intOf]
end Go.Proofs.YtdbnalocmjkncaaGreatDoor

/-
  sum: a sum as bytes; record: which items may be, and an item as bytes.
-/
namespace Go.Proofs.YtdbnalocmjkncaaGreatDoor
open Go.RowKit

theorem bv_fill (L : List UInt8) (i : Nat) (c : UInt8) (x : Int) (hx : (c.toNat : Int) = x) : (bv L).setIfInBounds i (.int .u8 x) = bv (L.set i c) := by
  subst hx
  unfold bv
  simp [List.map_set]
theorem high_byte {n x : Nat} (hn : n ≤ 2147483646) (h : (x : Int) = (n : Int) / 2 ^ (8 * 3) % 256) : (x : Int) = (n : Int) / 16777216 := by
  have e : ((2 : Int) ^ (8 * 3)) = 16777216 := by decide
  rw [e] at h
  omega
/-- a row of four bytes, of which the last i are those of n -/
def rowP (i n : Nat) : List UInt8 := List.replicate (4 - i) 0 ++ beP i n
theorem rowP_step (i n : Nat) (hi : i < 4) : rowP (i + 1) n = (rowP i n).set (3 - i) (UInt8.ofNat (n / 256 ^ i % 256)) := by
  unfold rowP
  rw [beP_cons]
  have e : 4 - i = (3 - i) + 1 := by omega
  rw [show 4 - (i + 1) = 3 - i by omega, e, List.replicate_succ', List.append_assoc, List.set_append_right _ _ (by simp)]
  simp
set_option maxRecDepth 100000 in
set_option maxHeartbeats 1000000 in
theorem sput_any (w : World) (n : Nat) (hn : n ≤ 2147483646) : Calls Tryz.prog 145 #[.int .i64 n] w fun e w' => e = .returned (.string (str (beP 4 n))) ∧ Keeps (fun _ => False) w w' := by
  have HI := Lib.hid (sin_any w n hn)
  go_enter Tryz.func145, Tryz.ntmps145
  go_wp2_with fail
  refine HI.out.mono ?_
  rintro e w1 ⟨rfl, hw⟩
  obtain rfl : w = w1 := hw.symm
  go_wp2_with (with_reducible show wpList _ _ _ (⟨some 8, _, _, _, _, _⟩ :: _) _ _; go_must (refine wpList_make_bytes _ rfl _ _ _ rfl 5 Tryz.underlying82 (by kernel_rfl) 4 4 rfl rfl (by omega) (by omega) ?_; intro w2 hm; have HM := Lib.hid hm; clear hm))
  have hb0 : Blk w2 w.heap.size 5 (bv (rowP 0 n)) := HM.out.blk
  have hk0 := HM.out.keeps (Keeps.refl (fun _ => False) w)
  obtain ⟨g, hg⟩ : ∃ g, g = w.heap.size := ⟨_, rfl⟩
  rw [← hg] at hb0 ⊢
  have HB0 := Lib.hid hb0
  have HK0 := Lib.hid hk0
  have HG := Lib.hid hg
  clear hb0 hk0 hg HM
  go_loopw [9] (fun u9 wr => ∃ i : Nat, u9 = .int .i64 i ∧ i ≤ 4 ∧ Hid (Blk wr g 5 (bv (rowP i n)) ∧ Keeps (fun _ => False) w wr)) (fun u9 _ => 4 - (intOf u9).toNat)
  case atStart => exact ⟨0, rfl, by omega, Lib.hid ⟨HB0.out, HK0.out⟩⟩
  case round =>
    obtain ⟨i, rfl, hi, HH⟩ := hrel
    rename World => wr
    by_cases h4 : i < 4
    · have hst := rowP_step i n h4
      have hcv := byte_shr n i
      obtain ⟨c, hc⟩ : ∃ c, c = UInt8.ofNat (n / 256 ^ i % 256) := ⟨_, rfl⟩
      rw [← hc] at hst hcv
      have HST := Lib.hid hst
      have HCV := Lib.hid hcv
      have hlen : (rowP i n).length = 4 := by unfold rowP; rw [List.length_append, List.length_replicate, beP_len]; omega
      have hcell : ∀ k, k < 4 → ∃ u, wr.cell? ⟨g, k, none⟩ = some u ∧ wr.frozen? ⟨g, k, none⟩ = false := fun k hk => by
        have := HH.out.1.cell k
        rw [bv_get _ _ (by rw [hlen]; exact hk)] at this
        exact ⟨_, this, HH.out.1.frozen k⟩
      have HCE := Lib.hid hcell
      clear hst hcv hc hlen hcell
      rcases (show i = 0 ∨ i = 1 ∨ i = 2 ∨ i = 3 by omega) with rfl | rfl | rfl | rfl
      · obtain ⟨u, hu, hf⟩ := HCE.out 3 (by omega)
        go_wp2_with fail
        exact ⟨⟨1, rfl, by omega, Lib.hid ⟨by rw [HST.out, ← bv_fill _ _ _ _ (show (c.toNat : Int) = _ from by have := HCV.out; simpa using this)]; exact HH.out.1.set_ 3 _, HH.out.2.setCell (fun h => by rw [HG.out] at h; exact absurd h (Nat.lt_irrefl _)) _⟩⟩, by simp [intOf]⟩
      · obtain ⟨u, hu, hf⟩ := HCE.out 2 (by omega)
        go_wp2_with fail
        exact ⟨⟨2, rfl, by omega, Lib.hid ⟨by rw [HST.out, ← bv_fill _ _ _ _ (show (c.toNat : Int) = _ from by have := HCV.out; simpa using this)]; exact HH.out.1.set_ 2 _, HH.out.2.setCell (fun h => by rw [HG.out] at h; exact absurd h (Nat.lt_irrefl _)) _⟩⟩, by simp [intOf]⟩
      · obtain ⟨u, hu, hf⟩ := HCE.out 1 (by omega)
        go_wp2_with fail
        exact ⟨⟨3, rfl, by omega, Lib.hid ⟨by rw [HST.out, ← bv_fill _ _ _ _ (show (c.toNat : Int) = _ from by have := HCV.out; simpa using this)]; exact HH.out.1.set_ 1 _, HH.out.2.setCell (fun h => by rw [HG.out] at h; exact absurd h (Nat.lt_irrefl _)) _⟩⟩, by simp [intOf]⟩
      · obtain ⟨u, hu, hf⟩ := HCE.out 0 (by omega)
        go_wp2_with fail
        exact ⟨⟨4, rfl, by omega, Lib.hid ⟨by rw [HST.out, ← bv_fill _ _ _ _ (show (c.toNat : Int) = (n : Int) / 16777216 from high_byte hn HCV.out)]; exact HH.out.1.set_ 0 _, HH.out.2.setCell (fun h => by rw [HG.out] at h; exact absurd h (Nat.lt_irrefl _)) _⟩⟩, by simp [intOf]⟩
    · obtain rfl : i = 4 := by omega
      have hs : rowP 4 n = beP 4 n := rfl
      have hbb := HH.out.1
      rw [hs] at hbb
      have HBB := Lib.hid hbb
      have HK := Lib.hid HH.out.2
      have hlt := hbb.lt
      clear hs hbb HH
      go_wp2_with (with_reducible show wpList _ _ _ (⟨some 23, _, _, _, _, _⟩ :: _) _ _; go_must (refine wpList_string_bytes _ rfl _ _ _ rfl 5 Tryz.underlying82 Tryz.underlying5 Tryz.underlying9 g 0 4 4 rfl (beP 4 n) (beP_len _ _) (fun j v hj => by have := HBB.out.cell j; rw [bv_get _ _ (List.getElem?_eq_some_iff.1 hj).1] at this; rw [(List.getElem?_eq_some_iff.1 hj).2] at this; simpa using this) ?_))
      go_ret
      exact ⟨rfl, HK.out⟩
end Go.Proofs.YtdbnalocmjkncaaGreatDoor

/-
  record: which items may be, and an item as bytes.
-/
namespace Go.Proofs.YtdbnalocmjkncaaGreatDoor
open Go.RowKit

def itmV (x : Itm) : Value := .agg #[.int .i64 x.kind, .int .i64 x.at_, .string x.body]
set_option maxRecDepth 100000 in
theorem rcheck_any (w : World) (x : Itm) : Calls Tryz.prog 143 #[itmV x] w fun e w' => e = .returned (.int .i64 (checkI 1 2 5 x)) ∧ Keeps (fun _ => False) w w' := by
  obtain ⟨kind, at_, body⟩ := x
  unfold itmV checkI
  simp only
  have HK := Lib.hid (fun (o : Obj) => (Keeps.refl (fun _ => False) w).alloc o)
  obtain ⟨r, hr⟩ : ∃ r : Int, r = (if kind < 1 ∨ 15 < kind then 1 else if at_ < 0 ∨ 1099511627776 < at_ then 2 else if 4096 < body.size then 5 else 0 : Int) := ⟨_, rfl⟩
  rw [← hr]
  by_cases h1 : kind < 1
  · rw [if_pos (.inl h1)] at hr
    have HR := Lib.hid hr
    clear hr
    go_enter Tryz.func143, Tryz.ntmps143
    go_wp2_with fail
    go_ret
    exact ⟨by rw [HR.out]; rfl, HK.out _⟩
  by_cases h2 : 15 < kind
  · rw [if_pos (.inr h2)] at hr
    have HR := Lib.hid hr
    clear hr
    go_enter Tryz.func143, Tryz.ntmps143
    go_wp2_with fail
    go_ret
    exact ⟨by rw [HR.out]; rfl, HK.out _⟩
  rw [if_neg (by omega)] at hr
  by_cases h3 : at_ < 0 ∨ 1099511627776 < at_
  · rw [if_pos h3] at hr
    have HR := Lib.hid hr
    have HT := Lib.hid (fun W => isTick_any W at_ false (by
      symm
      rcases h3 with h | h
      · rw [decide_eq_false (by omega), Bool.false_and]
      · rw [decide_eq_false (by omega : ¬ at_ ≤ 1099511627776), Bool.and_false]))
    clear hr h3
    go_enter Tryz.func143, Tryz.ntmps143
    go_wp2_with fail
    refine (HT.out _).mono ?_
    rintro e w2 ⟨rfl, hw⟩
    have hk : Keeps (fun _ => False) w w2 := by rw [hw]; exact HK.out _
    have HK2 := Lib.hid hk
    clear hw hk
    go_wp2_with fail
    go_ret
    exact ⟨by rw [HR.out]; rfl, HK2.out⟩
  rw [if_neg h3] at hr
  have HT := Lib.hid (fun W => isTick_any W at_ true (by
    symm
    rw [decide_eq_true (by omega), decide_eq_true (by omega)]; rfl))
  have HB := Lib.hid (Blk.new w 43 #[.int .i64 kind, .int .i64 at_, .string body])
  clear h3
  by_cases h4 : 4096 < body.size
  · rw [if_pos h4] at hr
    have HR := Lib.hid hr
    clear hr
    go_enter Tryz.func143, Tryz.ntmps143
    go_wp2_with fail
    refine (HT.out _).mono ?_
    rintro e w2 ⟨rfl, hw⟩
    have hk : Keeps (fun _ => False) w w2 := by rw [hw]; exact HK.out _
    have hb : Blk w2 w.heap.size 43 #[.int .i64 kind, .int .i64 at_, .string body] := by rw [hw]; exact HB.out
    obtain ⟨c0, c1, c2⟩ := hb.cells3
    have HK2 := Lib.hid hk
    clear hw hk hb
    go_wp2_with fail
    go_ret
    exact ⟨by rw [HR.out]; rfl, HK2.out⟩
  · rw [if_neg h4] at hr
    have HR := Lib.hid hr
    clear hr
    go_enter Tryz.func143, Tryz.ntmps143
    go_wp2_with fail
    refine (HT.out _).mono ?_
    rintro e w2 ⟨rfl, hw⟩
    have hk : Keeps (fun _ => False) w w2 := by rw [hw]; exact HK.out _
    have hb : Blk w2 w.heap.size 43 #[.int .i64 kind, .int .i64 at_, .string body] := by rw [hw]; exact HB.out
    obtain ⟨c0, c1, c2⟩ := hb.cells3
    have HK2 := Lib.hid hk
    clear hw hk hb
    go_wp2_with fail
    go_ret
    exact ⟨by rw [HR.out]; rfl, HK2.out⟩
theorem check_ok {e1 e2 e3 : Int} {x : Itm} (h : x.ok) : checkI e1 e2 e3 x = 0 := by
  obtain ⟨⟨a, b⟩, ⟨c, d⟩, e⟩ := h
  unfold checkI
  rw [if_neg (by omega), if_neg (by omega), if_neg (by omega)]
theorem check_no {e1 e2 e3 : Int} (h1 : e1 ≠ 0) (h2 : e2 ≠ 0) (h3 : e3 ≠ 0) {x : Itm} (h : ¬ x.ok) : checkI e1 e2 e3 x ≠ 0 := by
  unfold checkI
  split
  · exact h1
  · split
    · exact h2
    · split
      · exact h3
      · exfalso
        exact h ⟨by omega, by omega, by omega⟩

theorem ownq_cap {w : World} {e : TypeId} {a : Option Addr} {n c : Nat} {vs : List Value} (h : OwnQ w e (.slice a n c) vs) : n ≤ c ∧ n = vs.length := by
  rcases h with ⟨h1, b, hv⟩ | ⟨g, off, cap, cur, hv, _, h1, _⟩
  · injection hv with e1 e2 e3
    subst h1
    exact ⟨by omega, by simpa using e2⟩
  · injection hv with e1 e2 e3
    exact ⟨by omega, e2⟩
set_option maxRecDepth 100000 in
theorem rput_no (w : World) (x : Itm) (h : ¬ x.ok) : Calls Tryz.prog 90 #[itmV x] w fun e w' => (∃ c, c ≠ 0 ∧ e = .returned (.tuple #[.string ⟨#[]⟩, .int .i64 c])) ∧ Keeps (fun _ => False) w w' := by
  have hc := check_no (e1 := 1) (e2 := 2) (e3 := 5) (by omega) (by omega) (by omega) h
  have HC := Lib.hid (fun W => rcheck_any W x)
  obtain ⟨c, hcc⟩ : ∃ c, c = checkI 1 2 5 x := ⟨_, rfl⟩
  rw [← hcc] at hc HC
  unfold itmV at *
  have hb : (c != 0) = true := by rw [bne_iff_ne]; exact hc
  have HCC := Lib.hid hc
  clear hcc h hc
  go_enter Tryz.func90, Tryz.ntmps90
  go_wp2_with fail
  refine (HC.out _).mono ?_
  rintro e w2 ⟨rfl, k2⟩
  have HK := Lib.hid (Keeps.trans (a := w) (S := fun _ => False) (by (repeat (first | (with_reducible assumption) | (with_reducible exact Keeps.refl _ _) | refine Keeps.drew ?_ | refine Keeps.drewN ?_ _ | refine Keeps.setCell ?_ (by simp) _ | refine Keeps.setRow ?_ (by simp) _ | refine Keeps.alloc ?_ _))) k2)
  clear k2
  go_wp2_with fail
  go_ret2
  exact ⟨⟨c, HCC.out, rfl⟩, HK.out⟩
theorem cut_str {w : World} {a : Option Addr} {m k0 t0 : Nat} {body : ByteArray} (h : OwnQ w 5 (.slice a m m) (u8Vs ([87, UInt8.ofNat k0] ++ beP 6 t0 ++ beP 2 body.size) ++ u8Vs body.data.toList)) :
    (convert 82 9 (.slice a m m)).run Tryz.prog w = .ok (.string (str (headP ⟨(k0 : Nat), (t0 : Nat), body⟩))) w := by
  rw [← u8Vs_app] at h
  have e : headP ⟨(k0 : Nat), (t0 : Nat), body⟩ = [87, UInt8.ofNat k0] ++ beP 6 t0 ++ beP 2 body.size ++ body.data.toList := by
    unfold headP
    simp
  rw [e]
  exact run_string_q w _ _ 5 _ _ Tryz.underlying82 Tryz.underlying5 Tryz.underlying9 h
set_option maxRecDepth 100000 in
set_option maxHeartbeats 1000000 in
theorem rput_ok (w : World) (x : Itm) (h : x.ok) : Calls Tryz.prog 90 #[itmV x] w fun e w' => e = .returned (.tuple #[.string (str (recP x)), .int .i64 0]) ∧ Keeps (fun _ => False) w w' := by
  have hc0 := check_ok (e1 := 1) (e2 := 2) (e3 := 5) h
  have HC := Lib.hid (fun W => rcheck_any W x)
  rw [hc0] at HC
  obtain ⟨⟨a, b⟩, ⟨c, d⟩, e⟩ := h
  have hx := Lib.hid (show headP x = headP x from rfl)
  obtain ⟨kind, at_, body⟩ := x
  simp only at a b c d e
  unfold itmV at *
  obtain ⟨k0, rfl⟩ := Int.eq_ofNat_of_zero_le (show 0 ≤ kind by omega)
  obtain ⟨t0, rfl⟩ := Int.eq_ofNat_of_zero_le c
  have HB := Lib.hid (Blk.new w 43 #[.int .i64 (k0 : Nat), .int .i64 (t0 : Nat), .string body])
  clear hc0 hx
  simp only at HC ⊢
  go_enter Tryz.func90, Tryz.ntmps90
  go_wp2_with fail
  refine (HC.out _).mono ?_
  rintro e w2 ⟨rfl, k2⟩
  have hb := HB.out.keeps k2 id
  have HB2 := Lib.hid hb
  have HK2 := Lib.hid (Keeps.trans (a := w) (S := fun _ => False) (by (repeat (first | (with_reducible assumption) | (with_reducible exact Keeps.refl _ _) | refine Keeps.drew ?_ | refine Keeps.drewN ?_ _ | refine Keeps.setCell ?_ (by simp) _ | refine Keeps.setRow ?_ (by simp) _ | refine Keeps.alloc ?_ _))) k2)
  obtain ⟨c0, c1, c2⟩ := hb.cells3
  clear k2 hb
  have ho3 := (HB2.out.alloc (.cells #[.int .u8 87, .int .u8 (k0 : Nat)] 5))
  obtain ⟨d0, d1, d2⟩ := ho3.cells3
  have hkb : (((UInt8.ofNat k0).toNat : Nat) : Int) = (k0 : Int) := by rw [UInt8.toNat_ofNat_of_lt' (by show k0 < 256; omega)]
  have hq3 : OwnQ (w2.alloc (.cells #[.int .u8 87, .int .u8 (k0 : Nat)] 5)) 5 (.slice (some ⟨w2.heap.size, 0, none⟩) 2 2) (u8Vs [87, UInt8.ofNat k0]) := by
    refine .inr ⟨w2.heap.size, 0, 2, _, rfl, Blk.new _ _ _, by simp [u8Vs], by simp, by unfold maxLen; omega, fun j u hj => ?_⟩
    unfold u8Vs at hj
    simp only [List.map_cons, List.map_nil, hkb] at hj
    rw [Nat.zero_add]
    simpa using hj
  have HQ3 := Lib.hid hq3
  have HO3 := Lib.hid ho3
  have hlt2 := HB2.out.lt
  clear hkb hq3 ho3
  go_wp2_with fail
  refine (number_any _ (.slice (some ⟨w2.heap.size, 0, none⟩) 2 2) [87, UInt8.ofNat k0] t0 6 HQ3.out (by omega) (by simp)).mono ?_
  rintro e w4 ⟨v4, rfl, hq4, hr4, k4⟩
  have hb4 : Blk w4 w.heap.size 43 #[.int .i64 (k0 : Nat), .int .i64 (t0 : Nat), .string body] := HO3.out.keeps k4 (fun e => by simp [rowB] at e; omega)
  have HQ4 := Lib.hid hq4
  have HB4 := Lib.hid hb4
  have hr4' : ∃ r, rowB v4 = some r ∧ w2.heap.size ≤ r := by
    rcases hr4 with h | ⟨r, h1, h2⟩
    · exact ⟨w2.heap.size, h.trans rfl, Nat.le_refl _⟩
    · exact ⟨r, h1, by simp at h2; omega⟩
  have HR4 := Lib.hid hr4'
  have HK4 := Lib.hid ((HK2.out.alloc (.cells #[.int .u8 87, .int .u8 (k0 : Nat)] 5)).and_ k4 (fun i hi e => by have := HK2.out.size; simp [rowB] at e; omega))
  clear c0 c1 c2 d0 d1 d2 hq4 hr4 hr4' k4
  obtain ⟨c0, c1, c2⟩ := hb4.cells3
  clear hb4
  go_wp2_with fail
  refine (number_any _ v4 ([87, UInt8.ofNat k0] ++ beP 6 t0) body.size 2 HQ4.out (by omega) (by rw [List.length_append, beP_len]; simp)).mono ?_
  rintro e w5 ⟨v5, rfl, hq5, hr5, k5⟩
  obtain ⟨r4, hr41, hr42⟩ := HR4.out
  have hb5 : Blk w5 w.heap.size 43 #[.int .i64 (k0 : Nat), .int .i64 (t0 : Nat), .string body] := HB4.out.keeps k5 (fun e => by rw [hr41] at e; injection e with e; omega)
  have HQ5 := Lib.hid hq5
  have hw4 := HK4.out.size
  have hr5' : ∃ r, rowB v5 = some r ∧ w.heap.size ≤ r := by
    rcases hr5 with h | ⟨r, h1, h2⟩
    · exact ⟨r4, h.trans hr41, by omega⟩
    · exact ⟨r, h1, by omega⟩
  have HR5 := Lib.hid hr5'
  have HK5 := Lib.hid (HK4.out.and_ k5 (fun i hi e => by rw [hr41] at e; injection e with e; omega))
  clear c0 c1 c2 hq5 hr5 hr5' k5 hr41 hr42
  obtain ⟨c0, c1, c2⟩ := hb5.cells3
  obtain ⟨a5, q5, hv5⟩ := HQ5.out.sl
  have hl5 : (u8Vs ([87, UInt8.ofNat k0] ++ beP 6 t0 ++ beP 2 body.size)).length = 10 := by rw [u8Vs_len, List.length_append, List.length_append, beP_len, beP_len]; rfl
  rw [hl5] at hv5
  subst hv5
  have HL5 := Lib.hid hl5
  clear hb5 hl5
  go_wp2_with ((with_reducible show wpList _ _ _ (⟨some 28, _, _, _, _, _⟩ :: _) _ _); go_must (refine wpList_append_qs rfl (.tmp 25) (.tmp 27) 82 9 rfl 5 Tryz.underlying82 Tryz.underlying9 (by kernel_rfl) (.slice a5 10 q5) (u8Vs ([87, UInt8.ofNat k0] ++ beP 6 t0 ++ beP 2 body.size)) rfl HQ5.out body rfl (by rw [HL5.out]; omega) ?_; intro v6 w6 ha; obtain ⟨hq6, hk6, hr6⟩ := ha; obtain ⟨a6, m6, q6, hv6⟩ := hq6.sl3; subst hv6; obtain ⟨hcap, hm6⟩ := ownq_cap hq6; have hcut := (hq6.cut (n := m6) (Nat.le_of_eq hm6)).1; rw [hm6, List.take_length, ← hm6] at hcut; have HCUT := Lib.hid hcut; have HM6 := Lib.hid hm6; have HK6 := Lib.hid hk6; clear hq6 hk6 hr6 hm6 hcut; have hcv := cut_str HCUT.out; obtain ⟨sx, hsx⟩ : ∃ sx, sx = str (headP ⟨(k0 : Nat), (t0 : Nat), body⟩) := ⟨_, rfl⟩; rw [← hsx] at hcv; have HSX := Lib.hid hsx; have hsz : sx.size = 10 + body.size := (by rw [hsx, str_size, headP_len]); have hsl : sx.size ≤ 4106 := (by omega); have HSZ := Lib.hid hsz; clear hsx hsz))
  refine (sof_any _ sx (by omega)).mono ?_
  have hsm := sumP_lt sx.data.toList
  obtain ⟨sm, hsm2⟩ : ∃ sm, sm = sumP sx.data.toList := ⟨_, rfl⟩
  rw [← hsm2] at hsm ⊢
  rintro e w7 ⟨rfl, hw⟩
  obtain rfl : w6 = w7 := hw.symm
  have hs4 : (str (beP 4 sm)).size = 4 := by rw [str_size, beP_len]
  have HSP := Lib.hid (sput_any w6 sm (by omega))
  have HSM := Lib.hid hsm2
  obtain ⟨s4, hs4e⟩ : ∃ s4, s4 = str (beP 4 sm) := ⟨_, rfl⟩
  rw [← hs4e] at hs4 HSP
  have hs4l : s4.size ≤ 4 := by omega
  have HS4 := Lib.hid hs4e
  clear hs4 hs4e hsm hsm2
  go_wp2_with fail
  refine HSP.out.mono ?_
  rintro e w8 ⟨rfl, k8⟩
  have HK8 := Lib.hid k8
  clear k8
  go_wp2_with fail
  go_ret2
  obtain ⟨r5, hr51, hr52⟩ := HR5.out
  refine ⟨?_, (HK5.out.and_ HK6.out (fun i hi e => by rw [hr51] at e; injection e with e; omega)).trans HK8.out⟩
  rw [HS4.out, HSM.out, HSX.out]
  rfl
end Go.Proofs.YtdbnalocmjkncaaGreatDoor

/-
  The document's sums and numbers (wheelhouseref07, wheelhouseref08).
-/
namespace Go.Proofs.YtdbnalocmjkncaaGreatDoor
open Go.RowKit

theorem unbe_take {s : ByteArray} {i : Nat} (h : i < s.size) : unbe (s.data.toList.take (i + 1)) = unbe (s.data.toList.take i) * 256 + (s[i]'h).toNat := by
  rw [List.take_succ_eq_append_getElem (by simpa using h), unbe_snoc]; rfl
end Go.Proofs.YtdbnalocmjkncaaGreatDoor

/-
  The document's sum as bytes, and which items may be (wheelhouseref07, wheelhouseref08).
-/
namespace Go.Proofs.YtdbnalocmjkncaaGreatDoor
open Go.RowKit

theorem be4_cells {n : Nat} (hn : n ≤ 2147483646) : ∀ (j : Nat) (v : UInt8), (beP 4 n)[j]? = some v → (#[Value.int .u8 ((n : Int) / 16777216), .int .u8 ((n : Int) / 65536 % 256), .int .u8 ((n : Int) / 256 % 256), .int .u8 ((n : Int) % 256)])[j]? = some (.int .u8 (v.toNat : Int)) := by
  have e : beP 4 n = [UInt8.ofNat (n / 16777216 % 256), UInt8.ofNat (n / 65536 % 256), UInt8.ofNat (n / 256 % 256), UInt8.ofNat (n % 256)] := by
    rw [beP_cons, beP_cons, beP_cons, beP_cons]
    simp [beP]
  intro j v hj
  rw [e] at hj
  match j, hj with
  | 0, hj => simp at hj; subst hj; simp; omega
  | 1, hj => simp at hj; subst hj; simp
  | 2, hj => simp at hj; subst hj; simp
  | 3, hj => simp at hj; subst hj; simp
  | j + 4, hj => simp at hj
end Go.Proofs.YtdbnalocmjkncaaGreatDoor

/-
  The document's record of an item (wheelhouseref08.Put).
-/
namespace Go.Proofs.YtdbnalocmjkncaaGreatDoor
open Go.RowKit

theorem str_cat2 (a b : List UInt8) : str a ++ str b = str (a ++ b) := by apply ba_ext; simp [str]
theorem div_pow (n i : Nat) : ((n / 256 ^ i : Nat) : Int) / 256 = ((n / 256 ^ (i + 1) : Nat) : Int) := by rw [Nat.pow_succ, ← Nat.div_div_eq_div_mul]; omega
theorem cell_one {w : World} {x : Int} {c : UInt8} (h : (c.toNat : Int) = x) : ∀ (j : Nat) (v : UInt8), ([c] : List UInt8)[j]? = some v → (w.alloc (.cells #[.int .u8 x] 5)).cell? ⟨w.heap.size, 0 + j, none⟩ = some (.int .u8 (v.toNat : Int)) := by
  intro j v hj
  rw [Nat.zero_add, (Blk.new w 5 _).cell j]
  match j, hj with
  | 0, hj => simp at hj; subst hj; simp [h]
  | j + 1, hj => simp at hj
theorem cell_two {w : World} {o : Obj} {n : Nat} (hn : n ≤ 4096) : ∀ (j : Nat) (v : UInt8), (beP 2 n)[j]? = some v → ((w.alloc o).alloc (.cells #[.int .u8 ((n : Int) / 256), .int .u8 ((n : Int) % 256)] 5)).cell? ⟨w.heap.size + 1, 0 + j, none⟩ = some (.int .u8 (v.toNat : Int)) := by
  have e : beP 2 n = [UInt8.ofNat (n / 256 % 256), UInt8.ofNat (n % 256)] := by
    rw [beP_cons, beP_cons]
    simp [beP]
  intro j v hj
  have hb := Blk.new (w.alloc o) 5 #[.int .u8 ((n : Int) / 256), .int .u8 ((n : Int) % 256)]
  rw [show (w.alloc o).heap.size = w.heap.size + 1 by simp] at hb
  rw [Nat.zero_add, hb.cell j]
  rw [e] at hj
  match j, hj with
  | 0, hj => simp at hj; subst hj; simp; omega
  | 1, hj => simp at hj; subst hj; simp
  | j + 2, hj => simp at hj
theorem head_str {k0 t0 : Nat} {body s6 : ByteArray} {kb : UInt8} (h1 : kb = UInt8.ofNat k0) (h2 : s6 = str (beP 6 t0)) : (⟨#[87]⟩ : ByteArray) ++ str [kb] ++ s6 ++ str (beP 2 body.size) ++ body = str (headP ⟨(k0 : Nat), (t0 : Nat), body⟩) := by
  apply ba_ext
  rw [h1, h2]
  unfold headP
  simp [str]
end Go.Proofs.YtdbnalocmjkncaaGreatDoor

/-
  The document's item out of bytes (wheelhouseref08.Read).
-/
namespace Go.Proofs.YtdbnalocmjkncaaGreatDoor
open Go.RowKit

theorem ret_ctt {P : Program} {fn : Func} {p u x : Tmp} {ty : TypeId} (h : fn.results = #[.cell p ty, .tmp u, .tmp x]) {a : Act} {w : World} {R : Ending → World → Prop} (g : Nat) (t : TypeId) (cs : Array Value) (d : TypeDesc)
    (hp : a.tmps.getD p undef = .pointer (some ⟨g, 0, none⟩)) (hb : Blk w g t cs) (hu : P.underlying ty = some d) (hd : (match d with | .struct _ | .array _ _ => true | _ => false) = true)
    (hi : (P.info? ty).map (·.size) = some cs.size) (hdf : a.defers = []) (hR : R (.returned (.tuple #[.agg cs, a.tmps.getD u undef, a.tmps.getD x undef])) w) : bodyPost P fn R .ret a w := by
  refine bodyPost_ret (v := .tuple #[.agg cs, a.tmps.getD u undef, a.tmps.getD x undef]) ?_ hdf hR
  have hp' : a.tmps[p]?.getD undef = .pointer (some ⟨g, 0, none⟩) := by simpa using hp
  simp only [results, h]
  simp [Result.andThen, hp', asAddr, run_loadVar_row w g t ty cs (0, 0) d hb hu hd hi]
theorem Keeps.setNewC {S : Nat → Prop} {a b : World} (h : Keeps S a b) {g i : Nat} (hg : a.heap.size ≤ g) (u : Value) : Keeps S a (b.setCell ⟨g, i, none⟩ u) := h.setCell (fun hh => by have : g < a.heap.size := hh; omega) u
theorem Keeps.setC3 {S : Nat → Prop} {a b : World} (h : Keeps S a b) {g : Nat} (hg : a.heap.size ≤ g) (x y z : Value) : Keeps S a (((b.setCell ⟨g, 0, none⟩ x).setCell ⟨g, 1, none⟩ y).setCell ⟨g, 2, none⟩ z) := ((h.setNewC hg _).setNewC hg _).setNewC hg _
theorem Blk.setC3 {w : World} {g : Nat} {t : TypeId} {a b c : Value} (h : Blk w g t #[a, b, c]) (x y z : Value) : Blk (((w.setCell ⟨g, 0, none⟩ x).setCell ⟨g, 1, none⟩ y).setCell ⟨g, 2, none⟩ z) g t #[x, y, z] := ((h.set_ 0 x).set_ 1 y).set_ 2 z
theorem Keeps.of_eq {S : Nat → Prop} {a b : World} (h : b = a) : Keeps S a b := by rw [h]; exact Keeps.refl _ _
theorem ext_part (s : ByteArray) (a b : Nat) : s.extract a b = str ((s.data.toList.drop a).take (b - a)) := by
  apply ba_ext
  simp only [ByteArray.data_extract, Array.toList_extract, List.extract_eq_take_drop, str_list]
/-- ahead of the sum all is as it may be, and the bytes are those of the item: it is whole -/
theorem whole_mk {l : List UInt8} (hk : 1 ≤ (l.getD 1 0).toNat ∧ (l.getD 1 0).toNat ≤ 15) (ha : unbe ((l.drop 2).take 6) ≤ 1099511627776) (hn : gotK l ≤ 4096) (ht : l.take (14 + gotK l) = recP (gotI l)) : Whole l := by
  have hok : (gotI l).ok := by
    refine ⟨?_, ?_, ?_⟩
    · unfold gotI; simp only; omega
    · unfold gotI; simp only; omega
    · unfold gotI; simp only [str_size, List.length_take, List.length_drop]; omega
  have h := (rec_whole hok (l.drop (14 + gotK l))).1
  rwa [← ht, List.take_append_drop] at h
/-- what Read tells of bytes that begin with no whole item -/
def noItem (e : Ending) : Prop := ∃ c, c ≠ 0 ∧ e = .returned (.tuple #[.agg #[.int .i64 0, .int .i64 0, .string ⟨#[]⟩], .int .i64 0, .int .i64 c])
def readEnd (l : List UInt8) (e : Ending) : Prop := (Whole l ∧ e = .returned (.tuple #[itmV (gotI l), .int .i64 (14 + gotK l : Nat), .int .i64 0])) ∨ (¬ Whole l ∧ noItem e)
end Go.Proofs.YtdbnalocmjkncaaGreatDoor
