/-
  Sums, numbers as bytes, and items as records, plainly: what is put, and what is read of any bytes. No program in sight.
-/
import Derived.Test.YtfbdpmeelejdhaaQGround
namespace Go.Proofs.Ytfbdpmeelejdhaa
open Go.RowKit

/-! sums -/
def onP (h : Nat) (c : UInt8) : Nat := (h * 257 + c.toNat + 1) % 2147483647
def sumP (l : List UInt8) : Nat := l.foldl onP 0
theorem sumP_lt (l : List UInt8) : sumP l < 2147483647 := by
  unfold sumP
  have h : ∀ (l : List UInt8) (n : Nat), n < 2147483647 → l.foldl onP n < 2147483647 := by
    intro l
    induction l with
    | nil => intro n hn; exact hn
    | cons c l ih => intro n _; exact ih _ (Nat.mod_lt _ (by omega))
  exact h l 0 (by omega)
theorem sumP_snoc (l : List UInt8) (c : UInt8) : sumP (l ++ [c]) = onP (sumP l) c := by unfold sumP; rw [List.foldl_append]; rfl

/-! numbers as bytes, the highest first -/
def beP : Nat → Nat → List UInt8
  | 0, _ => []
  | k + 1, n => beP k (n / 256) ++ [UInt8.ofNat (n % 256)]
def unbe (l : List UInt8) : Nat := l.foldl (fun n c => n * 256 + c.toNat) 0
theorem beP_len : ∀ k n, (beP k n).length = k
  | 0, _ => rfl
  | k + 1, n => by unfold beP; rw [List.length_append, beP_len k]; rfl
theorem unbe_snoc (l : List UInt8) (c : UInt8) : unbe (l ++ [c]) = unbe l * 256 + c.toNat := by unfold unbe; rw [List.foldl_append]; rfl
theorem byte_mod (n : Nat) : (UInt8.ofNat (n % 256)).toNat = n % 256 := by simp
theorem unbe_be : ∀ (k n : Nat), n < 256 ^ k → unbe (beP k n) = n
  | 0, n, h => by
    have : n = 0 := by simpa using h
    subst this; rfl
  | k + 1, n, h => by
    unfold beP
    rw [unbe_snoc, unbe_be k (n / 256) (by rw [Nat.pow_succ] at h; omega), byte_mod]
    omega
theorem unbe_lt (l : List UInt8) : unbe l < 256 ^ l.length := by
  have h : ∀ l : List UInt8, unbe l.reverse < 256 ^ l.reverse.length := by
    intro l
    induction l with
    | nil => simp [unbe]
    | cons c l ih =>
      rw [List.reverse_cons, unbe_snoc, List.length_append]
      have hc : c.toNat < 256 := c.toNat_lt
      show _ < 256 ^ (l.reverse.length + 1)
      rw [Nat.pow_succ]
      omega
  have := h l.reverse
  rwa [List.reverse_reverse] at this
theorem be_unbe (l : List UInt8) : beP l.length (unbe l) = l := by
  have h : ∀ l : List UInt8, beP l.reverse.length (unbe l.reverse) = l.reverse := by
    intro l
    induction l with
    | nil => rfl
    | cons c l ih =>
      have hc : c.toNat < 256 := c.toNat_lt
      rw [List.reverse_cons, unbe_snoc, List.length_append]
      show beP (l.reverse.length + 1) _ = _
      unfold beP
      rw [show (unbe l.reverse * 256 + c.toNat) / 256 = unbe l.reverse by omega, ih, show (unbe l.reverse * 256 + c.toNat) % 256 = c.toNat by omega]
      simp
  have := h l.reverse
  rwa [List.reverse_reverse] at this

/-! items -/
structure Itm where
  kind : Int
  at_ : Int
  body : ByteArray
/-- 1: no such kind; 2: no such time; 4: too long; 0: it may be -/
def checkI (e1 e2 e3 : Int) (x : Itm) : Int := if x.kind < 1 ∨ 15 < x.kind then e1 else if x.at_ < 0 ∨ 1099511627776 < x.at_ then e2 else if 4096 < x.body.size then e3 else 0
def Itm.ok (x : Itm) : Prop := (1 ≤ x.kind ∧ x.kind ≤ 15) ∧ (0 ≤ x.at_ ∧ x.at_ ≤ 1099511627776) ∧ x.body.size ≤ 4096
/-- an item's bytes ahead of their sum -/
def headP (x : Itm) : List UInt8 := 87 :: UInt8.ofNat x.kind.toNat :: (beP 6 x.at_.toNat ++ (beP 2 x.body.size ++ x.body.data.toList))
def recP (x : Itm) : List UInt8 := headP x ++ beP 4 (sumP (headP x))
theorem headP_len (x : Itm) : (headP x).length = 10 + x.body.size := by
  unfold headP
  simp only [List.length_cons, List.length_append, beP_len]
  have : x.body.data.toList.length = x.body.size := by simp
  omega
theorem recP_len (x : Itm) : (recP x).length = 14 + x.body.size := by unfold recP; rw [List.length_append, headP_len, beP_len]; omega

def gotK (s : List UInt8) : Nat := unbe ((s.drop 8).take 2)
def gotI (s : List UInt8) : Itm := ⟨((s.getD 1 0).toNat : Int), (unbe ((s.drop 2).take 6) : Int), str ((s.drop 10).take (gotK s))⟩
/-- an item stands at the beginning of bytes, whole -/
structure Whole (s : List UInt8) : Prop where
  w : s[0]? = some 87
  kind : 1 ≤ (s.getD 1 0).toNat ∧ (s.getD 1 0).toNat ≤ 15
  at_ : unbe ((s.drop 2).take 6) ≤ 1099511627776
  len : gotK s ≤ 4096
  all : 14 + gotK s ≤ s.length
  sum : unbe ((s.drop (10 + gotK s)).take 4) = sumP (s.take (10 + gotK s))
def wholeB (s : List UInt8) : Bool := decide (s[0]? = some 87 ∧ (1 ≤ (s.getD 1 0).toNat ∧ (s.getD 1 0).toNat ≤ 15) ∧ unbe ((s.drop 2).take 6) ≤ 1099511627776 ∧ gotK s ≤ 4096 ∧ 14 + gotK s ≤ s.length ∧ unbe ((s.drop (10 + gotK s)).take 4) = sumP (s.take (10 + gotK s)))
theorem whole_iff {s : List UInt8} : wholeB s = true ↔ Whole s := by
  unfold wholeB
  rw [decide_eq_true_iff]
  exact ⟨fun ⟨a, b, c, d, e, f⟩ => ⟨a, b, c, d, e, f⟩, fun ⟨a, b, c, d, e, f⟩ => ⟨a, b, c, d, e, f⟩⟩
theorem Whole.ok {s : List UInt8} (h : Whole s) : (gotI s).ok := by
  refine ⟨⟨by have := h.kind; unfold gotI; simp only; omega, by have := h.kind; unfold gotI; simp only; omega⟩, ⟨by unfold gotI; simp only; omega, by have := h.at_; unfold gotI; simp only; omega⟩, ?_⟩
  unfold gotI
  simp only [str_size, List.length_take]
  have := h.len
  omega
theorem Whole.body {s : List UInt8} (h : Whole s) : (gotI s).body.size = gotK s := by
  unfold gotI
  simp only [str_size, List.length_take, List.length_drop]
  have := h.all
  omega
/-- what is read is what was put -/
theorem Whole.put {s : List UInt8} (h : Whole s) : s.take (14 + gotK s) = recP (gotI s) := by
  have hb := h.body
  have hall := h.all
  have hhead : s.take (10 + gotK s) = headP (gotI s) := by
    unfold headP
    rw [hb]
    match s, h.w with
    | c :: s1, hw =>
      simp at hw
      subst hw
      match s1, hall with
      | k :: s2, hall =>
        have e1 : (gotI (87 :: k :: s2)).kind.toNat = k.toNat := by unfold gotI; simp
        have e2 : (gotI (87 :: k :: s2)).at_.toNat = unbe (s2.take 6) := by unfold gotI; simp
        have e3 : gotK (87 :: k :: s2) = unbe ((s2.drop 6).take 2) := rfl
        have e4 : (gotI (87 :: k :: s2)).body.data.toList = (s2.drop 8).take (gotK (87 :: k :: s2)) := rfl
        simp only [List.length_cons] at hall
        have l6 : (s2.take 6).length = 6 := by rw [List.length_take]; omega
        have l2 : ((s2.drop 6).take 2).length = 2 := by rw [List.length_take, List.length_drop]; omega
        have b6 := be_unbe (s2.take 6)
        have b2 := be_unbe ((s2.drop 6).take 2)
        rw [l6] at b6
        rw [l2] at b2
        rw [e1, e2, b6, e4]
        rw [show beP 2 (gotK (87 :: k :: s2)) = (s2.drop 6).take 2 by rw [e3]; exact b2]
        rw [show 10 + gotK (87 :: k :: s2) = (gotK (87 :: k :: s2) + 8) + 1 + 1 by omega, List.take_succ_cons, List.take_succ_cons]
        have hk : UInt8.ofNat k.toNat = k := by simp
        rw [hk]
        congr 2
        generalize gotK (87 :: k :: s2) = g
        rw [show g + 8 = 6 + (2 + g) by omega, List.take_add, List.take_add, List.drop_drop]
  unfold recP
  rw [← hhead, ← h.sum, show 14 + gotK s = (10 + gotK s) + 4 by omega, List.take_add]
  congr 1
  have l4 : ((s.drop (10 + gotK s)).take 4).length = 4 := by rw [List.length_take, List.length_drop]; omega
  have := be_unbe ((s.drop (10 + gotK s)).take 4)
  rw [l4] at this
  exact this.symm
theorem head_parts {x : Itm} (h : x.ok) (t : List UInt8) : gotK (headP x ++ t) = x.body.size ∧ gotI (headP x ++ t) = x ∧ (headP x ++ t)[0]? = some 87 := by
  obtain ⟨⟨h1, h2⟩, ⟨h3, h4⟩, h5⟩ := h
  have l6 := beP_len 6 x.at_.toNat
  have l2 := beP_len 2 x.body.size
  have e0 : headP x ++ t = 87 :: UInt8.ofNat x.kind.toNat :: (beP 6 x.at_.toNat ++ (beP 2 x.body.size ++ (x.body.data.toList ++ t))) := by unfold headP; simp
  have hk : gotK (headP x ++ t) = x.body.size := by
    rw [e0]
    unfold gotK
    show unbe (((beP 6 x.at_.toNat ++ (beP 2 x.body.size ++ (x.body.data.toList ++ t))).drop 6).take 2) = _
    rw [List.drop_append_of_le_length (by omega), List.drop_of_length_le (by omega), List.nil_append, List.take_append_of_le_length (by omega), List.take_of_length_le (by omega)]
    exact unbe_be 2 _ (by omega)
  refine ⟨hk, ?_, by rw [e0]; rfl⟩
  unfold gotI
  rw [hk, e0]
  have ek : ((UInt8.ofNat x.kind.toNat).toNat : Int) = x.kind := by
    have : x.kind.toNat < 256 := by omega
    rw [UInt8.toNat_ofNat_of_lt' (by show x.kind.toNat < 256; omega)]
    omega
  have ea : unbe ((beP 6 x.at_.toNat ++ (beP 2 x.body.size ++ (x.body.data.toList ++ t))).take 6) = x.at_.toNat := by
    rw [List.take_append_of_le_length (by omega), List.take_of_length_le (by omega)]
    exact unbe_be 6 _ (by omega)
  have eb : (((beP 6 x.at_.toNat ++ (beP 2 x.body.size ++ (x.body.data.toList ++ t))).drop 8).take x.body.size) = x.body.data.toList := by
    rw [List.drop_append, List.drop_of_length_le (by omega), l6, List.nil_append, List.drop_append_of_le_length (by omega), List.drop_of_length_le (by omega), List.nil_append]
    have hl : x.body.data.toList.length = x.body.size := by simp
    rw [List.take_append_of_le_length (by omega), List.take_of_length_le (by omega)]
  show (⟨((UInt8.ofNat x.kind.toNat).toNat : Int), (unbe ((beP 6 x.at_.toNat ++ (beP 2 x.body.size ++ (x.body.data.toList ++ t))).take 6) : Int), str (((beP 6 x.at_.toNat ++ (beP 2 x.body.size ++ (x.body.data.toList ++ t))).drop 8).take x.body.size)⟩ : Itm) = x
  rw [ek, ea, eb]
  have : ((x.at_.toNat : Nat) : Int) = x.at_ := by omega
  rw [this, str_of]
/-- what was put is read, whatever comes behind it -/
theorem rec_whole {x : Itm} (h : x.ok) (t : List UInt8) : Whole (recP x ++ t) ∧ gotI (recP x ++ t) = x ∧ gotK (recP x ++ t) = x.body.size := by
  have e : recP x ++ t = headP x ++ (beP 4 (sumP (headP x)) ++ t) := by unfold recP; rw [List.append_assoc]
  obtain ⟨hk, hi, hw⟩ := head_parts h (beP 4 (sumP (headP x)) ++ t)
  rw [← e] at hk hi hw
  have hl := headP_len x
  have l4 := beP_len 4 (sumP (headP x))
  have hs := sumP_lt (headP x)
  have h' := h
  obtain ⟨⟨h1, h2⟩, ⟨h3, h4⟩, h5⟩ := h'
  refine ⟨⟨hw, ?_, ?_, by rw [hk]; exact h5, by rw [hk, List.length_append, recP_len]; omega, ?_⟩, hi, hk⟩
  · have := congrArg Itm.kind hi
    unfold gotI at this
    simp only at this
    omega
  · have := congrArg Itm.at_ hi
    unfold gotI at this
    simp only at this
    omega
  · rw [hk, e, List.drop_append, List.drop_of_length_le (by omega), List.nil_append, show 10 + x.body.size - (headP x).length = 0 by omega, List.drop_zero, List.take_append_of_le_length (by omega), List.take_of_length_le (by omega), List.take_append_of_le_length (by omega), List.take_of_length_le (by omega)]
    exact unbe_be 4 _ (by omega)
/-- cut off, it is none -/
theorem rec_cut {x : Itm} (h : x.ok) {m : Nat} (hm : m < (recP x).length) : ¬ Whole ((recP x).take m) := fun hw => by
  have hl := recP_len x
  have hlen : ((recP x).take m).length = m := by rw [List.length_take]; omega
  have hall := hw.all
  rw [hlen] at hall
  have hk : gotK ((recP x).take m) = gotK (recP x) := by
    unfold gotK
    have : (((recP x).take m).drop 8).take 2 = ((recP x).drop 8).take 2 := by
      rw [List.drop_take, List.take_take]
      congr 1
      omega
    rw [this]
  have := (rec_whole h []).2.2
  rw [List.append_nil] at this
  rw [hk, this] at hall
  omega

/-! one behind the other -/
def scanF : Nat → List UInt8 → List Itm
  | 0, _ => []
  | f + 1, s => if wholeB s then gotI s :: scanF f (s.drop (14 + gotK s)) else []
def scanI (s : List UInt8) : List Itm := scanF s.length s
theorem scanF_more : ∀ (f : Nat) (s : List UInt8), s.length ≤ f → scanF f s = scanI s := by
  have h : ∀ (n : Nat) (s : List UInt8), s.length ≤ n → ∀ f g, s.length ≤ f → s.length ≤ g → scanF f s = scanF g s := by
    intro n
    induction n with
    | zero =>
      intro s hs f g _ _
      have hn : wholeB s = false := by
        cases hw : wholeB s with
        | false => rfl
        | true => have := (whole_iff.1 hw).all; omega
      cases f <;> cases g <;> simp [scanF, hn]
    | succ n ih =>
      intro s hs f g hf hg
      cases hw : wholeB s with
      | false => cases f <;> cases g <;> simp [scanF, hw]
      | true =>
        have ha := (whole_iff.1 hw).all
        match f, g with
        | 0, _ => omega
        | _ + 1, 0 => omega
        | f + 1, g + 1 =>
          unfold scanF
          rw [if_pos hw, if_pos hw]
          congr 1
          exact ih _ (by rw [List.length_drop]; omega) _ _ (by rw [List.length_drop]; omega) (by rw [List.length_drop]; omega)
  intro f s hs
  exact h s.length s (Nat.le_refl _) f s.length hs (Nat.le_refl _)
theorem scan_no {s : List UInt8} (h : ¬ Whole s) : scanI s = [] := by
  have hn : wholeB s = false := by
    cases hw : wholeB s with
    | false => rfl
    | true => exact absurd (whole_iff.1 hw) h
  unfold scanI
  cases s.length <;> simp [scanF, hn]
theorem scan_more {s : List UInt8} (h : Whole s) : scanI s = gotI s :: scanI (s.drop (14 + gotK s)) := by
  have ha := h.all
  unfold scanI
  obtain ⟨n, hn⟩ : ∃ n, s.length = n + 1 := ⟨s.length - 1, by omega⟩
  rw [hn]
  show (if wholeB s then _ else _) = _
  rw [if_pos (whole_iff.2 h)]
  congr 1
  rw [scanF_more _ _ (by rw [List.length_drop]; omega), scanI]
/-- the bytes of items -/
def flatR (xs : List Itm) : List UInt8 := (xs.map recP).flatten
theorem flatR_cons (x : Itm) (xs : List Itm) : flatR (x :: xs) = recP x ++ flatR xs := rfl
theorem flatR_append (xs ys : List Itm) : flatR (xs ++ ys) = flatR xs ++ flatR ys := by unfold flatR; rw [List.map_append, List.flatten_append]
theorem scan_flat {xs : List Itm} (h : ∀ x ∈ xs, x.ok) (t : List UInt8) : scanI (flatR xs ++ t) = xs ++ scanI t := by
  induction xs with
  | nil => rfl
  | cons x xs ih =>
    have hx := h x List.mem_cons_self
    rw [flatR_cons, List.append_assoc]
    obtain ⟨h1, h2, h3⟩ := rec_whole hx (flatR xs ++ t)
    rw [scan_more h1, h2, h3, List.drop_append, List.drop_of_length_le (by rw [recP_len]; omega), recP_len, List.nil_append, show 14 + x.body.size - (14 + x.body.size) = 0 by omega, List.drop_zero, ih fun y hy => h y (List.mem_cons_of_mem _ hy)]
    rfl
/-- items' bytes cut off anywhere: those that are whole -/
theorem scan_take {xs : List Itm} (h : ∀ x ∈ xs, x.ok) (m : Nat) : ∃ k, k ≤ xs.length ∧ scanI ((flatR xs).take m) = xs.take k ∧ ((flatR xs).length ≤ m → k = xs.length) ∧ (∀ q, q ≤ xs.length → (flatR (xs.take q)).length ≤ m → q ≤ k) := by
  induction xs generalizing m with
  | nil => exact ⟨0, Nat.le_refl _, by rw [show (flatR []).take m = [] by unfold flatR; simp]; exact scan_no fun hw => by have := hw.all; simp at this, fun _ => rfl, fun q hq _ => hq⟩
  | cons x xs ih =>
    have hx := h x List.mem_cons_self
    have hl := recP_len x
    rw [flatR_cons]
    by_cases hm : m < (recP x).length
    · refine ⟨0, Nat.zero_le _, ?_, fun hh => by rw [List.length_append] at hh; omega, fun q hq hqm => ?_⟩
      · rw [List.take_append_of_le_length (by omega), scan_no (rec_cut hx hm)]; rfl
      · match q with
        | 0 => exact Nat.le_refl _
        | q + 1 =>
          rw [List.take_succ_cons, flatR_cons, List.length_append] at hqm
          omega
    · obtain ⟨k, hk1, hk2, hk3, hk4⟩ := ih (fun y hy => h y (List.mem_cons_of_mem _ hy)) (m - (recP x).length)
      refine ⟨k + 1, by simp only [List.length_cons]; omega, ?_, fun hh => ?_, fun q hq hqm => ?_⟩
      · rw [List.take_append, List.take_of_length_le (by omega)]
        have := scan_flat (xs := [x]) (fun y hy => by rw [List.mem_singleton.1 hy]; exact hx) ((flatR xs).take (m - (recP x).length))
        rw [show flatR [x] = recP x by unfold flatR; simp] at this
        rw [this, hk2]; rfl
      · rw [List.length_append] at hh
        have := hk3 (by omega)
        simp only [List.length_cons]; omega
      · match q with
        | 0 => omega
        | q + 1 =>
          rw [List.take_succ_cons, flatR_cons, List.length_append] at hqm
          simp only [List.length_cons] at hq
          have := hk4 q (by omega) (by omega)
          omega
end Go.Proofs.Ytfbdpmeelejdhaa
