/-
  What is printed is read as the same statements, as functions on lists of bytes. No walk.
-/
import Derived.Test.YtfpajgmdejlaeaaGreatDoorQTreeI
import Derived.Test.YtfpajgmdejlaeaaGreatDoorQLexBackM
import Derived.Test.YtfpajgmdejlaeaaGreatDoorQGround1
namespace Go.Proofs.YtfpajgmdejlaeaaGreatDoor
open Go.RowKit

/-- reading goes on there -/
def Rd (ln : Int) (l : List UInt8) (out : List Pc) (ln' : Int) (l' : List UInt8) (out' : List Pc) : Prop := readP (l.length + 1) ln l out = readP (l'.length + 1) ln' l' out'
theorem Rd.refl (ln : Int) (l : List UInt8) (out : List Pc) : Rd ln l out ln l out := rfl
theorem Rd.trans {n1 n2 n3 : Int} {l1 l2 l3 : List UInt8} {o1 o2 o3 : List Pc} (h : Rd n1 l1 o1 n2 l2 o2) (k : Rd n2 l2 o2 n3 l3 o3) : Rd n1 l1 o1 n3 l3 o3 := Eq.trans h k
theorem rd_skip {ln ln' : Int} {l l' : List UInt8} (out : List Pc) (h : skipP false ln l = skipP false ln' l') : Rd ln l out ln' l' out := by
  obtain ⟨a, b, hs⟩ : ∃ a b, skipP false ln' l' = (a, b) := ⟨_, _, rfl⟩
  unfold Rd
  rw [readP_step ln l out a b (h.trans hs), readP_step ln' l' out a b hs]
theorem rd_blank (ln : Int) (l : List UInt8) (out : List Pc) : Rd ln (32 :: l) out ln l out := rd_skip out (by
  have b32 : blankB 32 = true := by decide
  simp [skipP_cons, b32])
theorem rd_line (ln : Int) (l : List UInt8) (out : List Pc) : Rd ln (10 :: l) out (ln + 1) l out := rd_skip out (by simp [skipP_cons])
theorem rd_blanks (ln : Int) (l : List UInt8) (out : List Pc) : ∀ n, Rd ln (List.replicate n 32 ++ l) out ln l out
  | 0 => Rd.refl _ _ _
  | n + 1 => (rd_blank ln _ out).trans (rd_blanks ln l out n)
theorem rd_ind (ln : Int) (d : Nat) (l : List UInt8) (out : List Pc) : Rd ln (indP d ++ l) out ln l out := rd_blanks ln l out _
/-- what is put stands first, and is read as it is -/
theorem put_back2 (k : Int) (t : List UInt8) (g : UInt8) (more : List UInt8) (line : Int) (hgp : plainB g = false) (h : (putP_lexm k t).2 = 0) :
    ∃ c u, (putP_lexm k t).1 = c :: u ∧ skipP false line ((putP_lexm k t).1 ++ g :: more) = (line, (putP_lexm k t).1 ++ g :: more) ∧
      oneP ((putP_lexm k t).1 ++ g :: more) = some (k, t, g :: more) := by
  unfold putP_lexm at h ⊢
  by_cases h1 : k = 1
  · subst h1
    rw [if_pos rfl] at h ⊢
    by_cases hw : wordyP t = true
    · rw [if_pos hw] at h ⊢
      unfold wordyP at hw
      rw [Bool.and_eq_true] at hw
      obtain ⟨hne, hall⟩ := hw
      cases t with
      | nil => simp at hne
      | cons c u =>
        have hc := plain_byte (by rw [List.all_cons, Bool.and_eq_true] at hall; exact hall.1 : plainB c = true)
        have hcp : plainB c = true := by rw [List.all_cons, Bool.and_eq_true] at hall; exact hall.1
        have hb := word_back (c :: u) g more hall hgp
        refine ⟨c, u, rfl, ?_, ?_⟩
        · rw [List.cons_append, skipP_cons, if_neg hc.1, if_neg (by simp [hc.2.1]), if_neg hc.2.2.1]
        · rw [List.cons_append, oneP_cons, if_neg hc.2.2.2.1, if_neg hc.2.2.2.2.1, if_neg hc.2.2.2.2.2.1, if_neg hc.2.2.2.2.2.2, if_pos hcp]
          rw [List.cons_append] at hb
          rw [hb.1, hb.2]
    · rw [if_neg hw] at h; simp at h
  · rw [if_neg h1] at h ⊢
    by_cases h2 : k = 2
    · subst h2
      rw [if_pos rfl] at h ⊢
      by_cases hs : t.all seenB = true
      · rw [if_pos hs] at h ⊢
        refine ⟨34, _, rfl, ?_, ?_⟩
        · rw [List.cons_append, skipP_cons, if_neg (by decide), if_neg (by decide), if_neg (by decide)]
        · rw [List.cons_append, oneP_cons, if_neg (by decide), if_neg (by decide), if_neg (by decide), if_pos (by decide), List.append_assoc]
          have := quote_back t (g :: more) [] hs
          rw [List.singleton_append, this]; rfl
      · rw [if_neg hs] at h; simp at h
    · rw [if_neg h2] at h ⊢
      by_cases h3 : 3 ≤ k ∧ k ≤ 5
      · rw [if_pos h3] at h ⊢
        by_cases h0 : t = []
        · rw [if_pos h0] at h ⊢
          subst h0
          have : k = 3 ∨ k = 4 ∨ k = 5 := by omega
          rcases this with rfl | rfl | rfl
          · exact ⟨123, [], rfl, rfl, rfl⟩
          · exact ⟨125, [], rfl, rfl, rfl⟩
          · exact ⟨59, [], rfl, rfl, rfl⟩
        · rw [if_neg h0] at h; simp at h
      · rw [if_neg h3] at h; simp at h
theorem rd_piece {k : Int} {t txt : List UInt8} {g : UInt8} {more : List UInt8} {out : List Pc} (ln : Int) (h : putP_lexm k t = (txt, 0)) (hg : plainB g = false) (ho : out.length < 8192) :
    Rd ln (txt ++ g :: more) out ln (g :: more) (out ++ [⟨k, str t, ln⟩]) := by
  obtain ⟨c, u, hcu, hsk, hone⟩ := put_back2 k t g more ln hg (by rw [h])
  rw [h] at hcu hsk hone
  simp only at hcu hsk hone
  unfold Rd
  rw [readP_step ln _ out ln _ hsk, if_neg (by rw [hcu]; simp), if_neg (by omega), hone]
/-- which kind of piece an argument is -/
def kA (a : ByteArray) : Int := if wordyP a.data.toList then 1 else 2
theorem argPr_put {a : ByteArray} (h : (argPr a.data.toList).2 = true) : putP_lexm (kA a) a.data.toList = ((argPr a.data.toList).1, 0) := by
  unfold argPr at h ⊢
  unfold kA
  by_cases hw : wordyP a.data.toList = true
  · rw [if_pos hw, if_pos hw]
    unfold putP_lexm
    rw [if_pos rfl, if_pos hw]
  · rw [if_neg hw] at h ⊢
    rw [if_neg hw]
    simp only [beq_iff_eq] at h
    exact Prod.ext rfl h
theorem rd_punct (k : Int) (c : UInt8) (hk : putP_lexm k [] = ([c], 0)) (ln : Int) (more : List UInt8) (out : List Pc) (ho : out.length < 8192) (hm : ∃ g t, more = g :: t ∧ plainB g = false) : Rd ln (c :: more) out ln more (out ++ [⟨k, ⟨#[]⟩, ln⟩]) := by
  obtain ⟨g, t, rfl, hg⟩ := hm
  exact rd_piece (t := []) (txt := [c]) ln hk hg ho
theorem put3 : putP_lexm 3 [] = ([123], 0) := by kernel_rfl
theorem put4 : putP_lexm 4 [] = ([125], 0) := by kernel_rfl
theorem put5 : putP_lexm 5 [] = ([59], 0) := by kernel_rfl
/-- arguments as they are put, a blank ahead of each -/
def argsT (l : List ByteArray) : List UInt8 := l.flatMap fun a => 32 :: (argPr a.data.toList).1
theorem argsT_head (l : List ByteArray) (g : UInt8) (more : List UInt8) (hg : plainB g = false) : ∃ g' t, argsT l ++ g :: more = g' :: t ∧ plainB g' = false := by
  cases l with
  | nil => exact ⟨g, more, rfl, hg⟩
  | cons a l => exact ⟨32, _, rfl, by decide⟩
theorem rd_args (ln : Int) (g : UInt8) (more : List UInt8) (hg : plainB g = false) : ∀ (l : List ByteArray) (out : List Pc), (l.all fun a => (argPr a.data.toList).2) = true → out.length + l.length ≤ 8192 →
    Rd ln (argsT l ++ g :: more) out ln (g :: more) (out ++ l.map fun a => ⟨kA a, a, ln⟩)
  | [], out, _, _ => by rw [List.map_nil, List.append_nil]; exact Rd.refl _ _ _
  | a :: l, out, h, ho => by
    rw [List.all_cons, Bool.and_eq_true] at h
    rw [List.length_cons] at ho
    obtain ⟨g', t', hgt, hg'⟩ := argsT_head l g more hg
    have e : argsT (a :: l) ++ g :: more = 32 :: ((argPr a.data.toList).1 ++ (argsT l ++ g :: more)) := by
      show (32 :: (argPr a.data.toList).1 ++ argsT l) ++ g :: more = _
      simp
    rw [e]
    refine (rd_blank ln _ out).trans ?_
    have h1 : Rd ln ((argPr a.data.toList).1 ++ (argsT l ++ g :: more)) out ln (argsT l ++ g :: more) (out ++ [⟨kA a, str a.data.toList, ln⟩]) := by
      rw [hgt]; exact rd_piece ln (argPr_put h.1) hg' (by omega)
    refine h1.trans ?_
    rw [str_of]
    have h2 := rd_args ln g more hg l (out ++ [⟨kA a, a, ln⟩]) h.2 (by rw [List.length_append]; simp only [List.length_cons, List.length_nil]; omega)
    have e2 : out ++ (a :: l).map (fun a => (⟨kA a, a, ln⟩ : Pc)) = out ++ [⟨kA a, a, ln⟩] ++ l.map fun a => ⟨kA a, a, ln⟩ := by simp
    rw [e2]
    exact h2
theorem head_text (k : ByteArray) (l : List ByteArray) : (headPr k l).1 = k.data.toList ++ argsT l := by
  unfold headPr
  simp only
  rw [Lib.join_cons]
  unfold Lib.joinTail argsT
  rw [List.map_map, List.flatMap_def]
  rfl
theorem head_ok {k : ByteArray} {l : List ByteArray} (h : (headPr k l).2 = true) : wordyP k.data.toList = true ∧ l.length ≤ 16 ∧ (l.all fun a => (argPr a.data.toList).2) = true := by
  unfold headPr at h
  simp only [Bool.and_eq_true, decide_eq_true_eq] at h
  exact ⟨h.1.1, h.1.2, h.2⟩
theorem rd_head (ln : Int) (k : ByteArray) (l : List ByteArray) (g : UInt8) (more : List UInt8) (hg : plainB g = false) (h : (headPr k l).2 = true) (out : List Pc) (ho : out.length + (l.length + 1) ≤ 8192) :
    Rd ln ((headPr k l).1 ++ g :: more) out ln (g :: more) (out ++ (⟨1, k, ln⟩ :: l.map fun a => ⟨kA a, a, ln⟩)) := by
  obtain ⟨hw, -, ha⟩ := head_ok h
  obtain ⟨g', t', hgt, hg'⟩ := argsT_head l g more hg
  rw [head_text, List.append_assoc]
  have h1 : Rd ln (k.data.toList ++ (argsT l ++ g :: more)) out ln (argsT l ++ g :: more) (out ++ [⟨1, str k.data.toList, ln⟩]) := by
    rw [hgt]; exact rd_piece ln (by unfold putP_lexm; rw [if_pos rfl, if_pos hw]) hg' (by omega)
  refine h1.trans ?_
  rw [str_of]
  have h2 := rd_args ln g more hg l (out ++ [⟨1, k, ln⟩]) ha (by rw [List.length_append]; simp only [List.length_cons, List.length_nil]; omega)
  rw [List.append_assoc] at h2
  exact h2
/-- what a piece is, but for its line -/
def kt (p : Pc) : Int × ByteArray := (p.kind, p.text)
mutual
/-- the pieces of a statement -/
def ktN : Nd → List (Int × ByteArray)
  | .mk k as_ b l _ => (1, k) :: (as_.map fun a => (kA a, a)) ++ (if b then (3, ⟨#[]⟩) :: (ktL l ++ [(4, ⟨#[]⟩)]) else [(5, ⟨#[]⟩)])
def ktL : List Nd → List (Int × ByteArray)
  | [] => []
  | x :: xs => ktN x ++ ktL xs
end
mutual
/-- may a statement be, so deep? -/
def okN : Nd → Nat → Prop
  | .mk k as_ b l _, d => (headPr k as_).2 = true ∧ (b = false → l = []) ∧ (b = true → d ≠ 4) ∧ okL l (d + 1)
def okL : List Nd → Nat → Prop
  | [], _ => True
  | x :: xs, d => okN x d ∧ okL xs d
end
mutual
theorem putN_ok : ∀ (x : Nd) (d : Nat) (t : List UInt8), putN x d = some t → okN x d
  | .mk k as_ b l li, d, t, h => by
    rw [putN] at h
    rw [okN]
    split at h
    · cases h
    · rename_i hn
      simp only [Bool.or_eq_true, Bool.not_eq_true', Bool.and_eq_true, decide_eq_true_eq, not_or, not_and, Bool.not_eq_false] at hn
      obtain ⟨⟨h1, h2⟩, h3⟩ := hn
      refine ⟨h1, fun hb => List.eq_nil_of_length_eq_zero (by have := h2 hb; omega), h3, ?_⟩
      cases b with
      | false =>
        have := h2 rfl
        obtain rfl := List.eq_nil_of_length_eq_zero (by omega : l.length = 0)
        rw [okL]; trivial
      | true =>
        rw [if_pos rfl] at h
        cases hp : putL l (d + 1) with
        | none => rw [hp] at h; cases h
        | some u => exact putL_ok l (d + 1) u hp
theorem putL_ok : ∀ (xs : List Nd) (d : Nat) (t : List UInt8), putL xs d = some t → okL xs d
  | [], d, t, h => by rw [okL]; trivial
  | x :: xs, d, t, h => by
    rw [putL] at h
    rw [okL]
    cases hx : putN x d with
    | none => rw [hx] at h; cases h
    | some a =>
      rw [hx] at h
      cases hxs : putL xs d with
      | none => rw [hxs] at h; cases h
      | some b => exact ⟨putN_ok x d a hx, putL_ok xs d b hxs⟩
end
mutual
theorem ok_putN : ∀ (x : Nd) (d : Nat), okN x d → ∃ t, putN x d = some t
  | .mk k as_ b l li, d, h => by
    rw [okN] at h
    obtain ⟨h1, h2, h3, h4⟩ := h
    rw [putN]
    obtain ⟨u, hu⟩ := ok_putL l (d + 1) h4
    rw [h1, hu]
    cases b with
    | false => obtain rfl := h2 rfl; exact ⟨_, rfl⟩
    | true =>
      have := h3 rfl
      simp [this]
theorem ok_putL : ∀ (xs : List Nd) (d : Nat), okL xs d → ∃ t, putL xs d = some t
  | [], d, _ => ⟨[], by rw [putL]⟩
  | x :: xs, d, h => by
    rw [okL] at h
    obtain ⟨a, ha⟩ := ok_putN x d h.1
    obtain ⟨b, hb⟩ := ok_putL xs d h.2
    rw [putL, ha, hb]
    exact ⟨_, rfl⟩
end
theorem nl_head (more : List UInt8) : ∃ g t, (10 :: more : List UInt8) = g :: t ∧ plainB g = false := ⟨10, more, rfl, by decide⟩
mutual
theorem rd_node : ∀ (x : Nd) (d : Nat) (t : List UInt8), putN x d = some t → ∀ (ln : Int), ∃ (ln' : Int) (ps : List Pc), ps.map kt = ktN x ∧ ∀ (more : List UInt8) (out : List Pc), out.length + ps.length ≤ 8192 → Rd ln (t ++ more) out ln' more (out ++ ps)
  | .mk k as_ b l li, d, t, h, ln => by
    have hok := putN_ok _ _ _ h
    rw [okN] at hok
    obtain ⟨h1, h2, h3, h4⟩ := hok
    rw [putN] at h
    split at h
    · cases h
    · cases b with
      | false =>
        injection h with h
        subst h
        refine ⟨ln + 1, (⟨1, k, ln⟩ :: as_.map fun a => ⟨kA a, a, ln⟩) ++ [⟨5, ⟨#[]⟩, ln⟩], ?_, fun more out ho => ?_⟩
        · rw [ktN]; simp [kt, Function.comp_def]
        · simp only [List.length_append, List.length_cons, List.length_nil, List.length_map] at ho
          rw [List.append_assoc, List.append_assoc]
          refine (rd_ind ln d _ out).trans ?_
          refine (rd_head ln k as_ 59 (10 :: more) (by decide) h1 out (by omega)).trans ?_
          refine (rd_punct 5 59 put5 ln (10 :: more) _ (by rw [List.length_append, List.length_cons, List.length_map]; omega) (nl_head _)).trans ?_
          rw [List.append_assoc]
          exact rd_line ln more _
      | true =>
        rw [if_pos rfl] at h
        cases hp : putL l (d + 1) with
        | none => rw [hp] at h; cases h
        | some u =>
          rw [hp] at h
          injection h with h
          subst h
          obtain ⟨ln2, ps2, hps2, hrd2⟩ := rd_list l (d + 1) u hp (ln + 1)
          refine ⟨ln2 + 1, (⟨1, k, ln⟩ :: as_.map fun a => ⟨kA a, a, ln⟩) ++ (⟨3, ⟨#[]⟩, ln⟩ :: (ps2 ++ [⟨4, ⟨#[]⟩, ln2⟩])), ?_, fun more out ho => ?_⟩
          · rw [ktN, ← hps2]; simp [kt, Function.comp_def]
          · simp only [List.length_append, List.length_cons, List.length_nil, List.length_map] at ho
            have e : indP d ++ (headPr k as_).1 ++ [32, 123, 10] ++ u ++ indP d ++ [125, 10] ++ more = indP d ++ ((headPr k as_).1 ++ 32 :: (123 :: (10 :: (u ++ (indP d ++ (125 :: (10 :: more))))))) := by simp
            rw [e]
            refine (rd_ind ln d _ out).trans ?_
            refine (rd_head ln k as_ 32 _ (by decide) h1 out (by omega)).trans ?_
            refine (rd_blank ln _ _).trans ?_
            refine (rd_punct 3 123 put3 ln _ _ (by rw [List.length_append, List.length_cons, List.length_map]; omega) (nl_head _)).trans ?_
            refine (rd_line ln _ _).trans ?_
            refine (hrd2 _ _ (by simp only [List.length_append, List.length_cons, List.length_nil, List.length_map]; omega)).trans ?_
            refine (rd_ind ln2 d _ _).trans ?_
            refine (rd_punct 4 125 put4 ln2 _ _ (by simp only [List.length_append, List.length_cons, List.length_nil, List.length_map]; omega) (nl_head _)).trans ?_
            have e2 : out ++ (⟨1, k, ln⟩ :: as_.map fun a => (⟨kA a, a, ln⟩ : Pc)) ++ [⟨3, ⟨#[]⟩, ln⟩] ++ ps2 ++ [⟨4, ⟨#[]⟩, ln2⟩] = out ++ ((⟨1, k, ln⟩ :: as_.map fun a => (⟨kA a, a, ln⟩ : Pc)) ++ (⟨3, ⟨#[]⟩, ln⟩ :: (ps2 ++ [⟨4, ⟨#[]⟩, ln2⟩]))) := by simp
            rw [e2]
            exact rd_line ln2 more _
theorem rd_list : ∀ (xs : List Nd) (d : Nat) (t : List UInt8), putL xs d = some t → ∀ (ln : Int), ∃ (ln' : Int) (ps : List Pc), ps.map kt = ktL xs ∧ ∀ (more : List UInt8) (out : List Pc), out.length + ps.length ≤ 8192 → Rd ln (t ++ more) out ln' more (out ++ ps)
  | [], d, t, h, ln => by
    rw [putL] at h
    injection h with h
    subst h
    exact ⟨ln, [], by rw [ktL]; rfl, fun more out _ => by rw [List.append_nil]; exact Rd.refl _ _ _⟩
  | x :: xs, d, t, h, ln => by
    rw [putL] at h
    cases hx : putN x d with
    | none => rw [hx] at h; cases h
    | some a =>
      rw [hx] at h
      cases hxs : putL xs d with
      | none => rw [hxs] at h; cases h
      | some b =>
        rw [hxs] at h
        injection h with h
        subst h
        obtain ⟨ln1, ps1, e1, r1⟩ := rd_node x d a hx ln
        obtain ⟨ln2, ps2, e2, r2⟩ := rd_list xs d b hxs ln1
        refine ⟨ln2, ps1 ++ ps2, by rw [List.map_append, e1, e2, ktL], fun more out ho => ?_⟩
        rw [List.length_append] at ho
        rw [List.append_assoc]
        have h2 := r2 more (out ++ ps1) (by rw [List.length_append]; omega)
        rw [List.append_assoc] at h2
        exact (r1 _ out (by omega)).trans h2
end
/-! pieces as statements -/
theorem kind_arg (a : ByteArray) : kA a = 1 ∨ kA a = 2 := by unfold kA; split <;> simp
theorem args_back : ∀ (as_ acc : List ByteArray) (ps rest : List Pc), (ps.map kt = as_.map fun a => (kA a, a)) → acc.length + as_.length ≤ 16 → (kindP rest ≠ 1 ∧ kindP rest ≠ 2) → argsP acc (ps ++ rest) = .inr (acc ++ as_, rest)
  | [], acc, ps, rest, h, _, hr => by
    obtain rfl : ps = [] := by simpa using h
    rw [List.nil_append, List.append_nil]
    cases rest with
    | nil => rw [argsP]
    | cons p rest => rw [argsP, if_neg]; exact fun hh => hh.elim hr.1 hr.2
  | a :: as_, acc, [], rest, h, _, _ => by simp at h
  | a :: as_, acc, p :: ps, rest, h, hl, hr => by
    rw [List.map_cons, List.map_cons] at h
    injection h with h1 h2
    rw [List.length_cons] at hl
    unfold kt at h1
    injection h1 with h3 h4
    rw [List.cons_append, argsP, if_pos (by rw [h3]; exact kind_arg a), if_neg (by omega), h4]
    rw [args_back as_ (acc ++ [a]) ps rest h2 (by rw [List.length_append]; simp only [List.length_cons, List.length_nil]; omega) hr]
    simp
theorem map_split {α β : Type} {f : α → β} {l : List α} {a b : List β} (h : l.map f = a ++ b) : ∃ l1 l2, l = l1 ++ l2 ∧ l1.map f = a ∧ l2.map f = b := by
  obtain ⟨l1, l2, h1, h2, h3⟩ := List.map_eq_append_iff.1 h
  exact ⟨l1, l2, h1, h2, h3⟩
theorem map_cons1 {α β : Type} {f : α → β} {l : List α} {a : β} {b : List β} (h : l.map f = a :: b) : ∃ x l2, l = x :: l2 ∧ f x = a ∧ l2.map f = b := by
  cases l with
  | nil => simp at h
  | cons x l => rw [List.map_cons] at h; injection h with h1 h2; exact ⟨x, l, rfl, h1, h2⟩
theorem ktN_pos (x : Nd) : ∃ k t, ktN x = (1, k) :: t := by cases x; rw [ktN]; exact ⟨_, _, rfl⟩
theorem one_to {last : Int} {go : List Pc → (Int × Int) ⊕ (List Nd × List Pc)} {d : Nat} {p : Pc} {as_ : List ByteArray} {t t2 : List Pc} (h1 : p.kind = 1) (h2 : argsP [] t = .inr (as_, t2)) :
    oneP_t last go d (p :: t) = if kindP t2 = 5 then .inr (.mk p.text as_ false [] p.line, t2.tail)
        else if kindP t2 = 3 then
          (if d = 4 then .inl (15, lineP last t2)
          else match go t2.tail with
            | .inl e => .inl e
            | .inr (l, t3) => .inr (.mk p.text as_ true l p.line, t3.tail))
        else .inl (3, lineP last t2) := by
  rw [oneP_t, if_neg (by rw [h1]; simp), h2]
  rfl
mutual
theorem node_back (last : Int) : ∀ (x : Nd) (d f : Nat) (ps rest : List Pc), okN x d → ps.map kt = ktN x → (ps ++ rest).length ≤ f → ∃ y, sameN x y ∧ oneP_t last (listP last f (d + 1) []) d (ps ++ rest) = .inr (y, rest)
  | .mk k as_ b l li, d, f, ps, rest, hok, hps, hf => by
    rw [okN] at hok
    obtain ⟨h1, h2, h3, h4⟩ := hok
    obtain ⟨-, hlen, -⟩ := head_ok h1
    rw [ktN, List.cons_append] at hps
    obtain ⟨p0, ps1, rfl, e0, hps1⟩ := map_cons1 hps
    obtain ⟨pa, pb, rfl, ea, eb⟩ := map_split hps1
    unfold kt at e0
    injection e0 with e01 e02
    rw [List.cons_append, List.append_assoc]
    cases b with
    | false =>
      obtain rfl := h2 rfl
      obtain ⟨p5, pc, rfl, e5, ec⟩ := map_cons1 eb
      obtain rfl : pc = [] := by simpa using ec
      unfold kt at e5
      injection e5 with e51 e52
      have ha := args_back as_ [] pa ([p5] ++ rest) ea (by simpa using hlen) (by constructor <;> (show p5.kind ≠ _; rw [e51]; decide))
      rw [List.nil_append] at ha
      rw [one_to e01 ha, if_pos (by show p5.kind = 5; exact e51)]
      exact ⟨_, by rw [sameN, sameL]; exact ⟨e02.symm, rfl, rfl, trivial⟩, rfl⟩
    | true =>
      rw [if_pos rfl] at eb
      obtain ⟨p3, pc, rfl, e3, ec⟩ := map_cons1 eb
      obtain ⟨pl, pd, rfl, el, ed⟩ := map_split ec
      obtain ⟨p4, pe, rfl, e4, ee⟩ := map_cons1 ed
      obtain rfl : pe = [] := by simpa using ee
      unfold kt at e3 e4
      injection e3 with e31 e32
      injection e4 with e41 e42
      have ha := args_back as_ [] pa (p3 :: (pl ++ [p4]) ++ rest) ea (by simpa using hlen) (by constructor <;> (show p3.kind ≠ _; rw [e31]; decide))
      rw [List.nil_append] at ha
      simp only [List.length_cons, List.length_append, List.length_nil] at hf
      obtain ⟨ys, f', hf', hs, hl⟩ := list_back last l (d + 1) f [] pl ([p4] ++ rest) h4 el (by simp only [List.length_cons, List.length_append, List.length_nil]; omega)
      have hd : doneP (d + 1) (p4 :: rest) = true := by unfold doneP; rw [decide_eq_true_eq]; exact .inr ⟨e41, by omega⟩
      obtain ⟨f2, rfl⟩ : ∃ f2, f' = f2 + 1 := ⟨f' - 1, by simp only [List.length_append, List.length_cons, List.length_nil] at hf'; omega⟩
      have hl2 : listP last f (d + 1) [] (pl ++ ([p4] ++ rest)) = .inr (ys, p4 :: rest) := by
        rw [hl, List.nil_append, List.singleton_append, listP, if_pos hd]
      rw [one_to e01 ha, if_neg (by show p3.kind ≠ 5; rw [e31]; decide), if_pos (by show p3.kind = 3; exact e31), if_neg (h3 rfl)]
      have e : (p3 :: (pl ++ [p4]) ++ rest).tail = pl ++ ([p4] ++ rest) := by simp
      rw [e, hl2]
      exact ⟨_, by rw [sameN]; exact ⟨e02.symm, rfl, rfl, hs⟩, rfl⟩
theorem list_back (last : Int) : ∀ (xs : List Nd) (d f : Nat) (out : List Nd) (ps rest : List Pc), okL xs d → ps.map kt = ktL xs → (ps ++ rest).length + 1 ≤ f → ∃ ys f', rest.length + 1 ≤ f' ∧ sameL xs ys ∧ listP last f d out (ps ++ rest) = listP last f' d (out ++ ys) rest
  | [], d, f, out, ps, rest, hok, hps, hf => by
    obtain rfl : ps = [] := by rw [ktL] at hps; simpa using hps
    exact ⟨[], f, hf, by rw [sameL]; trivial, by rw [List.append_nil]; rfl⟩
  | x :: xs, d, 0, out, ps, rest, hok, hps, hf => by omega
  | x :: xs, d, f + 1, out, ps, rest, hok, hps, hf => by
    rw [okL] at hok
    rw [ktL] at hps
    obtain ⟨p1, p2, rfl, e1, e2⟩ := map_split hps
    obtain ⟨k, t, hk⟩ := ktN_pos x
    obtain ⟨q, q2, rfl, eq, -⟩ := map_cons1 (e1.trans hk)
    unfold kt at eq
    injection eq with eq1 eq2
    simp only [List.length_append, List.length_cons] at hf
    obtain ⟨y, hy, hone⟩ := node_back last x d f (q :: q2) (p2 ++ rest) hok.1 e1 (by simp only [List.length_append, List.length_cons]; omega)
    obtain ⟨ys, f', hf', hs, hl⟩ := list_back last xs d f (out ++ [y]) p2 rest hok.2 e2 (by simp only [List.length_append]; omega)
    refine ⟨y :: ys, f', hf', by rw [sameL]; exact ⟨hy, hs⟩, ?_⟩
    have hd : doneP d ((q :: q2) ++ p2 ++ rest) = false := by
      unfold doneP
      rw [decide_eq_false_iff_not]
      show ¬ ((q.kind = 0 ∧ d = 0) ∨ (q.kind = 4 ∧ 0 < d))
      rw [eq1]
      simp
    rw [listP, if_neg (by rw [hd]; simp), List.append_assoc, hone]
    simp only
    rw [hl]
    simp
end
theorem listP_done (last : Int) (f : Nat) (out : List Nd) (hf : 1 ≤ f) : listP last f 0 out [] = .inr (out, []) := by
  obtain ⟨g, rfl⟩ : ∃ g, f = g + 1 := ⟨f - 1, by omega⟩
  rw [listP, if_pos (by unfold doneP; simp [kindP])]
/-- a text whose pieces are those of statements that may be, is read as these -/
theorem treeP_of {s : List UInt8} {ps : List Pc} {xs : List Nd} (h : lexP s = .inr ps) (hps : ps.map kt = ktL xs) (hok : okL xs 0) : ∃ ys, sameL xs ys ∧ treeP s = .inr ys := by
  obtain ⟨ys, f', hf', hs, hl⟩ := list_back (lastP ps) xs 0 (ps.length + 1) [] ps [] hok hps (by simp)
  rw [List.append_nil, List.nil_append, listP_done _ _ _ (by simpa using hf')] at hl
  exact ⟨ys, hs, by unfold treeP; rw [h]; simp only; rw [hl]⟩
theorem rd_end {ln : Int} {out : List Pc} : readP 1 ln [] out = .inr out := by simp [readP, skipP]
/-- what is printed is read as the same -/
theorem treeP_put {xs : List Nd} {t : List UInt8} (h : putL xs 0 = some t) (ht : t.length ≤ 65536) (hn : (ktL xs).length ≤ 8192) : ∃ ys, sameL xs ys ∧ treeP t = .inr ys := by
  obtain ⟨ln', ps, hps, hrd⟩ := rd_list xs 0 t h 1
  have hl : ps.length ≤ 8192 := by rw [← hps, List.length_map] at hn; exact hn
  have := hrd [] [] (by simpa using hl)
  unfold Rd at this
  rw [List.append_nil, List.nil_append] at this
  exact treeP_of (by unfold lexP; rw [if_neg (by omega), this]; exact rd_end) hps (putL_ok xs 0 t h)
end Go.Proofs.YtfpajgmdejlaeaaGreatDoor
