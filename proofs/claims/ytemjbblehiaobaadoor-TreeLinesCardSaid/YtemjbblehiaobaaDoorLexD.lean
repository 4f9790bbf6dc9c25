/-
  lex's reader: a piece; all pieces of a text.
-/
import Derived.Test.YtemjbblehiaobaaDoorLexC
import Derived.Test.YtemjbblehiaobaaDoorErr0
namespace Go.Proofs.YtemjbblehiaobaaDoor
open Go.RowKit

theorem oneP_cons (c : UInt8) (t : List UInt8) : oneP (c :: t) = if c.toNat = 123 then some (3, [], t) else if c.toNat = 125 then some (4, [], t) else if c.toNat = 59 then some (5, [], t)
    else if c.toNat = 34 then (quoteP [] t).map fun x => (2, x.1, x.2)
    else if plainB c then some (1, (c :: t).takeWhile plainB, (c :: t).dropWhile plainB) else none := rfl

set_option maxRecDepth 100000 in
set_option maxHeartbeats 1000000 in
theorem one_rd (w : World) (g : Nat) (c : UInt8) (t : List UInt8) (line : Int) (v : Value) (xs : List Pc) (h : IsReader w g (c :: t) line v xs) (hr : t.length ≤ 1073741820) (hx : xs.length ≤ 1073741824) :
    Calls Tryd.prog 24 #[.pointer (some ⟨g, 0, none⟩)] w fun e w' => RdPost (oneP (c :: t)) w g (c :: t) line v xs e w' := by
  have H := Lib.hid h
  obtain ⟨c0, c1, c2⟩ := h.1.cells3
  have hat := str_at c t
  have hsz : (str (c :: t)).size = t.length + 1 := rfl
  have hcl := UInt8.toNat_lt c
  clear h
  by_cases h123 : c.toNat = 123
  · obtain rfl : c = 123 := UInt8.toNat_inj.1 (by simpa using h123)
    have hO : Hid (oneP (123 :: t) = some (3, [], t)) := Lib.hid (by rw [oneP_cons, if_pos (by decide)])
    have hput := Lib.hid (rdput_any w g _ line v xs H 3 (str []) 1 (by omega) (by simp only [List.length_cons]; omega) hx)
    clear h123
    go_enter Tryd.func24, Tryd.ntmps24
    go_wp2_with fail
    refine hput.out.mono ?_
    rintro e w2 ⟨rfl, hI, k2⟩
    have HI := Lib.hid hI
    clear hI
    go_wp2_with fail
    go_ret
    refine ⟨fun k tx rs he => ?_, fun he => ?_, k2⟩
    · rw [hO.out] at he
      injection he with he; injection he with h1 he; injection he with h2 h3
      subst h1 h2 h3
      exact ⟨rfl, HI.out⟩
    · rw [hO.out] at he; cases he
  · have b123 : ((c.toNat : Int) == 123) = false := by rw [beq_eq_false_iff_ne]; omega
    by_cases h125 : c.toNat = 125
    · obtain rfl : c = 125 := UInt8.toNat_inj.1 (by simpa using h125)
      have hO : Hid (oneP (125 :: t) = some (4, [], t)) := Lib.hid (by rw [oneP_cons, if_neg (by decide), if_pos (by decide)])
      have hput := Lib.hid (rdput_any w g _ line v xs H 4 (str []) 1 (by omega) (by simp only [List.length_cons]; omega) hx)
      clear h125 h123 b123
      go_enter Tryd.func24, Tryd.ntmps24
      go_wp2_with fail
      refine hput.out.mono ?_
      rintro e w2 ⟨rfl, hI, k2⟩
      have HI := Lib.hid hI
      clear hI
      go_wp2_with fail
      go_ret
      refine ⟨fun k tx rs he => ?_, fun he => ?_, k2⟩
      · rw [hO.out] at he
        injection he with he; injection he with h1 he; injection he with h2 h3
        subst h1 h2 h3
        exact ⟨rfl, HI.out⟩
      · rw [hO.out] at he; cases he
    · have b125 : ((c.toNat : Int) == 125) = false := by rw [beq_eq_false_iff_ne]; omega
      by_cases h59 : c.toNat = 59
      · obtain rfl : c = 59 := UInt8.toNat_inj.1 (by simpa using h59)
        have hO : Hid (oneP (59 :: t) = some (5, [], t)) := Lib.hid (by rw [oneP_cons, if_neg (by decide), if_neg (by decide), if_pos (by decide)])
        have hput := Lib.hid (rdput_any w g _ line v xs H 5 (str []) 1 (by omega) (by simp only [List.length_cons]; omega) hx)
        clear h125 h123 h59 b123 b125
        go_enter Tryd.func24, Tryd.ntmps24
        go_wp2_with fail
        refine hput.out.mono ?_
        rintro e w2 ⟨rfl, hI, k2⟩
        have HI := Lib.hid hI
        clear hI
        go_wp2_with fail
        go_ret
        refine ⟨fun k tx rs he => ?_, fun he => ?_, k2⟩
        · rw [hO.out] at he
          injection he with he; injection he with h1 he; injection he with h2 h3
          subst h1 h2 h3
          exact ⟨rfl, HI.out⟩
        · rw [hO.out] at he; cases he
      · have b59 : ((c.toNat : Int) == 59) = false := by rw [beq_eq_false_iff_ne]; omega
        by_cases h34 : c.toNat = 34
        · obtain rfl : c = 34 := UInt8.toNat_inj.1 (by simpa using h34)
          have hO : Hid (oneP (34 :: t) = (quoteP [] t).map fun x => (2, x.1, x.2)) := Lib.hid (by rw [oneP_cons, if_neg (by decide), if_neg (by decide), if_neg (by decide), if_pos (by decide)])
          have hq := Lib.hid (quote_rd w g t line v xs H (by omega) hx)
          clear h125 h123 h59 h34 b123 b125 b59
          go_enter Tryd.func24, Tryd.ntmps24
          go_wp2_with fail
          refine hq.out.mono ?_
          rintro e w2 hp
          have HP := Lib.hid hp
          obtain ⟨p1, p2, p3⟩ := hp
          cases hQ : quoteP [] t with
          | none =>
            obtain ⟨rfl, hI⟩ := p2 (by rw [hQ]; rfl)
            clear p1 p2 hI
            go_wp2_with fail
            go_ret
            rw [hO.out]; exact HP
          | some x =>
            obtain ⟨rfl, hI⟩ := p1 2 x.1 x.2 (by rw [hQ]; rfl)
            clear p1 p2 hI
            go_wp2_with fail
            go_ret
            rw [hO.out]; exact HP
        · have b34 : ((c.toNat : Int) == 34) = false := by rw [beq_eq_false_iff_ne]; omega
          have hq := fun w => plain_any w c.toNat (by omega)
          by_cases hpl : plainB c = true
          · have hO : Hid (oneP (c :: t) = some (1, (c :: t).takeWhile plainB, (c :: t).dropWhile plainB)) := Lib.hid (by rw [oneP_cons, if_neg h123, if_neg h125, if_neg h59, if_neg h34, if_pos hpl])
            rw [show plainN c.toNat = true from hpl] at hq
            have HQ := Lib.hid hq
            have hw := Lib.hid (word_rd w g _ line v xs H (by simp; omega) hx)
            clear h125 h123 h59 h34 hq hpl
            go_enter Tryd.func24, Tryd.ntmps24
            go_wp2_with (go_at_call 37; go_must (refine (HQ.out _).mono ?_; rintro e w2 ⟨rfl, rfl⟩))
            refine hw.out.mono ?_
            rintro e w3 ⟨rfl, hI, k3⟩
            have HI := Lib.hid hI
            clear hI
            go_wp2_with fail
            go_ret
            refine ⟨fun k tx rs he => ?_, fun he => ?_, k3⟩
            · rw [hO.out] at he
              injection he with he; injection he with h1 he; injection he with h2 h3
              subst h1 h2 h3
              exact ⟨rfl, HI.out⟩
            · rw [hO.out] at he; cases he
          · have hpf : plainB c = false := by simpa using hpl
            have hO : Hid (oneP (c :: t) = none) := Lib.hid (by rw [oneP_cons, if_neg h123, if_neg h125, if_neg h59, if_neg h34, if_neg hpl])
            rw [show plainN c.toNat = false from hpf] at hq
            have HQ := Lib.hid hq
            clear h125 h123 h59 h34 hq hpl hpf
            go_enter Tryd.func24, Tryd.ntmps24
            go_wp2_with (go_at_call 37; go_must (refine (HQ.out _).mono ?_; rintro e w2 ⟨rfl, rfl⟩))
            go_ret
            refine ⟨fun k tx rs he => ?_, fun _ => ⟨rfl, H⟩, Keeps.refl _ _⟩
            rw [hO.out] at he; cases he

theorem readP_fuel : ∀ (n f : Nat) (ln : Int) (l : List UInt8) (out : List Pc), l.length ≤ n → l.length + 1 ≤ f → readP f ln l out = readP (l.length + 1) ln l out := by
  intro n
  induction n with
  | zero =>
    intro f ln l out hn hf
    obtain rfl : l = [] := List.eq_nil_of_length_eq_zero (by omega)
    obtain ⟨f, rfl⟩ : ∃ q, f = q + 1 := ⟨f - 1, by omega⟩
    simp [readP, skipP]
  | succ n ih =>
    intro f ln l out hn hf
    obtain ⟨f, rfl⟩ : ∃ q, f = q + 1 := ⟨f - 1, by omega⟩
    rw [readP, readP]
    obtain ⟨a, b⟩ : ∃ q, q = skipP false ln l := ⟨_, rfl⟩
    rw [← b]
    have hlen := skipP_len l false ln
    rw [← b] at hlen
    simp only []
    split
    · rfl
    · split
      · rfl
      · split
        · rfl
        · rename_i k t r h1
          have := (oneP_len _ k t r h1).1
          rw [ih f _ r _ (by omega) (by omega), ih l.length _ r _ (by omega) (by omega)]

/-- what Read hands back -/
def LexPost (O : (Int × Int) ⊕ List Pc) (w : World) (e : Ending) (w' : World) : Prop :=
  (∀ xs, O = .inr xs → ∃ v, e = .returned (.tuple #[v, .nilIface]) ∧ OwnS pcR 3 w' w.heap.size 91 v xs) ∧
  (∀ c n, O = .inl (c, n) → ∃ v, e = .returned (.tuple #[.slice none 0 0, v]) ∧ Chain w' [(n, ⟨#[116, 101, 120, 116]⟩)] c v) ∧ Keeps (fun _ => False) w w'

theorem readP_step (ln : Int) (l : List UInt8) (out : List Pc) (ln2 : Int) (l2 : List UInt8) (h : skipP false ln l = (ln2, l2)) :
    readP (l.length + 1) ln l out = if l2 = [] then .inr out else if out.length = 8192 then .inl (15, ln2) else match oneP l2 with
      | none => .inl (3, ln2)
      | some (k, t, r) => readP (r.length + 1) ln2 r (out ++ [⟨k, str t, ln2⟩]) := by
  rw [readP, h]
  simp only []
  split
  · rfl
  · split
    · rfl
    · cases hq : oneP l2 with
      | none => rfl
      | some x =>
        obtain ⟨k, t, r⟩ := x
        have h2 := (oneP_len _ k t r hq).1
        have h3 := skipP_len l false ln
        rw [h] at h3
        exact readP_fuel l.length l.length ln2 r _ (by simp only [] at h3; omega) (by simp only [] at h3; omega)

set_option maxRecDepth 100000 in
set_option maxHeartbeats 2000000 in
theorem lread_any (w : World) (s : ByteArray) (hs : s.size ≤ 1073741820) :
    Calls Tryd.prog 11 #[.string s] w fun e w' => LexPost (lexP s.data.toList) w e w' := by
  have hl : s.data.toList.length = s.size := by simp
  by_cases hbig : 65536 < s.size
  · have hO : Hid (lexP s.data.toList = .inl (5, 0)) := Lib.hid (by unfold lexP; rw [if_pos (by omega)])
    go_enter Tryd.func11, Tryd.ntmps11
    go_wp2_with fail
    refine (new_flt w 5 0 _ (by decide)).mono ?_
    rintro e w2 ⟨rfl, hw2⟩
    have hch : Chain w2 [(0, ⟨#[116, 101, 120, 116]⟩)] 5 (.iface tPFault (.pointer (some ⟨w.heap.size, 0, none⟩))) := .layer _ _ _ _ _ _ (by rw [hw2]; exact Blk.new _ _ _) (.kind _)
    have hk : Keeps (fun _ => False) w w2 := by rw [hw2]; exact (Keeps.refl _ _).alloc _
    have HCH := Lib.hid hch
    clear hw2 hch
    go_wp2_with fail
    go_ret2
    refine ⟨fun xs he => ?_, fun c n he => ?_, hk⟩
    · rw [hO.out] at he; cases he
    · rw [hO.out] at he; injection he with he; injection he with h1 h2; subst h1 h2; exact ⟨_, rfl, HCH.out⟩
  · obtain ⟨rest, hrest⟩ : ∃ rest, rest = s.data.toList := ⟨_, rfl⟩
    have hse : s = str rest := by rw [hrest]; exact (str_of s).symm
    have hrl : rest.length = s.size := by rw [hrest]; exact hl
    obtain ⟨O, hO⟩ : ∃ O, O = lexP s.data.toList := ⟨_, rfl⟩
    rw [← hO]
    have hO2 : readP (rest.length + 1) 1 rest [] = O := by rw [hO, hrest]; unfold lexP; rw [if_neg (by omega)]
    have hb : Blk (w.alloc (.cells #[.string s, .int .i64 1, .slice none 0 0] 66)) w.heap.size 66 #[.string (str rest), .int .i64 1, .slice none 0 0] := by rw [← hse]; exact Blk.new _ _ _
    have HR0 : Hid (IsReader (w.alloc (.cells #[.string s, .int .i64 1, .slice none 0 0] 66)) w.heap.size rest 1 (.slice none 0 0) []) := Lib.hid ⟨hb, OwnS.none_⟩
    have HO := Lib.hid hO2
    have hrl2 : rest.length ≤ 65536 := by omega
    have hk0 : Keeps (fun _ => False) w (w.alloc (.cells #[.string s, .int .i64 1, .slice none 0 0] 66)) := (Keeps.refl _ w).alloc _
    clear hO hO2 hb hse hrl hrest
    go_enter Tryd.func11, Tryd.ntmps11
    go_wp2_with fail
    go_loopg [12] rest.length (fun k _ wr => ∃ (ln : Int) (rs : List UInt8) (v : Value) (xs : List Pc), k = rs.length ∧ rs.length ≤ rest.length ∧ 1 ≤ ln ∧ ln + rs.length ≤ 1 + rest.length ∧ xs.length + rs.length ≤ rest.length ∧ readP (rs.length + 1) ln rs xs = O ∧ IsReader wr w.heap.size rs ln v xs ∧ Keeps (fun _ => False) w wr)
    case atStart => exact ⟨1, rest, _, [], rfl, by omega, by omega, by omega, by simp, HO.out, HR0.out, hk0⟩
    case round =>
      obtain ⟨ln, rs, v, xs, rfl, hrs, hln1, hln2, hxs, hRD, hI, hK⟩ := hrel
      have HRD := Lib.hid hRD
      have HSK := Lib.hid (skip_any wr w.heap.size rs ln v xs hI (by omega) (by omega) (by omega))
      clear hRD hI
      go_wp2_with fail
      refine HSK.out.mono ?_
      rintro e w2 ⟨rfl, hI2, k2⟩
      obtain ⟨ln2, l2, hsk⟩ : ∃ ln2 l2, skipP false ln rs = (ln2, l2) := ⟨_, _, rfl⟩
      rw [hsk] at hI2
      have hstep := readP_step ln rs xs ln2 l2 hsk
      rw [HRD.out] at hstep
      have hl2 := skipP_len rs false ln
      have hli := skipP_line rs false ln
      rw [hsk] at hl2 hli
      simp only [] at hl2 hli hI2
      have HST := Lib.hid hstep
      have HI2 := Lib.hid hI2
      obtain ⟨c0, c1, c2⟩ := hI2.1.cells3
      obtain ⟨av, cv, rfl⟩ := OwnS.sl hI2.2
      have kk2 : Keeps (fun _ => False) w w2 := hK.and_ k2 (fun i hi e => by omega)
      clear hsk hstep hI2
      cases l2 with
      | nil =>
        have hnil := str_nil
        have hOr : Hid (O = .inr xs) := Lib.hid (by have := HST.out; rw [if_pos rfl] at this; exact this)
        go_wp2_with fail
        go_ret2
        refine ⟨fun xs' he => ?_, fun c n he => ?_, kk2⟩
        · rw [hOr.out] at he; injection he with he; subst he
          exact ⟨_, rfl, HI2.out.2.moreS (by omega)⟩
        · rw [hOr.out] at he; cases he
      | cons c t =>
        have hne : (str (c :: t)).toList.isEmpty = false := str_ne
        simp only [List.length_cons] at hl2 hli
        by_cases h8 : xs.length = 8192
        · have hOr : Hid (O = .inl (15, ln2)) := Lib.hid (by have := HST.out; rw [if_neg (by simp), if_pos h8] at this; exact this)
          rw [h8] at c2
          clear h8
          go_wp2_with fail
          refine (new_flt w2 15 ln2 _ (by decide)).mono ?_
          rintro e w3 ⟨rfl, hw3⟩
          have hch : Chain w3 [(ln2, ⟨#[116, 101, 120, 116]⟩)] 15 (.iface tPFault (.pointer (some ⟨w2.heap.size, 0, none⟩))) := .layer _ _ _ _ _ _ (by rw [hw3]; exact Blk.new _ _ _) (.kind _)
          have hk : Keeps (fun _ => False) w2 w3 := by rw [hw3]; exact (Keeps.refl _ _).alloc _
          have HCH := Lib.hid hch
          clear hw3 hch
          go_wp2_with fail
          go_ret2
          refine ⟨fun xs he => ?_, fun c n he => ?_, kk2.trans hk⟩
          · rw [hOr.out] at he; cases he
          · rw [hOr.out] at he; injection he with he; injection he with h1 h2; subst h1 h2; exact ⟨_, rfl, HCH.out⟩
        · have h8' : ((xs.length : Int) == 8192) = false := by rw [beq_eq_false_iff_ne]; omega
          have hst2 := HST.out
          rw [if_neg (by simp), if_neg h8] at hst2
          have HST2 := Lib.hid hst2
          have HON := Lib.hid (one_rd w2 w.heap.size c t ln2 _ xs HI2 (by omega) (by omega))
          clear h8 hst2
          go_wp2_with fail
          refine HON.out.mono ?_
          rintro e w3 ⟨p1, p2, p3⟩
          have kk3 : Keeps (fun _ => False) w w3 := kk2.and_ p3 (fun i hi h => by omega)
          cases hO1 : oneP (c :: t) with
          | none =>
            obtain ⟨rfl, hI3⟩ := p2 hO1
            have hOr : Hid (O = .inl (3, ln2)) := Lib.hid (by have := HST2.out; rw [hO1] at this; exact this)
            obtain ⟨d0, d1, d2⟩ := hI3.1.cells3
            clear p1 p2 p3 hI3 hO1 c0 c1 c2
            go_wp2_with fail
            refine (new_flt w3 3 ln2 _ (by decide)).mono ?_
            rintro e w4 ⟨rfl, hw4⟩
            have hch : Chain w4 [(ln2, ⟨#[116, 101, 120, 116]⟩)] 3 (.iface tPFault (.pointer (some ⟨w3.heap.size, 0, none⟩))) := .layer _ _ _ _ _ _ (by rw [hw4]; exact Blk.new _ _ _) (.kind _)
            have hk : Keeps (fun _ => False) w3 w4 := by rw [hw4]; exact (Keeps.refl _ _).alloc _
            have HCH := Lib.hid hch
            clear hw4 hch
            go_wp2_with fail
            go_ret2
            refine ⟨fun xs he => ?_, fun c n he => ?_, kk3.trans hk⟩
            · rw [hOr.out] at he; cases he
            · rw [hOr.out] at he; injection he with he; injection he with h1 h2; subst h1 h2; exact ⟨_, rfl, HCH.out⟩
          | some x =>
            obtain ⟨k, tx, r⟩ := x
            obtain ⟨rfl, v3, hI3⟩ := p1 k tx r hO1
            have hrl := (oneP_len _ k tx r hO1).1
            rw [List.length_cons] at hrl
            have HN : Hid (readP (r.length + 1) ln2 r (xs ++ [⟨k, str tx, ln2⟩]) = O) := Lib.hid (by have := HST2.out; rw [hO1] at this; exact this.symm)
            have HI3 := Lib.hid hI3
            clear p1 p2 p3 hI3 hO1 c0 c1 c2
            go_wp2_with fail
            go_roundg r.length
            case measure => omega
            case rel => exact ⟨ln2, r, v3, _, rfl, by omega, by omega, by omega, by simp; omega, HN.out, HI3.out, kk3⟩
end Go.Proofs.YtemjbblehiaobaaDoor
