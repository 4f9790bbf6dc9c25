/-
  The document's pieces (wheelhouseref12): quote, one.
-/
import Derived.Test.YtfpajgmdejlaeaaGreatDoorQLexRB
import Derived.Test.YtfpajgmdejlaeaaGreatDoorQGround2
namespace Go.Proofs.YtfpajgmdejlaeaaGreatDoor
open Go.RowKit

/-- what quote hands back -/
def rqV (n : Nat) (Q : Option (List UInt8 × List UInt8)) : Value := match Q with
  | none => .tuple #[.string ⟨#[]⟩, .int .i64 0, .bool false]
  | some x => .tuple #[.string (str x.1), .int .i64 ((n : Int) - x.2.length), .bool true]

set_option maxRecDepth 100000 in
set_option maxHeartbeats 2000000 in
theorem rquote_any (w : World) (s : ByteArray) (k0 : Nat) (hs : s.size ≤ 1073741820) (hk0 : k0 < s.size) :
    Calls Tryz.prog 138 #[.string s, .int .i64 k0] w fun e w' => e = .returned (rqV s.size (quoteP [] (s.data.toList.drop (k0 + 1)))) ∧ w' = w := by
  have hl : s.data.toList.length = s.size := by simp
  obtain ⟨R, hR⟩ : ∃ R, R = quoteP [] (s.data.toList.drop (k0 + 1)) := ⟨_, rfl⟩
  rw [← hR]
  obtain ⟨V, hV⟩ : ∃ V, V = rqV s.size R := ⟨_, rfl⟩
  rw [← hV]
  have HV := Lib.hid hV
  have HR := Lib.hid hR
  obtain ⟨l, hll⟩ : ∃ l, l = s.data.toList := ⟨_, rfl⟩
  rw [← hll] at hl HR
  have hget : Hid (∀ (k : Nat) c, l[k]? = some c → ∀ h, s[k]'h = c) := Lib.hid (by
    intro k c hc h
    have := (List.getElem?_eq_some_iff.1 (hll ▸ hc)).2
    rw [← this]; rfl)
  have hext : Hid (∀ (k : Nat) c, l[k]? = some c → s.extract k (k + 1) = str [c]) := Lib.hid (by
    intro k c hc; exact ext_one' s k c (hll ▸ hc))
  clear hR hll hV
  go_enter Tryz.func138, Tryz.ntmps138
  go_wp2_with fail
  go_loop [7, 8] (fun u7 u8 => ∃ (k : Nat) (acc : List UInt8), k0 < k ∧ k ≤ s.size ∧ u8 = .int .i64 k ∧ u7 = .string (str acc) ∧ acc.length ≤ k ∧ quoteP acc (l.drop k) = R) (fun _ u8 => s.size - (intOf u8).toNat)
  case atStart => exact ⟨k0 + 1, [], by omega, by omega, by go_num, rfl, by simp, HR.out.symm⟩
  case round =>
    obtain ⟨k, acc, hk1, hk, rfl, rfl, hal, hS⟩ := hrel
    have HS := Lib.hid hS
    have hss : (str acc).size ≤ k := by rw [str_size]; exact hal
    clear hS
    by_cases hp : k < s.size
    · obtain ⟨c, hc⟩ : ∃ c, l[k]? = some c := ⟨_, List.getElem?_eq_getElem (by omega)⟩
      have hsc := hget.out k c hc
      have hex := hext.out k c hc
      have hz1 : (str [c]).size = 1 := rfl
      have hS := HS.out
      rw [drop_at' hc, quoteP_cons] at hS
      have HS2 := Lib.hid hS
      clear hS hc
      by_cases h34 : c.toNat = 34
      · obtain rfl : c = 34 := UInt8.toNat_inj.1 (by simpa using h34)
        have hN : Hid (V = .tuple #[.string (str acc), .int .i64 ((k : Int) + 1), .bool true]) := Lib.hid (by
          have := HS2.out; rw [if_pos (by decide)] at this
          rw [HV.out, ← this]; unfold rqV; simp only [List.length_drop]; rw [show (s.size : Int) - ((l.length - (k + 1) : Nat) : Int) = (k : Int) + 1 by omega])
        clear h34
        go_wp2_with fail
        go_ret3
        exact ⟨by rw [hN.out]; rfl, rfl⟩
      · have b34 : ((c.toNat : Int) == 34) = false := by rw [beq_eq_false_iff_ne]; omega
        by_cases h92 : c.toNat = 92
        · obtain rfl : c = 92 := UInt8.toNat_inj.1 (by simpa using h92)
          by_cases hp2 : k + 1 < s.size
          · obtain ⟨d, hd⟩ : ∃ d, l[k + 1]? = some d := ⟨_, List.getElem?_eq_getElem (by omega)⟩
            have hsd := hget.out (k + 1) d hd
            have hexd := hext.out (k + 1) d hd
            have hzd : (str [d]).size = 1 := rfl
            have hdd := HS2.out
            rw [if_neg h34, if_pos (by decide), drop_at' hd] at hdd
            have HDD := Lib.hid hdd
            clear hdd hd h34 h92 hex
            by_cases he : d.toNat = 34 ∨ d.toNat = 92
            · have HQ2 : Hid (quoteP (acc ++ [d]) (l.drop (k + 2)) = R) := Lib.hid (by have := HDD.out; simp only [if_pos he] at this; exact this)
              rcases he with he | he
              · obtain rfl : d = 34 := UInt8.toNat_inj.1 (by simpa using he)
                clear he
                go_wp2_with fail
                go_round
                case rel => exact ⟨k + 2, acc ++ [34], by omega, by omega, by go_num, congrArg Value.string (ba_ext (by rw [append_str, str_list, str_list, str_list])), by simp; omega, HQ2.out⟩
                case measure => simp [intOf] <;> omega
              · obtain rfl : d = 92 := UInt8.toNat_inj.1 (by simpa using he)
                clear he
                go_wp2_with fail
                go_round
                case rel => exact ⟨k + 2, acc ++ [92], by omega, by omega, by go_num, congrArg Value.string (ba_ext (by rw [append_str, str_list, str_list, str_list])), by simp; omega, HQ2.out⟩
                case measure => simp [intOf] <;> omega
            · have hN : Hid (V = .tuple #[.string ⟨#[]⟩, .int .i64 0, .bool false]) := Lib.hid (by have := HDD.out; simp only [if_neg he] at this; rw [HV.out, ← this]; rfl)
              have e1 : ((d.toNat : Int) != 34) = true := by rw [bne_iff_ne]; omega
              have e2 : ((d.toNat : Int) != 92) = true := by rw [bne_iff_ne]; omega
              clear he
              go_wp2_with fail
              go_ret3
              exact ⟨by rw [hN.out]; rfl, rfl⟩
          · have hN : Hid (V = .tuple #[.string ⟨#[]⟩, .int .i64 0, .bool false]) := Lib.hid (by
              have := HS2.out
              rw [if_neg h34, if_pos (by decide), List.drop_of_length_le (by omega)] at this; rw [HV.out, ← this]; rfl)
            clear h34 h92
            go_wp2_with fail
            go_ret3
            exact ⟨by rw [hN.out]; rfl, rfl⟩
        · have b92 : ((c.toNat : Int) == 92) = false := by rw [beq_eq_false_iff_ne]; omega
          by_cases hbad : c.toNat < 32 ∨ 126 < c.toNat
          · have hN : Hid (V = .tuple #[.string ⟨#[]⟩, .int .i64 0, .bool false]) := Lib.hid (by have := HS2.out; rw [if_neg h34, if_neg h92, if_pos hbad] at this; rw [HV.out, ← this]; rfl)
            clear h34 h92
            rcases hbad with hb | hb
            all_goals
              go_wp2_with fail
              go_ret3
              exact ⟨by rw [hN.out]; rfl, rfl⟩
          · have HQ2 : Hid (quoteP (acc ++ [c]) (l.drop (k + 1)) = R) := Lib.hid (by have := HS2.out; rw [if_neg h34, if_neg h92, if_neg hbad] at this; exact this)
            have hb1 : 32 ≤ c.toNat := by omega
            have hb2 : c.toNat ≤ 126 := by omega
            clear h34 h92 hbad
            go_wp2_with fail
            go_round
            case rel => exact ⟨k + 1, acc ++ [c], by omega, by omega, by go_num, congrArg Value.string (ba_ext (by rw [append_str, str_list, str_list, str_list])), by simp; omega, HQ2.out⟩
            case measure => simp [intOf] <;> omega
    · have hN : Hid (V = .tuple #[.string ⟨#[]⟩, .int .i64 0, .bool false]) := Lib.hid (by have := HS.out; rw [List.drop_of_length_le (by omega), quoteP_nil] at this; rw [HV.out, ← this]; rfl)
      go_wp2_with fail
      go_ret3
      exact ⟨by rw [hN.out]; rfl, rfl⟩

/-- a return of a struct that lies in a block known whole, and of two values more -/
theorem ret_cell_tmp2 {P : Program} {fn : Func} {p u x : Tmp} {ty : TypeId} (h : fn.results = #[.cell p ty, .tmp u, .tmp x]) {a : Act} {w : World} {R : Ending → World → Prop} (g : Nat) (t : TypeId) (cs : Array Value) (d : TypeDesc)
    (hp : a.tmps.getD p undef = .pointer (some ⟨g, 0, none⟩)) (hb : Blk w g t cs) (hu : P.underlying ty = some d) (hd : (match d with | .struct _ | .array _ _ => true | _ => false) = true)
    (hi : (P.info? ty).map (·.size) = some cs.size) (hdf : a.defers = []) (hR : R (.returned (.tuple #[.agg cs, a.tmps.getD u undef, a.tmps.getD x undef])) w) : bodyPost P fn R .ret a w := by
  refine bodyPost_ret (v := .tuple #[.agg cs, a.tmps.getD u undef, a.tmps.getD x undef]) ?_ hdf hR
  have hp' : a.tmps[p]?.getD undef = .pointer (some ⟨g, 0, none⟩) := by simpa using hp
  simp only [results, h]
  simp [Result.andThen, hp', asAddr, run_loadVar_row w g t ty cs (0, 0) d hb hu hd hi]

/-- what one hands back -/
def ROnePost (O : Option (Int × List UInt8 × List UInt8)) (n : Nat) (line : Int) (w : World) (e : Ending) (w' : World) : Prop :=
  Keeps (fun _ => False) w w' ∧
  (∀ k tx rs, O = some (k, tx, rs) → e = .returned (.tuple #[.agg #[.int .i64 k, .string (str tx), .int .i64 line], .int .i64 ((n : Int) - rs.length), .bool true])) ∧
  (O = none → ∃ (a : Int) (b : ByteArray) (c d : Int), e = .returned (.tuple #[.agg #[.int .i64 a, .string b, .int .i64 c], .int .i64 d, .bool false]))

set_option maxRecDepth 100000 in
set_option maxHeartbeats 2000000 in
theorem rone_any (w : World) (s : ByteArray) (k0 : Nat) (line : Int) (hs : s.size ≤ 1073741820) (hk0 : k0 < s.size) :
    Calls Tryz.prog 101 #[.string s, .int .i64 k0, .int .i64 line] w fun e w' => ROnePost (oneP (s.data.toList.drop k0)) s.size line w e w' := by
  have hl : s.data.toList.length = s.size := by simp
  have hrq := fun w => rquote_any w s k0 hs hk0
  obtain ⟨l, hll⟩ : ∃ l, l = s.data.toList := ⟨_, rfl⟩
  rw [← hll] at hl hrq ⊢
  obtain ⟨c, hc⟩ : ∃ c, l[k0]? = some c := ⟨_, List.getElem?_eq_getElem (by omega)⟩
  have hget : ∀ (k : Nat) c, l[k]? = some c → ∀ h, s[k]'h = c := fun k c hc h => by
    have := (List.getElem?_eq_some_iff.1 (hll ▸ hc)).2
    rw [← this]; rfl
  have hext : Hid (∀ k, k0 ≤ k → k ≤ s.size → s.extract k0 k = str ((l.drop k0).take (k - k0))) := Lib.hid (by
    intro k h1 h2; apply ba_ext; rw [hll]; simp [str])
  have hsc := hget k0 c hc
  have HG := Lib.hid hget
  have HRQ := Lib.hid hrq
  obtain ⟨O, hO⟩ : ∃ O, O = oneP (l.drop k0) := ⟨_, rfl⟩
  rw [← hO]
  have hcl := UInt8.toNat_lt c
  clear hll hget hrq
  by_cases h123 : c.toNat = 123
  · obtain rfl : c = 123 := UInt8.toNat_inj.1 (by simpa using h123)
    have HO : Hid (O = some (3, [], l.drop (k0 + 1))) := Lib.hid (by rw [hO, drop_at' hc, oneP_cons, if_pos (by decide)])
    clear h123 hc hO
    go_enter Tryz.func101, Tryz.ntmps101
    go_wp2_with fail
    refine ret_cell_tmp2 rfl w.heap.size 122 _ _ rfl (Blk.new _ _ _) Tryz.underlying122 rfl (by kernel_rfl) rfl ⟨(Keeps.refl _ w).alloc _, ?_, ?_⟩
    · intro k tx rs he
      rw [HO.out] at he
      injection he with he; injection he with h1 he; injection he with h2 h3
      subst h1 h2 h3
      exact congrArg (fun z => Ending.returned (.tuple #[_, .int .i64 z, _])) (by rw [List.length_drop]; omega)
    · intro he; rw [HO.out] at he; cases he
    
  · have b123 : ((c.toNat : Int) == 123) = false := by rw [beq_eq_false_iff_ne]; omega
    by_cases h125 : c.toNat = 125
    · obtain rfl : c = 125 := UInt8.toNat_inj.1 (by simpa using h125)
      have HO : Hid (O = some (4, [], l.drop (k0 + 1))) := Lib.hid (by rw [hO, drop_at' hc, oneP_cons, if_neg h123, if_pos (by decide)])
      clear h125 hc hO h123 b123
      go_enter Tryz.func101, Tryz.ntmps101
      go_wp2_with fail
      refine ret_cell_tmp2 rfl w.heap.size 122 _ _ rfl (Blk.new _ _ _) Tryz.underlying122 rfl (by kernel_rfl) rfl ⟨(Keeps.refl _ w).alloc _, ?_, ?_⟩
      · intro k tx rs he
        rw [HO.out] at he
        injection he with he; injection he with h1 he; injection he with h2 h3
        subst h1 h2 h3
        exact congrArg (fun z => Ending.returned (.tuple #[_, .int .i64 z, _])) (by rw [List.length_drop]; omega)
      · intro he; rw [HO.out] at he; cases he
      
    · have b125 : ((c.toNat : Int) == 125) = false := by rw [beq_eq_false_iff_ne]; omega
      by_cases h59 : c.toNat = 59
      · obtain rfl : c = 59 := UInt8.toNat_inj.1 (by simpa using h59)
        have HO : Hid (O = some (5, [], l.drop (k0 + 1))) := Lib.hid (by rw [hO, drop_at' hc, oneP_cons, if_neg h123, if_neg h125, if_pos (by decide)])
        clear h59 hc hO h123 b123 h125 b125
        go_enter Tryz.func101, Tryz.ntmps101
        go_wp2_with fail
        refine ret_cell_tmp2 rfl w.heap.size 122 _ _ rfl (Blk.new _ _ _) Tryz.underlying122 rfl (by kernel_rfl) rfl ⟨(Keeps.refl _ w).alloc _, ?_, ?_⟩
        · intro k tx rs he
          rw [HO.out] at he
          injection he with he; injection he with h1 he; injection he with h2 h3
          subst h1 h2 h3
          exact congrArg (fun z => Ending.returned (.tuple #[_, .int .i64 z, _])) (by rw [List.length_drop]; omega)
        · intro he; rw [HO.out] at he; cases he
        
      · have b59 : ((c.toNat : Int) == 59) = false := by rw [beq_eq_false_iff_ne]; omega
        by_cases h34 : c.toNat = 34
        · obtain rfl : c = 34 := UInt8.toNat_inj.1 (by simpa using h34)
          cases hQ : quoteP [] (l.drop (k0 + 1)) with
          | none =>
            have HO : Hid (O = none) := Lib.hid (by rw [hO, drop_at' hc, oneP_cons, if_neg h123, if_neg h125, if_neg h59, if_pos (by decide), hQ]; rfl)
            have HV : Hid (∀ w, Calls Tryz.prog 138 #[.string s, .int .i64 k0] w fun e w' => e = .returned (.tuple #[.string ⟨#[]⟩, .int .i64 0, .bool false]) ∧ w' = w) := Lib.hid (fun w => by have := HRQ.out w; rw [hQ] at this; exact this)
            clear h123 b123 h125 b125 h59 b59 h34 hc hO hQ
            go_enter Tryz.func101, Tryz.ntmps101
            go_wp2_with (go_at_call 138; go_must (refine (HV.out _).mono ?_; rintro e w2 ⟨rfl, rfl⟩))
            refine ret_cell_tmp2 rfl _ 122 _ _ rfl (Blk.new _ _ _) Tryz.underlying122 rfl (by kernel_rfl) rfl ⟨(Keeps.refl _ _).alloc _, fun k tx rs he => ?_, fun _ => ⟨_, _, _, _, rfl⟩⟩
            rw [HO.out] at he; cases he
          | some x =>
            have HO : Hid (O = some (2, x.1, x.2)) := Lib.hid (by rw [hO, drop_at' hc, oneP_cons, if_neg h123, if_neg h125, if_neg h59, if_pos (by decide), hQ]; rfl)
            have HV : Hid (∀ w, Calls Tryz.prog 138 #[.string s, .int .i64 k0] w fun e w' => e = .returned (.tuple #[.string (str x.1), .int .i64 ((s.size : Int) - x.2.length), .bool true]) ∧ w' = w) := Lib.hid (fun w => by have := HRQ.out w; rw [hQ] at this; exact this)
            clear h123 b123 h125 b125 h59 b59 h34 hc hO hQ
            go_enter Tryz.func101, Tryz.ntmps101
            go_wp2_with (go_at_call 138; go_must (refine (HV.out _).mono ?_; rintro e w2 ⟨rfl, rfl⟩))
            refine ret_cell_tmp2 rfl _ 122 _ _ rfl (Blk.new _ _ _) Tryz.underlying122 rfl (by kernel_rfl) rfl ⟨(Keeps.refl _ _).alloc _, ?_, ?_⟩
            · intro k tx rs he
              rw [HO.out] at he
              injection he with he; injection he with h1 he; injection he with h2 h3
              subst h1 h2 h3
              exact rfl
            · intro he; rw [HO.out] at he; cases he
        · have b34 : ((c.toNat : Int) == 34) = false := by rw [beq_eq_false_iff_ne]; omega
          have hq := fun w => rplain_any w c.toNat (by omega)
          by_cases hpl : plainB c = true
          · have HO : Hid (O = some (1, (l.drop k0).takeWhile plainB, (l.drop k0).dropWhile plainB)) := Lib.hid (by rw [hO, drop_at' hc, oneP_cons, if_neg h123, if_neg h125, if_neg h59, if_neg h34, if_pos hpl])
            rw [show plainN c.toNat = true from hpl] at hq
            have HQ := Lib.hid hq
            clear h123 h125 h59 h34 hc hO hpl hq
            go_enter Tryz.func101, Tryz.ntmps101
            go_wp2_with (go_at_call 98; go_must (refine (HQ.out _).mono ?_; rintro e w2 ⟨rfl, rfl⟩))
            go_loop [12] (fun u12 => ∃ j : Nat, k0 ≤ j ∧ j ≤ s.size ∧ u12 = .int .i64 j ∧ ∀ d ∈ (l.drop k0).take (j - k0), plainB d = true) (fun u12 => s.size - (intOf u12).toNat)
            case atStart => exact ⟨k0, by omega, by omega, rfl, by simp⟩
            case round =>
              obtain ⟨j, hj1, hj2, rfl, hall⟩ := hrel
              have HA := Lib.hid hall
              clear hall
              have hwt := while_take (l.drop k0) (j - k0) HA.out
              have HWT := Lib.hid hwt
              have hex := hext.out j hj1 hj2
              clear hwt
              by_cases hp : j < s.size
              · obtain ⟨d, hd⟩ : ∃ d, l[j]? = some d := ⟨_, List.getElem?_eq_getElem (by omega)⟩
                have hsd := HG.out j d hd
                have hdj : Hid ((l.drop k0)[j - k0]? = some d) := Lib.hid (by rw [List.getElem?_drop, show k0 + (j - k0) = j by omega]; exact hd)
                have hdl := UInt8.toNat_lt d
                have hq := fun w => rplain_any w d.toNat (by omega)
                clear hd
                by_cases hpl : plainB d = true
                · rw [show plainN d.toNat = true from hpl] at hq
                  have HQ2 := Lib.hid hq
                  have HPL := Lib.hid hpl
                  clear hq hpl hex
                  go_wp2_with (go_at_call 98; go_must (refine (HQ2.out _).mono ?_; rintro e w2 ⟨rfl, rfl⟩))
                  go_round
                  case rel =>
                    refine ⟨j + 1, by omega, by omega, by go_num, ?_⟩
                    intro x hx
                    rw [show j + 1 - k0 = (j - k0) + 1 by omega, List.take_add_one, hdj.out] at hx
                    rcases List.mem_append.1 hx with hx | hx
                    · exact HA.out x hx
                    · rw [Option.toList_some, List.mem_singleton] at hx; subst hx; exact HPL.out
                  case measure => simp [intOf] <;> omega
                · have hpf : plainB d = false := by simpa using hpl
                  have HE := Lib.hid (HWT.out (fun x hx => by rw [hdj.out] at hx; injection hx with hx; subst hx; exact hpf))
                  rw [show plainN d.toNat = false from hpf] at hq
                  have HQ2 := Lib.hid hq
                  clear hq hpl hpf
                  go_wp2_with (go_at_call 98; go_must (refine (HQ2.out _).mono ?_; rintro e w2 ⟨rfl, rfl⟩))
                  refine ret_cell_tmp2 rfl _ 122 _ _ rfl (Blk.new _ _ _) Tryz.underlying122 rfl (by kernel_rfl) rfl ⟨(Keeps.refl _ _).alloc _, ?_, ?_⟩
                  · intro k tx rs he
                    rw [HO.out, HE.out.1, HE.out.2] at he
                    injection he with he; injection he with h1 he; injection he with h2 h3
                    subst h1 h2 h3
                    exact congrArg (fun z => Ending.returned (.tuple #[_, .int .i64 z, _])) (by rw [List.length_drop, List.length_drop]; omega)
                  · intro he; rw [HO.out] at he; cases he
              · have HE := Lib.hid (HWT.out (fun x hx => by have := (List.getElem?_eq_some_iff.1 hx).1; rw [List.length_drop] at this; omega))
                go_wp2_with fail
                refine ret_cell_tmp2 rfl _ 122 _ _ rfl (Blk.new _ _ _) Tryz.underlying122 rfl (by kernel_rfl) rfl ⟨(Keeps.refl _ _).alloc _, ?_, ?_⟩
                · intro k tx rs he
                  rw [HO.out, HE.out.1, HE.out.2] at he
                  injection he with he; injection he with h1 he; injection he with h2 h3
                  subst h1 h2 h3
                  exact congrArg (fun z => Ending.returned (.tuple #[_, .int .i64 z, _])) (by rw [List.length_drop, List.length_drop]; omega)
                · intro he; rw [HO.out] at he; cases he
          · have hpf : plainB c = false := by simpa using hpl
            have HO : Hid (O = none) := Lib.hid (by rw [hO, drop_at' hc, oneP_cons, if_neg h123, if_neg h125, if_neg h59, if_neg h34, if_neg hpl])
            rw [show plainN c.toNat = false from hpf] at hq
            have HQ := Lib.hid hq
            clear h123 h125 h59 h34 hc hO hpl hpf hq
            go_enter Tryz.func101, Tryz.ntmps101
            go_wp2_with (go_at_call 98; go_must (refine (HQ.out _).mono ?_; rintro e w2 ⟨rfl, rfl⟩))
            refine ret_cell_tmp2 rfl _ 122 _ _ rfl (Blk.new _ _ _) Tryz.underlying122 rfl (by kernel_rfl) rfl ⟨(Keeps.refl _ _).alloc _, fun k tx rs he => ?_, fun _ => ⟨_, _, _, _, rfl⟩⟩
            rw [HO.out] at he; cases he
end Go.Proofs.YtfpajgmdejlaeaaGreatDoor
