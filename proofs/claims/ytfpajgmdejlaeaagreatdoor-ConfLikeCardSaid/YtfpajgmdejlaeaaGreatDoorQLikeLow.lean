/-
  Texts of this claim, joined.
-/
import Derived.Test.YtfpajgmdejlaeaaGreatDoorQConfFm
import Derived.Test.YtfpajgmdejlaeaaGreatDoorQGround1
import Derived.Test.YtfpajgmdejlaeaaGreatDoorQLexRA
import Derived.Test.YtfpajgmdejlaeaaGreatDoorQRegs
import Derived.Test.YtfpajgmdejlaeaaGreatDoorQConfBack
import Derived.Test.YtfpajgmdejlaeaaGreatDoorQGround3
import Derived.Test.YtfpajgmdejlaeaaGreatDoorQGround2
/-
  A console that is like another one: its statement behind a printed configuration, plainly. No program in sight.
-/
namespace Go.Proofs.YtfpajgmdejlaeaaGreatDoor
open Go.RowKit

def kZz : ByteArray := ⟨#[122, 122]⟩
/-- the statement's text -/
def likeT (name : List UInt8) (n : Int) : List UInt8 :=
  [99, 111, 110, 115, 111, 108, 101] ++ 32 :: ([122, 122] ++ 32 :: 123 :: 32 :: ([108, 105, 107, 101] ++ 32 :: (name ++ 59 :: 32 :: ([108, 105, 110, 101, 115] ++ 32 :: (dec n ++ 59 :: 32 :: [125])))))
theorem rd_word {t : List UInt8} {g : UInt8} {more : List UInt8} {out : List Pc} (ln : Int) (h : wordyP t = true) (hg : plainB g = false) (ho : out.length < 8192) : Rd ln (t ++ g :: more) out ln (g :: more) (out ++ [⟨1, str t, ln⟩]) :=
  rd_piece ln (by unfold putP_lexm; rw [if_pos rfl, if_pos h]) hg ho
theorem rd_last (ln : Int) (out : List Pc) (ho : out.length < 8192) : Rd ln [125] out ln [] (out ++ [⟨4, ⟨#[]⟩, ln⟩]) := by
  unfold Rd
  have hs : skipP false ln [125] = (ln, [125]) := by kernel_rfl
  rw [readP_step ln [125] out ln [125] (by rw [skipP_cons, if_neg (by decide), if_neg (by decide), if_neg (by decide)]), if_neg (by simp), if_neg (by omega)]
  rfl
theorem rd_like (name : List UInt8) (n ln : Int) (out : List Pc) (hname : wordyP name = true) (hn : wordyP (dec n) = true) (ho : out.length + 20 ≤ 8192) :
    Rd ln (likeT name n) out ln [] (out ++ [⟨1, kConsole, ln⟩, ⟨1, kZz, ln⟩, ⟨3, ⟨#[]⟩, ln⟩, ⟨1, kLike, ln⟩, ⟨1, str name, ln⟩, ⟨5, ⟨#[]⟩, ln⟩, ⟨1, kLines, ln⟩, ⟨1, digS n, ln⟩, ⟨5, ⟨#[]⟩, ln⟩, ⟨4, ⟨#[]⟩, ln⟩]) := by
  unfold likeT
  have L : ∀ (o : List Pc) (p : Pc), (o ++ [p]).length = o.length + 1 := fun o p => by rw [List.length_append]; rfl
  refine (rd_word (t := [99, 111, 110, 115, 111, 108, 101]) ln (by kernel_rfl) (by decide) (by omega)).trans ?_
  refine (rd_blank ln _ _).trans ?_
  refine (rd_word (t := [122, 122]) ln (by kernel_rfl) (by decide) (by rw [L]; omega)).trans ?_
  refine (rd_blank ln _ _).trans ?_
  refine (rd_punct 3 123 put3 ln _ _ (by rw [L, L]; omega) ⟨32, _, rfl, by decide⟩).trans ?_
  refine (rd_blank ln _ _).trans ?_
  refine (rd_word (t := [108, 105, 107, 101]) ln (by kernel_rfl) (by decide) (by rw [L, L, L]; omega)).trans ?_
  refine (rd_blank ln _ _).trans ?_
  refine (rd_word ln hname (by decide) (by rw [L, L, L, L]; omega)).trans ?_
  refine (rd_punct 5 59 put5 ln _ _ (by rw [L, L, L, L, L]; omega) ⟨32, _, rfl, by decide⟩).trans ?_
  refine (rd_blank ln _ _).trans ?_
  refine (rd_word (t := [108, 105, 110, 101, 115]) ln (by kernel_rfl) (by decide) (by rw [L, L, L, L, L, L]; omega)).trans ?_
  refine (rd_blank ln _ _).trans ?_
  refine (rd_word ln hn (by decide) (by rw [L, L, L, L, L, L, L]; omega)).trans ?_
  refine (rd_punct 5 59 put5 ln _ _ (by rw [L, L, L, L, L, L, L, L]; omega) ⟨32, _, rfl, by decide⟩).trans ?_
  refine (rd_blank ln _ _).trans ?_
  have h := rd_last ln (out ++ [⟨1, str [99, 111, 110, 115, 111, 108, 101], ln⟩] ++ [⟨1, str [122, 122], ln⟩] ++ [⟨3, ⟨#[]⟩, ln⟩] ++ [⟨1, str [108, 105, 107, 101], ln⟩] ++ [⟨1, str name, ln⟩] ++ [⟨5, ⟨#[]⟩, ln⟩] ++ [⟨1, str [108, 105, 110, 101, 115], ln⟩] ++ [⟨1, str (dec n), ln⟩] ++ [⟨5, ⟨#[]⟩, ln⟩]) (by rw [L, L, L, L, L, L, L, L, L]; omega)
  have e : out ++ [⟨1, str [99, 111, 110, 115, 111, 108, 101], ln⟩] ++ [⟨1, str [122, 122], ln⟩] ++ [⟨3, ⟨#[]⟩, ln⟩] ++ [⟨1, str [108, 105, 107, 101], ln⟩] ++ [⟨1, str name, ln⟩] ++ [⟨5, ⟨#[]⟩, ln⟩] ++ [⟨1, str [108, 105, 110, 101, 115], ln⟩] ++ [⟨1, str (dec n), ln⟩] ++ [⟨5, ⟨#[]⟩, ln⟩] ++ [⟨4, ⟨#[]⟩, ln⟩] = out ++ [⟨1, kConsole, ln⟩, ⟨1, kZz, ln⟩, ⟨3, ⟨#[]⟩, ln⟩, ⟨1, kLike, ln⟩, ⟨1, str name, ln⟩, ⟨5, ⟨#[]⟩, ln⟩, ⟨1, kLines, ln⟩, ⟨1, digS n, ln⟩, ⟨5, ⟨#[]⟩, ln⟩, (⟨4, ⟨#[]⟩, ln⟩ : Pc)] := by
    simp [List.append_assoc]
    exact ⟨rfl, rfl, rfl, rfl, rfl⟩
  rw [← e]
  exact h
def zzN (name : ByteArray) (n : Int) : Nd := .mk kConsole [kZz] true [oneN kLike [name], oneN kLines [digS n]] 0
/-- a console alone -/
def cf1 (x : Con) : Cf := ⟨[x], [], [], [], List.replicate 10 ⟨#[]⟩⟩
theorem like_stmt {x : Con} {n : Int} (hz : x.name ≠ kZz) (h1 : 1 ≤ n) (h2 : n ≤ 1024) : stmtS (cf1 x) usual0 (zzN x.name n) = .inr ({ cf1 x with cons := [x, { x with name := kZz, lines := n }] }, usual0) := by
  unfold stmtS
  rw [if_pos (show keyN (zzN x.name n) = kConsole from rfl), if_pos (by rfl)]
  simp only [show argN (zzN x.name n) 0 = kZz from rfl, show subN (zzN x.name n) = [oneN kLike [x.name], oneN kLines [digS n]] from rfl]
  have hf : findC (cf1 x).cons kZz = none := findC_none (by simp [cf1]; exact fun e => hz e.symm)
  have hg : findC (cf1 x).cons x.name = some 0 := by unfold findC cf1; rw [idx, if_pos (by simp)]
  rw [hf]
  simp only [Option.isSome_none]
  rw [fresh_ok (by kernel_rfl) (by show 1 < 4096; omega), if_neg (by simp)]
  rw [setsS, setS_word_x _ _ _ (.inr (.inr rfl))]
  unfold wordS
  rw [if_pos (by rfl), if_neg (show ¬ keyN (oneN kLike [x.name]) = kKind by show ¬ kLike = kKind; decide), if_neg (show ¬ keyN (oneN kLike [x.name]) = kInit by show ¬ kLike = kInit; decide)]
  simp only [show argN (oneN kLike [x.name]) 0 = x.name from rfl, hg]
  rw [setsS, setS_lines_x _ _ _ rfl, oneS_dig _ (by omega) h1 h2 (by omega)]
  rfl
/-- .. is read behind what was printed -/
theorem like_load {x : Con} {n : Int} (h : isC (cf1 x) = true) (hz : x.name ≠ kZz) (h1 : 1 ≤ n) (h2 : n ≤ 1024) : CfG (cf1 x) ∧ loadS (printC (cf1 x) ++ likeT x.name.data.toList n) = .inr { cf1 x with cons := [x, { x with name := kZz, lines := n }] } := by
  have hl : loadS (printC (cf1 x)) = .inr (cf1 x) := by
    unfold isC at h
    cases hq : loadS (printC (cf1 x)) with
    | inl e => rw [hq] at h; cases h
    | inr d => rw [hq] at h; rw [sameC_iff.1 h]
  have hg := load_good hl
  refine ⟨hg, ?_⟩
  obtain ⟨t, ht⟩ := ok_putL _ _ (ok_nodes hg)
  have hpt : printC (cf1 x) = t := by unfold printC; rw [ht]; rfl
  rw [hpt]
  obtain ⟨hxi, hxs⟩ := hg.cons x (by simp [cf1])
  obtain ⟨ln, ps, hps, hrd⟩ := rd_list _ _ _ ht 1
  have hkl : ps.length = 27 := by
    have e : (ktL (nodesC (cf1 x))).length = 27 := by
      have := kl_told x
      unfold kl at this
      exact this
    rw [← e, ← hps, List.length_map]
  have hc := hg.fine.cost
  have hnb := is_size hxi
  have htl : t.length ≤ 60000 := by
    have h3 := putL_cost _ _ _ ht
    have h4 := cost_conf (c := cf1 x) (M := 255) (N := 0) (by omega) (fun y hy => by
      obtain rfl : y = x := by simpa [cf1] using hy
      exact ⟨by omega, brk_size hxs.init, (hg.short.cons y hy).2.2⟩) (fun y hy => by simp [cf1] at hy) (fun y hy => by simp [cf1] at hy) (fun y hy => by simp [cf1] at hy) ⟨by simp [cf1], fun s hs => by
      obtain ⟨-, rfl⟩ := List.mem_replicate.1 hs; decide⟩
    have e1 : (cf1 x).cons.length = 1 := rfl
    have e2 : (cf1 x).grps.length = 0 := rfl
    have e3 : (cf1 x).usrs.length = 0 := rfl
    have e4 : (cf1 x).accs.length = 0 := rfl
    rw [e1, e2, e3, e4] at h4
    omega
  have hdl : (dec n).length ≤ 20 := dec_le (by omega) (by omega)
  have hll : (likeT x.name.data.toList n).length ≤ 200 := by
    unfold likeT
    have : x.name.data.toList.length = x.name.size := by simp
    simp only [List.length_append, List.length_cons, List.length_nil]
    omega
  have hdw : wordyP (dec n) = true := by have := dig_wordy (n := n) (by omega); unfold digS at this; rwa [str_list] at this
  have hr := (hrd (likeT x.name.data.toList n) [] (by simp; omega)).trans (rd_like x.name.data.toList n ln ([] ++ ps) (is_wordy hxi).1 hdw (by simp; omega))
  unfold Rd at hr
  rw [List.nil_append] at hr
  have hlex : lexP (t ++ likeT x.name.data.toList n) = .inr (ps ++ [⟨1, kConsole, ln⟩, ⟨1, kZz, ln⟩, ⟨3, ⟨#[]⟩, ln⟩, ⟨1, kLike, ln⟩, ⟨1, str x.name.data.toList, ln⟩, ⟨5, ⟨#[]⟩, ln⟩, ⟨1, kLines, ln⟩, ⟨1, digS n, ln⟩, ⟨5, ⟨#[]⟩, ln⟩, ⟨4, ⟨#[]⟩, ln⟩]) := by
    unfold lexP
    rw [if_neg (by rw [List.length_append]; omega), hr]
    exact rd_end
  have ka1 : kA kZz = 1 := by kernel_rfl
  have ka2 : kA x.name = 1 := by unfold kA; rw [if_pos (is_wordy hxi).1]
  have ka3 : kA (digS n) = 1 := by unfold kA; rw [if_pos (dig_wordy (by omega))]
  have hkt : (ps ++ [⟨1, kConsole, ln⟩, ⟨1, kZz, ln⟩, ⟨3, ⟨#[]⟩, ln⟩, ⟨1, kLike, ln⟩, ⟨1, str x.name.data.toList, ln⟩, ⟨5, ⟨#[]⟩, ln⟩, ⟨1, kLines, ln⟩, ⟨1, digS n, ln⟩, ⟨5, ⟨#[]⟩, ln⟩, (⟨4, ⟨#[]⟩, ln⟩ : Pc)]).map kt = ktL (nodesC (cf1 x) ++ [zzN x.name n]) := by
    have happ : ∀ (xs ys : List Nd), ktL (xs ++ ys) = ktL xs ++ ktL ys := by
      intro xs ys
      induction xs with
      | nil => rw [List.nil_append, ktL, List.nil_append]
      | cons a xs ih => rw [List.cons_append, ktL, ktL, ih, List.append_assoc]
    rw [List.map_append, hps, happ]
    congr 1
    unfold zzN oneN
    simp [ktL, ktN, kt, ka1, ka2, ka3, str_of]
  have hok : okL (nodesC (cf1 x) ++ [zzN x.name n]) 0 := by
    refine okL_app _ _ _ (ok_nodes hg) ?_
    unfold zzN
    rw [okL, okN, okL, okL, okL]
    refine ⟨⟨?_, fun h => by simp at h, fun _ => by omega, ?_, ?_, trivial⟩, trivial⟩
    · kernel_rfl
    · exact ok_one (by kernel_rfl) (by simp) fun a ha => by obtain rfl := List.mem_singleton.1 ha; exact arg_word (is_wordy hxi).1
    · exact ok_one (by kernel_rfl) (by simp) fun a ha => by obtain rfl := List.mem_singleton.1 ha; exact arg_word (dig_wordy (by omega))
  obtain ⟨ys, hs, hty⟩ := treeP_of hlex hkt hok
  refine load_of (v := usual0) hty hs ?_
  rw [stmts2_app, stmts_nodes hg usual0]
  simp only
  rw [stmts2, like_stmt hz h1 h2]
  rfl
end Go.Proofs.YtfpajgmdejlaeaaGreatDoor

/-
  ConfLike's decimal: a number that is not negative, in decimal; nothing for none.
-/
namespace Go.Proofs.YtfpajgmdejlaeaaGreatDoor
open Go.RowKit

/-- the digits of a number behind which others stand, nothing for none -/
def decZ (n : Nat) : List UInt8 := if n = 0 then [] else decN n
theorem decZ_step {n : Nat} (h : n ≠ 0) : decZ n = decZ (n / 10) ++ [digc (n % 10)] := by
  unfold decZ
  rw [if_neg h]
  by_cases h10 : n < 10
  · rw [if_pos (by omega), decN_small h10, Nat.mod_eq_of_lt h10, List.nil_append]
  · rw [if_neg (by omega), decN_big (by omega)]
set_option maxRecDepth 100000 in
set_option maxHeartbeats 1000000 in
theorem decimal_any (w : World) (N : Nat) (hN : N ≤ 1000000) :
    Calls Tryz.prog 15 #[.int .i64 N] w fun e w' => e = .returned (.string (str (decZ N))) ∧ Keeps (fun _ => False) w w' := by
  go_enter Tryz.func15, Tryz.ntmps15
  go_wp2_with fail
  go_loopw [0, 3] (fun u0 u3 wr => ∃ (n : Nat) (L : List UInt8), u0 = .int .i64 n ∧ n ≤ N ∧ u3 = .string (str L) ∧ L.length + n ≤ 1000000 ∧ Hid (decZ n ++ L = decZ N) ∧ Keeps (fun _ => False) w wr) (fun u0 _ _ => (intOf u0).toNat)
  case atStart => exact ⟨N, [], rfl, Nat.le_refl _, rfl, by simpa using hN, Lib.hid (List.append_nil _), Keeps.refl _ _⟩
  case round =>
    obtain ⟨n, L, rfl, hn, rfl, hL, HD, hK⟩ := hrel
    by_cases hz : n = 0
    · subst hz
      have hd : L = decZ N := HD.out
      have HD2 := Lib.hid hd
      clear hd
      go_wp2_with fail
      go_ret
      exact ⟨by rw [HD2.out]; rfl, hK⟩
    · have hd := HD.out
      rw [decZ_step hz, List.append_assoc] at hd
      have HD2 := Lib.hid hd
      have hsz : (str L).size = L.length := str_size _
      have HC : Hid (str [digc (n % 10)] ++ str L = str (digc (n % 10) :: L)) := Lib.hid (ba_ext (by rw [append_str', str_list, str_list, str_list]; rfl))
      have HN : Hid (((digc (n % 10)).toNat : Int) = 48 + (n : Int) % 10) := Lib.hid (by rw [digc_nat (by omega)]; omega)
      have hs1 : (str [digc (n % 10)]).size = 1 := rfl
      clear hd
      go_wp2_with (with_reducible show wpList _ _ _ (⟨some 11, _, _, _, _, _⟩ :: _) _ _; go_must (refine wpList_string_bytes _ rfl (.tmp 10) 90 9 rfl 5 Tryz.underlying90 Tryz.underlying5 Tryz.underlying9 _ 0 1 1 rfl [digc (n % 10)] rfl (const_cell _ 5 (digc (n % 10)) _ HN.out.symm) ?_))
      refine ⟨⟨n / 10, digc (n % 10) :: L, by go_num, by omega, by rw [HC.out], by rw [List.length_cons]; omega, Lib.hid HD2.out, hK.alloc _⟩, by simp [intOf]; omega⟩
end Go.Proofs.YtfpajgmdejlaeaaGreatDoor

/-
  A region that draws its order, by what each of its operations yields, beside what those yielded that it waited for. No program in sight.
-/
namespace Go.Proofs.YtfpajgmdejlaeaaGreatDoor
open Go.RowKit

/-- what those yielded that an operation waited for -/
def depV (ops : Array Oper) (xs : Nat → Value) (k : Nat) : List Value := match ops[k]? with
  | some o => (depsL o).map fun j => sl xs (dstAt ops j)
  | none => []
def AllDepsV (ops : Array Oper) (Pk : Nat → Value → List Value → World → Prop) (xs : Nat → Value) (w : World) : List Nat → Prop
  | [] => True
  | k :: ks => Pk k (sl xs (dstAt ops k)) (depV ops xs k) w ∧ AllDepsV ops Pk xs w ks
def StepV (P : Program) (ops : Array Oper) (Q : Exit → Act → World → Prop) (n : Nat) (dfs : List Deferred) (R : World → World → Prop) (Pk : Nat → Value → List Value → World → Prop) (xs0 : Nat → Value) (w0 : World) (i : Nat) (o : Oper) : Prop :=
  ∀ (a : Act) (w : World), a.tmps.size = n → a.defers = dfs → R w0 w → (∀ t, noDst ops t = true → gx a t = xs0 t) → AllDepsV ops Pk (gx a) w (depsL o) → ∀ K : Act → World → Prop, (∀ v w', R w w' → Pk i (seen o.dst v) (depV ops (gx a) i) w' → K (a.put o.dst v) w') →
    if Region.wanted o (yielded ops a.tmps) = true then Oper.wp P o a w K Q else K (a.put o.dst undef) w
def StepsLV (P : Program) (ops : Array Oper) (Q : Exit → Act → World → Prop) (n : Nat) (dfs : List Deferred) (R : World → World → Prop) (Pk : Nat → Value → List Value → World → Prop) (xs0 : Nat → Value) (w0 : World) : Nat → List Oper → Prop
  | _, [] => True
  | k, o :: l => StepV P ops Q n dfs R Pk xs0 w0 k o ∧ StepsLV P ops Q n dfs R Pk xs0 w0 (k + 1) l
/-- what has come up has all that it waited for behind it -/
def ClosedV (ops : Array Oper) (listed : Array Bool) : Prop := ∀ j o, ops[j]? = some o → listed.getD j false = true → ∀ k ∈ depsL o, listed.getD k false = true
section
variable {P : Program} {ops : Array Oper} {Q : Exit → Act → World → Prop} {n : Nat} {dfs : List Deferred} {R : World → World → Prop} {Pk : Nat → Value → List Value → World → Prop} {xs0 : Nat → Value} {w0 : World}
theorem StepsLV.nil {k : Nat} : StepsLV P ops Q n dfs R Pk xs0 w0 k [] := trivial
theorem StepsLV.plain {k : Nat} {o : Oper} {l : List Oper} (hg : o.guard = none) (h : ∀ (Q : Exit → Act → World → Prop) (a : Act) (w : World), R w0 w → Hid (∀ t, noDst ops t = true → gx a t = xs0 t) → AllDepsV ops Pk (gx a) w (depsL o) → ∀ K : Act → World → Prop, Shut (∀ v w', R w w' → Pk k (seen o.dst v) (depV ops (gx a) k) w' → K (a.put o.dst v) w') → Oper.wp P o a w K Q)
    (hs : StepsLV P ops Q n dfs R Pk xs0 w0 (k + 1) l) : StepsLV P ops Q n dfs R Pk xs0 w0 k (o :: l) := ⟨fun a w _ _ hR hf hd K hK => by
  rw [if_pos (by unfold Region.wanted; rw [hg])]
  exact h Q a w hR (Lib.hid hf) hd K hK, hs⟩
theorem StepsLV.at_ : ∀ (l : List Oper) (k : Nat), StepsLV P ops Q n dfs R Pk xs0 w0 k l → ∀ i o, l[i]? = some o → StepV P ops Q n dfs R Pk xs0 w0 (k + i) o
  | [], k, _, i, o, ho => by simp at ho
  | x :: l, k, h, 0, o, ho => by simp at ho; subst ho; exact h.1
  | x :: l, k, h, i + 1, o, ho => by
    rw [List.getElem?_cons_succ] at ho
    have := StepsLV.at_ l (k + 1) h.2 i o ho
    rwa [show k + 1 + i = k + (i + 1) by omega] at this
theorem AllDepsV.get {xs : Nat → Value} {w : World} : ∀ {l : List Nat} (_ : AllDepsV ops Pk xs w l) (k : Nat) (_ : l.contains k = true), Pk k (sl xs (dstAt ops k)) (depV ops xs k) w
  | [], _, k, hk => by simp at hk
  | j :: l, h, k, hk => by
    rw [List.contains_cons, Bool.or_eq_true, beq_iff_eq] at hk
    rcases hk with rfl | hk
    · exact h.1
    · exact AllDepsV.get h.2 k hk
theorem allDepsV_of {xs : Nat → Value} {w : World} : ∀ (l : List Nat), (∀ k ∈ l, Pk k (sl xs (dstAt ops k)) (depV ops xs k) w) → AllDepsV ops Pk xs w l
  | [], _ => trivial
  | k :: l, h => ⟨h k (by simp), allDepsV_of l fun j hj => h j (by simp [hj])⟩
theorem depV_mem {xs : Nat → Value} {i k : Nat} {o : Oper} (ho : ops[i]? = some o) (hk : (depsL o).contains k = true) : sl xs (dstAt ops k) ∈ depV ops xs i := by
  unfold depV
  rw [ho]
  exact List.mem_map.2 ⟨k, by simpa using hk, rfl⟩
theorem getD_flipV {listed : Array Bool} {i : Nat} (h : i < listed.size) : listed.getD i true = listed.getD i false := by simp [Array.getD_eq_getD_getElem?, h]
theorem wpAny_specsV (hRt : ∀ a b c, R a b → R b c → R a c) (hst : ∀ k v l w w', R w w' → Pk k v l w → Pk k v l w') (hchk : regChk n ops = true)
    (hstep : ∀ i o, ops[i]? = some o → StepV P ops Q n dfs R Pk xs0 w0 i o)
    (hfin : ∀ a w, a.tmps.size = n → a.defers = dfs → R w0 w → (∀ t, noDst ops t = true → gx a t = xs0 t) → (∀ i o, ops[i]? = some o → Pk i (sl (gx a) o.dst) (depV ops (gx a) i) w) → Q .normal a w) :
    ∀ (fuel : Nat) (listed : Array Bool) (a : Act) (w : World), a.tmps.size = n → a.defers = dfs → listed.size = ops.size → todoN listed ops.size ≤ fuel → R w0 w → (∀ t, noDst ops t = true → gx a t = xs0 t) → (∀ i o, ops[i]? = some o → listed.getD i false = true → Pk i (sl (gx a) o.dst) (depV ops (gx a) i) w) → ClosedV ops listed →
      wpAny P .any ops Q fuel listed a w := by
  have done : ∀ (listed : Array Bool) (a : Act) (w : World), a.tmps.size = n → a.defers = dfs → listed.size = ops.size → Region.ready .any ops listed = [] → R w0 w → (∀ t, noDst ops t = true → gx a t = xs0 t) → (∀ i o, ops[i]? = some o → listed.getD i false = true → Pk i (sl (gx a) o.dst) (depV ops (gx a) i) w) → Q .normal a w := by
    intro listed a w hn hdf hsz hr hR hf hv
    have all : ∀ i, i < ops.size → listed.getD i false = true := by
      intro i
      induction i using Nat.strongRecOn with
      | ind i ih =>
        intro hi
        by_cases hl : listed.getD i false = true
        · exact hl
        · exfalso
          obtain ⟨o, ho⟩ : ∃ o, ops[i]? = some o := ⟨ops[i], Array.getElem?_eq_getElem hi⟩
          have hin : i ∈ Region.ready .any ops listed := by
            rw [mem_ready]
            refine ⟨?_, o, ho, fun e he hb => ?_⟩
            · rw [getD_flipV (by omega)]; simpa using hl
            · have hk : e.on ∈ depsL o := by
                unfold depsL
                exact List.mem_map.2 ⟨e, List.mem_filter.2 ⟨by simpa using he, hb⟩, rfl⟩
              have := (regChk_of hchk ho).1 _ hk
              exact ih e.on this (by omega)
          rw [hr] at hin
          cases hin
    exact hfin a w hn hdf hR hf fun i o ho => hv i o ho (all i (Array.getElem?_eq_some_iff.1 ho).1)
  intro fuel
  induction fuel with
  | zero =>
    intro listed a w hn hdf hsz ht hR hf hv hcl
    have hr : Region.ready .any ops listed = [] := by
      rw [List.eq_nil_iff_forall_not_mem]
      intro i hi
      obtain ⟨h1, o, ho, -⟩ := mem_ready.1 hi
      exact todo_zero listed ops.size (by omega) i (Array.getElem?_eq_some_iff.1 ho).1 h1
    exact ⟨hr, done listed a w hn hdf hsz hr hR hf hv⟩
  | succ fuel ih =>
    intro listed a w hn hdf hsz ht hR hf hv hcl
    refine ⟨fun hr => done listed a w hn hdf hsz hr hR hf hv, fun i hi => ?_⟩
    obtain ⟨h1, o, ho, hdep⟩ := mem_ready.1 hi
    have hilt := (Array.getElem?_eq_some_iff.1 ho).1
    have hdn : ∀ t, o.dst = some t → t < a.tmps.size := fun t e => by rw [hn]; exact ((regChk_of hchk ho).2 t e).1
    have hdl : ∀ k ∈ depsL o, listed.getD k false = true := fun k hk => by
      unfold depsL at hk
      obtain ⟨e, he, rfl⟩ := List.mem_map.1 hk
      obtain ⟨he1, he2⟩ := List.mem_filter.1 he
      exact hdep e (by simpa using he1) he2
    have hnl : listed.getD i false ≠ true := by rw [← getD_flipV (by omega), h1]; simp
    -- a slot that was written stays
    have hsl : ∀ k, listed.getD k false = true → ∀ v, sl (gx (a.put o.dst v)) (dstAt ops k) = sl (gx a) (dstAt ops k) := fun k hk v => by
      refine sl_put_ne hdn fun t ht e => ?_
      have hik : i ≠ k := fun e2 => hnl (e2 ▸ hk)
      unfold dstAt at e
      cases hok : ops[k]? with
      | none => rw [hok] at e; cases e
      | some o' =>
        rw [hok] at e
        exact dst_ne hchk ho hok hik t ht e
    have hdv : ∀ k, listed.getD k false = true ∨ k = i → ∀ v, depV ops (gx (a.put o.dst v)) k = depV ops (gx a) k := fun k hk v => by
      unfold depV
      cases hok : ops[k]? with
      | none => rfl
      | some o' =>
        refine List.map_congr_left fun j hj => hsl j ?_ v
        rcases hk with hk | rfl
        · exact hcl k o' hok hk j hj
        · rw [ho] at hok; injection hok with hok; subst hok; exact hdl j hj
    refine wpOp_step ho fun K hK => ?_
    refine hstep i o ho a w hn hdf hR hf ?_ K fun v w' hRw hP => hK _ _ ?_
    · apply allDepsV_of
      intro k hk
      have hlt := (regChk_of hchk ho).1 k hk
      have hok : ops[k]? = some ops[k] := Array.getElem?_eq_getElem (by omega)
      have := hv k _ hok (hdl k hk)
      unfold dstAt
      rw [hok]
      exact this
    · have hmono : ∀ j, (listed.setIfInBounds i true).getD j true = false → listed.getD j true = false := fun j hj => by
        rw [getD_set] at hj
        split at hj
        · cases hj
        · exact hj
      refine ih (listed.setIfInBounds i true) (a.put o.dst v) w' ((put_size _ _ _).trans hn) ((put_defers _ _ _).trans hdf) (by simpa using hsz) ?_ (hRt _ _ _ hR hRw) (fun t htt => ?_) (fun j o' ho' hl => ?_) (fun j o' ho' hl k hk => ?_)
      · have := todo_lt listed (listed.setIfInBounds i true) hmono i h1 (by rw [getD_set, if_pos ⟨rfl, by omega⟩]; simp) ops.size hilt
        omega
      · rw [← hf t htt]
        unfold noDst at htt
        have hne := Array.all_eq_true.1 htt i hilt
        have hoe : ops[i] = o := (Array.getElem?_eq_some_iff.1 ho).2
        rw [hoe, bne_iff_ne] at hne
        cases hd : o.dst with
        | none => rfl
        | some d =>
          rw [gx_put (hdn d hd), if_neg]
          rintro rfl
          exact hne hd
      · by_cases e : i = j
        · subst e
          rw [ho] at ho'
          injection ho' with ho'
          subst ho'
          rw [hdv i (Or.inr rfl)]
          cases hd : o.dst with
          | none => rw [hd] at hP; exact hP
          | some d =>
            show Pk i (gx (a.put (some d) v) d) _ w'
            rw [gx_put (hdn d hd), if_pos rfl]
            rw [hd] at hP
            exact hP
        · rw [getD_set, if_neg (by simp [e])] at hl
          rw [hdv j (Or.inl hl), sl_put_ne hdn (fun t ht e2 => dst_ne hchk ho ho' e t ht e2)]
          exact hst j _ _ w w' hRw (hv j o' ho' hl)
      · rw [getD_set]
        split
        · rfl
        · rename_i hne
          by_cases e : i = j
          · subst e
            rw [ho] at ho'
            injection ho' with ho'
            subst ho'
            exact hdl k hk
          · rw [getD_set, if_neg (by simp [e])] at hl
            exact hcl j o' ho' hl k hk
/-- **a region by what its operations yield, beside what they waited for** -/
theorem wp_region_specsV {id : Nat} {a : Act} (hm : P.follows .mixedOrders = true) (hn : a.tmps.size = n) (hdf : a.defers = dfs) (hx : gx a = xs0) (hR : R w0 w0.drew) (hRt : ∀ a b c, R a b → R b c → R a c) (hst : ∀ k v l w w', R w w' → Pk k v l w → Pk k v l w') (hchk : regChk n ops = true)
    {l : List Oper} (hl : ops = l.toArray) (hstep : StepsLV P ops Q n dfs R Pk xs0 w0 0 l)
    (hfin : ∀ a w, a.tmps.size = n → a.defers = dfs → R w0 w → (∀ t, noDst ops t = true → gx a t = xs0 t) → (∀ i o, ops[i]? = some o → Pk i (sl (gx a) o.dst) (depV ops (gx a) i) w) → Q .normal a w) : (Code.region id ops true).wp P Q a w0 := by
  subst hx
  refine wp_region_any hm ?_
  refine wpAny_specsV hRt hst hchk (fun i o ho => ?_) hfin _ _ _ _ hn hdf (by simp) (Nat.le_trans (todo_le_m _ _) (Nat.le_refl _)) hR (fun _ _ => rfl) (fun i o ho hl => ?_) (fun i o ho hl => ?_)
  · rw [hl, List.getElem?_toArray] at ho
    have := StepsLV.at_ l 0 hstep i o ho
    rwa [Nat.zero_add] at this
  · simp [Array.getD_eq_getD_getElem?, Array.getElem?_replicate] at hl
    split at hl <;> simp at hl
  · simp [Array.getD_eq_getD_getElem?, Array.getElem?_replicate] at hl
    split at hl <;> simp at hl
end
end Go.Proofs.YtfpajgmdejlaeaaGreatDoor

/-
  ConfLike's region 7: what each of its operations yields.
-/
namespace Go.Proofs.YtfpajgmdejlaeaaGreatDoor
open Go.RowKit Go.Maps

theorem tmps_list (a : Act) (n : Nat) (h : a.tmps.size = n) : a.tmps = ((List.range n).map (gx a)).toArray := by
  apply Array.ext
  · simp [h]
  · intro i h1 h2
    simp [gx, h1]
set_option maxRecDepth 100000 in
theorem con_eql (x y : Con) (W : World) : (binOp .eql 42 (.agg (conR x).toArray) (.agg (conR y).toArray)).run Tryz.prog W = .ok (.bool (decide (x = y))) W := by
  have h := con_neq.1 x y W
  rw [run_neq_struct] at h
  rw [run_eql_struct]
  cases hq : (Op.equalIn 10000 42 (.agg (conR x).toArray) (.agg (conR y).toArray)).run Tryz.prog W with
  | ok b w' =>
    rw [hq] at h
    simp only [Result.andThen_ok] at h ⊢
    injection h with h1 h2
    injection h1 with h1
    subst h2
    cases b <;> cases hd : decide (x = y) <;> simp_all
  | _ => rw [hq] at h; simp [Result.andThen] at h
theorem cells14 {cs : Array Value} (h : cs.size = 14) : ∃ v0 v1 v2 v3 v4 v5 v6 v7 v8 v9 v10 v11 v12 v13, cs = #[v0, v1, v2, v3, v4, v5, v6, v7, v8, v9, v10, v11, v12, v13] := by
  obtain ⟨l⟩ := cs
  match l, h with
  | [v0, v1, v2, v3, v4, v5, v6, v7, v8, v9, v10, v11, v12, v13], _ => exact ⟨v0, v1, v2, v3, v4, v5, v6, v7, v8, v9, v10, v11, v12, v13, rfl⟩
theorem conf_set14 {w : World} {g : Nat} {u0 u1 u2 u3 u4 u5 u6 u7 u8 u9 u10 u11 u12 u13 : Value} (h : Blk w g 29 #[u0, u1, u2, u3, u4, u5, u6, u7, u8, u9, u10, u11, u12, u13]) (v0 v1 v2 v3 v4 v5 v6 v7 v8 v9 v10 v11 v12 v13 : Value) : Blk ((((((((((((((w.setCell ⟨g, 0, none⟩ v0).setCell ⟨g, 1, none⟩ v1).setCell ⟨g, 2, none⟩ v2).setCell ⟨g, 3, none⟩ v3).setCell ⟨g, 4, none⟩ v4).setCell ⟨g, 5, none⟩ v5).setCell ⟨g, 6, none⟩ v6).setCell ⟨g, 7, none⟩ v7).setCell ⟨g, 8, none⟩ v8).setCell ⟨g, 9, none⟩ v9).setCell ⟨g, 10, none⟩ v10).setCell ⟨g, 11, none⟩ v11).setCell ⟨g, 12, none⟩ v12).setCell ⟨g, 13, none⟩ v13) g 29 #[v0, v1, v2, v3, v4, v5, v6, v7, v8, v9, v10, v11, v12, v13] ∧ Keeps (fun i => i = g) w ((((((((((((((w.setCell ⟨g, 0, none⟩ v0).setCell ⟨g, 1, none⟩ v1).setCell ⟨g, 2, none⟩ v2).setCell ⟨g, 3, none⟩ v3).setCell ⟨g, 4, none⟩ v4).setCell ⟨g, 5, none⟩ v5).setCell ⟨g, 6, none⟩ v6).setCell ⟨g, 7, none⟩ v7).setCell ⟨g, 8, none⟩ v8).setCell ⟨g, 9, none⟩ v9).setCell ⟨g, 10, none⟩ v10).setCell ⟨g, 11, none⟩ v11).setCell ⟨g, 12, none⟩ v12).setCell ⟨g, 13, none⟩ v13) := by
  refine ⟨?_, (((((((((((((Keeps.set1 w g 0 v0).and_ (Keeps.set1 _ g 1 _) (fun _ _ e => e)).and_ (Keeps.set1 _ g 2 _) (fun _ _ e => e)).and_ (Keeps.set1 _ g 3 _) (fun _ _ e => e)).and_ (Keeps.set1 _ g 4 _) (fun _ _ e => e)).and_ (Keeps.set1 _ g 5 _) (fun _ _ e => e)).and_ (Keeps.set1 _ g 6 _) (fun _ _ e => e)).and_ (Keeps.set1 _ g 7 _) (fun _ _ e => e)).and_ (Keeps.set1 _ g 8 _) (fun _ _ e => e)).and_ (Keeps.set1 _ g 9 _) (fun _ _ e => e)).and_ (Keeps.set1 _ g 10 _) (fun _ _ e => e)).and_ (Keeps.set1 _ g 11 _) (fun _ _ e => e)).and_ (Keeps.set1 _ g 12 _) (fun _ _ e => e)).and_ (Keeps.set1 _ g 13 _) (fun _ _ e => e)⟩
  have hb := ((((((((((((((h.set_ 0 v0).set_ 1 v1).set_ 2 v2).set_ 3 v3).set_ 4 v4).set_ 5 v5).set_ 6 v6).set_ 7 v7).set_ 8 v8).set_ 9 v9).set_ 10 v10).set_ 11 v11).set_ 12 v12).set_ 13 v13)
  simp only [List.setIfInBounds_toArray, List.set_cons_zero, List.set_cons_succ] at hb ⊢
  exact hb
theorem act80 (a : Act) (h : a.tmps.size = 80) : ∃ x0 x1 x2 x3 x4 x5 x6 x7 x8 x9 x10 x11 x12 x13 x14 x15 x16 x17 x18 x19 x20 x21 x22 x23 x24 x25 x26 x27 x28 x29 x30 x31 x32 x33 x34 x35 x36 x37 x38 x39 x40 x41 x42 x43 x44 x45 x46 x47 x48 x49 x50 x51 x52 x53 x54 x55 x56 x57 x58 x59 x60 x61 x62 x63 x64 x65 x66 x67 x68 x69 x70 x71 x72 x73 x74 x75 x76 x77 x78 x79, a.tmps = #[x0, x1, x2, x3, x4, x5, x6, x7, x8, x9, x10, x11, x12, x13, x14, x15, x16, x17, x18, x19, x20, x21, x22, x23, x24, x25, x26, x27, x28, x29, x30, x31, x32, x33, x34, x35, x36, x37, x38, x39, x40, x41, x42, x43, x44, x45, x46, x47, x48, x49, x50, x51, x52, x53, x54, x55, x56, x57, x58, x59, x60, x61, x62, x63, x64, x65, x66, x67, x68, x69, x70, x71, x72, x73, x74, x75, x76, x77, x78, x79] := by
  have ht := tmps_list a 80 h
  simp only [List.range, List.range.loop, List.map] at ht
  exact ⟨_, _, _, _, _, _, _, _, _, _, _, _, _, _, _, _, _, _, _, _, _, _, _, _, _, _, _, _, _, _, _, _, _, _, _, _, _, _, _, _, _, _, _, _, _, _, _, _, _, _, _, _, _, _, _, _, _, _, _, _, _, _, _, _, _, _, _, _, _, _, _, _, _, _, _, _, _, _, _, _, ht⟩
/-- a loaded configuration in a block of its own -/
def LkF (B : Nat) (c : Cf) (b : Nat) (w : World) : Prop := ∃ cv gv uv av b0 b1 b2 b3 b4 b5 b6 b7 b8 b9, Blk w b 29 (cfL cv gv uv av b0 b1 b2 b3 b4 b5 b6 b7 b8 b9).toArray ∧ CfOwn w B cv gv uv av b0 b1 b2 b3 b4 b5 b6 b7 b8 b9 c
def LkR (B : Nat) (c : Cf) (a b : World) : Prop := Keeps (fun i => B ≤ i ∧ ∃ cs, Blk a i 29 cs) a b ∧ (∀ i cs, cs.size = 14 → Blk a i 29 cs → ∃ cs', cs'.size = 14 ∧ Blk b i 29 cs') ∧ ∀ i, LkF B c i a → LkF B c i b
section
variable {B : Nat} {c : Cf} {a b d w w' : World}
theorem LkR.trans (h : LkR B c a b) (k : LkR B c b d) : LkR B c a d := ⟨grow_trans h.1 k.1, fun i cs hs hb => by
  obtain ⟨cs', hs', hb'⟩ := h.2.1 i cs hs hb
  exact k.2.1 i cs' hs' hb', fun i hf => k.2.2 i (h.2.2 i hf)⟩
theorem CfOwn.keepsConf {cv gv uv av : Value} {b0 b1 b2 b3 b4 b5 b6 b7 b8 b9 : ByteArray} (h : CfOwn w B cv gv uv av b0 b1 b2 b3 b4 b5 b6 b7 b8 b9 c) (k : Keeps (fun i => B ≤ i ∧ ∃ cs, Blk w i 29 cs) w w') : CfOwn w' B cv gv uv av b0 b1 b2 b3 b4 b5 b6 b7 b8 b9 c := by
  refine h.keeps k fun i t cs hb ht ⟨_, cs', hb'⟩ => ?_
  rcases ht with rfl | rfl | rfl | rfl | rfl <;> exact Blk.ne_ hb hb' (by decide) rfl
theorem LkR.of (k : Keeps (fun _ => False) a b) : LkR B c a b := ⟨k.none_, fun _ cs hs hb => ⟨cs, hs, hb.keeps k id⟩, fun _ ⟨cv, gv, uv, av, b0, b1, b2, b3, b4, b5, b6, b7, b8, b9, h1, h2⟩ => ⟨cv, gv, uv, av, b0, b1, b2, b3, b4, b5, b6, b7, b8, b9, h1.keeps k id, h2.keepsConf k.none_⟩⟩
theorem LkR.old (h : LkR B c a b) {g : Nat} {t : TypeId} {cs : Array Value} (hb : Blk a g t cs) (hg : g < B) : Blk b g t cs := hb.keeps h.1 (fun e => absurd e.1 (by omega))
/-- the store of what was loaded -/
theorem LkR.store {g : Nat} {cs : Array Value} {cv gv uv av : Value} {b0 b1 b2 b3 b4 b5 b6 b7 b8 b9 : ByteArray} (hB : B ≤ g) (hg : Blk w g 29 cs) (ho : CfOwn w B cv gv uv av b0 b1 b2 b3 b4 b5 b6 b7 b8 b9 c) (hb : Blk w' g 29 (cfL cv gv uv av b0 b1 b2 b3 b4 b5 b6 b7 b8 b9).toArray) (k : Keeps (fun i => i = g) w w') : LkR B c w w' ∧ LkF B c g w' := by
  have k1 : Keeps (fun i => B ≤ i ∧ ∃ cs, Blk w i 29 cs) w w' := k.mono fun i _ e => by subst e; exact ⟨hB, _, hg⟩
  have hf : LkF B c g w' := ⟨cv, gv, uv, av, b0, b1, b2, b3, b4, b5, b6, b7, b8, b9, hb, ho.keepsConf k1⟩
  refine ⟨⟨k1, fun i ds hs hd => ?_, fun i hi => ?_⟩, hf⟩
  · by_cases e : i = g
    · subst e; exact ⟨_, rfl, hb⟩
    · exact ⟨ds, hs, hd.keeps k e⟩
  · by_cases e : i = g
    · subst e; exact hf
    · obtain ⟨cv, gv, uv, av, b0, b1, b2, b3, b4, b5, b6, b7, b8, b9, h1, h2⟩ := hi
      exact ⟨cv, gv, uv, av, b0, b1, b2, b3, b4, b5, b6, b7, b8, b9, h1.keeps k e, h2.keepsConf k1⟩
end
def LkV (B : Nat) (c : Cf) (v : Value) (w : World) : Prop := ∃ cv gv uv av b0 b1 b2 b3 b4 b5 b6 b7 b8 b9, v = .tuple #[.agg (cfL cv gv uv av b0 b1 b2 b3 b4 b5 b6 b7 b8 b9).toArray, .nilIface] ∧ CfOwn w B cv gv uv av b0 b1 b2 b3 b4 b5 b6 b7 b8 b9 c
def LkA (B : Nat) (c : Cf) (v : Value) (w : World) : Prop := ∃ cv gv uv av b0 b1 b2 b3 b4 b5 b6 b7 b8 b9, v = .agg (cfL cv gv uv av b0 b1 b2 b3 b4 b5 b6 b7 b8 b9).toArray ∧ CfOwn w B cv gv uv av b0 b1 b2 b3 b4 b5 b6 b7 b8 b9 c
def LkB (B : Nat) (v : Value) (w : World) : Prop := ∃ b cs, v = .pointer (some ⟨b, 0, none⟩) ∧ B ≤ b ∧ cs.size = 14 ∧ Blk w b 29 cs
/-- what each operation yields -/
def LkP (B : Nat) (g0 : Nat) (cfv : Value) (s1 s2 s4 s5 s6 s8 s9 s10 : ByteArray) (m : Int) (c : Cf) : Nat → Value → List Value → World → Prop
  | 0, v, _, _ => v = cfv
  | 1, v, _, _ => v = .string s1
  | 2, v, _, _ => v = .string s2
  | 3, v, _, _ => v = .pointer (some ⟨g0, 0, none⟩)
  | 4, v, _, _ => v = .string s4
  | 5, v, _, _ => v = .string s5
  | 6, v, _, _ => v = .string s6
  | 7, v, _, _ => v = .int .i64 m
  | 8, v, _, _ => v = .string s8
  | 9, v, _, _ => v = .string s9
  | 10, v, _, _ => v = .string s10
  | 11, v, _, w => LkV B c v w
  | 12, v, _, w => LkV B c v w
  | 13, v, _, w => LkA B c v w
  | 14, v, _, _ => v = .nilIface
  | 15, v, _, w => LkB B v w
  | 16, _, l, w => ∀ b, l.head? = some (Value.pointer (some ⟨b, 0, none⟩)) → LkF B c b w
  | 17, v, _, _ => v = .nilIface
  | _, _, _, _ => True
theorem LkP.stable {B : Nat} {g0 : Nat} {cfv : Value} {s1 s2 s4 s5 s6 s8 s9 s10 : ByteArray} {m : Int} {c : Cf} (k : Nat) (v : Value) (l : List Value) (w w' : World) (h : LkR B c w w') (hp : LkP B g0 cfv s1 s2 s4 s5 s6 s8 s9 s10 m c k v l w) : LkP B g0 cfv s1 s2 s4 s5 s6 s8 s9 s10 m c k v l w' := by
  unfold LkP at hp ⊢
  split at hp <;> first
    | exact hp
    | (obtain ⟨cv, gv, uv, av, b0, b1, b2, b3, b4, b5, b6, b7, b8, b9, e, ho⟩ := hp; exact ⟨cv, gv, uv, av, b0, b1, b2, b3, b4, b5, b6, b7, b8, b9, e, ho.keepsConf h.1⟩)
    | (obtain ⟨b, cs, e, hB, hs, hb⟩ := hp; obtain ⟨cs', hs', hb'⟩ := h.2.1 b cs hs hb; exact ⟨b, cs', e, hB, hs', hb'⟩)
    | exact fun b hb => h.2.2 b (hp b hb)
end Go.Proofs.YtfpajgmdejlaeaaGreatDoor

/-
  A console's settings, read out of an argument: ten cells. No program in sight.
-/
namespace Go.Proofs.YtfpajgmdejlaeaaGreatDoor
open Go.RowKit Go.ChangeShapes Go.WideShapes Go.Deep

def IntC (k : Int) : Prop := -9223372036854775808 ≤ k ∧ k ≤ 9223372036854775807
/-- a console's settings that an argument holds -/
structure ConOk (x : Con) : Prop where
  name : x.name.size ≤ maxLen
  init : x.init.size ≤ maxLen
  kind : IntC x.kind
  lines : IntC x.lines
  bytes : IntC x.bytes
  gens : IntC x.gens
  size : IntC x.size
  base : IntC x.base
  cap : IntC x.cap
  jitter : IntC x.jitter
section
variable {H : Type} {enc : TypeId × Value → H} {P : Program} {w : World} {base : Nat} {spare : Nat → Bool} {held : Bool}
theorem con_of {e : TypeId} {cs : List Value} {fuel : Nat} {y : DataW H × List MemPlace} {f0 f1 f2 f3 f4 f5 f6 f7 f8 f9 : Field} (he : P.underlying e = some (.struct #[f0, f1, f2, f3, f4, f5, f6, f7, f8, f9])) (hone : oneCellFields P #[f0, f1, f2, f3, f4, f5, f6, f7, f8, f9] = true)
    (hc : P.cellsOf e = 10) (h0 : P.underlying f0.type = some .string) (h1 : P.underlying f1.type = some (.int .i64)) (h2 : P.underlying f2.type = some (.int .i64)) (h3 : P.underlying f3.type = some (.int .i64)) (h4 : P.underlying f4.type = some (.int .i64)) (h5 : P.underlying f5.type = some (.int .i64)) (h6 : P.underlying f6.type = some (.int .i64)) (h7 : P.underlying f7.type = some (.int .i64)) (h8 : P.underlying f8.type = some (.int .i64)) (h9 : P.underlying f9.type = some .string)
    (hd : DataW.trod enc P w base spare held fuel e cs = some y) : ∃ x : Con, cs = conR x ∧ ConOk x := by
  obtain ⟨xs, k, _, _, hlen, hxl, hf⟩ := DataW.trod_struct he hd
  have hxl : xs.length = 10 := hxl
  rw [hc] at hlen
  match cs, hlen with
  | [v0, v1, v2, v3, v4, v5, v6, v7, v8, v9], _ =>
    obtain ⟨o0, k0⟩ := hone_of hone 0 f0 rfl
    obtain ⟨o1, k1⟩ := hone_of hone 1 f1 rfl
    obtain ⟨o2, k2⟩ := hone_of hone 2 f2 rfl
    obtain ⟨o3, k3⟩ := hone_of hone 3 f3 rfl
    obtain ⟨o4, k4⟩ := hone_of hone 4 f4 rfl
    obtain ⟨o5, k5⟩ := hone_of hone 5 f5 rfl
    obtain ⟨o6, k6⟩ := hone_of hone 6 f6 rfl
    obtain ⟨o7, k7⟩ := hone_of hone 7 f7 rfl
    obtain ⟨o8, k8⟩ := hone_of hone 8 f8 rfl
    obtain ⟨o9, k9⟩ := hone_of hone 9 f9 rfl
    have e0 := hf 0 f0 rfl
    have e1 := hf 1 f1 rfl
    have e2 := hf 2 f2 rfl
    have e3 := hf 3 f3 rfl
    have e4 := hf 4 f4 rfl
    have e5 := hf 5 f5 rfl
    have e6 := hf 6 f6 rfl
    have e7 := hf 7 f7 rfl
    have e8 := hf 8 f8 rfl
    have e9 := hf 9 f9 rfl
    rw [o0, k0] at e0
    rw [o1, k1] at e1
    rw [o2, k2] at e2
    rw [o3, k3] at e3
    rw [o4, k4] at e4
    rw [o5, k5] at e5
    rw [o6, k6] at e6
    rw [o7, k7] at e7
    rw [o8, k8] at e8
    rw [o9, k9] at e9
    simp only [List.drop_zero, List.drop_succ_cons, List.take_succ_cons, List.take_zero] at e0 e1 e2 e3 e4 e5 e6 e7 e8 e9
    rw [List.getElem?_eq_getElem (by omega)] at e0 e1 e2 e3 e4 e5 e6 e7 e8 e9
    obtain ⟨n0, hv0, _, w0⟩ := DataW.trod_string h0 e0
    obtain ⟨n1, hv1, _, w1⟩ := DataW.trod_int h1 e1
    obtain ⟨n2, hv2, _, w2⟩ := DataW.trod_int h2 e2
    obtain ⟨n3, hv3, _, w3⟩ := DataW.trod_int h3 e3
    obtain ⟨n4, hv4, _, w4⟩ := DataW.trod_int h4 e4
    obtain ⟨n5, hv5, _, w5⟩ := DataW.trod_int h5 e5
    obtain ⟨n6, hv6, _, w6⟩ := DataW.trod_int h6 e6
    obtain ⟨n7, hv7, _, w7⟩ := DataW.trod_int h7 e7
    obtain ⟨n8, hv8, _, w8⟩ := DataW.trod_int h8 e8
    obtain ⟨n9, hv9, _, w9⟩ := DataW.trod_string h9 e9
    have b1 : IntC n1 := by unfold IntC; simpa [Lit.wf, IntKind.min, IntKind.max, IntKind.signed, IntKind.bits] using w1
    have b2 : IntC n2 := by unfold IntC; simpa [Lit.wf, IntKind.min, IntKind.max, IntKind.signed, IntKind.bits] using w2
    have b3 : IntC n3 := by unfold IntC; simpa [Lit.wf, IntKind.min, IntKind.max, IntKind.signed, IntKind.bits] using w3
    have b4 : IntC n4 := by unfold IntC; simpa [Lit.wf, IntKind.min, IntKind.max, IntKind.signed, IntKind.bits] using w4
    have b5 : IntC n5 := by unfold IntC; simpa [Lit.wf, IntKind.min, IntKind.max, IntKind.signed, IntKind.bits] using w5
    have b6 : IntC n6 := by unfold IntC; simpa [Lit.wf, IntKind.min, IntKind.max, IntKind.signed, IntKind.bits] using w6
    have b7 : IntC n7 := by unfold IntC; simpa [Lit.wf, IntKind.min, IntKind.max, IntKind.signed, IntKind.bits] using w7
    have b8 : IntC n8 := by unfold IntC; simpa [Lit.wf, IntKind.min, IntKind.max, IntKind.signed, IntKind.bits] using w8
    injection hv0 with hv0
    injection hv1 with hv1
    injection hv2 with hv2
    injection hv3 with hv3
    injection hv4 with hv4
    injection hv5 with hv5
    injection hv6 with hv6
    injection hv7 with hv7
    injection hv8 with hv8
    injection hv9 with hv9
    subst hv0 hv1 hv2 hv3 hv4 hv5 hv6 hv7 hv8 hv9
    exact ⟨⟨n0, n1, n2, n3, n4, n5, n6, n7, n8, n9⟩, rfl, ⟨w0, w9, b1, b2, b3, b4, b5, b6, b7, b8⟩⟩
theorem conV_of {e : TypeId} {v : Value} {d : DataW H} {ps : List MemPlace} {r : Reach} {f0 f1 f2 f3 f4 f5 f6 f7 f8 f9 : Field} (he : P.underlying e = some (.struct #[f0, f1, f2, f3, f4, f5, f6, f7, f8, f9])) (hone : oneCellFields P #[f0, f1, f2, f3, f4, f5, f6, f7, f8, f9] = true)
    (hc : P.cellsOf e = 10) (h0 : P.underlying f0.type = some .string) (h1 : P.underlying f1.type = some (.int .i64)) (h2 : P.underlying f2.type = some (.int .i64)) (h3 : P.underlying f3.type = some (.int .i64)) (h4 : P.underlying f4.type = some (.int .i64)) (h5 : P.underlying f5.type = some (.int .i64)) (h6 : P.underlying f6.type = some (.int .i64)) (h7 : P.underlying f7.type = some (.int .i64)) (h8 : P.underlying f8.type = some (.int .i64)) (h9 : P.underlying f9.type = some .string)
    (hok : Value.okWide P w r base e v) (h : DataW.Trod enc P w 0 spare held e v d ps) : ∃ x : Con, v = .agg (conR x).toArray ∧ ConOk x := by
  obtain ⟨cs, rfl, _⟩ := okWide_struct he hok
  obtain ⟨fuel, hf⟩ := h
  obtain ⟨x, hx, hg⟩ := con_of (cs := cs.toList) he hone hc h0 h1 h2 h3 h4 h5 h6 h7 h8 h9 hf
  refine ⟨x, ?_, hg⟩
  congr 1
  exact Array.ext' (by rw [hx])
end
end Go.Proofs.YtfpajgmdejlaeaaGreatDoor
