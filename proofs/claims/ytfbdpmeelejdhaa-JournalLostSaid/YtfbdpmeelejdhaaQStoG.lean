/-
  store: Rename, Append.
-/
import Derived.Test.YtfbdpmeelejdhaaQStoE
namespace Go.Proofs.Ytfbdpmeelejdhaa
open Go.RowKit Go.Maps

section
variable {w w' : World} {F S : Nat → Prop} {s M bad : Nat} {most : Int} {L : List SRep}
theorem StoreAt.off (h : StoreAt w F s most bad M L) {a r : SRep} (ha : a ∈ L) (hr : r ∈ L) (hne : a ≠ r) : Off a r := by
  have : ∀ {l : List SRep}, l.Pairwise Off → a ∈ l → r ∈ l → Off a r := by
    intro l hl h1 h2
    induction l with
    | nil => cases h1
    | cons x l ih =>
      obtain ⟨p1, p2⟩ := List.pairwise_cons.1 hl
      rcases List.mem_cons.1 h1 with rfl | h1'
      · rcases List.mem_cons.1 h2 with e | h2'
        · exact absurd e.symm hne
        · exact p1 r h2'
      · rcases List.mem_cons.1 h2 with rfl | h2'
        · exact (p1 a h1').symm
        · exact ih p2 h1' h2'
  exact this h.apart ha hr
/-- one of its files under another name, the old one gone -/
theorem StoreAt.move {r : SRep} (h : StoreAt w F s most bad M L) (hr : r ∈ L) (to : ByteArray) {w1 : World} (h1 : StoreAt w1 F s most bad M (delG SRep.nm r.f.name L)) (k1 : Keeps (fun i => i = M) w w1) (hto : to.size ≤ maxLen) (hL : L.length ≤ 4294967296) :
    ∃ w2, (Instr.mapUpdate 56 (.map (some M)) (.string to) (.pointer (some ⟨r.p, 0, none⟩))).run Try.prog w1 = .ok () w2 ∧ StoreAt w2 F s most bad M (putG SRep.nm ⟨⟨to, r.f.data, r.f.sure⟩, r.p, r.v⟩ (delG SRep.nm r.f.name L)) ∧ Keeps (fun i => i = M) w1 w2 := by
  have hf := h.each r hr
  have hne : ∀ {b : Nat} {t : TypeId} {cs : Array Value}, Blk w b t cs → ¬ b = M := fun hb => blk_map_ne hb h.isMap
  refine h1.put ⟨⟨to, r.f.data, r.f.sure⟩, r.p, r.v⟩ ⟨hf.blk.keeps k1 (hne hf.blk), hf.own.keeps k1 (fun i _ ⟨_, hb⟩ => hne hb), hf.fp, hf.fr⟩ (fun a ha => ?_) hto ?_
  · obtain ⟨ha, _⟩ := delG_mem.1 ha
    obtain ⟨ha, hn⟩ := delG_mem.1 ha
    have ho := h.off hr ha (fun e => hn (by rw [← e]; rfl))
    exact ho
  · have : (delG SRep.nm r.f.name L).length ≤ L.length := List.length_filter_le _ _
    unfold maxLen
    omega

set_option maxRecDepth 100000 in
set_option maxHeartbeats 1000000 in
/-- a file is called otherwise -/
theorem rename_any (h : StoreAt w F s most bad M L) (nm to : ByteArray) (hb : bad ≤ 9223372036854775807) (hL : L.length ≤ 4294967296) :
    Calls Try.prog 66 #[.pointer (some ⟨s, 0, none⟩), .string nm, .string to] w (After w F s most M (renameP bad (L.map SRep.f) nm to)) := by
  have HB := Lib.hid (begin_any h nm hb)
  have hfs := h.fs
  have HF := Lib.hid hfs
  have HFM := Lib.hid h.fM
  clear h hfs
  obtain ⟨c, hc⟩ : ∃ c, c = (beginC bad nm).1 := ⟨_, rfl⟩
  obtain ⟨b', hb'⟩ : ∃ b', b' = (beginC bad nm).2 := ⟨_, rfl⟩
  by_cases h0 : c = 0
  · have hnm := begin_named (hc ▸ h0)
    have hle := (namedP_size hnm).2
    have hle2 : nm.size ≤ maxLen := by unfold maxLen; omega
    by_cases hto : namedP to = true
    · have htl := (namedP_size hto).2
      have htl2 : to.size ≤ maxLen := by unfold maxLen; omega
      have hsync : renameP bad (L.map SRep.f) nm to = match getG SFile.name nm (L.map SRep.f) with | none => (7, b', L.map SRep.f) | some f => (0, b', putG SFile.name ⟨to, f.data, f.sure⟩ (delG SFile.name nm (L.map SRep.f))) := by
        unfold renameP
        rw [if_neg (by rw [← hc, h0]; simp), if_neg (by rw [hto]; simp), ← hb']
        cases getG SFile.name nm (L.map SRep.f) <;> rfl
      rw [hsync, get_f]
      rw [← hc, ← hb', h0] at HB
      have HTO := Lib.hid hto
      clear hsync hc hb' hnm h0 hto
      cases hg : getG SRep.nm nm L with
      | some r =>
        simp only [Option.map_some]
        have HG := Lib.hid hg
        clear hg
        go_enter Try.func66, Try.ntmps66
        go_wp2_with fail
        refine HB.out.mono ?_
        rintro e w1 ⟨⟨v, rfl, hev⟩, hs1, k1⟩
        obtain rfl := hev.nil_
        have HS1 := Lib.hid hs1
        have HK1 := Lib.hid k1
        clear hs1 k1 hev
        go_wp2_with fail
        refine (named_any w1 to).mono ?_
        rintro e wx ⟨rfl, hwx⟩
        obtain rfl : w1 = wx := hwx.symm
        rw [HTO.out]
        go_wp2_with fail
        refine (there_some HS1.out hle2 HG.out).mono ?_
        rintro e w2 ⟨rfl, k2⟩
        have hr := getG_some HG.out
        have hs2 := HS1.out.keeps k2 (fun _ _ => id)
        obtain ⟨c0, c1, c2⟩ := hs2.top.cells3
        obtain ⟨w3, hrun, hs3, k3⟩ := hs2.del nm hle2 0
        have hrn : r.f.name = nm := hr.2
        have hs3' := hs3
        rw [← hrn] at hs3'
        obtain ⟨w4, hrun4, hs4, k4⟩ := hs2.move hr.1 to hs3' k3 htl2 hL
        obtain ⟨d0, d1, d2⟩ := hs3.top.cells3
        rw [hrn] at hs4
        have HS4 := Lib.hid hs4
        have HK2 := Lib.hid k2
        have HK3 := Lib.hid k3
        have HK4 := Lib.hid k4
        have HR := Lib.hid hr.1
        clear hs2 hs3 hs3' hs4 k2 k3 k4 hr hrn
        go_wp2_with fail
        go_ret
        refine ⟨_, _, rfl, ErrV.ok, HS4.out.mono fun _ h => .inl h, ?_, (((HK1.out.up HF.out).trans (Keeps.none_ HK2.out)).trans (HK3.out.mono fun i _ e => by rw [e]; exact HFM.out)).trans (HK4.out.mono fun i _ e => by rw [e]; exact HFM.out)⟩
        refine (putG_map nm_f _ _).trans ?_
        rw [del_f]
      | none =>
        simp only [Option.map_none]
        have HG := Lib.hid hg
        clear hg
        go_enter Try.func66, Try.ntmps66
        go_wp2_with fail
        refine HB.out.mono ?_
        rintro e w1 ⟨⟨v, rfl, hev⟩, hs1, k1⟩
        obtain rfl := hev.nil_
        have HS1 := Lib.hid hs1
        have HK1 := Lib.hid k1
        clear hs1 k1 hev
        go_wp2_with fail
        refine (named_any w1 to).mono ?_
        rintro e wx ⟨rfl, hwx⟩
        obtain rfl : w1 = wx := hwx.symm
        rw [HTO.out]
        go_wp2_with fail
        refine (there_none HS1.out hle2 HG.out).mono ?_
        rintro e w2 ⟨⟨a, rfl, hch⟩, k2⟩
        have HCH := Lib.hid hch
        have HK2 := Lib.hid k2
        clear hch k2
        go_wp2_with fail
        go_ret
        exact After.fails (.inr ⟨(by decide : (7 : Int) ≠ 0), _, HCH.out⟩) (HS1.out.keeps HK2.out (fun _ _ => id)) rfl ((HK1.out.up HF.out).trans (Keeps.none_ HK2.out))
    · have hsync : renameP bad (L.map SRep.f) nm to = (1, b', L.map SRep.f) := by
        unfold renameP
        rw [if_neg (by rw [← hc, h0]; simp), if_pos (by simpa using hto), ← hb']
      rw [hsync]
      rw [← hc, ← hb', h0] at HB
      have HTO := Lib.hid (show namedP to = false by simpa using hto)
      clear hsync hc hb' hnm h0 hto
      go_enter Try.func66, Try.ntmps66
      go_wp2_with fail
      refine HB.out.mono ?_
      rintro e w1 ⟨⟨v, rfl, hev⟩, hs1, k1⟩
      obtain rfl := hev.nil_
      have HS1 := Lib.hid hs1
      have HK1 := Lib.hid k1
      clear hs1 k1 hev
      go_wp2_with fail
      refine (named_any w1 to).mono ?_
      rintro e wx ⟨rfl, hwx⟩
      obtain rfl : w1 = wx := hwx.symm
      rw [HTO.out]
      go_wp2_with fail
      refine (new_err _ 1 to (by decide)).mono ?_
      rintro e w2 ⟨⟨a, rfl, hch⟩, k2⟩
      have HCH := Lib.hid hch
      have HK2 := Lib.hid k2
      clear hch k2
      go_wp2_with fail
      go_ret
      exact After.fails (.inr ⟨(by decide : (1 : Int) ≠ 0), _, HCH.out⟩) (HS1.out.keeps HK2.out (fun _ _ => id)) rfl ((HK1.out.up HF.out).trans (Keeps.none_ HK2.out))
  · have hsync : renameP bad (L.map SRep.f) nm to = (c, b', L.map SRep.f) := by
      unfold renameP
      rw [if_pos (by rw [← hc]; exact h0), ← hb', ← hc]
    rw [hsync]
    rw [← hc, ← hb'] at HB
    clear hsync hc hb'
    go_enter Try.func66, Try.ntmps66
    go_wp2_with fail
    refine HB.out.mono ?_
    rintro e w1 ⟨⟨v, rfl, hev⟩, hs1, k1⟩
    have HEV := Lib.hid hev
    obtain ⟨ty, x, rfl⟩ := hev.iface h0
    have HS1 := Lib.hid hs1
    have HK1 := Lib.hid k1
    clear hs1 k1 hev
    go_wp2_with fail
    go_ret
    exact After.fails HEV.out HS1.out rfl (HK1.out.up HF.out)

/-- a new file, empty so far -/
theorem StoreAt.fresh (h : StoreAt w F s most bad M L) {nm : ByteArray} (hn : nm.size ≤ maxLen) (hL : L.length ≤ 4294967296) :
    ∃ w2, (Instr.mapUpdate 56 (.map (some M)) (.string nm) (.pointer (some ⟨w.heap.size, 0, none⟩))).run Try.prog (w.alloc (.cells #[.slice none 0 0, .int .i64 0] 74)) = .ok () w2 ∧
      StoreAt w2 (up F w) s most bad M (putG SRep.nm ⟨⟨nm, ⟨#[]⟩, 0⟩, w.heap.size, .slice none 0 0⟩ L) ∧ Keeps F w w2 := by
  have k1 : Keeps (fun _ => False) w (w.alloc (.cells #[.slice none 0 0, .int .i64 0] 74)) := (Keeps.refl _ _).alloc _
  have h1 := (h.keeps k1 (fun _ _ => id)).mono (G := up F w) (fun _ h => .inl h)
  have hap : ∀ a ∈ delG SRep.nm nm L, Off ⟨⟨nm, ⟨#[]⟩, 0⟩, w.heap.size, .slice none 0 0⟩ a := fun a ha => by
    have hb := (h.each a (delG_mem.1 ha).1).blk.lt
    refine ⟨fun e => ?_, fun i hi => ?_⟩
    · have : w.heap.size = a.p := e
      omega
    · rw [show rowB (SRep.mk ⟨nm, ⟨#[]⟩, 0⟩ w.heap.size (.slice none 0 0)).v = none from rfl] at hi
      cases hi
  obtain ⟨w2, hrun, hs, k2⟩ := h1.put ⟨⟨nm, ⟨#[]⟩, 0⟩, w.heap.size, .slice none 0 0⟩ ⟨Blk.new w _ _, .inl ⟨rfl, none, rfl⟩, .inr (Nat.le_refl _), fun i hi => by rw [show rowB (SRep.mk ⟨nm, ⟨#[]⟩, 0⟩ w.heap.size (.slice none 0 0)).v = none from rfl] at hi; cases hi⟩ hap hn (by unfold maxLen; omega)
  exact ⟨w2, hrun, hs, (Keeps.none_ k1 : Keeps F w _).and_ k2 fun i _ e => by rw [e]; exact h.fM⟩
theorem delG_insG {α : Type} {nm : α → ByteArray} {x : α} {n : ByteArray} (h : nm x = n) : ∀ l : List α, delG nm n (insG nm x l) = delG nm n l
  | [] => by unfold insG delG; rw [List.filter_cons_of_neg (by simpa using h)]
  | y :: r => by
    unfold insG
    split
    · unfold delG
      rw [List.filter_cons_of_neg (by simpa using h)]
    · have ih := delG_insG h r
      unfold delG at ih ⊢
      rw [List.filter_cons, List.filter_cons, ih]
theorem delG_delG {α : Type} {nm : α → ByteArray} {n : ByteArray} (l : List α) : delG nm n (delG nm n l) = delG nm n l := by
  unfold delG; rw [List.filter_filter]; simp
theorem tot_ge {L : List SRep} {r : SRep} (h : r ∈ L) : r.f.data.size ≤ totL L := by
  induction L with
  | nil => cases h
  | cons a L ih =>
    rw [totL_cons]
    rcases List.mem_cons.1 h with rfl | h
    · omega
    · have := ih h; omega
/-- behind an append to a file's bytes: the file as it stands, to be stored into -/
theorem app_file {w w' : World} {F : Nat → Prop} {r : SRep} {a : Option Addr} {n c : Nat} {v' : Value} {vs : List Value} (hf : FileOk w F r) (hv : r.v = .slice a n c) (ha : Appended w w' 5 (.slice a n c) v' vs) :
    (∃ a n c, v' = .slice a n c) ∧ w'.cell? ⟨r.p, 0, none⟩ = some (.slice a n c) ∧ w'.frozen? ⟨r.p, 0, none⟩ = false := by
  have hb4 : Blk w' r.p 74 #[r.v, .int .i64 r.f.sure] := hf.blk.keeps ha.2.1 fun e => by
    rw [← hv] at e
    obtain ⟨cs, hbb⟩ := hf.own.row _ e
    exact Blk.ne_ hf.blk hbb (by decide) rfl
  have g0 := hb4.cell 0
  simp only [List.getElem?_toArray, List.getElem?_cons_zero] at g0
  rw [hv] at g0
  exact ⟨ha.1.sl3, g0, hb4.frozen 0⟩
theorem up_up {F : Nat → Prop} {w w' : World} (h : w.heap.size ≤ w'.heap.size) : ∀ i, up (up F w) w' i → up F w i := fun i hi => by
  rcases hi with hi | hi
  · exact hi
  · exact .inr (by omega)
theorem keeps_of_up {w1 w2 : World} (h : Keeps F w w1) (k : Keeps (up F w) w1 w2) : Keeps F w w2 := h.and_ k fun i hi hh => by
  rcases hh with hh | hh
  · exact hh
  · omega
theorem putG_swap {r r' : SRep} (h : Rise SRep.nm L) (hn : r'.f.name = r.f.name) : (swapR r' (putG SRep.nm r L)).map SRep.f = putG SFile.name r'.f (L.map SRep.f) := by
  rw [swap_f (r0 := r) (putG_rise h r) (insG_mem.2 (.inl rfl)) hn, putG_map nm_f]
  unfold putG
  rw [hn]
  have hd : delG SFile.name r.f.name (insG SFile.name r.f (delG SFile.name r.f.name (L.map SRep.f))) = delG SFile.name r.f.name (L.map SRep.f) := by
    rw [delG_insG rfl, delG_delG]
  exact congrArg _ hd

set_option maxRecDepth 100000 in
set_option maxHeartbeats 1000000 in
/-- more bytes -/
theorem append_any (h : StoreAt w F s most bad M L) (nm b : ByteArray) (hb : bad ≤ 9223372036854775807) (hL : L.length ≤ 4294967296) (hm1 : 1 ≤ most) (hm : most ≤ 16777216) (ht : (totL L : Int) ≤ most) (hbz : b.size ≤ 17179869184) :
    Calls Try.prog 43 #[.pointer (some ⟨s, 0, none⟩), .string nm, .string b] w (After w F s most M (appendP most bad (L.map SRep.f) nm b)) := by
  have HB := Lib.hid (begin_any h nm hb)
  have hfs := h.fs
  have HF := Lib.hid hfs
  have HFM := Lib.hid h.fM
  clear h hfs
  obtain ⟨c, hc⟩ : ∃ c, c = (beginC bad nm).1 := ⟨_, rfl⟩
  obtain ⟨b', hb'⟩ : ∃ b', b' = (beginC bad nm).2 := ⟨_, rfl⟩
  by_cases h0 : c = 0
  · have hnm := begin_named (hc ▸ h0)
    have hle := (namedP_size hnm).2
    have hle2 : nm.size ≤ maxLen := by unfold maxLen; omega
    obtain ⟨T, hT⟩ : ∃ T, T = totL L := ⟨_, rfl⟩
    have hTot : ∀ w1 : World, StoreAt w1 F s most b' M L → Calls Try.prog 58 #[.pointer (some ⟨s, 0, none⟩)] w1 fun e w' => e = .returned (.int .i64 (T : Nat)) ∧ Keeps (fun _ => False) w1 w' := fun w1 h1 => by
      rw [hT]; exact total_any h1 (by omega)
    rw [← hT] at ht
    have HTOT := Lib.hid hTot
    clear hTot
    have hw : IntKind.i64.wrap (most - (T : Int)) = most - T := IntWalk.i64_in _ (by omega)
    by_cases hfull : most < (T : Int) + b.size
    · have hsync : appendP most bad (L.map SRep.f) nm b = (6, b', L.map SRep.f) := by
        unfold appendP
        rw [if_neg (by rw [← hc, h0]; simp), tot_f, ← hT, if_pos hfull, ← hb']
      rw [hsync]
      rw [← hc, ← hb', h0] at HB
      have hcmp : decide (most - (T : Int) < (b.size : Int)) = true := decide_eq_true (by omega)
      clear hsync hc hb' hnm h0 hT
      go_enter Try.func43, Try.ntmps43
      go_wp2_with fail
      refine HB.out.mono ?_
      rintro e w1 ⟨⟨v, rfl, hev⟩, hs1, k1⟩
      obtain rfl := hev.nil_
      have HS1 := Lib.hid hs1
      have HK1 := Lib.hid k1
      obtain ⟨c0, c1, c2⟩ := hs1.top.cells3
      clear hs1 k1 hev c0 c2
      go_wp2_with fail
      go_region_held3 (fun w' => w'.cell? ⟨s, 1, none⟩ = some (.int .i64 most) ∧ Keeps (fun _ => False) w1 w')
        ((first | exact ⟨c1, by (repeat (first | (with_reducible assumption) | (with_reducible exact Keeps.refl _ _) | refine Keeps.drew ?_ | refine Keeps.drewN ?_ _ | refine Keeps.setCell ?_ (by simp) _ | refine Keeps.setRow ?_ (by simp) _ | refine Keeps.alloc ?_ _))⟩ | exact ⟨d1, kk⟩))
        ((go_at_call 58; rename_i hh _ _; refine (HTOT.out _ (HS1.out.keeps hh.2 (fun _ _ => id))).mono ?_; rintro e w3 ⟨rfl, k3⟩; have kk : Keeps (fun _ => False) w1 w3 := hh.2.trans k3; have d1 := (HS1.out.top.keeps kk id).cells3.2.1))
      go_wp2_with fail
      refine (new_err _ 6 nm (by decide)).mono ?_
      rintro e w4 ⟨⟨a, rfl, hch⟩, k4⟩
      have HCH := Lib.hid hch
      have HK4 := Lib.hid (kk.trans k4)
      clear hch k4
      go_wp2_with fail
      go_ret
      exact After.fails (.inr ⟨(by decide : (6 : Int) ≠ 0), _, HCH.out⟩) (HS1.out.keeps HK4.out (fun _ _ => id)) rfl ((HK1.out.up HF.out).trans (Keeps.none_ HK4.out))
    · have hcmp : decide (most - (T : Int) < (b.size : Int)) = false := decide_eq_false (by omega)
      have hcmp2 : (b.size : Int) ≤ most - T := by omega
      have hsync : appendP most bad (L.map SRep.f) nm b = match getG SFile.name nm (L.map SRep.f) with | none => (0, b', putG SFile.name ⟨nm, b, 0⟩ (L.map SRep.f)) | some f => (0, b', putG SFile.name ⟨nm, f.data ++ b, f.sure⟩ (L.map SRep.f)) := by
        unfold appendP
        rw [if_neg (by rw [← hc, h0]; simp), tot_f, ← hT, if_neg hfull, ← hb']
        cases getG SFile.name nm (L.map SRep.f) <;> rfl
      rw [hsync, get_f]
      rw [← hc, ← hb', h0] at HB
      have HT := Lib.hid hT
      clear hsync hc hb' hnm h0 hT hfull
      cases hg : getG SRep.nm nm L with
      | some r =>
        simp only [Option.map_some]
        have HG := Lib.hid hg
        clear hg
        go_enter Try.func43, Try.ntmps43
        go_wp2_with fail
        refine HB.out.mono ?_
        rintro e w1 ⟨⟨v, rfl, hev⟩, hs1, k1⟩
        obtain rfl := hev.nil_
        have HS1 := Lib.hid hs1
        have HK1 := Lib.hid k1
        obtain ⟨c0, c1, c2⟩ := hs1.top.cells3
        clear hs1 k1 hev c0 c2
        go_wp2_with fail
        go_region_held3 (fun w' => w'.cell? ⟨s, 1, none⟩ = some (.int .i64 most) ∧ Keeps (fun _ => False) w1 w')
          ((first | exact ⟨c1, by (repeat (first | (with_reducible assumption) | (with_reducible exact Keeps.refl _ _) | refine Keeps.drew ?_ | refine Keeps.drewN ?_ _ | refine Keeps.setCell ?_ (by simp) _ | refine Keeps.setRow ?_ (by simp) _ | refine Keeps.alloc ?_ _))⟩ | exact ⟨d1, kk⟩))
          ((go_at_call 58; rename_i hh _ _; refine (HTOT.out _ (HS1.out.keeps hh.2 (fun _ _ => id))).mono ?_; rintro e w3 ⟨rfl, k3⟩; have kk : Keeps (fun _ => False) w1 w3 := hh.2.trans k3; have d1 := (HS1.out.top.keeps kk id).cells3.2.1))
        have hs3 := HS1.out.keeps kk (fun _ _ => id)
        obtain ⟨d0, d1', d2⟩ := hs3.top.cells3
        have hl := hs3.look nm hle2
        rw [HG.out] at hl
        simp only [Option.map_some, Option.isSome_some] at hl
        have hr := getG_some HG.out
        have hf := hs3.each r hr.1
        have f0 := hf.blk.cell 0
        have z0 := hf.blk.frozen 0
        simp only [List.getElem?_toArray, List.getElem?_cons_zero] at f0
        have hdz : r.f.data.size ≤ 16777216 := by
          have h1 : r.f.data.size ≤ totL L := by
            exact tot_ge hr.1
          have := HT.out
          omega
        obtain ⟨a, cc, hv2⟩ := hf.own.sl
        rw [u8Vs_size] at hv2
        rw [hv2] at f0
        have HRN := Lib.hid (show r.f.name = nm from hr.2)
        have HR := Lib.hid hr.1
        have HS3 := Lib.hid hs3
        have HKK := Lib.hid kk
        have HF3 := Lib.hid hf
        have HV2 := Lib.hid hv2
        have HDZ := Lib.hid hdz
        clear hs3 hf hr hv2 kk hdz
        go_wp2_with (with_reducible show wpList _ _ _ (⟨some 53, _, _, _, _, _⟩ :: _) _ _; go_must (refine wpList_append_qs rfl (.tmp 51) (.tmp 52) 72 9 rfl 5 Try.underlying72 Try.underlying9 (by kernel_rfl) (.slice a r.f.data.size cc) (u8Vs r.f.data.data.toList) rfl (by rw [← HV2.out]; exact HF3.out.own) b rfl (by rw [u8Vs_size]; have := HDZ.out; omega) ?_; intro v' w4 ha; have hA := app_file HF3.out HV2.out ha; obtain ⟨hsl, g0, y0⟩ := hA; obtain ⟨a', n', cc', hv'⟩ := hsl; subst hv'; have HA := Lib.hid ha; clear ha))
        go_ret
        have ha2 : Appended w3 w4 5 r.v (.slice a' n' cc') (u8Vs (r.f.data ++ b).data.toList) := by
          have e : (r.f.data ++ b).data.toList = r.f.data.data.toList ++ b.data.toList := by simp
          rw [e, u8Vs_app, HV2.out]; exact HA.out
        have hsb := HS3.out.setBytes HR.out ha2
        refine ⟨_, _, rfl, ErrV.ok, hsb.1.mono (fun i hi => ?_), ?_, ((HK1.out.up HF.out).trans (Keeps.none_ HKK.out)).trans hsb.2⟩
        · rcases hi with hi | hi
          · exact .inl hi
          · exact .inr (Nat.le_trans (Nat.le_trans HK1.out.size HKK.out.size) hi)
        · refine (swap_f (r := ⟨⟨r.f.name, r.f.data ++ b, r.f.sure⟩, r.p, .slice a' n' cc'⟩) HS3.out.rise HR.out rfl).trans ?_
          rw [HRN.out]
      | none =>
        simp only [Option.map_none]
        have HG := Lib.hid hg
        clear hg
        go_enter Try.func43, Try.ntmps43
        go_wp2_with fail
        refine HB.out.mono ?_
        rintro e w1 ⟨⟨v, rfl, hev⟩, hs1, k1⟩
        obtain rfl := hev.nil_
        have HS1 := Lib.hid hs1
        have HK1 := Lib.hid k1
        obtain ⟨c0, c1, c2⟩ := hs1.top.cells3
        clear hs1 k1 hev c0 c2
        go_wp2_with fail
        go_region_held3 (fun w' => w'.cell? ⟨s, 1, none⟩ = some (.int .i64 most) ∧ Keeps (fun _ => False) w1 w')
          ((first | exact ⟨c1, by (repeat (first | (with_reducible assumption) | (with_reducible exact Keeps.refl _ _) | refine Keeps.drew ?_ | refine Keeps.drewN ?_ _ | refine Keeps.setCell ?_ (by simp) _ | refine Keeps.setRow ?_ (by simp) _ | refine Keeps.alloc ?_ _))⟩ | exact ⟨d1, kk⟩))
          ((go_at_call 58; rename_i hh _ _; refine (HTOT.out _ (HS1.out.keeps hh.2 (fun _ _ => id))).mono ?_; rintro e w3 ⟨rfl, k3⟩; have kk : Keeps (fun _ => False) w1 w3 := hh.2.trans k3; have d1 := (HS1.out.top.keeps kk id).cells3.2.1))
        have hs3 := HS1.out.keeps kk (fun _ _ => id)
        obtain ⟨d0, d1', d2⟩ := hs3.top.cells3
        have hl := hs3.look nm hle2
        rw [HG.out] at hl
        simp only [Option.map_none, Option.isSome_none] at hl
        obtain ⟨w4, hrun, hs4, k4⟩ := hs3.fresh (nm := nm) hle2 hL
        obtain ⟨p0, p1, p2⟩ := (hs3.top.alloc (.cells #[.slice none 0 0, .int .i64 0] 74)).cells3
        have hr : (⟨⟨nm, ⟨#[]⟩, 0⟩, w3.heap.size, .slice none 0 0⟩ : SRep) ∈ putG SRep.nm ⟨⟨nm, ⟨#[]⟩, 0⟩, w3.heap.size, .slice none 0 0⟩ L := insG_mem.2 (.inl rfl)
        have hf := hs4.each _ hr
        have f0 := hf.blk.cell 0
        simp only [List.getElem?_toArray, List.getElem?_cons_zero] at f0
        have HS4 := Lib.hid hs4
        have HK4 := Lib.hid k4
        have HKK := Lib.hid kk
        have HR := Lib.hid hr
        have HF3 := Lib.hid hf
        have HRS := Lib.hid hs3.rise
        clear hs3 hs4 k4 kk hr hf
        go_wp2_with (with_reducible show wpList _ _ _ (⟨some 53, _, _, _, _, _⟩ :: _) _ _; go_must (refine wpList_append_qs rfl (.tmp 51) (.tmp 52) 72 9 rfl 5 Try.underlying72 Try.underlying9 (by kernel_rfl) (.slice none 0 0) [] rfl OwnQ.none_ b rfl (by simp; omega) ?_; intro v' w5 ha; have hA := app_file HF3.out rfl ha; obtain ⟨hsl, g0, y0⟩ := hA; obtain ⟨a', n', cc', hv'⟩ := hsl; subst hv'; have HA := Lib.hid ha; clear ha))
        go_ret
        have hsb := HS4.out.setBytes (d := b) HR.out HA.out
        refine ⟨_, _, rfl, ErrV.ok, hsb.1.mono (fun i hi => ?_), ?_, keeps_of_up (((HK1.out.up HF.out).trans (Keeps.none_ HKK.out)).trans HK4.out) (hsb.2.mono fun i _ hi => ?_)⟩
        · rcases hi with hi | hi
          · rcases hi with hi | hi
            · exact .inl hi
            · exact .inr (Nat.le_trans (Nat.le_trans HK1.out.size HKK.out.size) hi)
          · exact .inr (Nat.le_trans (Nat.le_trans (Nat.le_trans HK1.out.size HKK.out.size) HK4.out.size) hi)
        · exact putG_swap (r := ⟨⟨nm, ⟨#[]⟩, 0⟩, w3.heap.size, .slice none 0 0⟩) (r' := ⟨⟨nm, b, 0⟩, w3.heap.size, .slice a' n' cc'⟩) HRS.out rfl
        · rcases hi with hi | hi
          · exact .inl hi
          · exact .inr (Nat.le_trans (Nat.le_trans HK1.out.size HKK.out.size) hi)
  · have hsync : appendP most bad (L.map SRep.f) nm b = (c, b', L.map SRep.f) := by
      unfold appendP
      rw [if_pos (by rw [← hc]; exact h0), ← hb', ← hc]
    rw [hsync]
    rw [← hc, ← hb'] at HB
    clear hsync hc hb'
    go_enter Try.func43, Try.ntmps43
    go_wp2_with fail
    refine HB.out.mono ?_
    rintro e w1 ⟨⟨v, rfl, hev⟩, hs1, k1⟩
    have HEV := Lib.hid hev
    obtain ⟨ty, x, rfl⟩ := hev.iface h0
    have HS1 := Lib.hid hs1
    have HK1 := Lib.hid k1
    clear hs1 k1 hev
    go_wp2_with fail
    go_ret
    exact After.fails HEV.out HS1.out rfl (HK1.out.up HF.out)
end
end Go.Proofs.Ytfbdpmeelejdhaa
