/-
  The document's turn of a log's generations (wheelhouseref21).
-/
import Derived.Test.YtdbnalocmjkncaaGreatDoorQLoadR
import Derived.Test.YtdbnalocmjkncaaGreatDoorQGensC
import Derived.Test.YtdbnalocmjkncaaGreatDoorQDocF
namespace Go.Proofs.YtdbnalocmjkncaaGreatDoor
open Go.RowKit Go.Maps

theorem putG_len (f : SFile) (l : List SFile) : (putG SFile.name f l).length ≤ l.length + 1 := by
  unfold putG
  rw [(insG_perm _ _).length_eq, List.length_cons]
  exact Nat.succ_le_succ (List.length_filter_le _ _)
theorem delG_len (nm : ByteArray) (l : List SFile) : (delG SFile.name nm l).length ≤ l.length := by
  unfold delG
  exact List.length_filter_le _ _
theorem begin_le (bad : Nat) (nm : ByteArray) : (beginC bad nm).2 ≤ bad := by
  unfold beginC
  split
  · split <;> simp
  · simp
theorem rename_len (bad : Nat) (l : List SFile) (a b : ByteArray) : (renameP bad l a b).2.1 ≤ bad ∧ (renameP bad l a b).2.2.length ≤ l.length + 1 := by
  have h := begin_le bad a
  unfold renameP
  split
  · exact ⟨h, Nat.le_succ _⟩
  · split
    · exact ⟨h, Nat.le_succ _⟩
    · split
      · exact ⟨h, Nat.le_succ _⟩
      · exact ⟨h, Nat.le_trans (putG_len _ _) (Nat.succ_le_succ (delG_len _ _))⟩
theorem remove_len (bad : Nat) (l : List SFile) (a : ByteArray) : (removeP bad l a).2.1 ≤ bad ∧ (removeP bad l a).2.2.length ≤ l.length := by
  have h := begin_le bad a
  unfold removeP
  split
  · exact ⟨h, Nat.le_refl _⟩
  · split
    · exact ⟨h, Nat.le_refl _⟩
    · exact ⟨h, delG_len _ _⟩
theorem DocL.far3 {w : World} {v : Value} {l : List SFile} (h : DocL w v l) {q : Nat} {cs : Array Value} (hb : Blk w q 27 cs) (x y z : Value) : DocL (((w.setCell ⟨q, 0, none⟩ x).setCell ⟨q, 1, none⟩ y).setCell ⟨q, 2, none⟩ z) v l :=
  OwnS.keeps h ((((Keeps.refl (fun i => i = q) w).setCell (p := ⟨q, 0, none⟩) (fun _ => rfl) x).setCell (p := ⟨q, 1, none⟩) (fun _ => rfl) y).setCell (p := ⟨q, 2, none⟩) (fun _ => rfl) z) (fun i _ _ ⟨cs', hb'⟩ e => by subst e; exact hb'.ne_ hb (by decide) rfl)
/-- the turn's two variables: what there is, and what it hands back -/
structure TurnV (w0 wr : World) (v : Value) (most : Int) (bad : Nat) (l : List SFile) : Prop where
  x : Blk wr w0.heap.size 27 #[v, .int .i64 most, .int .i64 bad]
  z : Blk wr (w0.heap.size + 1) 27 #[.slice none 0 0, .int .i64 0, .int .i64 0]
  d : DocL wr v l
  k : Keeps (fun _ => False) w0 wr
theorem TurnV.same {w0 wr wx : World} {v : Value} {most : Int} {bad : Nat} {l : List SFile} (h : TurnV w0 wr v most bad l) (k : Keeps (fun _ => False) wr wx) : TurnV w0 wx v most bad l := ⟨h.x.keeps k id, h.z.keeps k id, h.d.keeps k, h.k.trans k⟩
theorem TurnV.at_ {w0 wr : World} {v : Value} {most : Int} {bad : Nat} {l : List SFile} (h : TurnV w0 wr v most bad l) : ∀ W, Keeps (fun _ => False) wr W → W.cell? ⟨w0.heap.size, 0, none⟩ = some v ∧ W.cell? ⟨w0.heap.size, 1, none⟩ = some (.int .i64 most) ∧ W.cell? ⟨w0.heap.size, 2, none⟩ = some (.int .i64 bad) := fun _ kk => (h.x.keeps kk id).cells3
/-- another is put there -/
theorem TurnV.set_ {w0 wr : World} {v v2 : Value} {most : Int} {bad bad2 : Nat} {l l2 : List SFile} (h : TurnV w0 wr v most bad l) (hd : DocL wr v2 l2) : TurnV w0 (((wr.setCell ⟨w0.heap.size, 0, none⟩ v2).setCell ⟨w0.heap.size, 1, none⟩ (.int .i64 most)).setCell ⟨w0.heap.size, 2, none⟩ (.int .i64 bad2)) v2 most bad2 l2 := by
  refine ⟨((h.x.set_ 0 _).set_ 1 _).set_ 2 _, ((h.z.far (by simp) _).far (by simp) _).far (by simp) _, hd.far3 h.x _ _ _, ?_⟩
  exact h.k.setC3 (Nat.le_refl _) _ _ _

set_option maxRecDepth 100000 in
set_option maxHeartbeats 8000000 in
theorem rturn_any (w : World) (v : Value) (most : Int) (bad : Nat) (l : List SFile) (base : ByteArray) (k : Int) (h : DocL w v l) (hl : l.length ≤ 1048576) (hb : base.size ≤ 1048576) (hbad : bad ≤ 9223372036854775807) :
    Calls Tryz.prog 13 #[docS v most bad, .string base, .int .i64 k] w (DocAfter w most (turnP base (heldP k - 1) bad l)) := by
  have hh := fun W => rheld_any W k
  obtain ⟨q1, q2⟩ := heldP_le k
  obtain ⟨q, hq⟩ : ∃ q, heldP k = q + 1 := ⟨heldP k - 1, by omega⟩
  have hq0 : heldP k - 1 = q := by omega
  rw [hq0]
  rw [hq] at hh
  have hqq : q ≤ 15 := by omega
  have HH := Lib.hid hh
  have hsz := genName_size (base := base) (i := (q : Nat)) (by omega)
  have HNQ := Lib.hid (fun W => rgname_any W base (q : Nat) hb (by omega) (by omega))
  obtain ⟨nq, hnq⟩ : ∃ nq, nq = genName base (q : Nat) := ⟨_, rfl⟩
  rw [← hnq] at hsz HNQ
  obtain ⟨R, hR⟩ : ∃ R, R = turnP base q bad l := ⟨_, rfl⟩
  rw [← hR]
  have hgo : goneP base q bad l = match getG SFile.name nq l with | none => (0, bad, l) | some _ => removeP bad l nq := by unfold goneP genF; rw [← hnq]; try (cases getG SFile.name nq l <;> rfl)
  have hR2 : R = if (goneP base q bad l).1 ≠ 0 then goneP base q bad l else turnL base (downs q) (goneP base q bad l).2.1 (goneP base q bad l).2.2 := by rw [hR]; rfl
  rw [hgo] at hR2
  have HR := Lib.hid hR2
  obtain ⟨av, nv, cv, rfl⟩ := h.slc
  have HD := Lib.hid h
  have HSZ := Lib.hid hsz
  clear hq hq0 q1 q2 hh hnq hR hgo hR2 h hsz
  unfold docS
  go_enter Tryz.func13, Tryz.ntmps13
  go_wp2_with fail
  refine (HH.out _).mono ?_
  rintro e w1 ⟨rfl, hw1⟩
  have HT := Lib.hid (show TurnV w w1 (.slice av nv cv) most bad l by
    rw [hw1]
    refine ⟨((Blk.new w _ _).alloc _), ?_, ?_, ?_⟩
    · have := Blk.new (w.alloc (.cells #[.slice av nv cv, .int .i64 most, .int .i64 bad] 27)) 27 #[.slice none 0 0, .int .i64 0, .int .i64 0]
      simpa using this
    · exact HD.out.keeps (((Keeps.refl _ _).alloc _).alloc _)
    · exact ((Keeps.refl _ _).alloc _).alloc _)
  clear hw1
  have hx0 : ∀ W, Keeps (fun _ => False) w1 W → W.cell? ⟨w.heap.size, 0, none⟩ = some (.slice av nv cv) := fun W kk => (HT.out.at_ W kk).1
  have hx1 : ∀ W, Keeps (fun _ => False) w1 W → W.cell? ⟨w.heap.size, 1, none⟩ = some (.int .i64 most) := fun W kk => (HT.out.at_ W kk).2.1
  have hx2 : ∀ W, Keeps (fun _ => False) w1 W → W.cell? ⟨w.heap.size, 2, none⟩ = some (.int .i64 bad) := fun W kk => (HT.out.at_ W kk).2.2
  have hsz1 := HT.out.k.size
  have HG := Lib.hid (fun W (kk : Keeps (fun _ => False) w1 W) => rget_any W (.slice av nv cv) most bad l nq (HT.out.d.keeps kk) (by omega))
  unfold docS docF at HG
  go_upto_region 2 with (fail)
  go_cut [9, 10] (fun s1 s2 wx => ∃ (q : Nat) (f : SFile) (ok : Bool), s1 = .pointer (some ⟨q, 0, none⟩) ∧ s2 = .bool ok ∧ Hid (((ok = true ∧ getG SFile.name nq l = some f) ∨ (ok = false ∧ getG SFile.name nq l = none)) ∧ Keeps (fun _ => False) w1 wx))
  case first =>
    as_aux_lemma =>
    go_region_held3 (fun w2 => Keeps (fun _ => False) w1 w2)
      ((repeat (first | (with_reducible assumption) | (with_reducible exact Keeps.refl _ _) | refine Keeps.drew ?_ | refine Keeps.drewN ?_ _ | refine Keeps.alloc ?_ _ | refine Keeps.setCell ?_ (fun h => by first | (simp at h; done) | (simp at h; omega)) _)))
      (first
        | (go_at_call 31; rename_i hk _ _; (first | (with_reducible refine (HNQ.out _).mono ?_)); rintro e w3 ⟨rfl, k3⟩; have kk : Keeps (fun _ => False) w1 w3 := hk.trans k3; have kz := kk.size; (try ((first | have bn := bn.keeps k3 id | have bn := bn.keeps k3.from_drew id | have bn := Blk.keeps (Blk.new _ 99 #[.string { data := #[] }, .string { data := #[] }, .int .i64 0]) k3 id | have bn := Blk.keeps (Blk.new _ 99 #[.string { data := #[] }, .string { data := #[] }, .int .i64 0]) k3.from_drew id); obtain ⟨⟨n0, n1, n2⟩, nf0, nf1, nf2⟩ := bn.all3)))
        | (go_at_call 44; rename_i hk _ _; refine (HG.out _ hk).mono ?_; rintro e w4 ⟨⟨f, ok, rfl, hf⟩, k4⟩; have kk : Keeps (fun _ => False) w1 w4 := hk.trans k4; have kz := kk.size; have HF := Lib.hid hf; clear hf; (try ((first | have bn := bn.keeps k4 id | have bn := bn.keeps k4.from_drew id | have bn := Blk.keeps (Blk.new _ 99 #[.string { data := #[] }, .string { data := #[] }, .int .i64 0]) k4 id | have bn := Blk.keeps (Blk.new _ 99 #[.string { data := #[] }, .string { data := #[] }, .int .i64 0]) k4.from_drew id); obtain ⟨⟨n0, n1, n2⟩, nf0, nf1, nf2⟩ := bn.all3))))
    all_goals (go_wp2_with fail; go_meet)
    all_goals exact ⟨_, f, ok, rfl, rfl, Lib.hid ⟨HF.out.imp id (fun h => ⟨h.1, h.2.2⟩), by first | exact kk.alloc _ | exact kk.setC3 (by omega) _ _ _⟩⟩
  case rest =>
    obtain ⟨qb, f, ok, rfl, rfl, HQ⟩ := hcut
    have HT2 := Lib.hid (HT.out.same HQ.out.2)
    clear HG hx0 hx1 hx2
    rcases HQ.out.1 with ⟨rfl, hg⟩ | ⟨rfl, hg⟩
    · as_aux_lemma =>
      have hR := HR.out
      rw [hg] at hR
      simp only at hR
      have hrl := remove_len bad l nq
      have HA := Lib.hid (fun W (kk : Keeps (fun _ => False) wc W) => rremove_any W (.slice av nv cv) most bad l nq (HT2.out.d.keeps kk) (by omega) (by have := HSZ.out; omega) hbad)
      obtain ⟨x, hx⟩ : ∃ x, x = removeP bad l nq := ⟨_, rfl⟩
      rw [← hx] at hR HA hrl
      unfold DocAfter docS at HA
      have HRR := Lib.hid hR
      obtain ⟨hrl1, hrl2⟩ := hrl
      clear hg hR hx
      have hx0 : ∀ W, Keeps (fun _ => False) wc W → W.cell? ⟨w.heap.size, 0, none⟩ = some (.slice av nv cv) := fun W kk => (HT2.out.at_ W kk).1
      have hx1 : ∀ W, Keeps (fun _ => False) wc W → W.cell? ⟨w.heap.size, 1, none⟩ = some (.int .i64 most) := fun W kk => (HT2.out.at_ W kk).2.1
      have hx2 : ∀ W, Keeps (fun _ => False) wc W → W.cell? ⟨w.heap.size, 2, none⟩ = some (.int .i64 bad) := fun W kk => (HT2.out.at_ W kk).2.2
      have hsz2 := HT2.out.k.size
      go_upto_region 4 with (fail)
      go_cut [11, 12] (fun s1 s2 wx => ∃ (q : Nat) (a2 : Option Addr) (n2 c2 : Nat), s1 = .pointer (some ⟨q, 0, none⟩) ∧ s2 = .int .i64 x.1 ∧ Hid (Blk wx q 27 #[.slice a2 n2 c2, .int .i64 most, .int .i64 (x.2.1 : Nat)] ∧ wc.heap.size ≤ q ∧ DocL wx (.slice a2 n2 c2) x.2.2 ∧ Keeps (fun _ => False) wc wx))
      case first =>
        as_aux_lemma =>
        go_region_held3 (fun w2 => Keeps (fun _ => False) wc w2)
          ((repeat (first | (with_reducible assumption) | (with_reducible exact Keeps.refl _ _) | refine Keeps.drew ?_ | refine Keeps.drewN ?_ _ | refine Keeps.alloc ?_ _ | refine Keeps.setCell ?_ (fun h => by first | (simp at h; done) | (simp at h; omega)) _)))
          (first
            | (go_at_call 31; rename_i hk _ _; (first | (with_reducible refine (HNQ.out _).mono ?_)); rintro e w3 ⟨rfl, k3⟩; have kk : Keeps (fun _ => False) wc w3 := hk.trans k3; have kz := kk.size; (try ((first | have bn := bn.keeps k3 id | have bn := bn.keeps k3.from_drew id | have bn := Blk.keeps (Blk.new _ 27 #[.slice none 0 0, .int .i64 0, .int .i64 0]) k3 id | have bn := Blk.keeps (Blk.new _ 27 #[.slice none 0 0, .int .i64 0, .int .i64 0]) k3.from_drew id); obtain ⟨⟨n0, n1, n2⟩, nf0, nf1, nf2⟩ := bn.all3)))
            | (go_at_call 45; rename_i hk _ _; refine (HA.out _ hk).mono ?_; rintro e w4 ⟨v4, rfl, hd4, k4⟩; obtain ⟨a4, n4, c4, rfl⟩ := hd4.slc; have kk : Keeps (fun _ => False) wc w4 := hk.trans k4; have kz := kk.size; have HD4 := Lib.hid hd4; clear hd4; (try ((first | have bn := bn.keeps k4 id | have bn := bn.keeps k4.from_drew id | have bn := Blk.keeps (Blk.new _ 27 #[.slice none 0 0, .int .i64 0, .int .i64 0]) k4 id | have bn := Blk.keeps (Blk.new _ 27 #[.slice none 0 0, .int .i64 0, .int .i64 0]) k4.from_drew id); obtain ⟨⟨n0, n1, n2⟩, nf0, nf1, nf2⟩ := bn.all3))))
        all_goals (go_wp2_with fail; go_meet)
        all_goals first
          | exact ⟨_, a4, n4, c4, rfl, rfl, Lib.hid ⟨Blk.new _ _ _, kz, HD4.out.keeps ((Keeps.refl _ _).alloc _), kk.alloc _⟩⟩
          | exact ⟨_, a4, n4, c4, rfl, rfl, Lib.hid ⟨((bn.set_ 0 _).set_ 1 _).set_ 2 _, by omega, DocL.far3 HD4.out bn _ _ _, kk.setC3 (by omega) _ _ _⟩⟩
      case rest =>
        obtain ⟨qc, a2, n2, c2, rfl, rfl, HQ2⟩ := hcut
        rename World => wd
        have HT3 := Lib.hid (HT2.out.same HQ2.out.2.2.2)
        obtain ⟨⟨y0, y1, y2⟩, -⟩ := HQ2.out.1.all3
        obtain ⟨⟨z0, z1, z2⟩, zf0, zf1, zf2⟩ := HT3.out.x.all3
        obtain ⟨⟨u0, u1, u2⟩, uf0, uf1, uf2⟩ := HT3.out.z.all3
        have HT4 := Lib.hid (HT3.out.set_ (bad2 := x.2.1) HQ2.out.2.2.1)
        have hsz3 := HT3.out.k.size
        clear hx0 hx1 hx2
        by_cases hx0 : x.1 = 0
        · have hxb : (x.1 == 0) = true := by rw [beq_iff_eq]; exact hx0
          have HX := Lib.hid (show turnL base (downs q) x.2.1 x.2.2 = R by have := HRR.out; rw [if_neg (by rw [hx0]; simp)] at this; exact this.symm)
          clear hx0
          go_wp2_with fail
          go_loopw [13] (fun u13 wr => ∃ (j : Nat), u13 = .int .i64 ((j : Int) - 1) ∧ j ≤ 15 ∧ Hid (∃ (a' : Option Addr) (n' c' : Nat) (bad' : Nat) (l' : List SFile), TurnV w wr (.slice a' n' c') most bad' l' ∧ turnL base (downs j) bad' l' = R ∧ bad' ≤ bad ∧ l'.length ≤ l.length + 15 - j)) (fun u13 _ => (intOf u13 + 1).toNat)
          case atStart => exact ⟨q, by first | rfl | go_num, hqq, Lib.hid ⟨_, _, _, _, _, HT4.out, HX.out, by omega, by omega⟩⟩
          case round =>
            obtain ⟨j, rfl, hj, a', n', c', bad', l', HT0, hrr, hbd, hln⟩ := hrel
            rename World => wr
            have HT := Lib.hid HT0
            have HRJ := Lib.hid hrr
            clear HT0 hrr
            obtain ⟨⟨z0, z1, z2⟩, zf0, zf1, zf2⟩ := HT.out.x.all3
            obtain ⟨⟨u0, u1, u2⟩, uf0, uf1, uf2⟩ := HT.out.z.all3
            rcases j with _ | j
            · have hRR : R = (0, bad', l') := HRJ.out.symm
              have HRR := Lib.hid hRR
              clear hRR
              go_wp2_with fail
              refine ret_cell_tmp rfl (w.heap.size + 1) 27 _ _ rfl (((HT.out.z.set_ 0 _).set_ 1 _).set_ 2 _) Tryz.underlying27 rfl (by kernel_rfl) rfl ?_
              rw [HRR.out]
              exact ⟨_, rfl, DocL.far3 HT.out.d HT.out.z _ _ _, HT.out.k.setC3 (Nat.le_succ _) _ _ _⟩
            · have ej : ((j + 1 : Nat) : Int) - 1 = (j : Int) := by omega
              rw [ej]
              have hsz := genName_size (base := base) (i := (j : Nat)) (by omega)
              have hszk := genName_size (base := base) (i := ((j + 1 : Nat) : Int)) (by omega)
              have hN := fun W => rgname_any W base (j : Nat) hb (by omega) (by omega)
              have hN2 := fun W => rgname_any W base ((j + 1 : Nat) : Int) hb (by omega) (by omega)
              rw [show ((j + 1 : Nat) : Int) = (j : Int) + 1 by omega] at hN2
              have hcn := fun hg => turnL_cons_none (base := base) (j := j) (bad := bad') (l := l') hg
              have hcs := fun f x hg hx => turnL_cons_some (base := base) (j := j) (bad := bad') (l := l') (f := f) (x := x) hg hx
              obtain ⟨nj, hnj⟩ : ∃ nj, nj = genName base (j : Nat) := ⟨_, rfl⟩
              obtain ⟨nk, hnk⟩ : ∃ nk, nk = genName base ((j : Int) + 1) := ⟨_, rfl⟩
              rw [show ((j + 1 : Nat) : Int) = (j : Int) + 1 by omega] at hcs hszk
              unfold genF at hcn hcs
              rw [← hnj] at hsz hN hcn hcs
              rw [← hnk] at hN2 hcs hszk
              have HN := Lib.hid hN
              have HN2 := Lib.hid hN2
              have HCN := Lib.hid hcn
              have HCS := Lib.hid hcs
              have HG := Lib.hid (fun W (kk : Keeps (fun _ => False) wr W) => rget_any W (.slice a' n' c') most bad' l' nj (HT.out.d.keeps kk) (by omega))
              unfold docS docF at HG
              have hxr := rename_len bad' l' nj nk
              have HA := Lib.hid (fun W (kk : Keeps (fun _ => False) wr W) => rrename_any W (.slice a' n' c') most bad' l' nj nk (HT.out.d.keeps kk) (by omega) (by omega) (by omega) (by omega))
              obtain ⟨x, hx⟩ : ∃ x, x = renameP bad' l' nj nk := ⟨_, rfl⟩
              rw [← hx] at hxr HA
              unfold DocAfter docS at HA
              have HX := Lib.hid hx
              obtain ⟨hxr1, hxr2⟩ := hxr
              clear ej hN hN2 hcn hcs hnj hnk hx z0 z1 z2 zf0 zf1 zf2 u0 u1 u2 uf0 uf1 uf2
              have hsr := HT.out.k.size
              have hx0 : ∀ W, Keeps (fun _ => False) wr W → W.cell? ⟨w.heap.size, 0, none⟩ = some (.slice a' n' c') := fun W kk => (HT.out.at_ W kk).1
              have hx1 : ∀ W, Keeps (fun _ => False) wr W → W.cell? ⟨w.heap.size, 1, none⟩ = some (.int .i64 most) := fun W kk => (HT.out.at_ W kk).2.1
              have hx2 : ∀ W, Keeps (fun _ => False) wr W → W.cell? ⟨w.heap.size, 2, none⟩ = some (.int .i64 bad') := fun W kk => (HT.out.at_ W kk).2.2
              go_upto_region 11 with (fail)
              go_cut [14, 15] (fun s1 s2 wx => ∃ (q : Nat) (f : SFile) (ok : Bool), s1 = .pointer (some ⟨q, 0, none⟩) ∧ s2 = .bool ok ∧ Hid (((ok = true ∧ getG SFile.name nj l' = some f) ∨ (ok = false ∧ getG SFile.name nj l' = none)) ∧ Keeps (fun _ => False) wr wx))
              case first =>
                as_aux_lemma =>
                go_region_held3 (fun w2 => Keeps (fun _ => False) wr w2)
                  ((repeat (first | (with_reducible assumption) | (with_reducible exact Keeps.refl _ _) | refine Keeps.drew ?_ | refine Keeps.drewN ?_ _ | refine Keeps.alloc ?_ _ | refine Keeps.setCell ?_ (fun h => by first | (simp at h; done) | (simp at h; omega)) _)))
                  (first
                    | (go_at_call 31; rename_i hk _ _; (first | (with_reducible refine (HN.out _).mono ?_)); rintro e w3 ⟨rfl, k3⟩; have kk : Keeps (fun _ => False) wr w3 := hk.trans k3; have kz := kk.size; (try ((first | have bn := bn.keeps k3 id | have bn := bn.keeps k3.from_drew id | have bn := Blk.keeps (Blk.new _ 99 #[.string { data := #[] }, .string { data := #[] }, .int .i64 0]) k3 id | have bn := Blk.keeps (Blk.new _ 99 #[.string { data := #[] }, .string { data := #[] }, .int .i64 0]) k3.from_drew id); obtain ⟨⟨n0, n1, n2⟩, nf0, nf1, nf2⟩ := bn.all3)))
                    | (go_at_call 44; rename_i hk _ _; refine (HG.out _ hk).mono ?_; rintro e w4 ⟨⟨f, ok, rfl, hf⟩, k4⟩; have kk : Keeps (fun _ => False) wr w4 := hk.trans k4; have kz := kk.size; have HF := Lib.hid hf; clear hf; (try ((first | have bn := bn.keeps k4 id | have bn := bn.keeps k4.from_drew id | have bn := Blk.keeps (Blk.new _ 99 #[.string { data := #[] }, .string { data := #[] }, .int .i64 0]) k4 id | have bn := Blk.keeps (Blk.new _ 99 #[.string { data := #[] }, .string { data := #[] }, .int .i64 0]) k4.from_drew id); obtain ⟨⟨n0, n1, n2⟩, nf0, nf1, nf2⟩ := bn.all3))))
                all_goals (go_wp2_with fail; go_meet)
                all_goals exact ⟨_, f, ok, rfl, rfl, Lib.hid ⟨HF.out.imp id (fun h => ⟨h.1, h.2.2⟩), by first | exact kk.alloc _ | exact kk.setC3 (by omega) _ _ _⟩⟩
              case rest =>
                obtain ⟨qb, f, ok, rfl, rfl, HQ⟩ := hcut
                rename World => wc
                have HT2 := Lib.hid (HT.out.same HQ.out.2)
                clear HG hx0 hx1 hx2
                rcases HQ.out.1 with ⟨rfl, hg⟩ | ⟨rfl, hg⟩
                · have HRS := Lib.hid ((HCS.out f x hg HX.out).symm.trans HRJ.out)
                  have HA2 := Lib.hid (fun W (kk : Keeps (fun _ => False) wc W) => HA.out W (HQ.out.2.trans kk))
                  clear hg HA
                  have HA := HA2
                  have hx0 : ∀ W, Keeps (fun _ => False) wc W → W.cell? ⟨w.heap.size, 0, none⟩ = some (.slice a' n' c') := fun W kk => (HT2.out.at_ W kk).1
                  have hx1 : ∀ W, Keeps (fun _ => False) wc W → W.cell? ⟨w.heap.size, 1, none⟩ = some (.int .i64 most) := fun W kk => (HT2.out.at_ W kk).2.1
                  have hx2 : ∀ W, Keeps (fun _ => False) wc W → W.cell? ⟨w.heap.size, 2, none⟩ = some (.int .i64 bad') := fun W kk => (HT2.out.at_ W kk).2.2
                  have hsc := HT2.out.k.size
                  have hwj : IntKind.i64.wrap ((j : Int) + 1) = (j : Int) + 1 := wrap_in (by omega) (by omega)
                  have hwk : wrap64 ((j : Int) + 1) = (j : Int) + 1 := IntWalk.wrap64_in _ (by omega)
                  go_upto_region 13 with (fail)
                  go_cut [16, 17] (fun s1 s2 wx => ∃ (q : Nat) (a2 : Option Addr) (n2 c2 : Nat), s1 = .pointer (some ⟨q, 0, none⟩) ∧ s2 = .int .i64 x.1 ∧ Hid (Blk wx q 27 #[.slice a2 n2 c2, .int .i64 most, .int .i64 (x.2.1 : Nat)] ∧ wc.heap.size ≤ q ∧ DocL wx (.slice a2 n2 c2) x.2.2 ∧ Keeps (fun _ => False) wc wx))
                  case first =>
                    as_aux_lemma =>
                    go_region_held3 (fun w2 => Keeps (fun _ => False) wc w2)
                      ((repeat (first | (with_reducible assumption) | (with_reducible exact Keeps.refl _ _) | refine Keeps.drew ?_ | refine Keeps.drewN ?_ _ | refine Keeps.alloc ?_ _ | refine Keeps.setCell ?_ (fun h => by first | (simp at h; done) | (simp at h; omega)) _)))
                      (first
                        | (go_at_call 31; rename_i hk _ _; (first | (with_reducible refine (HN.out _).mono ?_) | (with_reducible refine (HN2.out _).mono ?_)); rintro e w3 ⟨rfl, k3⟩; have kk : Keeps (fun _ => False) wc w3 := hk.trans k3; have kz := kk.size; (try ((first | have bn := bn.keeps k3 id | have bn := bn.keeps k3.from_drew id | have bn := Blk.keeps (Blk.new _ 27 #[.slice none 0 0, .int .i64 0, .int .i64 0]) k3 id | have bn := Blk.keeps (Blk.new _ 27 #[.slice none 0 0, .int .i64 0, .int .i64 0]) k3.from_drew id); obtain ⟨⟨n0, n1, n2⟩, nf0, nf1, nf2⟩ := bn.all3)))
                        | (go_at_call 46; rename_i hk _ _; refine (HA.out _ hk).mono ?_; rintro e w4 ⟨v4, rfl, hd4, k4⟩; obtain ⟨a4, n4, c4, rfl⟩ := hd4.slc; have kk : Keeps (fun _ => False) wc w4 := hk.trans k4; have kz := kk.size; have HD4 := Lib.hid hd4; clear hd4; (try ((first | have bn := bn.keeps k4 id | have bn := bn.keeps k4.from_drew id | have bn := Blk.keeps (Blk.new _ 27 #[.slice none 0 0, .int .i64 0, .int .i64 0]) k4 id | have bn := Blk.keeps (Blk.new _ 27 #[.slice none 0 0, .int .i64 0, .int .i64 0]) k4.from_drew id); obtain ⟨⟨n0, n1, n2⟩, nf0, nf1, nf2⟩ := bn.all3))))
                    all_goals (go_wp2_with fail; go_meet)
                    all_goals first
                      | exact ⟨_, a4, n4, c4, rfl, rfl, Lib.hid ⟨Blk.new _ _ _, kz, HD4.out.keeps ((Keeps.refl _ _).alloc _), kk.alloc _⟩⟩
                      | exact ⟨_, a4, n4, c4, rfl, rfl, Lib.hid ⟨((bn.set_ 0 _).set_ 1 _).set_ 2 _, by omega, DocL.far3 HD4.out bn _ _ _, kk.setC3 (by omega) _ _ _⟩⟩
                  case rest =>
                    obtain ⟨qc, a2, n2, c2, rfl, rfl, HQ2⟩ := hcut
                    rename World => wd
                    have HT3 := Lib.hid (HT2.out.same HQ2.out.2.2.2)
                    obtain ⟨⟨y0, y1, y2⟩, -⟩ := HQ2.out.1.all3
                    obtain ⟨⟨z0, z1, z2⟩, zf0, zf1, zf2⟩ := HT3.out.x.all3
                    obtain ⟨⟨u0, u1, u2⟩, uf0, uf1, uf2⟩ := HT3.out.z.all3
                    have HT4 := Lib.hid (HT3.out.set_ (bad2 := x.2.1) HQ2.out.2.2.1)
                    have hsd := HT3.out.k.size
                    clear hx0 hx1 hx2 hwj hwk
                    by_cases hx0 : x.1 = 0
                    · as_aux_lemma =>
                      have hxb : (x.1 == 0) = true := by rw [beq_iff_eq]; exact hx0
                      have HRX := Lib.hid (show turnL base (downs j) x.2.1 x.2.2 = R by have := HRS.out; rwa [if_neg (by rw [hx0]; simp)] at this)
                      clear hx0
                      go_wp2_with fail
                      go_roundw
                      case rel => exact ⟨j, by go_num, by omega, Lib.hid ⟨_, _, _, _, _, HT4.out, HRX.out, by omega, by omega⟩⟩
                      case measure => simp [intOf]
                    · as_aux_lemma =>
                      have hxb : (x.1 == 0) = false := by rw [beq_eq_false_iff_ne]; exact hx0
                      have HRX := Lib.hid (show R = x by have := HRS.out; rw [if_pos hx0] at this; exact this.symm)
                      clear hx0
                      go_wp2_with fail
                      refine ret_cell_tmp rfl (w.heap.size + 1) 27 _ _ rfl (((HT4.out.z.set_ 0 _).set_ 1 _).set_ 2 _) Tryz.underlying27 rfl (by kernel_rfl) rfl ?_
                      rw [HRX.out]
                      exact ⟨_, rfl, DocL.far3 HT4.out.d HT4.out.z _ _ _, HT4.out.k.setC3 (Nat.le_succ _) _ _ _⟩
                · have HRX := Lib.hid ((HCN.out hg).symm.trans HRJ.out)
                  clear hg
                  go_wp2_with fail
                  go_roundw
                  case rel => exact ⟨j, by go_num, by omega, Lib.hid ⟨_, _, _, _, _, HT2.out, HRX.out, by omega, by omega⟩⟩
                  case measure => simp [intOf]
        · have hxb : (x.1 == 0) = false := by rw [beq_eq_false_iff_ne]; exact hx0
          have HX := Lib.hid (show R = x by have := HRR.out; rw [if_pos hx0] at this; exact this)
          clear hx0
          go_wp2_with fail
          refine ret_cell_tmp rfl (w.heap.size + 1) 27 _ _ rfl (((HT4.out.z.set_ 0 _).set_ 1 _).set_ 2 _) Tryz.underlying27 rfl (by kernel_rfl) rfl ?_
          rw [HX.out]
          exact ⟨_, rfl, DocL.far3 HT4.out.d HT4.out.z _ _ _, HT4.out.k.setC3 (Nat.le_succ _) _ _ _⟩
    · as_aux_lemma =>
      have hR := HR.out
      rw [hg] at hR
      simp only at hR
      have HX := Lib.hid (show turnL base (downs q) bad l = R by rw [if_neg (by simp)] at hR; exact hR.symm)
      clear hg hR
      have hsz3 := HT2.out.k.size
      go_wp2_with fail
      go_loopw [13] (fun u13 wr => ∃ (j : Nat), u13 = .int .i64 ((j : Int) - 1) ∧ j ≤ 15 ∧ Hid (∃ (a' : Option Addr) (n' c' : Nat) (bad' : Nat) (l' : List SFile), TurnV w wr (.slice a' n' c') most bad' l' ∧ turnL base (downs j) bad' l' = R ∧ bad' ≤ bad ∧ l'.length ≤ l.length + 15 - j)) (fun u13 _ => (intOf u13 + 1).toNat)
      case atStart => exact ⟨q, by first | rfl | go_num, hqq, Lib.hid ⟨_, _, _, _, _, HT2.out, HX.out, by omega, by omega⟩⟩
      case round =>
        obtain ⟨j, rfl, hj, a', n', c', bad', l', HT0, hrr, hbd, hln⟩ := hrel
        rename World => wr
        have HT := Lib.hid HT0
        have HRJ := Lib.hid hrr
        clear HT0 hrr
        obtain ⟨⟨z0, z1, z2⟩, zf0, zf1, zf2⟩ := HT.out.x.all3
        obtain ⟨⟨u0, u1, u2⟩, uf0, uf1, uf2⟩ := HT.out.z.all3
        rcases j with _ | j
        · have hRR : R = (0, bad', l') := HRJ.out.symm
          have HRR := Lib.hid hRR
          clear hRR
          go_wp2_with fail
          refine ret_cell_tmp rfl (w.heap.size + 1) 27 _ _ rfl (((HT.out.z.set_ 0 _).set_ 1 _).set_ 2 _) Tryz.underlying27 rfl (by kernel_rfl) rfl ?_
          rw [HRR.out]
          exact ⟨_, rfl, DocL.far3 HT.out.d HT.out.z _ _ _, HT.out.k.setC3 (Nat.le_succ _) _ _ _⟩
        · have ej : ((j + 1 : Nat) : Int) - 1 = (j : Int) := by omega
          rw [ej]
          have hsz := genName_size (base := base) (i := (j : Nat)) (by omega)
          have hszk := genName_size (base := base) (i := ((j + 1 : Nat) : Int)) (by omega)
          have hN := fun W => rgname_any W base (j : Nat) hb (by omega) (by omega)
          have hN2 := fun W => rgname_any W base ((j + 1 : Nat) : Int) hb (by omega) (by omega)
          rw [show ((j + 1 : Nat) : Int) = (j : Int) + 1 by omega] at hN2
          have hcn := fun hg => turnL_cons_none (base := base) (j := j) (bad := bad') (l := l') hg
          have hcs := fun f x hg hx => turnL_cons_some (base := base) (j := j) (bad := bad') (l := l') (f := f) (x := x) hg hx
          obtain ⟨nj, hnj⟩ : ∃ nj, nj = genName base (j : Nat) := ⟨_, rfl⟩
          obtain ⟨nk, hnk⟩ : ∃ nk, nk = genName base ((j : Int) + 1) := ⟨_, rfl⟩
          rw [show ((j + 1 : Nat) : Int) = (j : Int) + 1 by omega] at hcs hszk
          unfold genF at hcn hcs
          rw [← hnj] at hsz hN hcn hcs
          rw [← hnk] at hN2 hcs hszk
          have HN := Lib.hid hN
          have HN2 := Lib.hid hN2
          have HCN := Lib.hid hcn
          have HCS := Lib.hid hcs
          have HG := Lib.hid (fun W (kk : Keeps (fun _ => False) wr W) => rget_any W (.slice a' n' c') most bad' l' nj (HT.out.d.keeps kk) (by omega))
          unfold docS docF at HG
          have hxr := rename_len bad' l' nj nk
          have HA := Lib.hid (fun W (kk : Keeps (fun _ => False) wr W) => rrename_any W (.slice a' n' c') most bad' l' nj nk (HT.out.d.keeps kk) (by omega) (by omega) (by omega) (by omega))
          obtain ⟨x, hx⟩ : ∃ x, x = renameP bad' l' nj nk := ⟨_, rfl⟩
          rw [← hx] at hxr HA
          unfold DocAfter docS at HA
          have HX := Lib.hid hx
          obtain ⟨hxr1, hxr2⟩ := hxr
          clear ej hN hN2 hcn hcs hnj hnk hx z0 z1 z2 zf0 zf1 zf2 u0 u1 u2 uf0 uf1 uf2
          have hsr := HT.out.k.size
          have hx0 : ∀ W, Keeps (fun _ => False) wr W → W.cell? ⟨w.heap.size, 0, none⟩ = some (.slice a' n' c') := fun W kk => (HT.out.at_ W kk).1
          have hx1 : ∀ W, Keeps (fun _ => False) wr W → W.cell? ⟨w.heap.size, 1, none⟩ = some (.int .i64 most) := fun W kk => (HT.out.at_ W kk).2.1
          have hx2 : ∀ W, Keeps (fun _ => False) wr W → W.cell? ⟨w.heap.size, 2, none⟩ = some (.int .i64 bad') := fun W kk => (HT.out.at_ W kk).2.2
          go_upto_region 11 with (fail)
          go_cut [14, 15] (fun s1 s2 wx => ∃ (q : Nat) (f : SFile) (ok : Bool), s1 = .pointer (some ⟨q, 0, none⟩) ∧ s2 = .bool ok ∧ Hid (((ok = true ∧ getG SFile.name nj l' = some f) ∨ (ok = false ∧ getG SFile.name nj l' = none)) ∧ Keeps (fun _ => False) wr wx))
          case first =>
            as_aux_lemma =>
            go_region_held3 (fun w2 => Keeps (fun _ => False) wr w2)
              ((repeat (first | (with_reducible assumption) | (with_reducible exact Keeps.refl _ _) | refine Keeps.drew ?_ | refine Keeps.drewN ?_ _ | refine Keeps.alloc ?_ _ | refine Keeps.setCell ?_ (fun h => by first | (simp at h; done) | (simp at h; omega)) _)))
              (first
                | (go_at_call 31; rename_i hk _ _; (first | (with_reducible refine (HN.out _).mono ?_)); rintro e w3 ⟨rfl, k3⟩; have kk : Keeps (fun _ => False) wr w3 := hk.trans k3; have kz := kk.size; (try ((first | have bn := bn.keeps k3 id | have bn := bn.keeps k3.from_drew id | have bn := Blk.keeps (Blk.new _ 99 #[.string { data := #[] }, .string { data := #[] }, .int .i64 0]) k3 id | have bn := Blk.keeps (Blk.new _ 99 #[.string { data := #[] }, .string { data := #[] }, .int .i64 0]) k3.from_drew id); obtain ⟨⟨n0, n1, n2⟩, nf0, nf1, nf2⟩ := bn.all3)))
                | (go_at_call 44; rename_i hk _ _; refine (HG.out _ hk).mono ?_; rintro e w4 ⟨⟨f, ok, rfl, hf⟩, k4⟩; have kk : Keeps (fun _ => False) wr w4 := hk.trans k4; have kz := kk.size; have HF := Lib.hid hf; clear hf; (try ((first | have bn := bn.keeps k4 id | have bn := bn.keeps k4.from_drew id | have bn := Blk.keeps (Blk.new _ 99 #[.string { data := #[] }, .string { data := #[] }, .int .i64 0]) k4 id | have bn := Blk.keeps (Blk.new _ 99 #[.string { data := #[] }, .string { data := #[] }, .int .i64 0]) k4.from_drew id); obtain ⟨⟨n0, n1, n2⟩, nf0, nf1, nf2⟩ := bn.all3))))
            all_goals (go_wp2_with fail; go_meet)
            all_goals exact ⟨_, f, ok, rfl, rfl, Lib.hid ⟨HF.out.imp id (fun h => ⟨h.1, h.2.2⟩), by first | exact kk.alloc _ | exact kk.setC3 (by omega) _ _ _⟩⟩
          case rest =>
            obtain ⟨qb, f, ok, rfl, rfl, HQ⟩ := hcut
            rename World => wc
            have HT2 := Lib.hid (HT.out.same HQ.out.2)
            clear HG hx0 hx1 hx2
            rcases HQ.out.1 with ⟨rfl, hg⟩ | ⟨rfl, hg⟩
            · have HRS := Lib.hid ((HCS.out f x hg HX.out).symm.trans HRJ.out)
              have HA2 := Lib.hid (fun W (kk : Keeps (fun _ => False) wc W) => HA.out W (HQ.out.2.trans kk))
              clear hg HA
              have HA := HA2
              have hx0 : ∀ W, Keeps (fun _ => False) wc W → W.cell? ⟨w.heap.size, 0, none⟩ = some (.slice a' n' c') := fun W kk => (HT2.out.at_ W kk).1
              have hx1 : ∀ W, Keeps (fun _ => False) wc W → W.cell? ⟨w.heap.size, 1, none⟩ = some (.int .i64 most) := fun W kk => (HT2.out.at_ W kk).2.1
              have hx2 : ∀ W, Keeps (fun _ => False) wc W → W.cell? ⟨w.heap.size, 2, none⟩ = some (.int .i64 bad') := fun W kk => (HT2.out.at_ W kk).2.2
              have hsc := HT2.out.k.size
              have hwj : IntKind.i64.wrap ((j : Int) + 1) = (j : Int) + 1 := wrap_in (by omega) (by omega)
              have hwk : wrap64 ((j : Int) + 1) = (j : Int) + 1 := IntWalk.wrap64_in _ (by omega)
              go_upto_region 13 with (fail)
              go_cut [16, 17] (fun s1 s2 wx => ∃ (q : Nat) (a2 : Option Addr) (n2 c2 : Nat), s1 = .pointer (some ⟨q, 0, none⟩) ∧ s2 = .int .i64 x.1 ∧ Hid (Blk wx q 27 #[.slice a2 n2 c2, .int .i64 most, .int .i64 (x.2.1 : Nat)] ∧ wc.heap.size ≤ q ∧ DocL wx (.slice a2 n2 c2) x.2.2 ∧ Keeps (fun _ => False) wc wx))
              case first =>
                as_aux_lemma =>
                go_region_held3 (fun w2 => Keeps (fun _ => False) wc w2)
                  ((repeat (first | (with_reducible assumption) | (with_reducible exact Keeps.refl _ _) | refine Keeps.drew ?_ | refine Keeps.drewN ?_ _ | refine Keeps.alloc ?_ _ | refine Keeps.setCell ?_ (fun h => by first | (simp at h; done) | (simp at h; omega)) _)))
                  (first
                    | (go_at_call 31; rename_i hk _ _; (first | (with_reducible refine (HN.out _).mono ?_) | (with_reducible refine (HN2.out _).mono ?_)); rintro e w3 ⟨rfl, k3⟩; have kk : Keeps (fun _ => False) wc w3 := hk.trans k3; have kz := kk.size; (try ((first | have bn := bn.keeps k3 id | have bn := bn.keeps k3.from_drew id | have bn := Blk.keeps (Blk.new _ 27 #[.slice none 0 0, .int .i64 0, .int .i64 0]) k3 id | have bn := Blk.keeps (Blk.new _ 27 #[.slice none 0 0, .int .i64 0, .int .i64 0]) k3.from_drew id); obtain ⟨⟨n0, n1, n2⟩, nf0, nf1, nf2⟩ := bn.all3)))
                    | (go_at_call 46; rename_i hk _ _; refine (HA.out _ hk).mono ?_; rintro e w4 ⟨v4, rfl, hd4, k4⟩; obtain ⟨a4, n4, c4, rfl⟩ := hd4.slc; have kk : Keeps (fun _ => False) wc w4 := hk.trans k4; have kz := kk.size; have HD4 := Lib.hid hd4; clear hd4; (try ((first | have bn := bn.keeps k4 id | have bn := bn.keeps k4.from_drew id | have bn := Blk.keeps (Blk.new _ 27 #[.slice none 0 0, .int .i64 0, .int .i64 0]) k4 id | have bn := Blk.keeps (Blk.new _ 27 #[.slice none 0 0, .int .i64 0, .int .i64 0]) k4.from_drew id); obtain ⟨⟨n0, n1, n2⟩, nf0, nf1, nf2⟩ := bn.all3))))
                all_goals (go_wp2_with fail; go_meet)
                all_goals first
                  | exact ⟨_, a4, n4, c4, rfl, rfl, Lib.hid ⟨Blk.new _ _ _, kz, HD4.out.keeps ((Keeps.refl _ _).alloc _), kk.alloc _⟩⟩
                  | exact ⟨_, a4, n4, c4, rfl, rfl, Lib.hid ⟨((bn.set_ 0 _).set_ 1 _).set_ 2 _, by omega, DocL.far3 HD4.out bn _ _ _, kk.setC3 (by omega) _ _ _⟩⟩
              case rest =>
                obtain ⟨qc, a2, n2, c2, rfl, rfl, HQ2⟩ := hcut
                rename World => wd
                have HT3 := Lib.hid (HT2.out.same HQ2.out.2.2.2)
                obtain ⟨⟨y0, y1, y2⟩, -⟩ := HQ2.out.1.all3
                obtain ⟨⟨z0, z1, z2⟩, zf0, zf1, zf2⟩ := HT3.out.x.all3
                obtain ⟨⟨u0, u1, u2⟩, uf0, uf1, uf2⟩ := HT3.out.z.all3
                have HT4 := Lib.hid (HT3.out.set_ (bad2 := x.2.1) HQ2.out.2.2.1)
                have hsd := HT3.out.k.size
                clear hx0 hx1 hx2 hwj hwk
                by_cases hx0 : x.1 = 0
                · as_aux_lemma =>
                  have hxb : (x.1 == 0) = true := by rw [beq_iff_eq]; exact hx0
                  have HRX := Lib.hid (show turnL base (downs j) x.2.1 x.2.2 = R by have := HRS.out; rwa [if_neg (by rw [hx0]; simp)] at this)
                  clear hx0
                  go_wp2_with fail
                  go_roundw
                  case rel => exact ⟨j, by go_num, by omega, Lib.hid ⟨_, _, _, _, _, HT4.out, HRX.out, by omega, by omega⟩⟩
                  case measure => simp [intOf]
                · as_aux_lemma =>
                  have hxb : (x.1 == 0) = false := by rw [beq_eq_false_iff_ne]; exact hx0
                  have HRX := Lib.hid (show R = x by have := HRS.out; rw [if_pos hx0] at this; exact this.symm)
                  clear hx0
                  go_wp2_with fail
                  refine ret_cell_tmp rfl (w.heap.size + 1) 27 _ _ rfl (((HT4.out.z.set_ 0 _).set_ 1 _).set_ 2 _) Tryz.underlying27 rfl (by kernel_rfl) rfl ?_
                  rw [HRX.out]
                  exact ⟨_, rfl, DocL.far3 HT4.out.d HT4.out.z _ _ _, HT4.out.k.setC3 (Nat.le_succ _) _ _ _⟩
            · have HRX := Lib.hid ((HCN.out hg).symm.trans HRJ.out)
              clear hg
              go_wp2_with fail
              go_roundw
              case rel => exact ⟨j, by go_num, by omega, Lib.hid ⟨_, _, _, _, _, HT2.out, HRX.out, by omega, by omega⟩⟩
              case measure => simp [intOf]
end Go.Proofs.YtdbnalocmjkncaaGreatDoor
