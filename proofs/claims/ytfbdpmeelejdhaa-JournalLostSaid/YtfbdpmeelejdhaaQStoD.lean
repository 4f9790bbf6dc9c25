/-
  store: how many bytes there are.
-/
import Derived.Test.YtfbdpmeelejdhaaQStoC
namespace Go.Proofs.Ytfbdpmeelejdhaa
open Go.RowKit Go.Maps

def totL (L : List SRep) : Nat := (L.map fun r => r.f.data.size).sum
/-- the bytes of those that came already -/
def sumL (left : Lit → Bool) (L : List SRep) : Nat := (L.map fun r => cond (left (.string r.f.name.data.toList)) 0 r.f.data.size).sum
theorem sumL_cons (left : Lit → Bool) (r : SRep) (L : List SRep) : sumL left (r :: L) = cond (left (.string r.f.name.data.toList)) 0 r.f.data.size + sumL left L := by unfold sumL; rw [List.map_cons, List.sum_cons]
theorem totL_cons (r : SRep) (L : List SRep) : totL (r :: L) = r.f.data.size + totL L := by unfold totL; rw [List.map_cons, List.sum_cons]
theorem sumL_le (left : Lit → Bool) : ∀ L, sumL left L ≤ totL L
  | [] => Nat.le_refl _
  | r :: L => by
    have := sumL_le left L
    rw [sumL_cons, totL_cons]
    cases left (.string r.f.name.data.toList)
    · show r.f.data.size + _ ≤ _; omega
    · show 0 + _ ≤ _; omega
theorem sumL_congr {f g : Lit → Bool} : ∀ {L : List SRep}, (∀ r ∈ L, f (.string r.f.name.data.toList) = g (.string r.f.name.data.toList)) → sumL f L = sumL g L
  | [], _ => rfl
  | r :: L, h => by rw [sumL_cons, sumL_cons, h r (by simp), sumL_congr (L := L) fun a ha => h a (by simp [ha])]
theorem sumL_end {left : Lit → Bool} (h : ∀ kl, left kl = false) : ∀ L : List SRep, sumL left L = totL L
  | [] => rfl
  | r :: L => by rw [sumL_cons, totL_cons, h, sumL_end h L]; rfl
theorem sumL_start {L : List SRep} (h : Rise SRep.nm L) : sumL (Maps.has (mapD SRep.nm SRep.p L)) L = 0 := by
  have : ∀ L' : List SRep, (∀ r ∈ L', r ∈ L) → sumL (Maps.has (mapD SRep.nm SRep.p L)) L' = 0 := by
    intro L' hL
    induction L' with
    | nil => rfl
    | cons r L' ih =>
      rw [sumL_cons, ih fun a ha => hL a (by simp [ha]), mapD_has, show getG SRep.nm r.f.name L = some r from getG_of_mem h (hL r (by simp))]
      rfl
  exact this L fun _ h => h
theorem sumL_step {left : Lit → Bool} : ∀ {L : List SRep} {r : SRep}, Rise SRep.nm L → r ∈ L → left (.string r.f.name.data.toList) = true →
    sumL (fun z => left z && !z.sameKey (.string r.f.name.data.toList)) L = sumL left L + r.f.data.size
  | [], _, _, h, _ => by cases h
  | a :: L, r, hr, h, hl => by
    obtain ⟨h1, h2⟩ := List.pairwise_cons.1 hr
    have hs : ∀ b : SRep, Lit.sameKey (.string b.f.name.data.toList) (.string r.f.name.data.toList) = decide (b.f.name = r.f.name) := fun b => ent_same (nm := SRep.nm) (pt := SRep.p) r.f.name b
    rw [sumL_cons, sumL_cons, hs]
    rcases List.mem_cons.1 h with rfl | h'
    · rw [sumL_congr (g := left) fun b hb => by
        have hne : b.f.name ≠ r.f.name := fun e => nmLt_ne (h1 b hb) e.symm
        show (left _ && !Lit.sameKey _ _) = _
        rw [hs, decide_eq_false hne]; simp, hl, decide_eq_true rfl]
      show r.f.data.size + sumL left L = 0 + sumL left L + r.f.data.size
      omega
    · have hne : a.f.name ≠ r.f.name := nmLt_ne (h1 r h')
      rw [sumL_step h2 h' hl, decide_eq_false hne, Bool.not_false, Bool.and_true]
      omega

/-- what a step over the map hands out -/
theorem step_rep {L : List SRep} {x : List UInt8} {c : Value} {yd : DataW Unit} {yp : List MemPlace} (hR : ptrR c = some (yd, yp)) (hat : ∀ zd, (mapD SRep.nm SRep.p L).atKey (.string x) zd = yd) :
    ∃ r ∈ L, r.f.name.data.toList = x ∧ c = .pointer (some ⟨r.p, 0, none⟩) := by
  obtain ⟨n, hn0⟩ : ∃ n : ByteArray, n.data.toList = x := ⟨⟨x.toArray⟩, rfl⟩
  subst hn0
  have e := hat
  simp only [mapD_at] at e
  cases hg : getG SRep.nm n L with
  | none =>
    rw [hg] at e
    have h1 := (e (.lit (.bool true))).trans (e (.lit (.bool false))).symm
    simp at h1
  | some r =>
    rw [hg] at e
    have h1 : DataW.lit (Lit.int .i64 (r.p : Int)) = yd := e (.lit (.bool true))
    obtain ⟨hm, hn⟩ := getG_some hg
    refine ⟨r, hm, ?_, ptrR_inv (ps := yp) (by rw [hR, h1])⟩
    have : r.f.name = n := hn
    rw [this]

section
variable {w w' : World} {F S : Nat → Prop} {s M bad : Nat} {most : Int} {L : List SRep}
set_option maxRecDepth 100000 in
set_option maxHeartbeats 1000000 in
theorem total_any (h : StoreAt w F s most bad M L) (ht : totL L ≤ 4611686018427387904) :
    Calls Try.prog 58 #[.pointer (some ⟨s, 0, none⟩)] w fun e w' => e = .returned (.int .i64 (totL L : Nat)) ∧ Keeps (fun _ => False) w w' := by
  have HM := Lib.hid (made_any h)
  obtain ⟨h0, h1, h2⟩ := h.top.cells3
  have H := Lib.hid h
  have hmap := h.map
  clear h
  go_enter Try.func58, Try.ntmps58
  go_wp2_with (first
    | (go_at_call 27; refine HM.out.mono ?_; rintro e w1 ⟨rfl, hw1⟩; obtain rfl : w = w1 := hw1.symm)
    | (at_range; refine wpList_range_own _ rfl _ 56 rfl 9 70 stoK Try.underlying56 _ M L.length _ rfl hmap ?_; intro w0 hrg0 hg0 hs0))
  go_frame
  have hk0 : Keeps (fun _ => False) w w0 := (Keeps.refl _ _).grown hg0 (fun k hk => by cases hk)
  have HG0 := Lib.hid hk0
  clear hg0 hs0 hk0
  go_loopw [3] (fun u3 wr => ∃ (left : Lit → Bool) (cnt : Nat), wr.ranges Try.prog 9 ptrR M w.heap.size L.length (mapD SRep.nm SRep.p L) left cnt ∧ u3 = .int .i64 (sumL left L : Nat) ∧ Hid (Keeps (fun _ => False) w wr)) (fun _ wr => wr.rangeLeft M w.heap.size)
  case atStart => exact ⟨_, _, hrg0, by rw [sumL_start H.out.rise]; rfl, HG0⟩
  case round =>
    obtain ⟨left, cnt, hrg, rfl, HK⟩ := hrel
    have hle := sumL_le left L
    go_wp2_with (at_next; refine wpList_next_ranges _ rfl _ rfl 9 stoK ptrR Go.Proofs.encStr id (fun key kl hk => by obtain ⟨x, hx, _⟩ := Maps.keyOf_str Try.underlying9 hk; exact ⟨x, hx⟩) (fun v _ _ => ⟨v, rfl⟩) M w.heap.size L.length _ left cnt rfl hrg ?_ ?_)
    · intro hc0 hl0
      have he := sumL_end hl0 L
      rw [he]
      go_wp2_with fail
      go_ret
      exact ⟨rfl, HK.out⟩
    · intro x c kl yd yp w2 cnt2 hkey hlk hv hat hrg2 hlt hg2 hs2 hen
      obtain ⟨x', ex, rfl, _⟩ := Maps.keyOf_str Try.underlying9 hkey
      obtain rfl : x = x' := encStr_inj ex
      obtain ⟨r, hr, rfl, rfl⟩ := step_rep hv hat
      have hlk2 := sumL_step H.out.rise hr hlk
      have hle2 := sumL_le (fun z => left z && !z.sameKey (.string r.f.name.data.toList)) L
      rw [hlk2] at hle2
      have hK2 : Keeps (fun _ => False) w w2 := HK.out.and_ (Keeps.grown (Keeps.refl (fun i => i = w.heap.size) wr) hg2 (fun k hk _ => by injection hk with hk; exact hk.symm)) (fun i hi h => by omega)
      have hf := (H.out.each r hr).blk.keeps hK2 id
      have c0 := hf.cell 0
      simp only [List.getElem?_toArray, List.getElem?_cons_zero] at c0
      obtain ⟨a, c, hv2⟩ := (H.out.each r hr).own.sl
      rw [u8Vs_size] at hv2
      rw [hv2] at c0
      have HL2 := Lib.hid hlk2
      have HK2 := Lib.hid hK2
      have HLT := Lib.hid hlt
      clear hlk2 hK2 hf hv2 hg2 hs2 hlk hat hv hlt
      go_wp2_with fail
      go_roundw
      case rel => exact ⟨_, cnt2, hrg2, by rw [HL2.out]; rfl, HK2⟩
      case measure => rw [hrg2.left_eq, hrg.left_eq]; exact HLT.out
end
end Go.Proofs.Ytfbdpmeelejdhaa
