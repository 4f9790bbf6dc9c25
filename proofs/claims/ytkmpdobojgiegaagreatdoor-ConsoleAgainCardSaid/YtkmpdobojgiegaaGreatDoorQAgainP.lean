/-
  ConsoleAgain, plainly: what a console told is what its log tells, and what the log did not take any more. No program in sight.
-/
import Derived.Test.YtkmpdobojgiegaaGreatDoorQGround3
import Derived.Test.YtkmpdobojgiegaaGreatDoorQTailC
import Derived.Test.YtkmpdobojgiegaaGreatDoorQResB
import Derived.Test.YtkmpdobojgiegaaGreatDoorQConsC
namespace Go.Proofs.YtkmpdobojgiegaaGreatDoor
open Go.RowKit Go.Maps

theorem Cut.getcA {base : ByteArray} {k : Nat} {l : List SFile} {al gone : List Itm} {G : List ByteArray} {cur : Option ByteArray} (h : Cut base k l al gone G cur) : (getG SFile.name base l).map (fun f => (f.data, f.sure)) = cur.map fun d => (d, d.size) := by
  have := h.now
  unfold genV at this
  rwa [gen_zero] at this
/-- a log begun anew: nothing is lost but what has no room -/
theorem Cut.beginA {base : ByteArray} {k : Nat} {l : List SFile} {al gone : List Itm} {G : List ByteArray} {cur : Option ByteArray} (h : Cut base k l al gone G cur) (hnm : ∀ i : Nat, i ≤ 16 → namedP (genName base i) = true) (hk : k ≤ 16) :
    (beginP base (k - 1) 0 l).1 = 0 ∧ (beginP base (k - 1) 0 l).2.1 = 0 ∧ ∃ gone' G', Log base k (beginP base (k - 1) 0 l).2.2 al al.length gone' G' none := by
  have hg := h.getcA
  unfold beginP
  cases cur with
  | none =>
    cases hf : getG SFile.name base l with
    | none => exact ⟨rfl, rfl, _, _, h.empty⟩
    | some f => rw [hf] at hg; cases hg
  | some d =>
    cases hf : getG SFile.name base l with
    | none => rw [hf] at hg; cases hg
    | some f => exact h.turn hnm hk
theorem dataP_app (a b : List Itm) : dataP (a ++ b) = dataP a ++ dataP b := by unfold dataP; exact List.flatMap_append
theorem dataP_one (now : Int) (s : List UInt8) : dataP [⟨1, now, str s⟩] = s := by simp [dataP, str]
theorem dataP_mono (al : List Itm) {m n : Nat} (h : m ≤ n) : (dataP (al.take m)).length ≤ (dataP (al.take n)).length := by
  have : al.take n = al.take m ++ (al.take n).drop m := by
    conv => lhs; rw [← List.take_append_drop m (al.take n)]
    rw [List.take_take, Nat.min_eq_left h]
  rw [this, dataP_app, List.length_append]
  omega
/-- what was told, how much of it is sure, and the log -/
def AgI (mst : Int) (base : ByteArray) (k : Nat) (told : List UInt8) (sure : Nat) (j : Jp) (N : Nat) : Prop :=
  ∃ al n gone G cur more, Log base k j.l al n gone G cur ∧ n ≤ al.length ∧ told = dataP al ++ more ∧ (j.rest = false → more = []) ∧ sure ≤ (dataP (al.take n)).length ∧ 0 ≤ mst ∧ al.length ≤ N ∧ ∀ x ∈ al, x.body.size ≤ 4096
section
variable {mst : Int} {base : ByteArray} {k size sure N : Nat} {told : List UInt8} {j : Jp}
theorem AgI.begin (hk : 1 ≤ k) (hm : 0 ≤ mst) {j : Jp} (hl : j.l = []) : AgI mst base k [] 0 j 0 := ⟨[], 0, [], [], none, [], by rw [hl]; exact Log.none_ hk, Nat.zero_le _, rfl, fun _ => rfl, Nat.zero_le _, hm, Nat.zero_le _, fun x hx => by cases hx⟩
theorem AgI.came (h : AgI mst base k told sure j N) (hnm : ∀ i : Nat, i ≤ 16 → namedP (genName base i) = true) (hk : k ≤ 16) {now : Int} (hnow : 0 ≤ now ∧ now ≤ 1099511627776) {s : List UInt8} (hs : s.length ≤ 4096) :
    AgI mst base k (told ++ s) sure (addJ mst base k size j ⟨1, now, str s⟩).1 (N + 1) := by
  obtain ⟨al, n, gone, G, cur, more, hL, hn, ht, hr, hsu, hm, hN, hz⟩ := h
  unfold addJ
  split
  · exact ⟨al, n, gone, G, cur, more ++ s, hL, hn, by rw [ht, List.append_assoc], (fun e => by rename_i hh; rw [hh] at e; cases e), hsu, hm, by omega, hz⟩
  · rename_i hrest
    have hrest : j.rest = false := by cases hb : j.rest with
      | false => rfl
      | true => exact absurd hb hrest
    obtain rfl := hr hrest
    rcases hL.put hnm hk hn (dataI_ok hnow hs) _ (rfl : _ = putP mst base k size j.bad j.l (str (recP ⟨1, now, str s⟩))) with ⟨h0, g', G', c', hL'⟩ | ⟨h0, g', G', c', hL'⟩
    · rw [if_pos h0]
      refine ⟨al ++ [⟨1, now, str s⟩], n, g', G', c', [], hL', by rw [List.length_append]; omega, ?_, fun _ => rfl, ?_, hm, ?_, ?_⟩
      · rw [ht, dataP_app, dataP_one, List.append_nil, List.append_nil]
      · rw [List.take_append_of_le_length hn]; exact hsu
      · rw [List.length_append]; show al.length + 1 ≤ N + 1; omega
      · intro x hx
        rcases List.mem_append.1 hx with hx | hx
        · exact hz x hx
        · rw [List.mem_singleton.1 hx]; show (str s).size ≤ 4096; rw [str_size]; exact hs
    · rw [if_neg h0]
      exact ⟨al, n, g', G', c', s, hL', hn, by rw [ht, List.append_nil], (fun e => by cases e), hsu, hm, by omega, hz⟩
theorem AgI.save (h : AgI mst base k told sure j N) : AgI mst base k told (if (syncJ base j).2 = true then told.length else sure) (syncJ base j).1 N := by
  obtain ⟨al, n, gone, G, cur, more, hL, hn, ht, hr, hsu, hm, hN, hz⟩ := h
  unfold syncJ
  split
  · exact ⟨al, n, gone, G, cur, more, hL, hn, ht, hr, by simpa using hsu, hm, hN, hz⟩
  · rename_i hrest
    have hrest : j.rest = false := by cases hb : j.rest with
      | false => rfl
      | true => exact absurd hb hrest
    obtain rfl := hr hrest
    split
    · rename_i hc
      obtain ⟨cur', hL', -⟩ := hL.sync hc
      rw [if_pos rfl]
      exact ⟨al, al.length, gone, G, cur', [], hL', Nat.le_refl _, ht, fun _ => rfl, by rw [ht, List.append_nil, List.take_length]; exact Nat.le_refl _, hm, hN, hz⟩
    · rename_i hc
      rw [if_neg (by simp)]
      have hsn := sync_no (bad := j.bad) (l := j.l) (base := base) (fun e => hc (.inl e))
      refine ⟨al, n, gone, G, cur, [], ?_, hn, ht, fun _ => rfl, hsu, hm, hN, hz⟩
      show Log base k (syncP j.bad j.l base).2.2 al n gone G cur
      rw [hsn]; exact hL
/-- behind a crash: a piece of what was told, not less than what was sure; and a log that may be begun anew -/
theorem AgI.crash (h : AgI mst base k told sure j N) (hnm : ∀ i : Nat, i ≤ 16 → namedP (genName base i) = true) (hk : k ≤ 16) (keep : List Int) :
    (∃ a b, told = a ++ dataP (loadP (allP (crashP keep j.l) base k)) ++ b ∧ sure ≤ a.length + (dataP (loadP (allP (crashP keep j.l) base k))).length) ∧ (beginP base (k - 1) 0 (crashP keep j.l)).1 = 0 ∧ (loadP (allP (crashP keep j.l) base k)).length ≤ N ∧ ∀ x ∈ loadP (allP (crashP keep j.l) base k), x.body.size ≤ 4096 := by
  obtain ⟨al, n, gone, G, cur, more, hL, hn, ht, hr, hsu, hm, hN, hz⟩ := h
  obtain ⟨rest, cur', h1, h2, h3⟩ := hL.crash2 keep
  refine ⟨⟨dataP gone, dataP rest ++ more, ?_, ?_⟩, (h3.beginA hnm hk).1, ?_, ?_⟩
  · rw [ht]
    conv => lhs; rw [h1]
    rw [dataP_app, dataP_app]
    simp only [List.append_assoc]
  · refine Nat.le_trans hsu ?_
    rw [← List.length_append, ← dataP_app]
    have : (dataP (al.take n)).length ≤ (dataP (al.take (gone ++ loadP (allP (crashP keep j.l) base k)).length)).length := dataP_mono al (by rw [List.length_append]; exact h2)
    refine Nat.le_trans this ?_
    conv => lhs; rw [h1, ← List.append_assoc]
    rw [List.take_left]
    exact Nat.le_refl _
  · have := congrArg List.length h1
    simp only [List.length_append] at this
    omega
  · intro x hx
    exact hz x (by rw [h1]; exact List.mem_append_right _ (List.mem_append_left _ hx))
end
end Go.Proofs.YtkmpdobojgiegaaGreatDoor
