/-
  The iterator of restore.scans: it hands over each generation's items, and how many bytes behind them are none.
-/
import Derived.Test.YtkmpdobojgiegaaGreatDoorQGround3
import Derived.Test.YtkmpdobojgiegaaGreatDoorQRecJ
import Derived.Test.YtkmpdobojgiegaaGreatDoorQGround4
import Derived.Shelf.Abstract
import Derived.Shelf.RegionOpen
import Derived.WalkKit
import Derived.OwnWalkIn
import Derived.TacticsInMore
import Derived.LoopNIn
import Derived.LoopIn
namespace Go.Proofs.YtkmpdobojgiegaaGreatDoor
open Go.RowKit

/-- what the iterator hands over: a slice, the items in it, how many bytes are none -/
structure Ch where
  v : Value
  xs : List Itm
  torn : Int
def Ch.encs (x : Ch) : Array Value := #[x.v, .int .i64 x.torn]
/-- the rows that a round may write -/
def ResT (t : TypeId) : Prop := t = 136 ∨ t = 212
def tornI (d : ByteArray) : Int := (d.size : Int) - (scanN d.data.toList : Nat)
def SC (ds : List ByteArray) (xs : List Ch) : Prop := xs.map Ch.xs = ds.map (fun d => scanI d.data.toList) ∧ xs.map Ch.torn = ds.map tornI
def NxC (pre : List Ch) (x : Ch) (B : Nat) (W : World) : Prop := OwnI W B x.v x.xs ∧ (∃ d : ByteArray, x.xs = scanI d.data.toList ∧ x.torn = tornI d ∧ d.size ≤ 16777216) ∧ pre.length < 16
theorem SC.snoc {ds : List ByteArray} {i : Nat} {d : ByteArray} {pre : List Ch} {v : Value} (h : SC (ds.take i) pre) (hd : ds[i]? = some d) : SC (ds.take (i + 1)) (pre ++ [⟨v, scanI d.data.toList, tornI d⟩]) := by
  unfold SC
  rw [List.take_add_one, hd, Option.toList_some, List.map_append, List.map_append, List.map_append, List.map_append, h.1, h.2]
  exact ⟨rfl, rfl⟩
theorem scanN_le (l : List UInt8) : scanN l ≤ l.length := by
  have h := congrArg List.length (flat_scan l.length l (Nat.le_refl _))
  rw [List.length_take] at h
  unfold scanN at h ⊢
  omega
theorem SC.len {ds : List ByteArray} {xs : List Ch} (h : SC ds xs) : xs.length = ds.length := by
  have := congrArg List.length h.1
  simpa using this
theorem OwnI.turn {B B2 : Nat} {W W' : World} {v : Value} {xs : List Itm} (h : OwnI W B v xs) (k : Turn B2 W W') : OwnI W' B v xs :=
  OwnS.keeps h k fun _ _ _ ⟨_, hb⟩ hs => hs.2 _ _ _ hb
theorem NxC.turn {B B2 : Nat} {pre : List Ch} {x : Ch} {W W' : World} (h : NxC pre x B W) (k : Turn B2 W W') : NxC pre x B W' := ⟨h.1.turn k, h.2⟩
theorem Blk.rounds {W W' : World} {i : Nat} {t : TypeId} {cs : Array Value} (h : Blk W i t cs) (k : Rounds ResT W W') (ht : ¬ ResT t) : Blk W' i t cs :=
  h.keeps k fun hs => by
    rcases hs with ⟨t2, cs2, h2, hb⟩ | hs
    · unfold Blk at h hb; rw [h] at hb; cases hb; exact ht h2
    · exact hs _ _ _ h
theorem OwnL.rounds {W W' : World} {B : Nat} {e : TypeId} {v : Value} {vs : List Value} (h : OwnL W B e v vs) (k : Rounds ResT W W') (ht : ¬ ResT e) : OwnL W' B e v vs :=
  h.keepsT k fun i _ ⟨cs, hb⟩ hs => by
    rcases hs with ⟨t2, cs2, h2, hb2⟩ | hs
    · unfold Blk at hb hb2; rw [hb] at hb2; cases hb2; exact ht h2
    · exact hs _ _ _ hb
section
variable [Res] {w0 w w' : World} {s M bad n : Nat} {most : Int} {L : List SRep}
theorem allP_size (h : Sto w0 w s M most bad L n) (base : ByteArray) (k : Nat) : ∀ d ∈ allP (L.map SRep.f) base k, d.size ≤ 16777216 := by
  intro d hd
  unfold allP at hd
  obtain ⟨i, _, he⟩ := List.mem_filterMap.1 hd
  cases hg : genF (L.map SRep.f) base i with
  | none => rw [hg] at he; cases he
  | some f =>
    rw [hg] at he
    simp at he
    obtain ⟨r, hr, rfl⟩ := List.mem_map.1 (getG_some hg).1
    rw [← he]
    exact (h.size hr).2.1
set_option maxRecDepth 100000 in
set_option maxHeartbeats 1000000 in
theorem scans_in (l m : Nat) (h : Sto w0 w s M most bad L n) (base : ByteArray) (k : Int) (hb : base.size ≤ 1048576) (b0 b1 b2 : Nat)
    (h0 : w.cell? ⟨b0, 0, none⟩ = some (.pointer (some ⟨s, 0, none⟩))) (h1 : w.cell? ⟨b1, 0, none⟩ = some (.string base)) (h2 : w.cell? ⟨b2, 0, none⟩ = some (.int .i64 k))
    (J : List Ch → World → Prop) (hJ : ∀ s W W', J s W → Keeps (fun _ => False) W W' → J s W')
    (hY : ∀ pre x W0 W1, J pre W0 → Keeps (fun _ => False) W0 W1 → NxC pre x W0.heap.size W1 → YieldAt Fence.wide m Tryz.prog l x.encs W1 fun e W' => e = .returned (.bool true) ∧ J (pre ++ [x]) W' ∧ Rounds ResT W1 W') (hJ0 : J [] w) :
    CallsIn Fence.wide (m + 1) Tryz.prog 215 #[.func (.yield l) #[] #[], .pointer (some ⟨b0, 0, none⟩), .pointer (some ⟨b1, 0, none⟩), .pointer (some ⟨b2, 0, none⟩)] w fun e W' => (∃ v, e = .returned v) ∧ ∃ xs, SC (allP (L.map SRep.f) base (heldP k)) xs ∧ J xs W' := by
  have hall := gall_any h base k hb
  have hal := allP_len (L.map SRep.f) base (heldP k)
  have hk := (heldP_le k).2
  have hsz := allP_size h base (heldP k)
  obtain ⟨ds, hds⟩ : ∃ ds, ds = allP (L.map SRep.f) base (heldP k) := ⟨_, rfl⟩
  rw [← hds] at hall hal hsz ⊢
  have hlen : ds.length ≤ 16 := by omega
  have HALL := Lib.hid hall
  have HSZ := Lib.hid hsz
  have HJ := Lib.hid hJ
  have HY := Lib.hid hY
  have HJ0 := Lib.hid hJ0
  clear hall hal hk hsz hds hJ hY hJ0 h
  refine callsIn_of_wp Tryz.func215 rfl trivial ?_
  simp only [Tryz.ntmps215, List.size_toArray, List.length_cons, List.length_nil, Nat.reduceAdd, Nat.reduceSub, Array.replicate_succ, Array.replicate_zero, List.push_toArray, List.append_toArray, List.nil_append, List.cons_append]
  gi_wp2_with fail
  refine ⟨trivial, ?_⟩
  refine (callsIn_wide.2 HALL.out).mono ?_
  rintro e w1 ⟨⟨v, rfl, hO⟩, k1⟩
  obtain ⟨na, nc, rfl⟩ := hO.sl'
  rw [List.length_map] at hO ⊢
  have HO := Lib.hid hO
  have HK1 := Lib.hid k1
  clear hO k1 HALL
  gi_wp2_with fail
  have hJ1 := HJ.out _ _ _ HJ0.out HK1.out
  have HJ1 := Lib.hid hJ1
  clear hJ1 HJ0
  gi_loopw [14] (fun u14 wr => ∃ (i : Nat) (pre : List Ch), u14 = .int .i64 i ∧ i ≤ ds.length ∧ Hid (SC (ds.take i) pre ∧ J pre wr ∧ OwnL wr w.heap.size 9 (.slice na ds.length nc) (ds.map Value.string) ∧ w.heap.size ≤ wr.heap.size)) (fun u14 _ => ds.length - (intOf u14).toNat)
  case atStart => exact ⟨0, [], rfl, Nat.zero_le _, Lib.hid ⟨⟨rfl, rfl⟩, HJ1.out, HO.out, HK1.out.size⟩⟩
  case round =>
    clear HJ1 HO
    obtain ⟨i, pre, rfl, hi, HI⟩ := hrel
    rename World => wr
    by_cases hlt : i < ds.length
    · obtain ⟨d, hd⟩ : ∃ d, ds[i]? = some d := ⟨_, List.getElem?_eq_getElem hlt⟩
      obtain ⟨b, off, rfl, hblt, hcc⟩ := (slat_own HI.out.2.2.1).2.2 (by omega)
      have hcell := hcc i d 0 (.string d) hd rfl
      rw [Nat.mul_one, Nat.add_zero] at hcell
      have hds := HSZ.out d (List.mem_of_getElem? hd)
      have hscan := scan_any2 wr d (by omega)
      have hsn : scanN d.data.toList ≤ d.size := by have := scanN_le d.data.toList; simpa using this
      obtain ⟨N, hN⟩ : ∃ N, N = scanN d.data.toList := ⟨_, rfl⟩
      rw [← hN] at hscan hsn
      have HN := Lib.hid hN
      have HS := Lib.hid hscan
      have HD := Lib.hid hd
      have hlen := HI.out.1.len
      rw [List.length_take] at hlen
      clear hcc hscan hd hN
      gi_wp2_with fail
      refine ⟨trivial, ?_⟩
      refine (callsIn_wide.2 HS.out).mono ?_
      rintro e w2 ⟨⟨v, rfl, hO⟩, k2⟩
      obtain ⟨fn, tmps, assign, body, hy, hR⟩ := HY.out pre ⟨v, scanI d.data.toList, tornI d⟩ wr w2 HI.out.2.1 k2 ⟨hO, ⟨d, rfl, rfl, by omega⟩, by omega⟩
      have htn : tornI d = (d.size : Int) - (N : Nat) := by unfold tornI; rw [HN.out]
      dsimp only [Ch.encs] at hy hR
      rw [htn] at hy
      have HR := Lib.hid hR
      have HK2 := Lib.hid k2
      clear hO hR k2 htn
      gi_wp2_with fail
      refine HR.out.mono ?_
      rintro e W3 ⟨rfl, hJ3, hk3⟩
      have HJ3 := Lib.hid hJ3
      have HO3 := Lib.hid ((HI.out.2.2.1.keeps HK2.out (fun _ _ _ h => h)).rounds hk3 (by unfold ResT; decide))
      have HSZ3 := Lib.hid (Nat.le_trans (Nat.le_trans HI.out.2.2.2 HK2.out.size) hk3.size)
      have HSC := Lib.hid (HI.out.1.snoc (v := v) HD.out)
      have HTN := Lib.hid (show tornI d = (d.size : Int) - (N : Nat) by unfold tornI; rw [HN.out])
      clear hJ3 hk3 HR HK2 HI hy
      gi_wp2_with fail
      exact ⟨⟨i + 1, pre ++ [⟨v, scanI d.data.toList, tornI d⟩], by go_num, by omega, Lib.hid ⟨HSC.out, by have := HJ3.out; rwa [HTN.out] at this ⊢, HO3.out, HSZ3.out⟩⟩, by simp [intOf]; omega⟩
    · have hh : ds.take i = ds := List.take_of_length_le (by omega)
      have HH := Lib.hid hh
      clear hh
      gi_wp2_with fail
      go_end0
      exact ⟨⟨_, rfl⟩, pre, by rw [← HH.out]; exact HI.out.1, HI.out.2.1⟩
end
end Go.Proofs.YtkmpdobojgiegaaGreatDoor
