/-
  conf: a loader's groups; a copy of strings.
-/
import Derived.Test.YtfpajgmdejlaeaaGreatDoorQConfL
import Derived.Test.YtfpajgmdejlaeaaGreatDoorQBldK
import Derived.Test.YtfpajgmdejlaeaaGreatDoorQShelf
namespace Go.Proofs.YtfpajgmdejlaeaaGreatDoor
open Go.RowKit Go.Maps

theorem Ld.addG {w w' : World} {g M B : Nat} {cv gv uv av : Value} {b0 b1 b2 b3 b4 b5 b6 b7 b8 b9 : ByteArray} {c : Cf} {u : Con} {ks : List SK} (h : Ld w g M B cv gv uv av b0 b1 b2 b3 b4 b5 b6 b7 b8 b9 c u ks) (k : Keeps (fun i => ∃ cs, Blk w i 65 cs) w w') {v' : Value} {l : List Grp} {rs : List GrV} (O7 : OwnS grR 2 w' B 65 v' rs) (hA : GrAll w' B l rs) : Ld (w'.setCell ⟨g, 1, none⟩ v') g M B cv v' uv av b0 b1 b2 b3 b4 b5 b6 b7 b8 b9 { c with grps := l } u ks := by
  have hb7 := h.blk.keeps k (fun ⟨_, e⟩ => Blk.ne_ h.blk e (by decide) rfl)
  have k2 := Keeps.set1 w' g 1 v'
  have hm := h.seen.isMap
  have hs := h.seen.keeps k (fun ⟨_, e⟩ => map_ne15 e hm rfl)
  exact ⟨hb7.set_ 1 v', h.brk, (h.cons.keeps k (fun i _ _ ⟨cs, hb⟩ ⟨_, e⟩ => Blk.ne_ hb e (by decide) rfl)).keeps k2 (fun i _ _ ⟨cs, hb⟩ e => Blk.ne_ hb hb7 (by decide) e), ⟨rs, O7.keeps k2 (fun i _ _ ⟨cs, hb⟩ e => Blk.ne_ hb hb7 (by decide) e), hA.keeps k2 (fun i cs hb e => Blk.ne_ hb hb7 (by decide) e)⟩, (h.usrs.keeps k (fun i _ _ ⟨cs, hb⟩ ⟨_, e⟩ => Blk.ne_ hb e (by decide) rfl)).keeps k2 (fun i _ _ ⟨cs, hb⟩ e => Blk.ne_ hb hb7 (by decide) e), (h.accs.keeps k (fun i _ _ ⟨cs, hb⟩ ⟨_, e⟩ => Blk.ne_ hb e (by decide) rfl)).keeps k2 (fun i _ _ ⟨cs, hb⟩ e => Blk.ne_ hb hb7 (by decide) e), hs.keeps k2 (fun e => map_ne15 hb7 hs.isMap e.symm), h.hg, h.hM, h.pos⟩
theorem strR_len (s : ByteArray) : (strR s).length = 1 := rfl
theorem strR_flat (l : List ByteArray) : (l.map strR).flatten = l.map Value.string := by
  induction l with
  | nil => rfl
  | cons a l ih => rw [List.map_cons, List.flatten_cons, ih]; rfl
/-- slices.Clone of strings -/
theorem gclone_any (w : World) (a : Option Addr) (n c : Nat) (l : List ByteArray) (h : SlAt strR 1 w a n l) (hp : 0 < n) (hn : n ≤ 1099511627776) : Calls Tryz.prog 88 #[.slice a n c] w fun e w' => (∃ g cap, e = .returned (.slice (some ⟨g, 0, none⟩) n cap) ∧ SlAt strR 1 w' (some ⟨g, 0, none⟩) n l ∧ (w.heap.size ≤ g ∧ ∃ cs, Blk w' g 9 cs) ∧ n ≤ cap ∧ cap ≤ maxLen) ∧ Keeps (fun _ => False) w w' := by
  obtain ⟨hl, hc⟩ := h
  obtain ⟨b, off, rfl, hb, hc⟩ := hc hp
  refine (Tryz.slices_Clone_string b off n c l w (by omega) (by omega) (fun j hj => ?_)).mono ?_
  · have hx : l[j]? = some (l.getD j ByteArray.empty) := by rw [List.getD_eq_getElem?_getD, List.getElem?_eq_getElem hj]; rfl
    exact SlAt.str hc j _ hx
  · rintro e w' ⟨v, rfl, ho, -, hbl⟩
    refine ⟨?_, Keeps.of_below hbl⟩
    subst hl
    rw [List.take_length, ← strR_flat] at ho
    have hO : OwnS strR 1 w' w.heap.size 9 v l := ho
    obtain ⟨a2, cap, rfl, h1, h2, h3, h4⟩ := hO.shape strR_len
    obtain ⟨g, rfl, hg, hlt, cs, hbk⟩ := h3 hp
    refine ⟨g, cap, rfl, ⟨rfl, fun _ => ⟨g, 0, rfl, hlt, fun i x j u hx hu => ?_⟩⟩, ⟨hg, cs, hbk⟩, h1, h2⟩
    rw [Nat.zero_add]
    exact (h4 g rfl i x j u hx hu).1
end Go.Proofs.YtfpajgmdejlaeaaGreatDoor
