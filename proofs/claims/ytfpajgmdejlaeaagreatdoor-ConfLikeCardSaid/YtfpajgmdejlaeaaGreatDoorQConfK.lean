/-
  conf: a loader in memory; user.
-/
import Derived.Test.YtfpajgmdejlaeaaGreatDoorQGround3
import Derived.Test.YtfpajgmdejlaeaaGreatDoorQConfJ
namespace Go.Proofs.YtfpajgmdejlaeaaGreatDoor
open Go.RowKit Go.Maps

def ldL (cv gv uv av : Value) (b0 b1 b2 b3 b4 b5 b6 b7 b8 b9 : ByteArray) (u : Con) (M : Nat) : List Value := [cv, gv, uv, av, .string b0, .string b1, .string b2, .string b3, .string b4, .string b5, .string b6, .string b7, .string b8, .string b9, .string u.name, .int .i64 u.kind, .int .i64 u.lines, .int .i64 u.bytes, .int .i64 u.gens, .int .i64 u.size, .int .i64 u.base, .int .i64 u.cap, .int .i64 u.jitter, .string u.init, .map (some M)]
def usrR (x : Usr) : List Value := [.string x.name, .string x.pass]
theorem usrR_len (x : Usr) : (usrR x).length = 2 := rfl
theorem usrR_one (x : Usr) : ∀ u ∈ usrR x, u.oneCell' = true := by intro u hu; simp [usrR] at hu; rcases hu with rfl | rfl <;> rfl
def accR (x : Acc) : List Value := [.string x.con, .string x.user, .int .i64 x.level]
theorem accR_len (x : Acc) : (accR x).length = 3 := rfl
theorem accR_one (x : Acc) : ∀ u ∈ accR x, u.oneCell' = true := by intro u hu; simp [accR] at hu; rcases hu with rfl | rfl | rfl <;> rfl
/-- a group's cells -/
structure GrV where
  name : ByteArray
  pa : Option Addr
  pn : Nat
  pc : Nat
def grR (r : GrV) : List Value := [.string r.name, .slice r.pa r.pn r.pc]
theorem grR_len (r : GrV) : (grR r).length = 2 := rfl
theorem grR_one (r : GrV) : ∀ u ∈ grR r, u.oneCell' = true := by intro u hu; simp [grR] at hu; rcases hu with rfl | rfl <;> rfl
def GrOk (w : World) (B : Nat) (x : Grp) (r : GrV) : Prop := r.name = x.name ∧ SlAt strR 1 w r.pa r.pn x.pats ∧ InS (fun i => B ≤ i ∧ ∃ cs, Blk w i 9 cs) r.pa r.pn ∧ r.pn ≤ r.pc ∧ r.pc ≤ maxLen
def GrAll (w : World) (B : Nat) (l : List Grp) (rs : List GrV) : Prop := l.length = rs.length ∧ ∀ (i : Nat) x r, l[i]? = some x → rs[i]? = some r → GrOk w B x r
section
variable {w w' : World} {S : Nat → Prop} {B : Nat}
theorem GrOk.keeps {x : Grp} {r : GrV} (h : GrOk w B x r) (k : Keeps S w w') (hS : ∀ i cs, Blk w i 9 cs → ¬ S i) : GrOk w' B x r := by
  obtain ⟨h1, h2, h3, h4, h5⟩ := h
  refine ⟨h1, h2.keepsS h3 k (fun i _ ⟨_, cs, hb⟩ => hS i cs hb), fun hn => ?_, h4, h5⟩
  obtain ⟨b, off, ha, hb, cs, hc⟩ := h3 hn
  exact ⟨b, off, ha, hb, cs, hc.keeps k (hS b cs hc)⟩
theorem GrAll.keeps {l : List Grp} {rs : List GrV} (h : GrAll w B l rs) (k : Keeps S w w') (hS : ∀ i cs, Blk w i 9 cs → ¬ S i) : GrAll w' B l rs := ⟨h.1, fun i x r hx hr => (h.2 i x r hx hr).keeps k hS⟩
theorem GrAll.snoc {l : List Grp} {rs : List GrV} {x : Grp} {r : GrV} (h : GrAll w B l rs) (hx : GrOk w B x r) : GrAll w B (l ++ [x]) (rs ++ [r]) := by
  refine ⟨by rw [List.length_append, List.length_append, h.1]; rfl, fun i y q hy hq => ?_⟩
  by_cases hi : i < l.length
  · rw [List.getElem?_append_left hi] at hy
    rw [List.getElem?_append_left (by rw [← h.1]; exact hi)] at hq
    exact h.2 i y q hy hq
  · rw [List.getElem?_append_right (by omega)] at hy
    rw [List.getElem?_append_right (by rw [← h.1]; omega)] at hq
    have e : i - l.length = 0 := by have := (List.getElem?_eq_some_iff.1 hy).1; simp at this; omega
    rw [e] at hy
    rw [← h.1, e] at hq
    simp at hy hq
    subst hy hq
    exact hx
end
theorem map_ne15 {w : World} {b M : Nat} {t : TypeId} {cs : Array Value} (h : Blk w b t cs) (hm : ∃ es c, w.heap[M]? = some (.map es c)) : b ≠ M := by
  rintro rfl
  obtain ⟨es, c, hm⟩ := hm
  unfold Blk at h
  rw [h] at hm
  cases hm
/-- a loader at g: what was read so far, the settings to begin with, which names were -/
structure Ld (w : World) (g M B : Nat) (cv gv uv av : Value) (b0 b1 b2 b3 b4 b5 b6 b7 b8 b9 : ByteArray) (c : Cf) (u : Con) (ks : List SK) : Prop where
  blk : Blk w g 57 (ldL cv gv uv av b0 b1 b2 b3 b4 b5 b6 b7 b8 b9 u M).toArray
  brk : c.brks = [b0, b1, b2, b3, b4, b5, b6, b7, b8, b9]
  cons : OwnS conR 10 w B 42 cv c.cons
  grps : ∃ rs, OwnS grR 2 w B 65 gv rs ∧ GrAll w B c.grps rs
  usrs : OwnS usrR 2 w B 67 uv c.usrs
  accs : OwnS accR 3 w B 46 av c.accs
  seen : SeenAt w M ks
  hg : B ≤ g
  hM : B ≤ M
  pos : ∀ x ∈ ks, 0 < x.n
section
variable {w w' : World} {S : Nat → Prop} {g M B : Nat} {cv gv uv av : Value} {b0 b1 b2 b3 b4 b5 b6 b7 b8 b9 : ByteArray} {c : Cf} {u : Con} {ks : List SK}
/-- blocks of no kind that a loader is made of are written -/
theorem Ld.keeps (h : Ld w g M B cv gv uv av b0 b1 b2 b3 b4 b5 b6 b7 b8 b9 c u ks) (k : Keeps S w w') (hg : ¬ S g) (hM : ¬ S M) (hT : ∀ i t cs, Blk w i t cs → t = 42 ∨ t = 65 ∨ t = 67 ∨ t = 46 ∨ t = 9 → ¬ S i) : Ld w' g M B cv gv uv av b0 b1 b2 b3 b4 b5 b6 b7 b8 b9 c u ks := by
  obtain ⟨rs, g1, g2⟩ := h.grps
  exact ⟨h.blk.keeps k hg, h.brk, h.cons.keeps k (fun i _ _ ⟨cs, hb⟩ => hT i _ cs hb (by simp)), ⟨rs, g1.keeps k (fun i _ _ ⟨cs, hb⟩ => hT i _ cs hb (by simp)), g2.keeps k (fun i cs hb => hT i _ cs hb (by simp))⟩,
    h.usrs.keeps k (fun i _ _ ⟨cs, hb⟩ => hT i _ cs hb (by simp)), h.accs.keeps k (fun i _ _ ⟨cs, hb⟩ => hT i _ cs hb (by simp)), h.seen.keeps k hM, h.hg, h.hM, h.pos⟩
theorem Ld.same (h : Ld w g M B cv gv uv av b0 b1 b2 b3 b4 b5 b6 b7 b8 b9 c u ks) (k : Keeps (fun _ => False) w w') : Ld w' g M B cv gv uv av b0 b1 b2 b3 b4 b5 b6 b7 b8 b9 c u ks := h.keeps k id id (fun _ _ _ _ _ => id)
/-- the names alone are written -/
theorem Ld.names (h : Ld w g M B cv gv uv av b0 b1 b2 b3 b4 b5 b6 b7 b8 b9 c u ks) (k : Keeps (fun i => i = M) w w') {ks' : List SK} (hs : SeenAt w' M ks') (hp : ∀ x ∈ ks', 0 < x.n) : Ld w' g M B cv gv uv av b0 b1 b2 b3 b4 b5 b6 b7 b8 b9 c u ks' := by
  have hm := h.seen.isMap
  obtain ⟨rs, g1, g2⟩ := h.grps
  exact ⟨h.blk.keeps k (map_ne15 h.blk hm), h.brk, h.cons.keeps k (fun i _ _ ⟨cs, hb⟩ => map_ne15 hb hm), ⟨rs, g1.keeps k (fun i _ _ ⟨cs, hb⟩ => map_ne15 hb hm), g2.keeps k (fun i cs hb => map_ne15 hb hm)⟩,
    h.usrs.keeps k (fun i _ _ ⟨cs, hb⟩ => map_ne15 hb hm), h.accs.keeps k (fun i _ _ ⟨cs, hb⟩ => map_ne15 hb hm), hs, h.hg, h.hM, hp⟩
theorem Ld.addU (h : Ld w g M B cv gv uv av b0 b1 b2 b3 b4 b5 b6 b7 b8 b9 c u ks) (k : Keeps (fun i => ∃ cs, Blk w i 67 cs) w w') {v' : Value} {l : List Usr} (O7 : OwnS usrR 2 w' B 67 v' l) : Ld (w'.setCell ⟨g, 2, none⟩ v') g M B cv gv v' av b0 b1 b2 b3 b4 b5 b6 b7 b8 b9 { c with usrs := l } u ks := by
  have hb7 := h.blk.keeps k (fun ⟨_, e⟩ => Blk.ne_ h.blk e (by decide) rfl)
  have k2 := Keeps.set1 w' g 2 v'
  obtain ⟨rs, g1, g2⟩ := h.grps
  have hm := h.seen.isMap
  have hs := h.seen.keeps k (fun ⟨_, e⟩ => map_ne15 e hm rfl)
  exact ⟨hb7.set_ 2 v', h.brk, (h.cons.keeps k (fun i _ _ ⟨cs, hb⟩ ⟨_, e⟩ => Blk.ne_ hb e (by decide) rfl)).keeps k2 (fun i _ _ ⟨cs, hb⟩ e => Blk.ne_ hb hb7 (by decide) e), ⟨rs, (g1.keeps k (fun i _ _ ⟨cs, hb⟩ ⟨_, e⟩ => Blk.ne_ hb e (by decide) rfl)).keeps k2 (fun i _ _ ⟨cs, hb⟩ e => Blk.ne_ hb hb7 (by decide) e), (g2.keeps k (fun i cs hb ⟨_, e⟩ => Blk.ne_ hb e (by decide) rfl)).keeps k2 (fun i cs hb e => Blk.ne_ hb hb7 (by decide) e)⟩, O7.keeps k2 (fun i _ _ ⟨cs, hb⟩ e => Blk.ne_ hb hb7 (by decide) e), (h.accs.keeps k (fun i _ _ ⟨cs, hb⟩ ⟨_, e⟩ => Blk.ne_ hb e (by decide) rfl)).keeps k2 (fun i _ _ ⟨cs, hb⟩ e => Blk.ne_ hb hb7 (by decide) e), hs.keeps k2 (fun e => map_ne15 hb7 hs.isMap e.symm), h.hg, h.hM, h.pos⟩
theorem Ld.addA (h : Ld w g M B cv gv uv av b0 b1 b2 b3 b4 b5 b6 b7 b8 b9 c u ks) (k : Keeps (fun i => ∃ cs, Blk w i 46 cs) w w') {v' : Value} {l : List Acc} (O7 : OwnS accR 3 w' B 46 v' l) : Ld (w'.setCell ⟨g, 3, none⟩ v') g M B cv gv uv v' b0 b1 b2 b3 b4 b5 b6 b7 b8 b9 { c with accs := l } u ks := by
  have hb7 := h.blk.keeps k (fun ⟨_, e⟩ => Blk.ne_ h.blk e (by decide) rfl)
  have k2 := Keeps.set1 w' g 3 v'
  obtain ⟨rs, g1, g2⟩ := h.grps
  have hm := h.seen.isMap
  have hs := h.seen.keeps k (fun ⟨_, e⟩ => map_ne15 e hm rfl)
  exact ⟨hb7.set_ 3 v', h.brk, (h.cons.keeps k (fun i _ _ ⟨cs, hb⟩ ⟨_, e⟩ => Blk.ne_ hb e (by decide) rfl)).keeps k2 (fun i _ _ ⟨cs, hb⟩ e => Blk.ne_ hb hb7 (by decide) e), ⟨rs, (g1.keeps k (fun i _ _ ⟨cs, hb⟩ ⟨_, e⟩ => Blk.ne_ hb e (by decide) rfl)).keeps k2 (fun i _ _ ⟨cs, hb⟩ e => Blk.ne_ hb hb7 (by decide) e), (g2.keeps k (fun i cs hb ⟨_, e⟩ => Blk.ne_ hb e (by decide) rfl)).keeps k2 (fun i cs hb e => Blk.ne_ hb hb7 (by decide) e)⟩, (h.usrs.keeps k (fun i _ _ ⟨cs, hb⟩ ⟨_, e⟩ => Blk.ne_ hb e (by decide) rfl)).keeps k2 (fun i _ _ ⟨cs, hb⟩ e => Blk.ne_ hb hb7 (by decide) e), O7.keeps k2 (fun i _ _ ⟨cs, hb⟩ e => Blk.ne_ hb hb7 (by decide) e), hs.keeps k2 (fun e => map_ne15 hb7 hs.isMap e.symm), h.hg, h.hM, h.pos⟩
theorem Ld.addC (h : Ld w g M B cv gv uv av b0 b1 b2 b3 b4 b5 b6 b7 b8 b9 c u ks) (k : Keeps (fun i => ∃ cs, Blk w i 42 cs) w w') {v' : Value} {l : List Con} (O7 : OwnS conR 10 w' B 42 v' l) : Ld (w'.setCell ⟨g, 0, none⟩ v') g M B v' gv uv av b0 b1 b2 b3 b4 b5 b6 b7 b8 b9 { c with cons := l } u ks := by
  have hb7 := h.blk.keeps k (fun ⟨_, e⟩ => Blk.ne_ h.blk e (by decide) rfl)
  have k2 := Keeps.set1 w' g 0 v'
  obtain ⟨rs, g1, g2⟩ := h.grps
  have hm := h.seen.isMap
  have hs := h.seen.keeps k (fun ⟨_, e⟩ => map_ne15 e hm rfl)
  exact ⟨hb7.set_ 0 v', h.brk, O7.keeps k2 (fun i _ _ ⟨cs, hb⟩ e => Blk.ne_ hb hb7 (by decide) e), ⟨rs, (g1.keeps k (fun i _ _ ⟨cs, hb⟩ ⟨_, e⟩ => Blk.ne_ hb e (by decide) rfl)).keeps k2 (fun i _ _ ⟨cs, hb⟩ e => Blk.ne_ hb hb7 (by decide) e), (g2.keeps k (fun i cs hb ⟨_, e⟩ => Blk.ne_ hb e (by decide) rfl)).keeps k2 (fun i cs hb e => Blk.ne_ hb hb7 (by decide) e)⟩, (h.usrs.keeps k (fun i _ _ ⟨cs, hb⟩ ⟨_, e⟩ => Blk.ne_ hb e (by decide) rfl)).keeps k2 (fun i _ _ ⟨cs, hb⟩ e => Blk.ne_ hb hb7 (by decide) e), (h.accs.keeps k (fun i _ _ ⟨cs, hb⟩ ⟨_, e⟩ => Blk.ne_ hb e (by decide) rfl)).keeps k2 (fun i _ _ ⟨cs, hb⟩ e => Blk.ne_ hb hb7 (by decide) e), hs.keeps k2 (fun e => map_ne15 hb7 hs.isMap e.symm), h.hg, h.hM, h.pos⟩
end
end Go.Proofs.YtfpajgmdejlaeaaGreatDoor
