/-
  A configuration in memory, as it is read; statements that are put behind one another (conf.Print's variable).
-/
import Derived.Test.YtfpajgmdejlaeaaGreatDoorQConfTd
import Derived.Test.YtfpajgmdejlaeaaGreatDoorQConfW
import Derived.Test.YtfpajgmdejlaeaaGreatDoorQOwnSrc
namespace Go.Proofs.YtfpajgmdejlaeaaGreatDoor
open Go.RowKit Go.Maps

/-- a slice of rows that lies in blocks of S -/
def SlIn {α : Type} (R : α → List Value) (size : Nat) (S : Nat → Prop) (w : World) (v : Value) (l : List α) : Prop := ∃ a c, v = .slice a l.length c ∧ SlAt R size w a l.length l ∧ InS S a l.length
/-- a group's cells mean it -/
def GrM (S : Nat → Prop) (w : World) (x : Grp) (r : GrV) : Prop := r.name = x.name ∧ SlAt strR 1 w r.pa r.pn x.pats ∧ InS S r.pa r.pn
/-- a configuration's values, in blocks of S -/
structure CfAt (S : Nat → Prop) (w : World) (cv gv uv av : Value) (c : Cf) : Prop where
  cons : SlIn conR 10 S w cv c.cons
  grps : ∃ rs, SlIn grR 2 S w gv rs ∧ c.grps.length = rs.length ∧ ∀ (i : Nat) x r, c.grps[i]? = some x → rs[i]? = some r → GrM S w x r
  usrs : SlIn usrR 2 S w uv c.usrs
  accs : SlIn accR 3 S w av c.accs
section
variable {S T : Nat → Prop} {w w' : World}
theorem SlIn.keeps {α : Type} {R : α → List Value} {size : Nat} {v : Value} {l : List α} (h : SlIn R size S w v l) (k : Keeps T w w') (hd : ∀ i, i < w.heap.size → S i → ¬ T i) : SlIn R size S w' v l := by
  obtain ⟨a, c, rfl, h1, h2⟩ := h
  exact ⟨a, c, rfl, h1.keepsS h2 k hd, h2⟩
theorem CfAt.keeps {cv gv uv av : Value} {c : Cf} (h : CfAt S w cv gv uv av c) (k : Keeps T w w') (hd : ∀ i, i < w.heap.size → S i → ¬ T i) : CfAt S w' cv gv uv av c := by
  obtain ⟨h1, ⟨rs, h2, h3, h4⟩, h5, h6⟩ := h
  exact ⟨h1.keeps k hd, ⟨rs, h2.keeps k hd, h3, fun i x r hx hr => by obtain ⟨g1, g2, g3⟩ := h4 i x r hx hr; exact ⟨g1, g2.keepsS g3 k hd, g3⟩⟩, h5.keeps k hd, h6.keeps k hd⟩
end
/-- ten cells set: a console is there -/
theorem con_set {w : World} {g : Nat} {u0 u1 u2 u3 u4 u5 u6 u7 u8 u9 : Value} (h : Blk w g 42 #[u0, u1, u2, u3, u4, u5, u6, u7, u8, u9]) (x : Con) : Blk ((((((((((w.setCell ⟨g, 0, none⟩ (.string x.name)).setCell ⟨g, 1, none⟩ (.int .i64 x.kind)).setCell ⟨g, 2, none⟩ (.int .i64 x.lines)).setCell ⟨g, 3, none⟩ (.int .i64 x.bytes)).setCell ⟨g, 4, none⟩ (.int .i64 x.gens)).setCell ⟨g, 5, none⟩ (.int .i64 x.size)).setCell ⟨g, 6, none⟩ (.int .i64 x.base)).setCell ⟨g, 7, none⟩ (.int .i64 x.cap)).setCell ⟨g, 8, none⟩ (.int .i64 x.jitter)).setCell ⟨g, 9, none⟩ (.string x.init)) g 42 (conR x).toArray ∧ Keeps (fun i => i = g) w ((((((((((w.setCell ⟨g, 0, none⟩ (.string x.name)).setCell ⟨g, 1, none⟩ (.int .i64 x.kind)).setCell ⟨g, 2, none⟩ (.int .i64 x.lines)).setCell ⟨g, 3, none⟩ (.int .i64 x.bytes)).setCell ⟨g, 4, none⟩ (.int .i64 x.gens)).setCell ⟨g, 5, none⟩ (.int .i64 x.size)).setCell ⟨g, 6, none⟩ (.int .i64 x.base)).setCell ⟨g, 7, none⟩ (.int .i64 x.cap)).setCell ⟨g, 8, none⟩ (.int .i64 x.jitter)).setCell ⟨g, 9, none⟩ (.string x.init)) := by
  refine ⟨?_, (((((((((((Keeps.refl (fun i => i = g) w).setCell (p := ⟨g, 0, none⟩) (fun _ => rfl) (.string x.name)).setCell (p := ⟨g, 1, none⟩) (fun _ => rfl) (.int .i64 x.kind)).setCell (p := ⟨g, 2, none⟩) (fun _ => rfl) (.int .i64 x.lines)).setCell (p := ⟨g, 3, none⟩) (fun _ => rfl) (.int .i64 x.bytes)).setCell (p := ⟨g, 4, none⟩) (fun _ => rfl) (.int .i64 x.gens)).setCell (p := ⟨g, 5, none⟩) (fun _ => rfl) (.int .i64 x.size)).setCell (p := ⟨g, 6, none⟩) (fun _ => rfl) (.int .i64 x.base)).setCell (p := ⟨g, 7, none⟩) (fun _ => rfl) (.int .i64 x.cap)).setCell (p := ⟨g, 8, none⟩) (fun _ => rfl) (.int .i64 x.jitter)).setCell (p := ⟨g, 9, none⟩) (fun _ => rfl) (.string x.init))⟩
  have hb := ((((((((((h.set_ 0 (.string x.name)).set_ 1 (.int .i64 x.kind)).set_ 2 (.int .i64 x.lines)).set_ 3 (.int .i64 x.bytes)).set_ 4 (.int .i64 x.gens)).set_ 5 (.int .i64 x.size)).set_ 6 (.int .i64 x.base)).set_ 7 (.int .i64 x.cap)).set_ 8 (.int .i64 x.jitter)).set_ 9 (.string x.init))
  simp only [List.setIfInBounds_toArray, List.set_cons_zero, List.set_cons_succ] at hb
  exact hb
/-- a console's cells in a row -/
theorem con_cells {w : World} {b off n : Nat} {l : List Con} (h : SlAt conR 10 w (some ⟨b, off, none⟩) n l) {j : Nat} {x : Con} (hx : l[j]? = some x) : ∀ (i : Nat) (v : Value), (conR x)[i]? = some v → w.cell? ⟨b, off + j * 10 + i, none⟩ = some v := by
  obtain ⟨b', off', e, -, hc⟩ := h.2 (by have := (List.getElem?_eq_some_iff.1 hx).1; have := h.1; omega)
  injection e with e
  injection e with e1 e2
  subst e1 e2
  exact fun i v hv => hc j x i v hx hv
theorem SlAt.cells {α : Type} {R : α → List Value} {size : Nat} {w : World} {b off n : Nat} {l : List α} (h : SlAt R size w (some ⟨b, off, none⟩) n l) {j : Nat} {x : α} (hx : l[j]? = some x) : ∀ (i : Nat) (v : Value), (R x)[i]? = some v → w.cell? ⟨b, off + j * size + i, none⟩ = some v := by
  obtain ⟨b', off', e, -, hc⟩ := h.2 (by have := (List.getElem?_eq_some_iff.1 hx).1; have := h.1; omega)
  injection e with e
  injection e with e1 e2
  subst e1 e2
  exact fun i v hv => hc j x i v hx hv
theorem strR_len15 (s : ByteArray) : (strR s).length = 1 := rfl
theorem strR_one15 (s : ByteArray) : ∀ u ∈ strR s, u.oneCell' = true := by intro u hu; simp [strR] at hu; subst hu; rfl
/-- a row of one text that was just made -/
theorem OwnS.newStr (w : World) (s : ByteArray) : OwnS strR 1 (w.alloc (.cells #[.string s] 9)) w.heap.size 9 (.slice (some ⟨w.heap.size, 0, none⟩) 1 1) [s] :=
  ⟨rfl, .inr ⟨w.heap.size, 1, #[.string s], rfl, Nat.le_refl _, Blk.new _ _ _, Nat.le_refl _, by decide, rfl, rfl⟩⟩
/-- a row of texts as the source of an append -/
theorem SrcS.of_slat {w : World} {a : Option Addr} {n c : Nat} {l : List ByteArray} (h : SlAt strR 1 w a n l) : SrcS strR 1 w (.slice a n c) l := by
  have hl := h.1
  refine ⟨a, c, by rw [hl], ?_⟩
  by_cases hn : n = 0
  · exact .inl (List.eq_nil_of_length_eq_zero (by omega))
  · obtain ⟨b, off, rfl, -, hc⟩ := h.2 (by omega)
    refine .inr ⟨_, rfl, fun j u hj => ?_⟩
    have hf : (l.map strR).flatten = l.map Value.string := by
      clear h hl hn hc hj
      induction l with
      | nil => rfl
      | cons a l ih => rw [List.map_cons, List.flatten_cons, ih]; rfl
    rw [hf, List.getElem?_map, Option.map_eq_some_iff] at hj
    obtain ⟨s, hs, rfl⟩ := hj
    have := hc j s 0 (.string s) hs rfl
    rw [Nat.mul_one, Nat.add_zero] at this
    by_cases h0 : j = 0
    · subst h0; simpa [Addr.add] using this
    · simpa [Addr.add, h0] using this
theorem OwnS.rowV {w : World} {B : Nat} {e : TypeId} {v : Value} {l : List ByteArray} (h : OwnS strR 1 w B e v l) : ∃ a c, v = .slice a l.length c ∧ SlAt strR 1 w a l.length l ∧ InS (fun i => B ≤ i ∧ i < w.heap.size) a l.length ∧ l.length ≤ c ∧ c ≤ maxLen := by
  obtain ⟨a, cap, hv, h1, h2, h3, h4⟩ := h.shape strR_len15
  refine ⟨a, cap, hv, ⟨rfl, fun hp => ?_⟩, fun hp => ?_, h1, h2⟩
  · obtain ⟨g, hg, _, hlt, _⟩ := h3 hp
    exact ⟨g, 0, hg, hlt, fun i x j u hx hu => by rw [Nat.zero_add]; exact (h4 g hg i x j u hx hu).1⟩
  · obtain ⟨g, hg, hB, hlt, _⟩ := h3 hp
    exact ⟨g, 0, hg, hB, hlt⟩
/-- statements that were put: the variable's cell, and what its rows mean -/
def Pr (w0 w : World) (p : Nat) (v : Value) (xs : List Nd) : Prop := Blk w p 50 #[v] ∧ Keeps (fun _ => False) w0 w ∧ w0.heap.size ≤ p ∧ ∃ S, NdsOwn w w0.heap.size S 60 v xs ∧ ¬ S p
section
variable {w0 w w' : World} {p : Nat} {v : Value} {xs : List Nd}
theorem Pr.keeps (h : Pr w0 w p v xs) (k : Keeps (fun _ => False) w w') : Pr w0 w' p v xs := by
  obtain ⟨h1, h2, h3, S, h4, h5⟩ := h
  exact ⟨h1.keeps k id, h2.trans k, h3, S, h4.keeps k (fun _ _ _ => id), h5⟩
theorem Pr.cell (h : Pr w0 w p v xs) : w.cell? ⟨p, 0, none⟩ = some v := h.1.cell 0
theorem Pr.sl (h : Pr w0 w p v xs) : ∃ a c, v = .slice a xs.length c := by obtain ⟨-, -, -, S, h4, -⟩ := h; exact h4.sl
theorem Pr.lt (h : Pr w0 w p v xs) : p < w.heap.size := h.1.lt
theorem Pr.frame (h : Pr w0 w p v xs) : Keeps (fun _ => False) w0 w := h.2.1
/-- one more, out of a row of its own -/
theorem Pr.put {w1 : World} (h : Pr w0 w p v xs) (k1 : Keeps (fun _ => False) w w1) (key : ByteArray) (l : List ByteArray) (a : Option Addr) (c : Nat) (hr : SlAt strR 1 w1 a l.length l ∧ InS (fun i => w.heap.size ≤ i ∧ i < w1.heap.size) a l.length ∧ l.length ≤ c ∧ c ≤ maxLen) (hl : xs.length ≤ 1099511627) :
    Calls Tryz.prog 22 #[.string key, .slice a l.length c, .pointer (some ⟨p, 0, none⟩)] w1 fun e w' => e = .returned (.tuple #[]) ∧ ∃ v', Pr w0 w' p v' (xs ++ [oneN key l]) := by
  have h1 := h.keeps k1
  have hplt := h.lt
  obtain ⟨hb, hk, hp, S, ⟨rs, o1, o2, o3, o4⟩, hSp⟩ := h1
  have hlen := NdAll.len _ _ o2
  obtain ⟨-, hkw, -, S0, hN0, -⟩ := h
  have hkw0 := hkw.size
  have hvlt : ∀ k, v.ownBlock = some k → k < w.heap.size := fun k hk => (hN0.lt k hk).2
  have hvblk := o1.ownBlk
  refine (pput_any w1 p w0.heap.size key a l.length c v rs hb o1 hk.size (by omega)).mono ?_
  rintro e w' ⟨rfl, ⟨v', hb', o', ho'⟩, kk⟩
  obtain ⟨r1, r2, r3, r4⟩ := hr
  have hk1 := k1.size
  have hlow : ∀ k, v.ownBlock = some k → w0.heap.size ≤ k := fun k hk => (World.ownsRow.lt o1 k hk).1
  refine ⟨rfl, v', hb', hk.and_ kk (fun i hi hh => ?_), hp, fun i => S i ∨ (w.heap.size ≤ i ∧ i < w1.heap.size), ⟨rs ++ [flatV key a l.length c], o', ?_, ?_, ?_⟩, ?_⟩
  · rcases hh with rfl | hh
    · omega
    · have := hlow i hh; omega
  · refine NdAll.snoc _ _ ?_ _ _ ?_
    · unfold oneN flatV
      rw [NdM]
      refine ⟨rfl, rfl, rfl, ⟨r1.keepsS r2 kk (fun i _ hi hh => ?_), r2.mono fun i hi => .inr hi, r3, r4⟩, [], ⟨rfl, fun h => absurd h (by simp)⟩, InS.none_, Nat.le_refl _, Nat.zero_le _, by rw [NdAll]; trivial⟩
      rcases hh with rfl | hh
      · omega
      · have := hvlt i hh; omega
    · refine NdAll.mono (fun i hi => .inl hi) _ _ (NdAll.keeps kk (fun i _ hi hh => ?_) _ _ o2)
      rcases hh with rfl | hh
      · exact hSp hi
      · exact o3 i hh hi
  · intro k hk hh
    rcases ho' k hk with h | h
    · rcases hh with hh | hh
      · exact o3 k h hh
      · have := hvlt k h; omega
    · rcases hh with hh | hh
      · have := (o4 k hh).2; omega
      · omega
  · intro i hi
    have := kk.size
    rcases hi with hi | hi
    · have := o4 i hi; omega
    · exact ⟨by omega, by omega⟩
  · rintro (h | h)
    · exact hSp h
    · omega
mutual
theorem NdM.lt {w : World} {S : Nat → Prop} : ∀ (x : Nd) (r : NdV), NdM w S x r → NdM w (fun i => S i ∧ i < w.heap.size) x r
  | .mk key as_ b l line, r, h => by
    rw [NdM] at h ⊢
    obtain ⟨h1, h2, h3, ⟨h4, h5, h6, h7⟩, rs, h8, h9, h10, h11, h12⟩ := h
    have tight : ∀ {α : Type} {R : α → List Value} {size : Nat} {a : Option Addr} {n : Nat} {l : List α}, SlAt R size w a n l → InS S a n → InS (fun i => S i ∧ i < w.heap.size) a n := fun hs hi hn => by
      obtain ⟨b, off, ha, hb, -⟩ := hs.2 hn
      obtain ⟨b2, off2, ha2, hS⟩ := hi hn
      rw [ha] at ha2
      injection ha2 with e
      injection e with e1 _
      subst e1
      exact ⟨b, off, ha, hS, hb⟩
    exact ⟨h1, h2, h3, ⟨h4, tight h4 h5, h6, h7⟩, rs, h8, tight h8 h9, h10, h11, NdAll.lt l rs h12⟩
theorem NdAll.lt {w : World} {S : Nat → Prop} : ∀ (xs : List Nd) (rs : List NdV), NdAll w S xs rs → NdAll w (fun i => S i ∧ i < w.heap.size) xs rs
  | [], [], _ => by rw [NdAll]; trivial
  | x :: xs, r :: rs, h => by
    rw [NdAll] at h ⊢
    exact ⟨NdM.lt x r h.1, NdAll.lt xs rs h.2⟩
  | [], r :: rs, h => by rw [NdAll] at h; exact h.elim; simp; simp
  | x :: xs, [], h => by rw [NdAll] at h; exact h.elim; simp; simp
end
/-- an element is appended, and the variable set: what is there then -/
theorem Pr.told_done {wa wc w7 : World} {p g7 cap7 : Nat} {v : Value} {rs : List NdV} {xs : List Nd} {S0 T : Nat → Prop} {X : Nd} {r : NdV} (hp7 : Blk w7 p 50 #[v]) (hk : Keeps (fun _ => False) wa wc) (hpw : wa.heap.size ≤ p) (hpc : p < wc.heap.size) (hlow : ∀ k, v.ownBlock = some k → wa.heap.size ≤ k ∧ k < wc.heap.size) (o2 : NdAll wc S0 xs rs) (o3 : ∀ k, v.ownBlock = some k → ¬ S0 k) (o4 : ∀ i, S0 i → wa.heap.size ≤ i ∧ i < wc.heap.size) (hSp : ¬ S0 p)
    (kk7 : Keeps (fun i => v.ownBlock = some i) wc w7) (O7 : OwnS ndR 5 w7 wa.heap.size 60 (.slice (some ⟨g7, 0, none⟩) (rs.length + 1) cap7) (rs ++ [zeroV])) (ne7 : g7 ≠ p) (hat : v.ownBlock = some g7 ∨ wc.heap.size ≤ g7) (hm : NdM w7 T X r) (hT : ∀ i, T i → wc.heap.size ≤ i ∧ i < w7.heap.size ∧ i ≠ g7) (W : World)
    (hW : W = ((((((w7.setCell ⟨g7, rs.length * 5, none⟩ (.string r.key)).setCell ⟨g7, rs.length * 5 + 1, none⟩ (.slice r.aa r.an r.ac)).setCell ⟨g7, rs.length * 5 + 2, none⟩ (.bool r.block)).setCell ⟨g7, rs.length * 5 + 3, none⟩ (.slice r.la r.ln r.lc)).setCell ⟨g7, rs.length * 5 + 4, none⟩ (.int .i64 r.line)).setCell ⟨p, 0, none⟩ (.slice (some ⟨g7, 0, none⟩) (rs.length + 1) cap7)) ∨ W = ((((((w7.setCell ⟨p, 0, none⟩ (.slice (some ⟨g7, 0, none⟩) (rs.length + 1) cap7)).setCell ⟨g7, rs.length * 5, none⟩ (.string r.key)).setCell ⟨g7, rs.length * 5 + 1, none⟩ (.slice r.aa r.an r.ac)).setCell ⟨g7, rs.length * 5 + 2, none⟩ (.bool r.block)).setCell ⟨g7, rs.length * 5 + 3, none⟩ (.slice r.la r.ln r.lc)).setCell ⟨g7, rs.length * 5 + 4, none⟩ (.int .i64 r.line))) : ∃ v', Pr wa W p v' (xs ++ [X]) := by
  have hat' : wc.heap.size ≤ g7 ∨ v.ownBlock = some g7 := hat.symm
  have main : OwnS ndR 5 W wa.heap.size 60 (.slice (some ⟨g7, 0, none⟩) (rs.length + 1) cap7) (rs ++ [r]) ∧ Blk W p 50 #[.slice (some ⟨g7, 0, none⟩) (rs.length + 1) cap7] ∧ Keeps (fun i => i = p ∨ i = g7) w7 W := by
    rcases hW with rfl | rfl
    · have O8 := OwnS.last5 rfl O7 r.key r.aa r.an r.ac r.block r.la r.ln r.lc r.line
      have hp8 := ((((hp7.far (p := ⟨g7, rs.length * 5, none⟩) (Ne.symm ne7) (.string r.key)).far (p := ⟨g7, rs.length * 5 + 1, none⟩) (Ne.symm ne7) (.slice r.aa r.an r.ac)).far (p := ⟨g7, rs.length * 5 + 2, none⟩) (Ne.symm ne7) (.bool r.block)).far (p := ⟨g7, rs.length * 5 + 3, none⟩) (Ne.symm ne7) (.slice r.la r.ln r.lc)).far (p := ⟨g7, rs.length * 5 + 4, none⟩) (Ne.symm ne7) (.int .i64 r.line)
      refine ⟨O8.keeps (Keeps.set1 _ p 0 _) (fun i _ _ ⟨cs, hb⟩ e => Blk.ne_ hb hp8 (by decide) e), hp8.set_ 0 _, ?_⟩
      exact ((((((Keeps.refl (fun i => i = p ∨ i = g7) w7).setCell (p := ⟨g7, rs.length * 5, none⟩) (fun _ => .inr rfl) _).setCell (p := ⟨g7, rs.length * 5 + 1, none⟩) (fun _ => .inr rfl) _).setCell (p := ⟨g7, rs.length * 5 + 2, none⟩) (fun _ => .inr rfl) _).setCell (p := ⟨g7, rs.length * 5 + 3, none⟩) (fun _ => .inr rfl) _).setCell (p := ⟨g7, rs.length * 5 + 4, none⟩) (fun _ => .inr rfl) _).setCell (p := ⟨p, 0, none⟩) (fun _ => .inl rfl) _
    · have hpq := hp7.set_ 0 (.slice (some ⟨g7, 0, none⟩) (rs.length + 1) cap7)
      have O7q := O7.keeps (Keeps.set1 w7 p 0 (.slice (some ⟨g7, 0, none⟩) (rs.length + 1) cap7)) (fun i _ _ ⟨cs, hb⟩ e => Blk.ne_ hb hp7 (by decide) e)
      have O8 := OwnS.last5 rfl O7q r.key r.aa r.an r.ac r.block r.la r.ln r.lc r.line
      have hp8 := ((((hpq.far (p := ⟨g7, rs.length * 5, none⟩) (Ne.symm ne7) (.string r.key)).far (p := ⟨g7, rs.length * 5 + 1, none⟩) (Ne.symm ne7) (.slice r.aa r.an r.ac)).far (p := ⟨g7, rs.length * 5 + 2, none⟩) (Ne.symm ne7) (.bool r.block)).far (p := ⟨g7, rs.length * 5 + 3, none⟩) (Ne.symm ne7) (.slice r.la r.ln r.lc)).far (p := ⟨g7, rs.length * 5 + 4, none⟩) (Ne.symm ne7) (.int .i64 r.line)
      refine ⟨O8, hp8, ?_⟩
      exact ((((((Keeps.refl (fun i => i = p ∨ i = g7) w7).setCell (p := ⟨p, 0, none⟩) (fun _ => .inl rfl) _).setCell (p := ⟨g7, rs.length * 5, none⟩) (fun _ => .inr rfl) _).setCell (p := ⟨g7, rs.length * 5 + 1, none⟩) (fun _ => .inr rfl) _).setCell (p := ⟨g7, rs.length * 5 + 2, none⟩) (fun _ => .inr rfl) _).setCell (p := ⟨g7, rs.length * 5 + 3, none⟩) (fun _ => .inr rfl) _).setCell (p := ⟨g7, rs.length * 5 + 4, none⟩) (fun _ => .inr rfl) _
  obtain ⟨O8, hb8, k8⟩ := main
  have hs7 := kk7.size
  have hs8 := k8.size
  have hsa := hk.size
  have kk7' : Keeps (fun i => i = p ∨ i = g7 ∨ v.ownBlock = some i) wc w7 := kk7.mono (fun i _ h => .inr (.inr h))
  have kc : Keeps (fun i => i = p ∨ i = g7 ∨ v.ownBlock = some i) wc W := kk7'.and_ k8 (fun i _ h => by
    rcases h with h | h
    · exact .inl h
    · exact .inr (.inl h))
  have hdis : ∀ i, S0 i → ¬ (i = p ∨ i = g7 ∨ v.ownBlock = some i) := by
    rintro i hi (rfl | rfl | h)
    · exact hSp hi
    · rcases hat with h | h
      · exact o3 _ h hi
      · have := (o4 _ hi).2; omega
    · exact o3 _ h hi
  refine ⟨_, hb8, hk.and_ kc (fun i hi h => ?_), hpw, fun i => S0 i ∨ T i, ⟨rs ++ [r], O8, ?_, ?_, ?_⟩, ?_⟩
  · rcases h with rfl | rfl | h
    · omega
    · rcases hat with h | h
      · have := (hlow _ h).1; omega
      · omega
    · have := (hlow _ h).1; omega
  · refine NdAll.snoc _ _ ?_ _ _ ?_
    · exact (hm.keeps k8 (fun i _ hi h => by
        rcases h with rfl | rfl
        · have := (hT _ hi).1; omega
        · exact (hT _ hi).2.2 rfl)).mono (fun i hi => .inr hi)
    · exact NdAll.mono (fun i hi => .inl hi) _ _ (NdAll.keeps kc (fun i _ hi => hdis i hi) _ _ o2)
  · intro k hk2 hh
    injection hk2 with hk2
    subst hk2
    rcases hh with hh | hh
    · exact hdis _ hh (.inr (.inl rfl))
    · exact (hT _ hh).2.2 rfl
  · intro i hi
    rcases hi with hi | hi
    · have := o4 i hi; omega
    · have := hT i hi; omega
  · rintro (h | h)
    · exact hSp h
    · have := (hT _ h).1; omega
theorem slat_row (w : World) (l : List ByteArray) : SlAt strR 1 (w.alloc (.cells (l.map Value.string).toArray 9)) (some ⟨w.heap.size, 0, none⟩) l.length l := by
  refine ⟨rfl, fun _ => ⟨_, 0, rfl, by simp, fun i s j v hi hv => ?_⟩⟩
  have hj : j = 0 := by
    have := (List.getElem?_eq_some_iff.1 hv).1
    simp [strR] at this
    exact this
  subst hj
  have hv' : v = .string s := by simp [strR] at hv; exact hv.symm
  subst hv'
  rw [(Blk.new w _ _).cell]
  simp [hi]
/-- .. out of a row that was just made -/
theorem Pr.putNew {w1 : World} (h : Pr w0 w p v xs) (k1 : Keeps (fun _ => False) w w1) (key : ByteArray) (l : List ByteArray) (hm : l.length ≤ 16) (hl : xs.length ≤ 1099511627) :
    Calls Tryz.prog 22 #[.string key, .slice (some ⟨w1.heap.size, 0, none⟩) l.length l.length, .pointer (some ⟨p, 0, none⟩)] (w1.alloc (.cells (l.map Value.string).toArray 9)) fun e w' => e = .returned (.tuple #[]) ∧ ∃ v', Pr w0 w' p v' (xs ++ [oneN key l]) :=
  h.put (k1.alloc _) key l _ l.length ⟨slat_row w1 l, fun _ => ⟨_, 0, rfl, k1.size, by simp⟩, Nat.le_refl _, Nat.le_trans hm (by decide)⟩ hl
end
end Go.Proofs.YtfpajgmdejlaeaaGreatDoor
