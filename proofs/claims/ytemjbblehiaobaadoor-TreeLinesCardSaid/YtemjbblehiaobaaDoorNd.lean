/-
  Statements in memory: rows of nodes, whose arguments and blocks are rows of their own. No program in sight.
-/
import Derived.Test.YtemjbblehiaobaaDoorTreeP
import Derived.Test.YtemjbblehiaobaaDoorOwnS
import Derived.Test.YtemjbblehiaobaaDoorArgs
namespace Go.Proofs.YtemjbblehiaobaaDoor
open Go.RowKit

/-- a node's cells -/
structure NdV where
  key : ByteArray
  aa : Option Addr
  an : Nat
  ac : Nat
  block : Bool
  la : Option Addr
  ln : Nat
  lc : Nat
  line : Int
def ndR (r : NdV) : List Value := [.string r.key, .slice r.aa r.an r.ac, .bool r.block, .slice r.la r.ln r.lc, .int .i64 r.line]
theorem ndR_len (r : NdV) : (ndR r).length = 5 := rfl
theorem ndR_one (r : NdV) : ∀ u ∈ ndR r, u.oneCell' = true := by
  intro u hu; simp [ndR] at hu; rcases hu with rfl | rfl | rfl | rfl | rfl <;> rfl
/-- a slice's row lies in a block of S -/
def InS (S : Nat → Prop) (a : Option Addr) (n : Nat) : Prop := 0 < n → ∃ b off, a = some ⟨b, off, none⟩ ∧ S b
theorem InS.mono {S T : Nat → Prop} {a : Option Addr} {n : Nat} (h : InS S a n) (hs : ∀ i, S i → T i) : InS T a n := fun hn => let ⟨b, off, e, hb⟩ := h hn; ⟨b, off, e, hs b hb⟩
theorem InS.none_ {S : Nat → Prop} : InS S none 0 := fun h => absurd h (by omega)
theorem SlAt.keepsS {α : Type} {R : α → List Value} {size : Nat} {w w' : World} {a : Option Addr} {n : Nat} {l : List α} {S T : Nat → Prop} (h : SlAt R size w a n l) (hs : InS S a n) (k : Keeps T w w') (hd : ∀ i, i < w.heap.size → S i → ¬ T i) : SlAt R size w' a n l := by
  refine ⟨h.1, fun hn => ?_⟩
  obtain ⟨b, off, ha, hb, hc⟩ := h.2 hn
  obtain ⟨b2, off2, ha2, hS⟩ := hs hn
  obtain rfl : b = b2 := by rw [ha] at ha2; injection ha2 with e; injection e
  refine ⟨b, off, ha, Nat.lt_of_lt_of_le hb k.size, fun i x j v hx hv => ?_⟩
  rw [World.cell?_of_block (w := w) (k.block b hb (hd b hb hS))]
  exact hc i x j v hx hv
mutual
/-- a node's cells mean a statement, whose rows lie in blocks of S -/
def NdM (w : World) (S : Nat → Prop) : Nd → NdV → Prop
  | .mk k as b l line, r => r.key = k ∧ r.block = b ∧ r.line = line ∧ (SlAt strR 1 w r.aa r.an as ∧ InS S r.aa r.an ∧ r.an ≤ r.ac ∧ r.ac ≤ maxLen) ∧ ∃ rs, SlAt ndR 5 w r.la r.ln rs ∧ InS S r.la r.ln ∧ r.ln ≤ r.lc ∧ r.lc ≤ maxLen ∧ NdAll w S l rs
def NdAll (w : World) (S : Nat → Prop) : List Nd → List NdV → Prop
  | [], [] => True
  | x :: xs, r :: rs => NdM w S x r ∧ NdAll w S xs rs
  | _, _ => False
end
section
variable {w w' : World} {S T : Nat → Prop}
mutual
theorem NdM.keeps (k : Keeps T w w') (hd : ∀ i, i < w.heap.size → S i → ¬ T i) : ∀ (x : Nd) (r : NdV), NdM w S x r → NdM w' S x r
  | .mk key as b l line, r, h => by
    rw [NdM] at h ⊢
    obtain ⟨h1, h2, h3, ⟨h4, h5, h6, h7⟩, rs, h8, h9, h10, h11, h12⟩ := h
    exact ⟨h1, h2, h3, ⟨h4.keepsS h5 k hd, h5, h6, h7⟩, rs, h8.keepsS h9 k hd, h9, h10, h11, NdAll.keeps k hd l rs h12⟩
theorem NdAll.keeps (k : Keeps T w w') (hd : ∀ i, i < w.heap.size → S i → ¬ T i) : ∀ (xs : List Nd) (rs : List NdV), NdAll w S xs rs → NdAll w' S xs rs
  | [], [], _ => by rw [NdAll]; trivial
  | x :: xs, r :: rs, h => by
    rw [NdAll] at h ⊢
    exact ⟨NdM.keeps k hd x r h.1, NdAll.keeps k hd xs rs h.2⟩
  | [], r :: rs, h => by rw [NdAll] at h; exact h.elim; simp; simp
  | x :: xs, [], h => by rw [NdAll] at h; exact h.elim; simp; simp
end
mutual
theorem NdM.mono (hs : ∀ i, S i → T i) : ∀ (x : Nd) (r : NdV), NdM w S x r → NdM w T x r
  | .mk key as b l line, r, h => by
    rw [NdM] at h ⊢
    obtain ⟨h1, h2, h3, ⟨h4, h5, h6, h7⟩, rs, h8, h9, h10, h11, h12⟩ := h
    exact ⟨h1, h2, h3, ⟨h4, h5.mono hs, h6, h7⟩, rs, h8, h9.mono hs, h10, h11, NdAll.mono hs l rs h12⟩
theorem NdAll.mono (hs : ∀ i, S i → T i) : ∀ (xs : List Nd) (rs : List NdV), NdAll w S xs rs → NdAll w T xs rs
  | [], [], _ => by rw [NdAll]; trivial
  | x :: xs, r :: rs, h => by
    rw [NdAll] at h ⊢
    exact ⟨NdM.mono hs x r h.1, NdAll.mono hs xs rs h.2⟩
  | [], r :: rs, h => by rw [NdAll] at h; exact h.elim; simp; simp
  | x :: xs, [], h => by rw [NdAll] at h; exact h.elim; simp; simp
end
theorem NdAll.len : ∀ (xs : List Nd) (rs : List NdV), NdAll w S xs rs → xs.length = rs.length
  | [], [], _ => rfl
  | x :: xs, r :: rs, h => by rw [NdAll] at h; rw [List.length_cons, List.length_cons, NdAll.len xs rs h.2]
  | [], r :: rs, h => by rw [NdAll] at h; exact h.elim; simp; simp
  | x :: xs, [], h => by rw [NdAll] at h; exact h.elim; simp; simp
theorem NdAll.snoc (x : Nd) (r : NdV) (h : NdM w S x r) : ∀ (xs : List Nd) (rs : List NdV), NdAll w S xs rs → NdAll w S (xs ++ [x]) (rs ++ [r])
  | [], [], _ => by rw [List.nil_append, List.nil_append, NdAll, NdAll]; exact ⟨h, trivial⟩
  | y :: xs, q :: rs, hh => by
    rw [NdAll] at hh
    rw [List.cons_append, List.cons_append, NdAll]
    exact ⟨hh.1, NdAll.snoc x r h xs rs hh.2⟩
  | [], q :: rs, hh => by rw [NdAll] at hh; exact hh.elim; simp; simp
  | y :: xs, [], hh => by rw [NdAll] at hh; exact hh.elim; simp; simp
theorem NdAll.get : ∀ (xs : List Nd) (rs : List NdV), NdAll w S xs rs → ∀ (i : Nat) (x : Nd), xs[i]? = some x → ∃ r, rs[i]? = some r ∧ NdM w S x r
  | [], _, _, i, x, hi => by simp at hi
  | y :: xs, q :: rs, hh, i, x, hi => by
    rw [NdAll] at hh
    cases i with
    | zero => simp at hi; subst hi; exact ⟨q, rfl, hh.1⟩
    | succ i => simp at hi; exact NdAll.get xs rs hh.2 i x hi
  | y :: xs, [], hh, i, x, hi => by rw [NdAll] at hh; exact hh.elim; simp; simp
end
/-- a slice of statements that lies in blocks of S -/
def NdsAt (w : World) (S : Nat → Prop) (v : Value) (xs : List Nd) : Prop := ∃ a c rs, v = .slice a xs.length c ∧ SlAt ndR 5 w a xs.length rs ∧ InS S a xs.length ∧ xs.length ≤ c ∧ c ≤ maxLen ∧ NdAll w S xs rs
/-- .. that its maker goes on to append to: its own row lies in no block of S -/
def NdsOwn (w : World) (B : Nat) (S : Nat → Prop) (e : TypeId) (v : Value) (xs : List Nd) : Prop := ∃ rs, OwnS ndR 5 w B e v rs ∧ NdAll w S xs rs ∧ (∀ k, v.ownBlock = some k → ¬ S k) ∧ ∀ i, S i → B ≤ i ∧ i < w.heap.size
section
variable {w w' : World} {S T : Nat → Prop} {B : Nat} {e : TypeId} {v : Value} {xs : List Nd}
theorem NdsAt.keeps (h : NdsAt w S v xs) (k : Keeps T w w') (hd : ∀ i, i < w.heap.size → S i → ¬ T i) : NdsAt w' S v xs := by
  obtain ⟨a, c, rs, hv, h1, h2, h3, h4, h5⟩ := h
  exact ⟨a, c, rs, hv, h1.keepsS h2 k hd, h2, h3, h4, NdAll.keeps k hd _ _ h5⟩
theorem NdsAt.mono (h : NdsAt w S v xs) (hs : ∀ i, S i → T i) : NdsAt w T v xs := by
  obtain ⟨a, c, rs, hv, h1, h2, h3, h4, h5⟩ := h
  exact ⟨a, c, rs, hv, h1, h2.mono hs, h3, h4, NdAll.mono hs _ _ h5⟩
theorem NdsAt.sl (h : NdsAt w S v xs) : ∃ a c, v = .slice a xs.length c ∧ xs.length ≤ c ∧ c ≤ maxLen := by
  obtain ⟨a, c, rs, hv, -, -, h3, h4, -⟩ := h
  exact ⟨a, c, hv, h3, h4⟩
theorem NdsAt.none_ : NdsAt w S (.slice none 0 0) [] := ⟨none, 0, [], rfl, ⟨rfl, fun h => absurd h (by simp)⟩, InS.none_, Nat.le_refl _, Nat.zero_le _, by rw [NdAll]; trivial⟩
theorem NdsOwn.none_ : NdsOwn w B (fun _ => False) e (.slice none 0 0) [] := ⟨[], OwnS.none_, by rw [NdAll]; trivial, fun k hk => by simp [Value.ownBlock] at hk, fun _ h => h.elim⟩
theorem NdsOwn.sl (h : NdsOwn w B S e v xs) : ∃ a c, v = .slice a xs.length c := by
  obtain ⟨rs, h1, h2, -⟩ := h
  obtain ⟨a, c, hv⟩ := h1.sl
  exact ⟨a, c, by rw [hv, NdAll.len _ _ h2]⟩
/-- nobody appends to it any more -/
theorem NdsOwn.at_ (h : NdsOwn w B S e v xs) : NdsAt w (fun i => S i ∨ v.ownBlock = some i) v xs := by
  obtain ⟨rs, h1, h2, h3, h4⟩ := h
  obtain ⟨a, c, hv, h5, h6, h7, h8⟩ := h1.shape ndR_len
  have hl := NdAll.len _ _ h2
  rw [← hl] at hv h5 h7
  subst hv
  refine ⟨a, c, rs, rfl, ⟨hl.symm, fun hn => ?_⟩, fun hn => ?_, h5, h6, NdAll.mono (fun i hi => .inl hi) _ _ h2⟩
  · obtain ⟨g, ha, hg, hlt, cs, hb⟩ := h7 hn
    exact ⟨g, 0, ha, hlt, fun i x j u hx hu => by rw [Nat.zero_add]; exact (h8 g ha i x j u hx hu).1⟩
  · obtain ⟨g, ha, hg, hlt, cs, hb⟩ := h7 hn
    exact ⟨g, 0, ha, .inr (by rw [ha]; rfl)⟩
theorem NdsOwn.lt (h : NdsOwn w B S e v xs) : ∀ k, v.ownBlock = some k → B ≤ k ∧ k < w.heap.size := by
  obtain ⟨rs, h1, -⟩ := h
  exact fun k hk => World.ownsRow.lt h1 k hk
theorem NdsOwn.keeps (h : NdsOwn w B S e v xs) (k : Keeps T w w') (hd : ∀ i, i < w.heap.size → (S i ∨ v.ownBlock = some i) → ¬ T i) : NdsOwn w' B S e v xs := by
  obtain ⟨rs, h1, h2, h3, h4⟩ := h
  refine ⟨rs, ?_, NdAll.keeps k (fun i hi hs => hd i hi (.inl hs)) _ _ h2, h3, fun i hi => ⟨(h4 i hi).1, Nat.lt_of_lt_of_le (h4 i hi).2 k.size⟩⟩
  refine ⟨h1.1, ?_⟩
  rcases h1.2 with h0 | ⟨g, cap, cur, hv, hg, hh, r⟩
  · exact .inl h0
  · have hlt : g < w.heap.size := by
      rcases Nat.lt_or_ge g w.heap.size with hlt | hge
      · exact hlt
      · rw [Array.getElem?_eq_none hge] at hh; cases hh
    exact .inr ⟨g, cap, cur, hv, hg, (k.block g hlt (hd g hlt (.inr (by rw [hv]; rfl)))).trans hh, r⟩
end
end Go.Proofs.YtemjbblehiaobaaDoor
