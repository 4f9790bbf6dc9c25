/-
  The desk: begin, whatever waits; what take leaves; the builder next to it.
-/
import Derived.Test.YtcblaeleaebinaaDeskL
namespace Go.Proofs.Ytcblaeleaebinaa
open Go.RowKit

/-- a part that is what is left of another one -/
def DPart.after : DPart → DPart → Prop
  | .rep s, .rep s0 => s = s0
  | .pc x p f t, .pc x0 p0 f0 t0 => x = x0 ∧ p = p0 ∧ t = t0 ∧ f0 ≤ f
  | _, _ => False
theorem DPart.after.refl : ∀ q : DPart, q.after q
  | .rep _ => rfl
  | .pc _ _ _ _ => ⟨rfl, rfl, rfl, Nat.le_refl _⟩
theorem DPart.after.trans : ∀ {a b c : DPart}, a.after b → b.after c → a.after c
  | .rep _, .rep _, .rep _, h, k => Eq.trans h k
  | .rep _, .rep _, .pc _ _ _ _, _, k => k.elim
  | .rep _, .pc _ _ _ _, _, h, _ => h.elim
  | .pc _ _ _ _, .rep _, _, h, _ => h.elim
  | .pc _ _ _ _, .pc _ _ _ _, .rep _, _, k => k.elim
  | .pc _ _ _ _, .pc _ _ _ _, .pc _ _ _ _, ⟨h1, h2, h3, h4⟩, ⟨k1, k2, k3, k4⟩ => ⟨h1.trans k1, h2.trans k2, h3.trans k3, Nat.le_trans k4 h4⟩
def FromL (l' l : List DPart) : Prop := ∀ q ∈ l', ∃ q0 ∈ l, q.after q0
theorem FromL.refl (l : List DPart) : FromL l l := fun q hq => ⟨q, hq, DPart.after.refl q⟩
theorem FromL.trans {a b c : List DPart} (h : FromL a b) (k : FromL b c) : FromL a c := fun q hq => by
  obtain ⟨q0, h0, h1⟩ := h q hq
  obtain ⟨q1, h2, h3⟩ := k q0 h0
  exact ⟨q1, h2, h1.trans h3⟩
theorem FromL.kept {E : Nat → PastD} {l' l : List DPart} (h : FromL l' l) (k : ∀ q ∈ l, q.kept E) : ∀ q ∈ l', q.kept E := fun q hq => by
  obtain ⟨q0, h0, h1⟩ := h q hq
  have h2 := k q0 h0
  cases q with
  | rep s => trivial
  | pc x p f t =>
    cases q0 with
    | rep s => exact h1.elim
    | pc x0 p0 f0 t0 =>
      obtain ⟨rfl, rfl, rfl, h3⟩ := h1
      exact Nat.le_trans h2 h3
/-- the pasts of what waits, which are not the desk's own -/
def PastsOk (w : World) (E : Nat → PastD) (F : Nat → Prop) (l : List DPart) : Prop :=
  ∀ x p f t, DPart.pc x p f t ∈ l → IsPast w p (E p).g (E p).b (E p).m (E p).A ∧ (E p).A.length ≤ 2305843009213693952 ∧ ¬ F p ∧ ¬ F (E p).g ∧ ¬ F (E p).b
theorem PastsOk.from_ {w : World} {E : Nat → PastD} {F : Nat → Prop} {l l' : List DPart} (h : PastsOk w E F l) (k : FromL l' l) : PastsOk w E F l' := fun x p f t hq => by
  obtain ⟨q0, h0, h1⟩ := k _ hq
  cases q0 with
  | rep s => exact h1.elim
  | pc x0 p0 f0 t0 =>
    obtain ⟨rfl, rfl, rfl, _⟩ := h1
    exact h _ _ _ _ h0
theorem PastsOk.keeps {w w' : World} {E : Nat → PastD} {F S : Nat → Prop} {l : List DPart} (h : PastsOk w E F l) (k : Keeps S w w') (hS : ∀ i, i < w.heap.size → S i → F i) : PastsOk w' E F l := fun x p f t hq => by
  obtain ⟨h1, h2, h3, h4, h5⟩ := h _ _ _ _ hq
  have hl := h1.lt
  exact ⟨h1.keeps k (fun e => h3 (hS _ hl.1 e)) (fun e => h4 (hS _ hl.2.1 e)) (fun e => h5 (hS _ hl.2.2 e)), h2, h3, h4, h5⟩
theorem PastsOk.less {w : World} {E : Nat → PastD} {F G : Nat → Prop} {l : List DPart} (h : PastsOk w E F l) (k : ∀ i, G i → F i) : PastsOk w E G l := fun x p f t hq => by
  obtain ⟨h1, h2, h3, h4, h5⟩ := h _ _ _ _ hq
  exact ⟨h1, h2, fun e => h3 (k _ e), fun e => h4 (k _ e), fun e => h5 (k _ e)⟩

theorem dblF_last (l : List UInt8) (c : UInt8 × Bool) (h : (dblF l).getLast? = some c) : c.2 = true := by
  rcases l.eq_nil_or_concat with h0 | ⟨l0, a, h0⟩
  · subst h0; simp [dblF] at h
  · rw [h0, List.concat_eq_append, dblF_app] at h
    have h1 : dblF [a] = if a = 255 then [(255, false), (255, true)] else [(a, true)] := by unfold dblF; simp
    rw [h1] at h
    split at h <;> (simp at h; rw [← h])
theorem markP_last (l : List UInt8) (c : UInt8 × Bool) (h : (markP l).getLast? = some c) : c.2 = true := by
  rw [List.getLast?_eq_getElem?] at h
  rw [markP_get l _ c h, markP_len]
  have : (markP l) ≠ [] := fun e => by rw [e] at h; simp at h
  have := List.length_pos_iff.2 this
  rw [markP_len] at this
  omega
theorem dblF_one (a : UInt8) : dblF [a] = markP (dblP [a]) := by
  unfold dblF dblP
  by_cases h : a = 255
  · subst h; rfl
  · simp [h, markP]
theorem dblF_nil_iff {l : List UInt8} (h : l ≠ []) : dblF l ≠ [] := fun e => by
  have h1 := dblP_pos h
  rw [← dblF_len, e] at h1
  simp at h1

/-- what begin leaves -/
def Began (w : World) (E : Nat → PastD) (d : Nat) (F : Nat → Prop) (most : Nat) (torn : Bool) (l : List DPart) (z : Nat) (k : Int) (e : Ending) (w' : World) : Prop :=
  Keeps F w w' ∧ ((e = .returned (.bool false) ∧ ∃ torn' v', DeskZ w' E d F most torn' [] l v' z ∧ (l = [] ∧ torn' = torn ∨ torn' = true ∧ ¬ (∀ q ∈ l, q.kept E)))
    ∨ (e = .returned (.bool true) ∧ ∃ bg' l' v', DeskZ w' E d F most torn bg' l' v' z ∧ FromL l' l ∧ ∃ fl, flowP E [] l = fl ++ l'.flatMap (DPart.flow E) ∧ fl.map Prod.fst = bg' ∧ fl ≠ [] ∧ (fl = markP bg' ∨ (bg'.length : Int) ≤ k) ∧ (∀ c, fl.getLast? = some c → c.2 = true)))

section
variable (w : World) (E : Nat → PastD) (d : Nat) (F : Nat → Prop) (most : Nat) (torn : Bool) (l : List DPart) (v : Value) (z : Nat)

theorem dbegin_any (k : Int) (h : DeskZ w E d F most torn [] l v z) (hk1 : 1 ≤ k) (hk2 : k ≤ 9223372036854775807) (hP : PastsOk w E F l) :
    Calls Try.prog 37 #[.pointer (some ⟨d, 0, none⟩), .int .i64 k] w (Began w E d F most torn l z k) := by
  cases l with
  | nil =>
    refine (dbegin_nil w E d F most torn [] v z k h).mono ?_
    rintro e w' ⟨rfl, n, rfl⟩
    exact ⟨(Keeps.refl _ _).drewN n, .inl ⟨rfl, torn, v, h.keeps ((Keeps.refl (fun _ => False) _).drewN n) (fun _ _ => id), .inl ⟨rfl, rfl⟩⟩⟩
  | cons q l =>
    cases q with
    | rep s =>
      refine (dbegin_rep w E d F most torn l v z k s h).mono ?_
      rintro e w' ⟨rfl, kk, v', h'⟩
      have hs : s ≠ [] := (h.pcs _ List.mem_cons_self).2
      refine ⟨kk, .inr ⟨rfl, s, l, v', h', fun q hq => ⟨q, List.mem_cons_of_mem _ hq, DPart.after.refl q⟩, markP s, ?_, markP_fst s, ?_, .inl rfl, markP_last s⟩⟩
      · unfold flowP; rw [List.flatMap_cons]; rfl
      · intro e; have := markP_len s; rw [e] at this; exact hs (List.eq_nil_of_length_eq_zero this.symm)
    | pc x p f t =>
      obtain ⟨h1, h2, h3, h4, h5⟩ := hP x p f t List.mem_cons_self
      by_cases hg : f < (E p).A.length - (E p).m
      · refine (dbegin_gone w E d F most torn l v z k x p f t h hk1 hk2 h1 h2 hg).mono ?_
        rintro e w' ⟨rfl, kk, h'⟩
        refine ⟨kk, .inl ⟨rfl, true, v, h', .inr ⟨rfl, fun hall => ?_⟩⟩⟩
        have := hall _ List.mem_cons_self
        have h6 : (E p).A.length - (E p).m ≤ f := this
        omega
      · refine (dbegin_kept w E d F most torn l v z k x p f t h hk1 hk2 h1 h2 (by omega)).mono ?_
        rintro e w' ⟨c, l', v', rfl, kk, hc1, hc2, hc3, hc4, h'⟩
        have hok : f < t ∧ t ≤ (E p).A.length := (h.pcs _ List.mem_cons_self).2
        have hl : (((E p).A.drop f).take c).length = c := by simp; omega
        have hne : ((E p).A.drop f).take c ≠ [] := fun e => by rw [e] at hl; simp at hl; omega
        refine ⟨kk, .inr ⟨rfl, _, l', v', h', ?_, dblF (((E p).A.drop f).take c), ?_, dblF_fst _, dblF_nil_iff hne, ?_, dblF_last _⟩⟩
        · rcases hc4 with ⟨_, rfl⟩ | ⟨_, rfl⟩
          · exact fun q hq => ⟨q, List.mem_cons_of_mem _ hq, DPart.after.refl q⟩
          · intro q hq
            rcases List.mem_cons.1 hq with rfl | hq
            · exact ⟨_, List.mem_cons_self, rfl, rfl, rfl, by omega⟩
            · exact ⟨q, List.mem_cons_of_mem _ hq, DPart.after.refl q⟩
        · unfold flowP
          rw [List.flatMap_cons]
          show [] ++ (dblF (((E p).A.drop f).take (t - f)) ++ _) = _
          rw [drop_cut _ f c t hc2, dblF_app, List.nil_append, List.append_assoc]
          rcases hc4 with ⟨h6, rfl⟩ | ⟨_, rfl⟩
          · have e0 : t - (f + c) = 0 := by omega
            rw [e0, List.take_zero]; rfl
          · rw [List.flatMap_cons]; rfl
        · rcases hc3 with h6 | rfl
          · exact .inr h6
          · obtain ⟨a, ha⟩ := List.length_eq_one_iff.1 hl
            rw [ha]
            exact .inl (dblF_one a)
end

section
variable {w w' : World} {E : Nat → PastD} {d : Nat} {F : Nat → Prop} {most : Nat} {torn : Bool} {bg : List UInt8} {l : List DPart} {v : Value} {z : Nat}
theorem DeskZ.took (h : DeskZ w E d F most torn bg l v z) (r : Nat) (kk : Keeps (fun i => i = d) w w') (hb : Blk w' d 72 #[.string (str (bg.drop r)), v, .int .i64 ((flowP E bg l).length + z : Nat), .int .i64 most, .bool torn]) :
    DeskZ w' E d F most torn (bg.drop r) l v (z + min r bg.length) := by
  have hl : (flowP E (bg.drop r) l).length + (z + min r bg.length) = (flowP E bg l).length + z := by
    unfold flowP
    rw [List.length_append, List.length_append, markP_len, markP_len, List.length_drop]; omega
  exact { h with
    top := by rw [hl]; exact hb
    own := h.own.keeps kk fun i hi ⟨cs, hb⟩ e => hb.ne_ h.top (by decide) e
    pcs := pcs_keeps h.pcs kk (fun i cs hb e => hb.ne_ h.top (by decide) e)
    fit := by rw [hl]; exact h.fit }
theorem DeskZ.below (h : DeskZ w E d F most torn bg l v z) : DeskZ w E d (fun i => F i ∧ i < w.heap.size) most torn bg l v z :=
  { h with
    inD := ⟨h.inD, h.top.lt⟩
    inV := fun i hi => ⟨h.inV i hi, by obtain ⟨cs, hb⟩ := h.own.row i hi; exact hb.lt⟩
    inX := fun x hx => ⟨h.inX x hx, by
      obtain ⟨q, hq, hx⟩ := List.mem_filterMap.1 hx
      cases q with
      | rep s => cases hx
      | pc x1 p f t =>
        obtain rfl : x1 = x := by injection hx
        exact (show Blk w x1 81 _ from (h.pcs _ hq).1).lt⟩ }
theorem DeskZ.more {F' : Nat → Prop} (h : DeskZ w E d F most torn bg l v z) (hF : ∀ i, F i → F' i) : DeskZ w E d F' most torn bg l v z :=
  { h with inD := hF _ h.inD, inV := fun i hi => hF i (h.inV i hi), inX := fun x hx => hF x (h.inX x hx) }
/-- what is sent is counted no more -/
theorem DeskZ.done (h : DeskZ w E d F most torn bg l v z) (kk : Keeps (fun i => i = d) w w') (hb : Blk w' d 72 #[.string (str bg), v, .int .i64 (flowP E bg l).length, .int .i64 most, .bool torn]) :
    DeskAt w' E d F most torn bg l v where
  top := hb
  own := h.own.keeps kk fun i hi ⟨cs, hb⟩ e => hb.ne_ h.top (by decide) e
  pcs := pcs_keeps h.pcs kk (fun i cs hb e => hb.ne_ h.top (by decide) e)
  dist := h.dist
  inD := h.inD
  inV := h.inV
  inX := h.inX
  mst := h.mst
  fit := ⟨by have := h.fit.1; omega, h.fit.2⟩
end

theorem IsBuilder.keeps {T e : TypeId} {B b : Nat} {bs : List Value} {w w' : World} {S : Nat → Prop} (h : Lib.IsBuilder T e B b bs w) (k : Keeps S w w') (hS : ∀ i, B ≤ i → ¬ S i) : Lib.IsBuilder T e B b bs w' := by
  have one : ∀ p, Lib.BuilderAt T e B b p bs w → Lib.BuilderAt T e B b p bs w' := fun p h => by
    obtain ⟨hB, v, hb, hown, hne⟩ := h
    exact ⟨hB, v, Blk.keeps (show Blk w b T _ from hb) k (hS b hB), OwnL.keeps (show OwnL w B e v bs from hown) k (fun i hi _ => hS i hi), hne⟩
  exact h.imp (one _) (one _)
end Go.Proofs.Ytcblaeleaebinaa
