/-
  Configurations that may be: as statements, and read again. No program in sight.
-/
import Derived.Test.YtfpajgmdejlaeaaGreatDoorQTreeBk
import Derived.Test.YtfpajgmdejlaeaaGreatDoorQNdG
namespace Go.Proofs.YtfpajgmdejlaeaaGreatDoor
open Go.RowKit

/-! a configuration as statements -/
def oneN (k : ByteArray) (as_ : List ByteArray) : Nd := .mk k as_ false [] 0
def digS (n : Int) : ByteArray := str (dec n)
def kindW (k : Int) : ByteArray := if k = 1 then kSerial else if k = 2 then kPty else ⟨#[]⟩
def levelW (k : Int) : ByteArray := if 0 ≤ k ∧ k < 4 then levels15.getD k.toNat ⟨#[]⟩ else ⟨#[]⟩
def subT (x : Con) : List Nd := [oneN kKind [kindW x.kind], oneN kLines [digS x.lines], oneN kBytes [digS x.bytes], oneN kGens [digS x.gens], oneN kSize [digS x.size], oneN kRetry [digS x.base, digS x.cap, digS x.jitter], oneN kInit [x.init]]
def toldN (x : Con) : Nd := .mk kConsole [x.name] true (subT x) 0
def brkNds : Int → List ByteArray → List Nd
  | _, [] => []
  | i, s :: l => if s.size = 0 then brkNds (i + 1) l else oneN kBreak [digS i, s] :: brkNds (i + 1) l
def grpN (g : Grp) : Nd := oneN kGroup (g.name :: g.pats)
def usrN (u : Usr) : Nd := oneN kUser [u.name, u.pass]
def accN (a : Acc) : Nd := oneN kAccess [a.con, a.user, levelW a.level]
def nodesC (c : Cf) : List Nd := brkNds 0 c.brks ++ c.cons.map toldN ++ c.grps.map grpN ++ c.usrs.map usrN ++ c.accs.map accN
def printC (c : Cf) : List UInt8 := (putL (nodesC c) 0).getD []

/-! which may be -/
structure SetG (c : Con) : Prop where
  kind : c.kind = 1 ∨ c.kind = 2
  lines : 1 ≤ c.lines ∧ c.lines ≤ 1024
  bytes : 1 ≤ c.bytes ∧ c.bytes ≤ 65536
  gens : 1 ≤ c.gens ∧ c.gens ≤ 16
  size : 64 ≤ c.size ∧ c.size ≤ 1048576
  base : 1 ≤ c.base ∧ c.base ≤ 3600
  cap : c.base ≤ c.cap ∧ c.cap ≤ 86400
  jitter : 0 ≤ c.jitter ∧ c.jitter ≤ 3600
  init : (brkP c.init.data.toList).1 = 0
structure CfG (c : Cf) : Prop where
  cons : ∀ x ∈ c.cons, isB x.name = true ∧ SetG x
  consN : (c.cons.map Con.name).Nodup
  consL : c.cons.length ≤ 4096
  grps : ∀ x ∈ c.grps, isB x.name = true ∧ 1 ≤ x.pats.length ∧ x.pats.length ≤ 15 ∧ x.pats.all fitsB = true
  grpsN : (c.grps.map Grp.name).Nodup
  grpsL : c.grps.length ≤ 4096
  usrs : ∀ x ∈ c.usrs, isB x.name = true ∧ secretB x.pass = true
  usrsN : (c.usrs.map Usr.name).Nodup
  usrsL : c.usrs.length ≤ 4096
  accs : ∀ x ∈ c.accs, fitsB x.con = true ∧ fitsB x.user = true ∧ 0 ≤ x.level ∧ x.level < 4
  accsL : c.accs.length ≤ 4096
  brksL : c.brks.length = 10
  brk0 : (c.brks.getD 0 ⟨#[]⟩).size = 0
  brks : ∀ s ∈ c.brks, s.size = 0 ∨ (brkP s.data.toList).1 = 0

/-! settings that are put are read -/
theorem numP_dig {n lo hi : Int} (h0 : 0 ≤ n) (h1 : lo ≤ n) (h2 : n ≤ hi) (h3 : hi ≤ 1099511627776) : numP (digS n) lo hi = .inr n ∧ tickB (digS n).data.toList = true ∧ tk (digS n) = n := by
  obtain ⟨m, rfl⟩ : ∃ m : Nat, n = m := ⟨n.toNat, by omega⟩
  obtain ⟨ha, hb⟩ := tick_dec (n := m) (by omega)
  unfold numP digS tk
  rw [str_list]
  refine ⟨?_, ha, hb⟩
  rw [if_pos ha, if_neg (by rw [hb]; omega), hb]
theorem oneS_dig {k : ByteArray} {n lo hi : Int} (f : Int → Con) (h0 : 0 ≤ n) (h1 : lo ≤ n) (h2 : n ≤ hi) (h3 : hi ≤ 1099511627776) : oneS (oneN k [digS n]) lo hi f = .inr (f n) := by
  unfold oneS
  rw [if_pos (by rfl)]
  show mapS (numP (digS n) lo hi) f = _
  rw [(numP_dig h0 h1 h2 h3).1]; rfl
theorem setS_lines_x (cs : List Con) (c : Con) (x : Nd) (h : keyN x = kLines) : setS cs c x = oneS x 1 1024 (fun v => { c with lines := v }) := by unfold setS; rw [if_pos h]
theorem setS_bytes_x (cs : List Con) (c : Con) (x : Nd) (h : keyN x = kBytes) : setS cs c x = oneS x 1 65536 (fun v => { c with bytes := v }) := by unfold setS; rw [if_neg (by rw [h]; decide), if_pos h]
theorem setS_gens_x (cs : List Con) (c : Con) (x : Nd) (h : keyN x = kGens) : setS cs c x = oneS x 1 16 (fun v => { c with gens := v }) := by unfold setS; rw [if_neg (by rw [h]; decide), if_neg (by rw [h]; decide), if_pos h]
theorem setS_size_x (cs : List Con) (c : Con) (x : Nd) (h : keyN x = kSize) : setS cs c x = oneS x 64 1048576 (fun v => { c with size := v }) := by unfold setS; rw [if_neg (by rw [h]; decide), if_neg (by rw [h]; decide), if_neg (by rw [h]; decide), if_pos h]
theorem setS_retry_x (cs : List Con) (c : Con) (x : Nd) (h : keyN x = kRetry) : setS cs c x = retryS c x := by unfold setS; rw [if_neg (by rw [h]; decide), if_neg (by rw [h]; decide), if_neg (by rw [h]; decide), if_neg (by rw [h]; decide), if_pos h]
theorem setS_word_x (cs : List Con) (c : Con) (x : Nd) (h : keyN x = kKind ∨ keyN x = kInit ∨ keyN x = kLike) : setS cs c x = wordS cs c x := by
  unfold setS
  have : ∀ k ∈ [kLines, kBytes, kGens, kSize, kRetry], keyN x ≠ k := by
    intro k hk e
    simp only [List.mem_cons, List.not_mem_nil, or_false] at hk
    rw [e] at h
    rcases hk with rfl | rfl | rfl | rfl | rfl <;> rcases h with h | h | h <;> exact absurd h (by decide)
  rw [if_neg (this _ (by simp)), if_neg (this _ (by simp)), if_neg (this _ (by simp)), if_neg (this _ (by simp)), if_neg (this _ (by simp)), if_pos h]
theorem setS_else_x (cs : List Con) (c : Con) (x : Nd) (h : ∀ k ∈ [kLines, kBytes, kGens, kSize, kRetry, kKind, kInit, kLike], keyN x ≠ k) : setS cs c x = .inl 3 := by
  unfold setS
  rw [if_neg (h _ (by simp)), if_neg (h _ (by simp)), if_neg (h _ (by simp)), if_neg (h _ (by simp)), if_neg (h _ (by simp)), if_neg]
  rintro (e | e | e)
  · exact h kKind (by simp) e
  · exact h kInit (by simp) e
  · exact h kLike (by simp) e
theorem set_kind (cs : List Con) (c : Con) {k : Int} (h : k = 1 ∨ k = 2) : setS cs c (oneN kKind [kindW k]) = .inr { c with kind := k } := by
  rw [setS_word_x _ _ _ (.inl rfl)]
  unfold wordS
  rw [if_pos (by rfl), if_pos (show keyN (oneN kKind [kindW k]) = kKind from rfl)]
  rcases h with rfl | rfl
  · have e : idx (fun s => decide (s = argN (oneN kKind [kindW 1]) 0)) kinds15 = some 0 := by decide
    rw [e]; rfl
  · have e : idx (fun s => decide (s = argN (oneN kKind [kindW 2]) 0)) kinds15 = some 1 := by decide
    rw [e]; rfl
theorem set_init (cs : List Con) (c : Con) {s : ByteArray} (h : (brkP s.data.toList).1 = 0) : setS cs c (oneN kInit [s]) = .inr { c with init := s } := by
  rw [setS_word_x _ _ _ (.inr (.inl rfl))]
  unfold wordS
  rw [if_pos (by rfl), if_neg (show ¬ keyN (oneN kInit [s]) = kKind by show ¬ kInit = kKind; decide), if_pos (show keyN (oneN kInit [s]) = kInit from rfl)]
  rw [if_neg (by show ¬ (brkP s.data.toList).1 ≠ 0; rw [h]; simp)]; rfl
theorem set_retry (cs : List Con) (c : Con) {a b d : Int} (ha : 1 ≤ a ∧ a ≤ 3600) (hb : a ≤ b ∧ b ≤ 86400) (hd : 0 ≤ d ∧ d ≤ 3600) : setS cs c (oneN kRetry [digS a, digS b, digS d]) = .inr { c with base := a, cap := b, jitter := d } := by
  rw [setS_retry_x _ _ _ rfl]
  unfold retryS
  obtain ⟨-, a1, a2⟩ := numP_dig (n := a) (lo := 0) (hi := 3600) (by omega) (by omega) ha.2 (by omega)
  obtain ⟨-, b1, b2⟩ := numP_dig (n := b) (lo := 0) (hi := 86400) (by omega) (by omega) hb.2 (by omega)
  obtain ⟨-, d1, d2⟩ := numP_dig (n := d) (lo := 0) (hi := 3600) (by omega) (by omega) hd.2 (by omega)
  rw [if_pos (by rfl), if_pos (by show (tickB (digS a).data.toList && (tickB (digS b).data.toList && (tickB (digS d).data.toList && true))) = true; rw [a1, b1, d1]; rfl)]
  show (if tk (digS a) < 1 ∨ 3600 < tk (digS a) ∨ tk (digS b) < tk (digS a) ∨ 86400 < tk (digS b) ∨ 3600 < tk (digS d) then _ else Sum.inr { c with base := tk (digS a), cap := tk (digS b), jitter := tk (digS d) }) = _
  rw [a2, b2, d2, if_neg (by omega)]
theorem sets_told (cs : List Con) (u x : Con) (h : SetG x) : setsS cs u (subT x) = .inr { x with name := u.name } := by
  unfold subT
  rw [setsS, set_kind cs u h.kind]
  simp only
  rw [setsS, setS_lines_x _ _ _ rfl, oneS_dig _ (by have := h.lines; omega) h.lines.1 h.lines.2 (by omega)]
  simp only
  rw [setsS, setS_bytes_x _ _ _ rfl, oneS_dig _ (by have := h.bytes; omega) h.bytes.1 h.bytes.2 (by omega)]
  simp only
  rw [setsS, setS_gens_x _ _ _ rfl, oneS_dig _ (by have := h.gens; omega) h.gens.1 h.gens.2 (by omega)]
  simp only
  rw [setsS, setS_size_x _ _ _ rfl, oneS_dig _ (by have := h.size; omega) h.size.1 h.size.2 (by omega)]
  simp only
  rw [setsS, set_retry _ _ h.base h.cap h.jitter]
  simp only
  rw [setsS, set_init _ _ h.init]
  simp only
  rw [setsS]
/-! statements -/
def stmts2 : Cf → Con → List Nd → (Int × Int) ⊕ (Cf × Con)
  | c, u, [] => .inr (c, u)
  | c, u, x :: l => match stmtS c u x with
    | .inl e => .inl e
    | .inr p => stmts2 p.1 p.2 l
theorem stmts2_app : ∀ (xs : List Nd) (c : Cf) (u : Con) (ys : List Nd), stmts2 c u (xs ++ ys) = match stmts2 c u xs with
    | .inl e => .inl e
    | .inr p => stmts2 p.1 p.2 ys
  | [], c, u, ys => rfl
  | x :: xs, c, u, ys => by
    rw [List.cons_append, stmts2, stmts2]
    cases stmtS c u x with
    | inl e => rfl
    | inr p => exact stmts2_app xs p.1 p.2 ys
theorem stmtsS_2 : ∀ (xs : List Nd) (c : Cf) (u : Con), stmtsS c u xs = match stmts2 c u xs with
    | .inl e => .inl e
    | .inr p => .inr p.1
  | [], c, u => rfl
  | x :: xs, c, u => by
    rw [stmtsS, stmts2]
    cases stmtS c u x with
    | inl e => rfl
    | inr p => exact stmtsS_2 xs p.1 p.2
theorem idx_none_x {α : Type} {p : α → Bool} : ∀ {l : List α}, (∀ x ∈ l, p x = false) → idx p l = none
  | [], _ => rfl
  | x :: l, h => by rw [idx, h x (by simp), idx_none_x fun y hy => h y (by simp [hy])]; rfl
theorem idx_some_x {α : Type} {p : α → Bool} : ∀ {l : List α} {i : Nat}, idx p l = some i → ∃ x, l[i]? = some x ∧ p x = true
  | [], i, h => by cases h
  | x :: l, i, h => by
    rw [idx] at h
    by_cases hp : p x = true
    · rw [if_pos hp] at h; injection h with h; subst h; exact ⟨x, rfl, hp⟩
    · rw [if_neg hp] at h
      rw [Option.map_eq_some_iff] at h
      obtain ⟨j, hj, rfl⟩ := h
      obtain ⟨y, hy, hpy⟩ := idx_some_x hj
      exact ⟨y, by rw [List.getElem?_cons_succ]; exact hy, hpy⟩
theorem idx_no {α : Type} {p : α → Bool} : ∀ {l : List α}, idx p l = none → ∀ x ∈ l, p x = false
  | [], _, x, hx => by cases hx
  | y :: l, h, x, hx => by
    rw [idx] at h
    by_cases hp : p y = true
    · rw [if_pos hp] at h; cases h
    · rw [if_neg hp] at h
      rw [Option.map_eq_none_iff] at h
      rcases List.mem_cons.1 hx with rfl | hx
      · exact Bool.not_eq_true _ ▸ hp
      · exact idx_no h x hx
theorem findC_none {l : List Con} {nm : ByteArray} (h : nm ∉ l.map Con.name) : findC l nm = none := idx_none_x fun _ hx => decide_eq_false fun e => h (e ▸ List.mem_map_of_mem hx)
theorem any_none {α : Type} {f : α → ByteArray} {l : List α} {nm : ByteArray} (h : nm ∉ l.map f) : (l.any fun g => decide (f g = nm)) = false := List.any_eq_false.2 fun x hx => by simp only [decide_eq_true_eq]; exact fun e => h (e ▸ List.mem_map_of_mem hx)
theorem fresh_ok {nm : ByteArray} {many : Nat} (h : isB nm = true) (h2 : many < 4096) : freshS nm false many = 0 := by unfold freshS; rw [if_pos h, if_neg (by simp), if_neg (by omega)]
theorem nodup_at {l1 l2 : List ByteArray} {x : ByteArray} (h : (l1 ++ x :: l2).Nodup) : x ∉ l1 := by
  intro hx
  have := List.nodup_append.1 h
  exact this.2.2 x hx x (by simp) rfl
theorem load_told (c : Cf) (u : Con) (x : Con) (hn : isB x.name = true) (hs : SetG x) (hf : x.name ∉ c.cons.map Con.name) (hl : c.cons.length < 4096) : stmtS c u (toldN x) = .inr ({ c with cons := c.cons ++ [x] }, u) := by
  unfold stmtS
  rw [if_pos (show keyN (toldN x) = kConsole from rfl), if_pos (by rfl)]
  simp only [show argN (toldN x) 0 = x.name from rfl, show subN (toldN x) = subT x from rfl]
  rw [findC_none hf, sets_told _ _ _ hs]
  simp only [Option.isSome_none]
  rw [fresh_ok hn hl, if_neg (by simp)]
theorem load_cons (u : Con) : ∀ (l : List Con) (c : Cf), (∀ x ∈ l, isB x.name = true ∧ SetG x) → ((c.cons ++ l).map Con.name).Nodup → (c.cons ++ l).length ≤ 4096 → stmts2 c u (l.map toldN) = .inr ({ c with cons := c.cons ++ l }, u)
  | [], c, _, _, _ => by rw [List.map_nil, stmts2, List.append_nil]
  | x :: l, c, h, hn, hl => by
    have hx := h x (by simp)
    rw [List.map_append, List.map_cons] at hn
    rw [List.length_append, List.length_cons] at hl
    rw [List.map_cons, stmts2, load_told c u x hx.1 hx.2 (nodup_at hn) (by omega)]
    simp only
    rw [load_cons u l _ (fun y hy => h y (by simp [hy])) (by simpa using hn) (by simp; omega)]
    simp
theorem load_grp (c : Cf) (u : Con) (x : Grp) (hn : isB x.name = true) (h1 : 1 ≤ x.pats.length) (hp : x.pats.all fitsB = true) (hf : x.name ∉ c.grps.map Grp.name) (hl : c.grps.length < 4096) : stmtS c u (grpN x) = .inr ({ c with grps := c.grps ++ [x] }, u) := by
  unfold stmtS
  rw [if_neg (show ¬ keyN (grpN x) = kConsole by show ¬ kGroup = kConsole; decide), if_pos (show keyN (grpN x) = kGroup from rfl)]
  have e1 : (decide (2 ≤ (argsN (grpN x)).length) && !blkN (grpN x)) = true := by
    show (decide (2 ≤ (x.name :: x.pats).length) && !false) = true
    simp; omega
  rw [if_pos e1, if_pos (show (argsN (grpN x)).tail.all fitsB = true from hp)]
  simp only [show argN (grpN x) 0 = x.name from rfl, show (argsN (grpN x)).tail = x.pats from rfl]
  rw [any_none hf, fresh_ok hn hl, if_neg (by simp)]
theorem load_grps (u : Con) : ∀ (l : List Grp) (c : Cf), (∀ x ∈ l, isB x.name = true ∧ 1 ≤ x.pats.length ∧ x.pats.length ≤ 15 ∧ x.pats.all fitsB = true) → ((c.grps ++ l).map Grp.name).Nodup → (c.grps ++ l).length ≤ 4096 → stmts2 c u (l.map grpN) = .inr ({ c with grps := c.grps ++ l }, u)
  | [], c, _, _, _ => by rw [List.map_nil, stmts2, List.append_nil]
  | x :: l, c, h, hn, hl => by
    have hx := h x (by simp)
    rw [List.map_append, List.map_cons] at hn
    rw [List.length_append, List.length_cons] at hl
    rw [List.map_cons, stmts2, load_grp c u x hx.1 hx.2.1 hx.2.2.2 (nodup_at hn) (by omega)]
    simp only
    rw [load_grps u l _ (fun y hy => h y (by simp [hy])) (by simpa using hn) (by simp; omega)]
    simp
theorem load_usr (c : Cf) (u : Con) (x : Usr) (hn : isB x.name = true) (hp : secretB x.pass = true) (hf : x.name ∉ c.usrs.map Usr.name) (hl : c.usrs.length < 4096) : stmtS c u (usrN x) = .inr ({ c with usrs := c.usrs ++ [x] }, u) := by
  unfold stmtS
  rw [if_neg (show ¬ keyN (usrN x) = kConsole by show ¬ kUser = kConsole; decide), if_neg (show ¬ keyN (usrN x) = kGroup by show ¬ kUser = kGroup; decide), if_pos (show keyN (usrN x) = kUser from rfl), if_pos (by rfl), if_pos (show secretB (argN (usrN x) 1) = true from hp)]
  simp only [show argN (usrN x) 0 = x.name from rfl, show argN (usrN x) 1 = x.pass from rfl]
  rw [any_none hf, fresh_ok hn hl, if_neg (by simp)]
theorem load_usrs (u : Con) : ∀ (l : List Usr) (c : Cf), (∀ x ∈ l, isB x.name = true ∧ secretB x.pass = true) → ((c.usrs ++ l).map Usr.name).Nodup → (c.usrs ++ l).length ≤ 4096 → stmts2 c u (l.map usrN) = .inr ({ c with usrs := c.usrs ++ l }, u)
  | [], c, _, _, _ => by rw [List.map_nil, stmts2, List.append_nil]
  | x :: l, c, h, hn, hl => by
    have hx := h x (by simp)
    rw [List.map_append, List.map_cons] at hn
    rw [List.length_append, List.length_cons] at hl
    rw [List.map_cons, stmts2, load_usr c u x hx.1 hx.2 (nodup_at hn) (by omega)]
    simp only
    rw [load_usrs u l _ (fun y hy => h y (by simp [hy])) (by simpa using hn) (by simp; omega)]
    simp
theorem load_acc (c : Cf) (u : Con) (x : Acc) (h1 : fitsB x.con = true) (h2 : fitsB x.user = true) (h3 : 0 ≤ x.level) (h4 : x.level < 4) (hl : c.accs.length < 4096) : stmtS c u (accN x) = .inr ({ c with accs := c.accs ++ [x] }, u) := by
  unfold stmtS
  rw [if_neg (show ¬ keyN (accN x) = kConsole by show ¬ kAccess = kConsole; decide), if_neg (show ¬ keyN (accN x) = kGroup by show ¬ kAccess = kGroup; decide), if_neg (show ¬ keyN (accN x) = kUser by show ¬ kAccess = kUser; decide), if_pos (show keyN (accN x) = kAccess from rfl), if_pos (by rfl)]
  simp only [show argN (accN x) 0 = x.con from rfl, show argN (accN x) 1 = x.user from rfl, show argN (accN x) 2 = levelW x.level from rfl]
  rw [if_pos (show (fitsB x.con && fitsB x.user) = true by rw [h1, h2]; rfl)]
  obtain ⟨con, user, level⟩ := x
  simp only at h1 h2 h3 h4 ⊢
  have : level = 0 ∨ level = 1 ∨ level = 2 ∨ level = 3 := by omega
  have e : ∀ k : Nat, (k = 0 ∨ k = 1 ∨ k = 2 ∨ k = 3) → idx (fun s => decide (s = levelW k)) levels15 = some k := by
    intro k hk
    rcases hk with rfl | rfl | rfl | rfl <;> decide
  obtain ⟨k, rfl⟩ : ∃ k : Nat, level = k := ⟨level.toNat, by omega⟩
  have e2 := e k (by omega)
  rw [e2]
  simp only
  rw [if_neg (by omega)]
theorem load_accs (u : Con) : ∀ (l : List Acc) (c : Cf), (∀ x ∈ l, fitsB x.con = true ∧ fitsB x.user = true ∧ 0 ≤ x.level ∧ x.level < 4) → (c.accs ++ l).length ≤ 4096 → stmts2 c u (l.map accN) = .inr ({ c with accs := c.accs ++ l }, u)
  | [], c, _, _ => by rw [List.map_nil, stmts2, List.append_nil]
  | x :: l, c, h, hl => by
    have hx := h x (by simp)
    rw [List.length_append, List.length_cons] at hl
    rw [List.map_cons, stmts2, load_acc c u x hx.1 hx.2.1 hx.2.2.1 hx.2.2.2 (by omega)]
    simp only
    rw [load_accs u l _ (fun y hy => h y (by simp [hy])) (by simp; omega)]
    simp
theorem load_brk (c : Cf) (u : Con) (i : Nat) (s : ByteArray) (h1 : 1 ≤ i) (h2 : i ≤ 9) (hs : s.size ≠ 0) (hb : (brkP s.data.toList).1 = 0) (hf : (c.brks.getD i ⟨#[]⟩).size = 0) : stmtS c u (oneN kBreak [digS i, s]) = .inr ({ c with brks := c.brks.set i s }, u) := by
  unfold stmtS
  have hk : keyN (oneN kBreak [digS i, s]) = kBreak := rfl
  rw [hk, if_neg (by decide), if_neg (by decide), if_neg (by decide), if_neg (by decide), if_pos rfl, if_pos (by rfl)]
  simp only [show argN (oneN kBreak [digS i, s]) 0 = digS i from rfl, show argN (oneN kBreak [digS i, s]) 1 = s from rfl]
  rw [(numP_dig (n := i) (by omega) (by omega) (by omega) (by omega)).1]
  simp only
  rw [if_pos hb, if_neg hs, if_neg (by simp), Int.toNat_natCast, if_neg (by rw [hf]; simp)]
theorem load_brks (u : Con) : ∀ (l : List ByteArray) (pre : List ByteArray) (c : Cf), c.brks = pre ++ List.replicate l.length ⟨#[]⟩ → pre.length + l.length = 10 → (pre = [] → (l.getD 0 ⟨#[]⟩).size = 0) → (∀ s ∈ l, s.size = 0 ∨ (brkP s.data.toList).1 = 0) → stmts2 c u (brkNds pre.length l) = .inr ({ c with brks := pre ++ l }, u)
  | [], pre, c, hc, _, _, _ => by
    rw [brkNds, stmts2]
    rw [List.length_nil, List.replicate_zero] at hc
    rw [← hc]
  | s :: l, pre, c, hc, hn, h0, hg => by
    rw [List.length_cons] at hn
    rw [List.length_cons, List.replicate_succ] at hc
    have ih := fun c' (hc' : c'.brks = (pre ++ [s]) ++ List.replicate l.length ⟨#[]⟩) => load_brks u l (pre ++ [s]) c' hc' (by rw [List.length_append]; simp only [List.length_cons, List.length_nil]; omega) (by simp) (fun x hx => hg x (by simp [hx]))
    have hl : (((pre ++ [s]).length : Nat) : Int) = (pre.length : Int) + 1 := by simp
    rw [hl] at ih
    rw [brkNds]
    by_cases hs : s.size = 0
    · have hse : s = ⟨#[]⟩ := by
        cases s with
        | mk d => have : d.size = 0 := hs; rw [Array.size_eq_zero_iff] at this; rw [this]
      rw [if_pos hs, ih c (by rw [hc, hse]; simp)]
      simp
    · rw [if_neg hs, stmts2, load_brk c u pre.length s (by
          cases pre with
          | nil => exact absurd (h0 rfl) hs
          | cons a b => simp) (by omega) hs (by rcases hg s (by simp) with h | h; exact absurd h hs; exact h) (by rw [hc]; simp [List.getD]; rfl)]
      simp only
      rw [ih _ (by simp only [hc]; simp)]
      simp
/-- a configuration that may be, as statements, is read as the same -/
theorem stmts_nodes {c : Cf} (h : CfG c) (u : Con) : stmts2 Cf.empty u (nodesC c) = .inr (c, u) := by
  unfold nodesC
  rw [stmts2_app, stmts2_app, stmts2_app, stmts2_app]
  have hb := load_brks u c.brks [] Cf.empty (by rw [h.brksL]; rfl) (by rw [h.brksL]; rfl) (fun _ => h.brk0) h.brks
  rw [List.length_nil, List.nil_append] at hb
  rw [show ((0 : Nat) : Int) = 0 from rfl] at hb
  rw [hb]
  simp only
  rw [load_cons u c.cons _ h.cons (by show ((([] : List Con) ++ c.cons).map Con.name).Nodup; exact h.consN) (by show (([] : List Con) ++ c.cons).length ≤ 4096; exact h.consL)]
  simp only
  rw [load_grps u c.grps _ h.grps (by show ((([] : List Grp) ++ c.grps).map Grp.name).Nodup; exact h.grpsN) (by show (([] : List Grp) ++ c.grps).length ≤ 4096; exact h.grpsL)]
  simp only
  rw [load_usrs u c.usrs _ h.usrs (by show ((([] : List Usr) ++ c.usrs).map Usr.name).Nodup; exact h.usrsN) (by show (([] : List Usr) ++ c.usrs).length ≤ 4096; exact h.usrsL)]
  simp only
  rw [load_accs u c.accs _ h.accs (by show (([] : List Acc) ++ c.accs).length ≤ 4096; exact h.accsL)]
  rfl
end Go.Proofs.YtfpajgmdejlaeaaGreatDoor
