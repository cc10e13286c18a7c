/-
  What graphs mean: each node's word under words of the inputs; And, Or, Xor, Mux, Raw mean what they say. Plain mathematics.
-/
import Derived.Test.YtenhbhckhncamaaP01
namespace Go.Proofs.Ytenhbhckhncamaa

/-! ### Words, bit by bit -/
theorem noW_testBit (v i : Nat) (h : v < 18446744073709551616) : (noW v).testBit i = (decide (i < 64) && !v.testBit i) := by
  have e : noW v = 2 ^ 64 - (v + 1) := by unfold noW; omega
  rw [e]
  exact Nat.testBit_two_pow_sub_succ (n := 64) h i
theorem word_high {v : Nat} (h : v < 18446744073709551616) {i : Nat} (hi : ¬ i < 64) : v.testBit i = false :=
  Nat.testBit_lt_two_pow (Nat.lt_of_lt_of_le (show v < 2 ^ 64 from h) (Nat.pow_le_pow_right (by omega) (Nat.not_lt.1 hi)))
theorem and_word {a b : Nat} (ha : a < 18446744073709551616) : a &&& b < 18446744073709551616 := Nat.lt_of_le_of_lt Nat.and_le_left ha
theorem or_word {a b : Nat} (ha : a < 18446744073709551616) (hb : b < 18446744073709551616) : a ||| b < 18446744073709551616 := Nat.or_lt_two_pow (n := 64) ha hb
theorem xor_word {a b : Nat} (ha : a < 18446744073709551616) (hb : b < 18446744073709551616) : a ^^^ b < 18446744073709551616 := Nat.xor_lt_two_pow (n := 64) ha hb
theorem noW_or {a b : Nat} (ha : a < 18446744073709551616) (hb : b < 18446744073709551616) : noW (noW a &&& noW b) = a ||| b := by
  apply Nat.eq_of_testBit_eq; intro i
  rw [noW_testBit _ _ (and_word (noW_lt a)), Nat.testBit_and, noW_testBit _ _ ha, noW_testBit _ _ hb, Nat.testBit_or]
  by_cases hi : i < 64
  · simp [hi]
  · simp [hi, word_high ha hi, word_high hb hi]
theorem xor_or {a b : Nat} (ha : a < 18446744073709551616) (hb : b < 18446744073709551616) : (a &&& noW b) ||| (noW a &&& b) = a ^^^ b := by
  apply Nat.eq_of_testBit_eq; intro i
  rw [Nat.testBit_or, Nat.testBit_and, Nat.testBit_and, noW_testBit _ _ ha, noW_testBit _ _ hb, Nat.testBit_xor]
  by_cases hi : i < 64
  · cases a.testBit i <;> cases b.testBit i <;> simp [hi]
  · simp [hi, word_high ha hi, word_high hb hi]

/-! ### Each node's word -/
/-- the word of a new node behind ns, whose words are V -/
def nodeV (inp : List Nat) (ns : List (Nat × Nat)) (V : List Nat) (p : Nat × Nat) : Nat :=
  if inAt ns.length p then (if ns.length = 0 then 0 else inp.getD (ins ns).length 0) else wd V p.1 &&& wd V p.2
def valTo (inp : List Nat) (ns : List (Nat × Nat)) : Nat → List Nat
  | 0 => []
  | k + 1 => valTo inp ns k ++ [nodeV inp (ns.take k) (valTo inp ns k) (ns.getD k (0, 0))]
def valL (inp : List Nat) (ns : List (Nat × Nat)) : List Nat := valTo inp ns ns.length
theorem valTo_length (inp : List Nat) (ns : List (Nat × Nat)) (k : Nat) : (valTo inp ns k).length = k := by
  induction k with
  | zero => rfl
  | succ k ih => simp [valTo, ih]
theorem valL_length (inp : List Nat) (ns : List (Nat × Nat)) : (valL inp ns).length = ns.length := valTo_length _ _ _
theorem valTo_pre (inp : List Nat) (ns more : List (Nat × Nat)) (k : Nat) (h : k ≤ ns.length) : valTo inp (ns ++ more) k = valTo inp ns k := by
  induction k with
  | zero => rfl
  | succ k ih =>
    have e1 : (ns ++ more).take k = ns.take k := by rw [List.take_append_of_le_length (by omega)]
    have e2 : (ns ++ more).getD k (0, 0) = ns.getD k (0, 0) := by
      simp only [List.getD_eq_getElem?_getD]
      rw [List.getElem?_append_left (by omega)]
    simp only [valTo]
    rw [ih (by omega), e1, e2]
theorem valL_snoc (inp : List Nat) (ns : List (Nat × Nat)) (p : Nat × Nat) : valL inp (ns ++ [p]) = valL inp ns ++ [nodeV inp ns (valL inp ns) p] := by
  unfold valL
  rw [List.length_append, List.length_singleton]
  simp only [valTo]
  rw [valTo_pre _ _ _ _ (Nat.le_refl _)]
  simp [List.getD_eq_getElem?_getD]
theorem valTo_take (inp : List Nat) (ns : List (Nat × Nat)) (k j : Nat) : ∃ t, valTo inp ns (k + j) = valTo inp ns k ++ t := by
  induction j with
  | zero => exact ⟨[], by simp⟩
  | succ j ih =>
    obtain ⟨t, ht⟩ := ih
    refine ⟨t ++ [nodeV inp (ns.take (k + j)) (valTo inp ns (k + j)) (ns.getD (k + j) (0, 0))], ?_⟩
    show valTo inp ns (k + j) ++ _ = _
    conv => lhs; rw [ht]
    rw [List.append_assoc]
    rfl
theorem valL_append (inp : List Nat) (ns more : List (Nat × Nat)) : ∃ t, valL inp (ns ++ more) = valL inp ns ++ t := by
  obtain ⟨t, ht⟩ := valTo_take inp (ns ++ more) ns.length more.length
  refine ⟨t, ?_⟩
  unfold valL
  rw [List.length_append, ht, valTo_pre _ _ _ _ (Nat.le_refl _)]
theorem nodeV_word {inp V : List Nat} (hi : Words inp) (hV : Words V) (ns : List (Nat × Nat)) (p : Nat × Nat) : nodeV inp ns V p < 18446744073709551616 := by
  unfold nodeV
  split
  · split
    · omega
    · rw [List.getD_eq_getElem?_getD]
      cases h : inp[(ins ns).length]? with
      | none => simp
      | some v => simpa using hi v (List.mem_of_getElem? h)
  · exact and_word (wd_lt hV _)
theorem valTo_words {inp : List Nat} (hi : Words inp) (ns : List (Nat × Nat)) (k : Nat) : Words (valTo inp ns k) := by
  induction k with
  | zero => intro x hx; simp [valTo] at hx
  | succ k ih =>
    intro x hx
    rcases List.mem_append.1 hx with h | h
    · exact ih x h
    · simp only [List.mem_singleton] at h
      rw [h]
      exact nodeV_word hi ih _ _
theorem valL_words {inp : List Nat} (hi : Words inp) (ns : List (Nat × Nat)) : Words (valL inp ns) := valTo_words hi ns _
theorem wd_append {V : List Nat} (t : List Nat) {l : Nat} (h : l / 2 < V.length) : wd (V ++ t) l = wd V l := by
  have : nodeW (V ++ t) (l / 2) = nodeW V (l / 2) := by
    unfold nodeW
    simp only [List.getD_eq_getElem?_getD]
    rw [List.getElem?_append_left h]
  unfold wd
  rw [this]

/-- a literal's word in a graph -/
def lw (inp : List Nat) (g : Gr) (l : Nat) : Nat := wd (valL inp g.nodes) l
theorem lw_lt {inp : List Nat} (hi : Words inp) (g : Gr) (l : Nat) : lw inp g l < 18446744073709551616 := wd_lt (valL_words hi _) l
theorem lw_nt {inp : List Nat} (hi : Words inp) (g : Gr) (l : Nat) : lw inp g (ntL l) = noW (lw inp g l) := wd_ntL (valL_words hi _) l
theorem lw_zero (inp : List Nat) (g : Gr) : lw inp g 0 = 0 := wd_zero _
theorem lw_one (inp : List Nat) (g : Gr) : lw inp g 1 = 18446744073709551615 := wd_one _
theorem lw_pre {inp : List Nat} {g g' : Gr} (h : ∃ more, g'.nodes = g.nodes ++ more) {l : Nat} (hl : g.ok l) : lw inp g' l = lw inp g l := by
  obtain ⟨more, h⟩ := h
  unfold lw
  rw [h]
  obtain ⟨t, ht⟩ := valL_append inp g.nodes more
  rw [ht]
  exact wd_append t (by rw [valL_length]; exact hl)
theorem Ext.pre' {k : Nat} {g g' : Gr} (h : Ext k g g') : ∃ more, g'.nodes = g.nodes ++ more := by obtain ⟨m, h1, _⟩ := h.pre; exact ⟨m, h1⟩
theorem lw_ext {inp : List Nat} {k : Nat} {g g' : Gr} (h : Ext k g g') {l : Nat} (hl : g.ok l) : lw inp g' l = lw inp g l := lw_pre h.pre' hl

theorem valL_get (inp : List Nat) (ns : List (Nat × Nat)) (k : Nat) (h : k < ns.length) : (valL inp ns)[k]? = some (nodeV inp (ns.take k) (valTo inp ns k) (ns.getD k (0, 0))) := by
  obtain ⟨t, ht⟩ := valTo_take inp ns (k + 1) (ns.length - (k + 1))
  unfold valL
  rw [show ns.length = k + 1 + (ns.length - (k + 1)) by omega, ht, List.getElem?_append_left (by rw [valTo_length]; omega)]
  simp only [valTo]
  rw [List.getElem?_append_right (by rw [valTo_length]; omega), valTo_length]
  simp
theorem valL_pre (inp : List Nat) (ns : List (Nat × Nat)) (k : Nat) (h : k ≤ ns.length) : ∃ t, valL inp ns = valTo inp ns k ++ t := by
  obtain ⟨t, ht⟩ := valTo_take inp ns k (ns.length - k)
  refine ⟨t, ?_⟩
  unfold valL
  rw [show ns.length = k + (ns.length - k) by omega, ht]
theorem gate_val {inp : List Nat} {ns : List (Nat × Nat)} (hw : WF ns) {k a b : Nat} (h : ns[k]? = some (a, b)) (hg : a / 2 ≠ k) : (valL inp ns)[k]? = some (wd (valL inp ns) a &&& wd (valL inp ns) b) := by
  have hk := (List.getElem?_eq_some_iff.1 h).1
  rw [valL_get _ _ _ hk]
  have e : ns.getD k (0, 0) = (a, b) := by rw [List.getD_eq_getElem?_getD, h]; rfl
  have hlt : a / 2 < k ∧ b / 2 < k := by
    rcases hw.each k a b h with h1 | h1
    · omega
    · omega
  obtain ⟨t, ht⟩ := valL_pre inp ns k (by omega)
  rw [e, ht, wd_append t (by rw [valTo_length]; exact hlt.1), wd_append t (by rw [valTo_length]; exact hlt.2)]
  unfold nodeV
  rw [if_neg]
  simp [inAt]
  omega
theorem in_val {inp : List Nat} {ns : List (Nat × Nat)} {k a b : Nat} (h : ns[k]? = some (a, b)) (hg : a / 2 = k) (h0 : k ≠ 0) : (valL inp ns)[k]? = some (inp.getD (ins (ns.take k)).length 0) := by
  have hk := (List.getElem?_eq_some_iff.1 h).1
  rw [valL_get _ _ _ hk]
  have e : ns.getD k (0, 0) = (a, b) := by rw [List.getD_eq_getElem?_getD, h]; rfl
  rw [e]
  have hl : (ns.take k).length = k := by rw [List.length_take]; omega
  unfold nodeV
  rw [hl, if_pos (by simp [inAt, hg]), if_neg h0]
theorem zero_val {inp : List Nat} {ns : List (Nat × Nat)} (hw : WF ns) : (valL inp ns)[0]? = some 0 := by
  rw [valL_get _ _ _ hw.pos]
  have e : ns.getD 0 (0, 0) = (0, 0) := by rw [List.getD_eq_getElem?_getD, hw.zero]; rfl
  rw [e]
  rfl
theorem lw_node {inp : List Nat} {g : Gr} {k v : Nat} (h0 : k ≠ 0) (h : (valL inp g.nodes)[k]? = some v) : lw inp g (2 * k) = v := by
  unfold lw wd nodeW
  rw [if_neg (by omega), show 2 * k / 2 = k by omega, if_neg h0, List.getD_eq_getElem?_getD, h]
  rfl

/-! ### The calls -/
theorem gateG_val {g : Gr} (hw : WF g.nodes) (inp : List Nat) {a b : Nat} (ha : g.ok a) (hb : g.ok b) : lw inp (gateG g a b).1 (gateG g a b).2 = lw inp g a &&& lw inp g b := by
  have h0 := hw.pos
  show lw inp { g with nodes := g.nodes ++ [(max a b, min a b)] } (2 * g.nodes.length) = _
  rw [lw_node (v := wd (valL inp g.nodes) (max a b) &&& wd (valL inp g.nodes) (min a b)) (by omega)]
  · rcases Nat.le_total a b with h | h
    · rw [Nat.max_eq_right h, Nat.min_eq_left h, Nat.and_comm]; rfl
    · rw [Nat.max_eq_left h, Nat.min_eq_right h]; rfl
  · show (valL inp (g.nodes ++ [(max a b, min a b)]))[g.nodes.length]? = _
    rw [valL_snoc, List.getElem?_append_right (by rw [valL_length]; omega), valL_length]
    have hm := half_max ha hb
    simp only [Nat.sub_self, List.getElem?_cons_zero]
    unfold nodeV
    rw [if_neg (by simp [inAt]; omega)]
theorem inputG_val {g : Gr} (hw : WF g.nodes) (inp : List Nat) : lw inp (inputG g).1 (inputG g).2 = inp.getD (ins g.nodes).length 0 := by
  have h0 := hw.pos
  show lw inp { g with nodes := g.nodes ++ [(2 * g.nodes.length, 2 * g.nodes.length)] } (2 * g.nodes.length) = _
  rw [lw_node (v := inp.getD (ins g.nodes).length 0) (by omega)]
  show (valL inp (g.nodes ++ [(2 * g.nodes.length, 2 * g.nodes.length)]))[g.nodes.length]? = _
  rw [valL_snoc, List.getElem?_append_right (by rw [valL_length]; omega), valL_length]
  simp only [Nat.sub_self, List.getElem?_cons_zero]
  unfold nodeV
  rw [if_pos (by simp [inAt]), if_neg (by omega)]
theorem inputG_pre (g : Gr) : ∃ more, (inputG g).1.nodes = g.nodes ++ more := ⟨_, rfl⟩
theorem andG_val {g : Gr} (hw : WF g.nodes) {inp : List Nat} (hi : Words inp) {a b : Nat} (ha : g.ok a) (hb : g.ok b) : lw inp (andG g a b).1 (andG g a b).2 = lw inp g a &&& lw inp g b := by
  unfold andG
  split
  · rename_i h
    simp only [Bool.and_eq_true] at h
    exact fold_word (valL_words hi _) a b h.1
  · split
    · rename_i h
      simp only [Bool.and_eq_true] at h
      obtain ⟨c, hc⟩ := Option.isSome_iff_exists.1 h.1
      obtain ⟨k, h1, h2, h3, h4⟩ := look_some hc
      rw [hc]
      show lw inp g c = _
      rw [h2, lw_node (v := wd (valL inp g.nodes) (max a b) &&& wd (valL inp g.nodes) (min a b))]
      · rcases Nat.le_total a b with h | h
        · rw [Nat.max_eq_right h, Nat.min_eq_left h, Nat.and_comm]; rfl
        · rw [Nat.max_eq_left h, Nat.min_eq_right h]; rfl
      · rintro rfl
        rw [hw.zero] at h3
        injection h3 with h3
        have : max a b = 0 := (congrArg Prod.fst h3).symm
        omega
      · exact gate_val hw h3 h4
    · exact gateG_val hw inp ha hb
theorem orG_val {g : Gr} (hw : WF g.nodes) {inp : List Nat} (hi : Words inp) {a b : Nat} (ha : g.ok a) (hb : g.ok b) : lw inp (orG g a b).1 (orG g a b).2 = lw inp g a ||| lw inp g b := by
  show lw inp (andG g (ntL a) (ntL b)).1 (ntL (andG g (ntL a) (ntL b)).2) = _
  rw [lw_nt hi, andG_val hw hi (ok_nt ha) (ok_nt hb), lw_nt hi, lw_nt hi, noW_or (lw_lt hi _ _) (lw_lt hi _ _)]
theorem bothG_val {g : Gr} (hw : WF g.nodes) {inp : List Nat} (hi : Words inp) {a b c d : Nat} (ha : g.ok a) (hb : g.ok b) (hc : g.ok c) (hd : g.ok d) :
    lw inp (bothG g a b c d).1 (bothG g a b c d).2 = (lw inp g a &&& lw inp g b) ||| (lw inp g c &&& lw inp g d) := by
  obtain ⟨h1, h2, h3⟩ := andG_spec hw ha hb
  obtain ⟨h4, h5, h6⟩ := andG_spec h1 (h2.ok hc) (h2.ok hd)
  unfold bothG
  rw [orG_val h4 hi (h5.ok h3) h6, lw_ext h5 h3, andG_val hw hi ha hb, andG_val h1 hi (h2.ok hc) (h2.ok hd), lw_ext h2 hc, lw_ext h2 hd]
theorem xorG_val {g : Gr} (hw : WF g.nodes) {inp : List Nat} (hi : Words inp) {a b : Nat} (ha : g.ok a) (hb : g.ok b) : lw inp (xorG g a b).1 (xorG g a b).2 = lw inp g a ^^^ lw inp g b := by
  unfold xorG
  rw [bothG_val hw hi ha (ok_nt hb) (ok_nt ha) hb, lw_nt hi, lw_nt hi, xor_or (lw_lt hi _ _) (lw_lt hi _ _)]
theorem muxG_val {g : Gr} (hw : WF g.nodes) {inp : List Nat} (hi : Words inp) {c a b : Nat} (hc : g.ok c) (ha : g.ok a) (hb : g.ok b) :
    lw inp (muxG g c a b).1 (muxG g c a b).2 = (lw inp g c &&& lw inp g a) ||| (noW (lw inp g c) &&& lw inp g b) := by
  unfold muxG
  rw [bothG_val hw hi hc ha (ok_nt hc) hb, lw_nt hi]

/-- What a call of two literals does and means. -/
def OpOk (two : Gr → Nat → Nat → Gr × Nat) (f : Nat → Nat → Nat) : Prop :=
  ∀ g a b, WF g.nodes → g.ok a → g.ok b → (WF (two g a b).1.nodes ∧ Ext 3 g (two g a b).1 ∧ (two g a b).1.ok (two g a b).2) ∧ ∀ inp, Words inp → lw inp (two g a b).1 (two g a b).2 = f (lw inp g a) (lw inp g b)
theorem op_and : OpOk andG (· &&& ·) := fun g a b hw ha hb => ⟨two_and g a b hw ha hb, fun _ hi => andG_val hw hi ha hb⟩
theorem op_or : OpOk orG (· ||| ·) := fun g a b hw ha hb => ⟨two_or g a b hw ha hb, fun _ hi => orG_val hw hi ha hb⟩
theorem op_xor : OpOk xorG (· ^^^ ·) := fun g a b hw ha hb => ⟨two_xor g a b hw ha hb, fun _ hi => xorG_val hw hi ha hb⟩
/-- the words of literals, from the left -/
def foldW (f : Nat → Nat → Nat) (inp : List Nat) (g : Gr) (e : Nat) (l : List Nat) : Nat := l.foldl (fun v x => f v (lw inp g x)) e
theorem foldW_ext {f : Nat → Nat → Nat} {inp : List Nat} {g g' : Gr} (h : ∃ more, g'.nodes = g.nodes ++ more) : ∀ (l : List Nat) (e : Nat), (∀ x ∈ l, g.ok x) → foldW f inp g' e l = foldW f inp g e l := by
  intro l
  induction l with
  | nil => intro e _; rfl
  | cons x l ih =>
    intro e hl
    show foldW f inp g' (f e (lw inp g' x)) l = foldW f inp g (f e (lw inp g x)) l
    rw [lw_pre h (hl x List.mem_cons_self), ih _ (fun y hy => hl y (List.mem_cons_of_mem _ hy))]
theorem foldW_snoc (f : Nat → Nat → Nat) (inp : List Nat) (g : Gr) (e : Nat) (l : List Nat) (x : Nat) : foldW f inp g e (l ++ [x]) = f (foldW f inp g e l) (lw inp g x) := by simp [foldW]
theorem goG_val {two : Gr → Nat → Nat → Gr × Nat} {f : Nat → Nat → Nat} (h2 : OpOk two f) {inp : List Nat} (hi : Words inp) : ∀ (l : List Nat) (s : Gr × Nat), WF s.1.nodes → s.1.ok s.2 → (∀ x ∈ l, s.1.ok x) →
    lw inp (goG two s l).1 (goG two s l).2 = foldW f inp s.1 (lw inp s.1 s.2) l := by
  intro l
  induction l with
  | nil => intro s _ _ _; rfl
  | cons x l ih =>
    intro s hw hs hl
    obtain ⟨⟨h3, h4, h5⟩, h6⟩ := h2 s.1 s.2 x hw hs (hl x List.mem_cons_self)
    show lw inp (goG two (two s.1 s.2 x) l).1 (goG two (two s.1 s.2 x) l).2 = foldW f inp s.1 (f (lw inp s.1 s.2) (lw inp s.1 x)) l
    rw [ih _ h3 h5 (fun y hy => h4.ok (hl y (List.mem_cons_of_mem _ hy))), h6 inp hi, foldW_ext h4.pre' l _ (fun y hy => hl y (List.mem_cons_of_mem _ hy))]
theorem manyG_val {two : Gr → Nat → Nat → Gr × Nat} {f : Nat → Nat → Nat} (h2 : OpOk two f) {inp : List Nat} (hi : Words inp) {g : Gr} (hw : WF g.nodes) {start : Nat} (he : ∀ v, v < 18446744073709551616 → f (lw inp g start) v = v) (l : List Nat) (hl : ∀ x ∈ l, g.ok x) :
    lw inp (manyG two g start l).1 (manyG two g start l).2 = foldW f inp g (lw inp g start) l := by
  cases l with
  | nil => rfl
  | cons x l =>
    show lw inp (goG two (g, x) l).1 (goG two (g, x) l).2 = foldW f inp g (f (lw inp g start) (lw inp g x)) l
    rw [goG_val h2 hi l (g, x) hw (hl x List.mem_cons_self) (fun y hy => hl y (List.mem_cons_of_mem _ hy)), he _ (lw_lt hi _ _)]
theorem manyG_and {inp : List Nat} (hi : Words inp) {g : Gr} (hw : WF g.nodes) (l : List Nat) (hl : ∀ x ∈ l, g.ok x) : lw inp (manyG andG g 1 l).1 (manyG andG g 1 l).2 = foldW (· &&& ·) inp g 18446744073709551615 l := by
  rw [manyG_val op_and hi hw (fun v hv => by rw [lw_one]; show 18446744073709551615 &&& v = v; rw [Nat.and_comm]; exact and_all v hv) l hl, lw_one]
theorem manyG_or {inp : List Nat} (hi : Words inp) {g : Gr} (hw : WF g.nodes) (l : List Nat) (hl : ∀ x ∈ l, g.ok x) : lw inp (manyG orG g 0 l).1 (manyG orG g 0 l).2 = foldW (· ||| ·) inp g 0 l := by
  rw [manyG_val op_or hi hw (fun v hv => by rw [lw_zero]; show 0 ||| v = v; exact Nat.zero_or v) l hl, lw_zero]
theorem manyG_xor {inp : List Nat} (hi : Words inp) {g : Gr} (hw : WF g.nodes) (l : List Nat) (hl : ∀ x ∈ l, g.ok x) : lw inp (manyG xorG g 0 l).1 (manyG xorG g 0 l).2 = foldW (· ^^^ ·) inp g 0 l := by
  rw [manyG_val op_xor hi hw (fun v hv => by rw [lw_zero]; show 0 ^^^ v = v; exact Nat.zero_xor v) l hl, lw_zero]
theorem foldW_lt {f : Nat → Nat → Nat} (hf : ∀ a b, a < 18446744073709551616 → b < 18446744073709551616 → f a b < 18446744073709551616) {inp : List Nat} (hi : Words inp) (g : Gr) : ∀ (l : List Nat) (e : Nat), e < 18446744073709551616 → foldW f inp g e l < 18446744073709551616 := by
  intro l
  induction l with
  | nil => intro e he; exact he
  | cons x l ih => intro e he; exact ih _ (hf _ _ he (lw_lt hi _ _))
end Go.Proofs.Ytenhbhckhncamaa
