/-
  Plain graphs of and-gates: nodes as pairs of literals, an input has its own literal twice. No program in sight.
-/
import Derived.Test.YtenhbhckhncamaaP00
namespace Go.Proofs.Ytenhbhckhncamaa

structure Gr where
  fold : Bool
  hash : Bool
  nodes : List (Nat × Nat)

def Gr.n (g : Gr) : Nat := g.nodes.length
/-- node i is no gate -/
def inAt (i : Nat) (p : Nat × Nat) : Bool := decide (p.1 / 2 = i)
/-- inputs among nodes that begin at number i -/
def insFrom : Nat → List (Nat × Nat) → List Nat
  | _, [] => []
  | i, p :: r => if inAt i p && decide (i ≠ 0) then i :: insFrom (i + 1) r else insFrom (i + 1) r
def ins (ns : List (Nat × Nat)) : List Nat := insFrom 0 ns
/-- the first gate of just these two -/
def lookFrom (a b : Nat) : Nat → List (Nat × Nat) → Option Nat
  | _, [] => none
  | i, p :: r => if p = (a, b) ∧ a / 2 ≠ i then some (2 * i) else lookFrom a b (i + 1) r
def look (ns : List (Nat × Nat)) (a b : Nat) : Option Nat := lookFrom a b 0 ns

theorem insFrom_snoc (i : Nat) (l : List (Nat × Nat)) (p : Nat × Nat) : insFrom i (l ++ [p]) = insFrom i l ++ (if inAt (i + l.length) p && decide (i + l.length ≠ 0) then [i + l.length] else []) := by
  induction l generalizing i with
  | nil => simp [insFrom]
  | cons x l ih =>
    have h : i + 1 + l.length = i + (l.length + 1) := by omega
    simp only [List.cons_append, insFrom, ih, List.length_cons, h]
    split <;> simp
theorem ins_snoc (l : List (Nat × Nat)) (p : Nat × Nat) : ins (l ++ [p]) = ins l ++ (if inAt l.length p && decide (l.length ≠ 0) then [l.length] else []) := by
  have := insFrom_snoc 0 l p
  simpa [ins] using this
theorem lookFrom_snoc (a b i : Nat) (l : List (Nat × Nat)) (p : Nat × Nat) : lookFrom a b i (l ++ [p]) = (lookFrom a b i l).or (if p = (a, b) ∧ a / 2 ≠ i + l.length then some (2 * (i + l.length)) else none) := by
  induction l generalizing i with
  | nil => simp [lookFrom]
  | cons x l ih =>
    have h : i + 1 + l.length = i + (l.length + 1) := by omega
    simp only [List.cons_append, lookFrom, ih, List.length_cons, h]
    split <;> simp
theorem look_snoc (l : List (Nat × Nat)) (p : Nat × Nat) (a b : Nat) : look (l ++ [p]) a b = (look l a b).or (if p = (a, b) ∧ a / 2 ≠ l.length then some (2 * l.length) else none) := by
  have := lookFrom_snoc a b 0 l p
  simpa [look] using this
theorem insFrom_lt (i : Nat) (l : List (Nat × Nat)) : ∀ x ∈ insFrom i l, i ≤ x ∧ x < i + l.length := by
  induction l generalizing i with
  | nil => simp [insFrom]
  | cons p l ih =>
    intro x hx
    simp only [insFrom] at hx
    split at hx
    · rcases List.mem_cons.1 hx with h | h
      · subst h; simp
      · have := ih _ x h; simp; omega
    · have := ih _ x hx; simp; omega
theorem ins_lt (l : List (Nat × Nat)) : ∀ x ∈ ins l, x < l.length := fun x hx => by have := insFrom_lt 0 l x hx; omega
theorem insFrom_length (i : Nat) (l : List (Nat × Nat)) : (insFrom i l).length ≤ l.length := by
  induction l generalizing i with
  | nil => simp [insFrom]
  | cons p l ih =>
    have := ih (i + 1)
    simp only [insFrom]
    split <;> simp <;> omega
theorem lookFrom_some (a b i : Nat) (l : List (Nat × Nat)) (c : Nat) (h : lookFrom a b i l = some c) : ∃ k, k < l.length ∧ c = 2 * (i + k) ∧ l[k]? = some (a, b) ∧ a / 2 ≠ i + k := by
  induction l generalizing i with
  | nil => simp [lookFrom] at h
  | cons p l ih =>
    simp only [lookFrom] at h
    split at h
    · rename_i hp
      injection h with h
      exact ⟨0, by simp, by omega, by simp [hp.1], by simpa using hp.2⟩
    · obtain ⟨k, h1, h2, h3, h4⟩ := ih _ h
      exact ⟨k + 1, by simp; omega, by omega, by simpa using h3, by omega⟩
theorem look_some {l : List (Nat × Nat)} {a b c : Nat} (h : look l a b = some c) : ∃ k, k < l.length ∧ c = 2 * k ∧ l[k]? = some (a, b) ∧ a / 2 ≠ k := by
  obtain ⟨k, h1, h2, h3, h4⟩ := lookFrom_some a b 0 l c h
  exact ⟨k, h1, by omega, h3, by omega⟩
theorem look_none_mem {a b : Nat} : ∀ (i : Nat) (l : List (Nat × Nat)), lookFrom a b i l = none → ∀ k, l[k]? = some (a, b) → a / 2 = i + k := by
  intro i l
  induction l generalizing i with
  | nil => intro _ k hk; simp at hk
  | cons p l ih =>
    intro h k hk
    simp only [lookFrom] at h
    split at h
    · cases h
    · rename_i hp
      cases k with
      | zero =>
        simp at hk
        by_cases he : a / 2 = i
        · omega
        · exact absurd ⟨hk, he⟩ hp
      | succ k =>
        have := ih (i + 1) h k (by simpa using hk)
        omega

/-- Node 0 is the constant; each other one is an input, or a gate of lesser ones, the greater literal first. -/
structure WF (ns : List (Nat × Nat)) : Prop where
  zero : ns[0]? = some (0, 0)
  each : ∀ i a b, ns[i]? = some (a, b) → (a = 2 * i ∧ b = 2 * i) ∨ (b ≤ a ∧ a / 2 < i)
theorem WF.pos {ns : List (Nat × Nat)} (h : WF ns) : 0 < ns.length := (List.getElem?_eq_some_iff.1 h.zero).1
theorem WF.snoc {ns : List (Nat × Nat)} (h : WF ns) {a b : Nat} (hab : (a = 2 * ns.length ∧ b = 2 * ns.length) ∨ (b ≤ a ∧ a / 2 < ns.length)) : WF (ns ++ [(a, b)]) := by
  refine ⟨by rw [List.getElem?_append_left h.pos]; exact h.zero, fun i x y hi => ?_⟩
  by_cases hlt : i < ns.length
  · rw [List.getElem?_append_left hlt] at hi
    exact h.each i x y hi
  · rw [List.getElem?_append_right (by omega)] at hi
    have : i = ns.length := by
      by_cases he : i - ns.length = 0
      · omega
      · rw [List.getElem?_eq_none (by simp; omega)] at hi; cases hi
    subst this
    simp at hi
    obtain ⟨rfl, rfl⟩ := hi
    exact hab
theorem WF.lit {ns : List (Nat × Nat)} (h : WF ns) {i a b : Nat} (hi : ns[i]? = some (a, b)) : a / 2 ≤ i ∧ b / 2 ≤ i := by
  rcases h.each i a b hi with h1 | h1 <;> omega

def Gr.ok (g : Gr) (l : Nat) : Prop := l / 2 < g.nodes.length
/-- a new gate -/
def gateG (g : Gr) (a b : Nat) : Gr × Nat := ({ g with nodes := g.nodes ++ [(max a b, min a b)] }, 2 * g.nodes.length)
def inputG (g : Gr) : Gr × Nat := ({ g with nodes := g.nodes ++ [(2 * g.nodes.length, 2 * g.nodes.length)] }, 2 * g.nodes.length)
def andG (g : Gr) (a b : Nat) : Gr × Nat :=
  if foldB a b && g.fold then (g, foldV a b)
  else if (look g.nodes (max a b) (min a b)).isSome && g.hash then (g, (look g.nodes (max a b) (min a b)).getD 0)
  else gateG g a b
def orG (g : Gr) (a b : Nat) : Gr × Nat := ((andG g (ntL a) (ntL b)).1, ntL (andG g (ntL a) (ntL b)).2)
def bothG (g : Gr) (a b c d : Nat) : Gr × Nat :=
  orG (andG (andG g a b).1 c d).1 (andG g a b).2 (andG (andG g a b).1 c d).2
def xorG (g : Gr) (a b : Nat) : Gr × Nat := bothG g a (ntL b) (ntL a) b
def muxG (g : Gr) (c a b : Nat) : Gr × Nat := bothG g c a (ntL c) b
/-- many: from the left -/
def goG (two : Gr → Nat → Nat → Gr × Nat) : Gr × Nat → List Nat → Gr × Nat
  | s, [] => s
  | s, x :: r => goG two (two s.1 s.2 x) r
def manyG (two : Gr → Nat → Nat → Gr × Nat) (g : Gr) (start : Nat) : List Nat → Gr × Nat
  | [] => (g, start)
  | x :: r => goG two (g, x) r
theorem goG_snoc (two : Gr → Nat → Nat → Gr × Nat) (s : Gr × Nat) (l : List Nat) (x : Nat) : goG two s (l ++ [x]) = two (goG two s l).1 (goG two s l).2 x := by
  induction l generalizing s with
  | nil => rfl
  | cons y l ih => exact ih _
theorem manyG_snoc (two : Gr → Nat → Nat → Gr × Nat) (g : Gr) (start : Nat) (l : List Nat) (x : Nat) (h : l ≠ []) : manyG two g start (l ++ [x]) = two (manyG two g start l).1 (manyG two g start l).2 x := by
  cases l with
  | nil => exact absurd rfl h
  | cons y l => exact goG_snoc two _ l x

/-- What a call that adds gates keeps: options, what was there; at most k gates more, no input. -/
structure Ext (k : Nat) (g g' : Gr) : Prop where
  fold : g'.fold = g.fold
  hash : g'.hash = g.hash
  pre : ∃ more, g'.nodes = g.nodes ++ more ∧ more.length ≤ k
  ins : ins g'.nodes = ins g.nodes
theorem Ext.refl (g : Gr) : Ext 0 g g := ⟨rfl, rfl, ⟨[], by simp, by simp⟩, rfl⟩
theorem Ext.mono {j k : Nat} {g g' : Gr} (h : Ext j g g') (hk : j ≤ k) : Ext k g g' := ⟨h.fold, h.hash, by obtain ⟨m, h1, h2⟩ := h.pre; exact ⟨m, h1, by omega⟩, h.ins⟩
theorem Ext.trans {j k : Nat} {g g' g'' : Gr} (h : Ext j g g') (h' : Ext k g' g'') : Ext (j + k) g g'' := by
  obtain ⟨m, h1, h2⟩ := h.pre
  obtain ⟨m', h3, h4⟩ := h'.pre
  exact ⟨h'.fold.trans h.fold, h'.hash.trans h.hash, ⟨m ++ m', by rw [h3, h1, List.append_assoc], by simp; omega⟩, h'.ins.trans h.ins⟩
theorem Ext.le {k : Nat} {g g' : Gr} (h : Ext k g g') : g.nodes.length ≤ g'.nodes.length ∧ g'.nodes.length ≤ g.nodes.length + k := by
  obtain ⟨m, h1, h2⟩ := h.pre
  rw [h1, List.length_append]; omega
theorem Ext.ok {k : Nat} {g g' : Gr} (h : Ext k g g') {l : Nat} (hl : g.ok l) : g'.ok l := by
  have := h.le; unfold Gr.ok at *; omega

theorem foldV_ok {g : Gr} (hp : 0 < g.nodes.length) {a b : Nat} (ha : g.ok a) (hb : g.ok b) : g.ok (foldV a b) := by
  unfold Gr.ok at *
  unfold foldV
  repeat' split
  all_goals first | omega | (rcases Nat.le_total a b with h | h <;> simp [h] <;> omega)
theorem half_max {a b n : Nat} (ha : a / 2 < n) (hb : b / 2 < n) : max a b / 2 < n := by
  rcases Nat.le_total a b with h | h
  · rw [Nat.max_eq_right h]; exact hb
  · rw [Nat.max_eq_left h]; exact ha
theorem ok_nt {g : Gr} {l : Nat} (h : g.ok l) : g.ok (ntL l) := by unfold Gr.ok at *; rw [ntL_half]; exact h

theorem gateG_spec {g : Gr} (hw : WF g.nodes) {a b : Nat} (ha : g.ok a) (hb : g.ok b) : WF (gateG g a b).1.nodes ∧ Ext 1 g (gateG g a b).1 ∧ (gateG g a b).1.ok (gateG g a b).2 := by
  have hm := half_max ha hb
  refine ⟨hw.snoc (.inr ⟨by omega, hm⟩), ⟨rfl, rfl, ⟨_, rfl, by simp⟩, ?_⟩, ?_⟩
  · show ins (g.nodes ++ [(max a b, min a b)]) = _
    rw [ins_snoc, if_neg (by simp [inAt]; omega), List.append_nil]
  · simp [gateG, Gr.ok]
theorem inputG_spec {g : Gr} (hw : WF g.nodes) : WF (inputG g).1.nodes ∧ (inputG g).1.ok (inputG g).2 ∧ ins (inputG g).1.nodes = ins g.nodes ++ [g.nodes.length] := by
  refine ⟨hw.snoc (.inl ⟨rfl, rfl⟩), by simp [inputG, Gr.ok], ?_⟩
  show ins (g.nodes ++ [(2 * g.nodes.length, 2 * g.nodes.length)]) = _
  have := hw.pos
  rw [ins_snoc, if_pos (by simp [inAt]; exact List.ne_nil_of_length_pos this)]
theorem andG_spec {g : Gr} (hw : WF g.nodes) {a b : Nat} (ha : g.ok a) (hb : g.ok b) : WF (andG g a b).1.nodes ∧ Ext 1 g (andG g a b).1 ∧ (andG g a b).1.ok (andG g a b).2 := by
  unfold andG
  split
  · exact ⟨hw, (Ext.refl g).mono (by omega), foldV_ok hw.pos ha hb⟩
  · split
    · rename_i h
      refine ⟨hw, (Ext.refl g).mono (by omega), ?_⟩
      simp only [Bool.and_eq_true] at h
      obtain ⟨c, hc⟩ := Option.isSome_iff_exists.1 h.1
      obtain ⟨k, h1, h2, _⟩ := look_some hc
      rw [hc]
      show c / 2 < g.nodes.length
      omega
    · exact gateG_spec hw ha hb
theorem orG_spec {g : Gr} (hw : WF g.nodes) {a b : Nat} (ha : g.ok a) (hb : g.ok b) : WF (orG g a b).1.nodes ∧ Ext 1 g (orG g a b).1 ∧ (orG g a b).1.ok (orG g a b).2 := by
  obtain ⟨h1, h2, h3⟩ := andG_spec hw (ok_nt ha) (ok_nt hb)
  exact ⟨h1, h2, ok_nt h3⟩
theorem bothG_spec {g : Gr} (hw : WF g.nodes) {a b c d : Nat} (ha : g.ok a) (hb : g.ok b) (hc : g.ok c) (hd : g.ok d) : WF (bothG g a b c d).1.nodes ∧ Ext 3 g (bothG g a b c d).1 ∧ (bothG g a b c d).1.ok (bothG g a b c d).2 := by
  obtain ⟨h1, h2, h3⟩ := andG_spec hw ha hb
  obtain ⟨h4, h5, h6⟩ := andG_spec h1 (h2.ok hc) (h2.ok hd)
  obtain ⟨h7, h8, h9⟩ := orG_spec h4 (h5.ok h3) h6
  exact ⟨h7, (h2.trans h5).trans h8, h9⟩
theorem xorG_spec {g : Gr} (hw : WF g.nodes) {a b : Nat} (ha : g.ok a) (hb : g.ok b) : WF (xorG g a b).1.nodes ∧ Ext 3 g (xorG g a b).1 ∧ (xorG g a b).1.ok (xorG g a b).2 :=
  bothG_spec hw ha (ok_nt hb) (ok_nt ha) hb
theorem muxG_spec {g : Gr} (hw : WF g.nodes) {c a b : Nat} (hc : g.ok c) (ha : g.ok a) (hb : g.ok b) : WF (muxG g c a b).1.nodes ∧ Ext 3 g (muxG g c a b).1 ∧ (muxG g c a b).1.ok (muxG g c a b).2 :=
  bothG_spec hw hc ha (ok_nt hc) hb
theorem goG_spec (two : Gr → Nat → Nat → Gr × Nat) (h2 : ∀ g a b, WF g.nodes → g.ok a → g.ok b → WF (two g a b).1.nodes ∧ Ext 3 g (two g a b).1 ∧ (two g a b).1.ok (two g a b).2) (l : List Nat) :
    ∀ s : Gr × Nat, WF s.1.nodes → s.1.ok s.2 → (∀ x ∈ l, s.1.ok x) → WF (goG two s l).1.nodes ∧ Ext (3 * l.length) s.1 (goG two s l).1 ∧ (goG two s l).1.ok (goG two s l).2 := by
  induction l with
  | nil => intro s hw hs _; exact ⟨hw, Ext.refl _, hs⟩
  | cons x l ih =>
    intro s hw hs hl
    obtain ⟨h3, h4, h5⟩ := h2 s.1 s.2 x hw hs (hl x List.mem_cons_self)
    obtain ⟨h6, h7, h8⟩ := ih (two s.1 s.2 x) h3 h5 (fun y hy => h4.ok (hl y (List.mem_cons_of_mem _ hy)))
    exact ⟨h6, (h4.trans h7).mono (by simp; omega), h8⟩
theorem manyG_spec (two : Gr → Nat → Nat → Gr × Nat) (h2 : ∀ g a b, WF g.nodes → g.ok a → g.ok b → WF (two g a b).1.nodes ∧ Ext 3 g (two g a b).1 ∧ (two g a b).1.ok (two g a b).2) {g : Gr} (hw : WF g.nodes) {start : Nat} (hs : start < 2) (l : List Nat) (hl : ∀ x ∈ l, g.ok x) :
    WF (manyG two g start l).1.nodes ∧ Ext (3 * l.length) g (manyG two g start l).1 ∧ (manyG two g start l).1.ok (manyG two g start l).2 := by
  cases l with
  | nil => exact ⟨hw, Ext.refl _, by have := hw.pos; unfold Gr.ok manyG; simp; omega⟩
  | cons x l =>
    obtain ⟨h3, h4, h5⟩ := goG_spec two h2 l (g, x) hw (hl x List.mem_cons_self) (fun y hy => hl y (List.mem_cons_of_mem _ hy))
    exact ⟨h3, h4.mono (by simp; omega), h5⟩
theorem two_and (g : Gr) (a b : Nat) (hw : WF g.nodes) (ha : g.ok a) (hb : g.ok b) : WF (andG g a b).1.nodes ∧ Ext 3 g (andG g a b).1 ∧ (andG g a b).1.ok (andG g a b).2 := by
  obtain ⟨h1, h2, h3⟩ := andG_spec hw ha hb; exact ⟨h1, h2.mono (by omega), h3⟩
theorem two_or (g : Gr) (a b : Nat) (hw : WF g.nodes) (ha : g.ok a) (hb : g.ok b) : WF (orG g a b).1.nodes ∧ Ext 3 g (orG g a b).1 ∧ (orG g a b).1.ok (orG g a b).2 := by
  obtain ⟨h1, h2, h3⟩ := orG_spec hw ha hb; exact ⟨h1, h2.mono (by omega), h3⟩
theorem two_xor (g : Gr) (a b : Nat) (hw : WF g.nodes) (ha : g.ok a) (hb : g.ok b) : WF (xorG g a b).1.nodes ∧ Ext 3 g (xorG g a b).1 ∧ (xorG g a b).1.ok (xorG g a b).2 := xorG_spec hw ha hb
end Go.Proofs.Ytenhbhckhncamaa
