/-
  Package sweep, plain: one sweep.
-/
import Derived.Test.YtdmcdhkkbkgnbaaP13
import Derived.Test.YtdmcdhkkbkgnbaaP30
namespace Go.Proofs.Ytdmcdhkkbkgnbaa
set_option linter.unusedVariables false
set_option linter.unusedSimpArgs false

variable {N : Nt} {k : Nat}
theorem rowFrom_app (a m n : Nat) : rowFrom a (m + n) = rowFrom a m ++ rowFrom (a + m) n := by
  induction n with
  | zero => simp [rowFrom]
  | succ n ih =>
    rw [← Nat.add_assoc, rowFrom_succ, ih, rowFrom_succ, List.append_assoc]
    congr 2
    simp [Nat.add_assoc]
theorem mem_rowFrom {a n x : Nat} : x ∈ rowFrom a n ↔ ∃ i, a ≤ i ∧ i < a + n ∧ x = 2 * i := by
  unfold rowFrom
  rw [List.mem_map]
  constructor
  · rintro ⟨i, hi, rfl⟩
    have := List.mem_range.1 hi
    exact ⟨a + i, by omega, by omega, rfl⟩
  · rintro ⟨i, h1, h2, rfl⟩
    exact ⟨i - a, List.mem_range.2 (by omega), by omega⟩
def inRows : Nat → List Bus → List Bus
  | _, [] => []
  | a, b :: l => ⟨b.name, rowFrom a b.lits.length⟩ :: inRows (a + b.lits.length) l
def inMany (l : List Bus) : Nat := (l.flatMap (·.lits)).length
theorem inMany_cons (b : Bus) (l : List Bus) : inMany (b :: l) = b.lits.length + inMany l := by simp [inMany]
theorem inMany_app (l m : List Bus) : inMany (l ++ m) = inMany l + inMany m := by simp [inMany]
theorem inRows_flat (a : Nat) (l : List Bus) : (inRows a l).flatMap (·.lits) = rowFrom a (inMany l) := by
  induction l generalizing a with
  | nil => rfl
  | cons b l ih =>
    rw [inMany_cons, rowFrom_app]
    show rowFrom a b.lits.length ++ (inRows (a + b.lits.length) l).flatMap (·.lits) = _
    rw [ih]
theorem inRows_names (a : Nat) (l : List Bus) : (inRows a l).map (·.name) = l.map (·.name) := by
  induction l generalizing a with
  | nil => rfl
  | cons b l ih => show b.name :: (inRows _ l).map (·.name) = _; rw [ih]; rfl
theorem inRows_length (a : Nat) (l : List Bus) : (inRows a l).length = l.length := by
  have := congrArg List.length (inRows_names a l)
  simpa using this
theorem inRows_snoc (a : Nat) (l : List Bus) (b : Bus) : inRows a (l ++ [b]) = inRows a l ++ [⟨b.name, rowFrom (a + inMany l) b.lits.length⟩] := by
  induction l generalizing a with
  | nil => simp [inRows, inMany]
  | cons c l ih =>
    rw [inMany_cons]
    show _ :: inRows _ (l ++ [b]) = _
    rw [ih, Nat.add_assoc]
    rfl
theorem inRows_mem {a : Nat} {l : List Bus} {b : Bus} (h : b ∈ inRows a l) : ∃ b0 ∈ l, b.name = b0.name ∧ b.lits.length = b0.lits.length ∧ ∀ x ∈ b.lits, ∃ i, a ≤ i ∧ i < a + inMany l ∧ x = 2 * i := by
  induction l generalizing a with
  | nil => simp [inRows] at h
  | cons c l ih =>
    rcases List.mem_cons.1 h with rfl | h
    · refine ⟨c, by simp, rfl, by simp [rowFrom_length], fun x hx => ?_⟩
      obtain ⟨i, h1, h2, h3⟩ := mem_rowFrom.1 hx
      exact ⟨i, h1, by rw [inMany_cons]; omega, h3⟩
    · obtain ⟨b0, h1, h2, h3, h4⟩ := ih h
      refine ⟨b0, by simp [h1], h2, h3, fun x hx => ?_⟩
      obtain ⟨i, i1, i2, i3⟩ := h4 x hx
      exact ⟨i, by omega, by rw [inMany_cons]; omega, i3⟩
/-! the registers that go on -/
def rg0 : Rg := ⟨0, 0, 0, false⟩
def goesB (N : Nt) (j : Nat) : Bool := (neededN N).getD j false && !stuckR (N.regs.getD j ⟨0, 0, 0, false⟩)
def goingTo (N : Nt) : Nat → List Rg
  | 0 => []
  | m + 1 => goingTo N m ++ (if goesB N m then [N.regs.getD m ⟨0, 0, 0, false⟩] else [])
def goingL (N : Nt) : List Rg := goingTo N N.regs.length
theorem goingTo_length (N : Nt) (m : Nat) : (goingTo N m).length ≤ m := by
  induction m with
  | zero => simp [goingTo]
  | succ m ih =>
    simp only [goingTo, List.length_append]
    split <;> simp <;> omega
theorem goingTo_mem {m : Nat} {r : Rg} (h : r ∈ goingTo N m) : ∃ j, j < m ∧ goesB N j = true ∧ r = N.regs.getD j ⟨0, 0, 0, false⟩ := by
  induction m with
  | zero => simp [goingTo] at h
  | succ m ih =>
    simp only [goingTo, List.mem_append] at h
    rcases h with h | h
    · obtain ⟨j, h1, h2, h3⟩ := ih h
      exact ⟨j, by omega, h2, h3⟩
    · split at h
      · rename_i hg
        rw [List.mem_singleton] at h
        exact ⟨m, by omega, hg, h⟩
      · simp at h
theorem going_in {r : Rg} (h : r ∈ goingL N) : r ∈ N.regs := by
  obtain ⟨j, h1, _, rfl⟩ := goingTo_mem h
  exact getD_regs h1
theorem goingTo_mono {m n : Nat} (h : m ≤ n) : (goingTo N m).length ≤ (goingTo N n).length := by
  induction n with
  | zero => have : m = 0 := by omega
            subst this; exact Nat.le_refl _
  | succ n ih =>
    rcases Nat.lt_or_eq_of_le h with h1 | h1
    · have := ih (by omega)
      simp only [goingTo, List.length_append]
      omega
    · subst h1; exact Nat.le_refl _
theorem goingTo_lt {m n : Nat} (hg : goesB N m = true) (h : m < n) : (goingTo N m).length < (goingTo N n).length := by
  have h1 := goingTo_mono (N := N) (show m + 1 ≤ n from h)
  have h2 : (goingTo N (m + 1)).length = (goingTo N m).length + 1 := by simp [goingTo, hg]
  omega
/-! what stands for each node -/
def posOf (l : List Nat) (node : Nat) : Option Nat := l.findIdx? fun x => decide (x / 2 = node)
def standR (N : Nt) (j : Nat) : Nat := if goesB N j then 2 * (1 + inMany N.inb + (goingTo N j).length) else firstR (N.regs.getD j ⟨0, 0, 0, false⟩)
def standN (N : Nt) (node : Nat) : Nat :=
  match posOf (N.inb.flatMap (·.lits)) node with
  | some p => 2 * (1 + p)
  | none => match placeR N.regs node with
    | some j => standR N j
    | none => 0
def byN (N : Nt) : List Nat := (ins N.g.nodes).map (standN N)
def wantedN (N : Nt) : List Nat := outsN N ++ (goingL N).flatMap fun r => [r.d, r.en]
def baseG (N : Nt) : Gr := inputsG ⟨N.g.fold, N.g.hash, [(0, 0)]⟩ (inMany N.inb + (goingL N).length)
def copyN (N : Nt) : Gr × List Nat := copyG (baseG N) N.g (byN N) (wantedN N)
def newRegs (s : List Nat) : Nat → List Rg → List Rg
  | _, [] => []
  | a, r :: l => ⟨2 * a, overL s r.d, overL s r.en, r.init⟩ :: newRegs s (a + 1) l
def onceN (N : Nt) : Nt :=
  { name := N.name, g := (copyN N).1, inb := inRows 1 N.inb, regs := newRegs (copyN N).2 (1 + inMany N.inb) (goingL N), outb := N.outb.map fun b => ⟨b.name, b.lits.map (overL (copyN N).2)⟩ }
theorem newRegs_length (s : List Nat) (a : Nat) (l : List Rg) : (newRegs s a l).length = l.length := by
  induction l generalizing a with
  | nil => rfl
  | cons r l ih => simp [newRegs, ih]
theorem newRegs_q (s : List Nat) (a : Nat) (l : List Rg) : (newRegs s a l).map (·.q) = rowFrom a l.length := by
  induction l generalizing a with
  | nil => rfl
  | cons r l ih =>
    rw [List.length_cons, Nat.add_comm, rowFrom_app]
    show 2 * a :: (newRegs s (a + 1) l).map (·.q) = _
    rw [ih]
    rfl
theorem newRegs_get {s : List Nat} {a : Nat} {l : List Rg} {i : Nat} {r : Rg} (h : l[i]? = some r) : (newRegs s a l)[i]? = some ⟨2 * (a + i), overL s r.d, overL s r.en, r.init⟩ := by
  induction l generalizing a i with
  | nil => simp at h
  | cons c l ih =>
    cases i with
    | zero => simp at h; subst h; rfl
    | succ i =>
      have := ih (a := a + 1) (i := i) (by simpa using h)
      show (newRegs s (a + 1) l)[i]? = _
      rw [this, show a + 1 + i = a + (i + 1) by omega]
theorem newRegs_mem {s : List Nat} {a : Nat} {l : List Rg} {x : Rg} (h : x ∈ newRegs s a l) : ∃ i r, l[i]? = some r ∧ x = ⟨2 * (a + i), overL s r.d, overL s r.en, r.init⟩ := by
  obtain ⟨i, hi, rfl⟩ := List.getElem_of_mem h
  rw [newRegs_length] at hi
  refine ⟨i, l[i], List.getElem?_eq_getElem hi, ?_⟩
  have h1 := newRegs_get (s := s) (a := a) (List.getElem?_eq_getElem hi)
  obtain ⟨_, h2⟩ := List.getElem?_eq_some_iff.1 h1
  exact h2
/-! the base graph -/
theorem base_nodes (N : Nt) : (baseG N).nodes = (0, 0) :: (rowFrom 1 (inMany N.inb + (goingL N).length)).map fun x => (x, x) := by
  unfold baseG
  rw [inputsG_nodes]
  rfl
theorem inputsG_opts (g : Gr) (k : Nat) : (inputsG g k).fold = g.fold ∧ (inputsG g k).hash = g.hash := by
  induction k with
  | zero => exact ⟨rfl, rfl⟩
  | succ k ih => exact ih
theorem base0_wf (a b : Bool) : WF ((⟨a, b, [(0, 0)]⟩ : Gr)).nodes := (newN_ok ByteArray.empty a b).wf
theorem base_ins (N : Nt) : ins (baseG N).nodes = (List.range (inMany N.inb + (goingL N).length)).map (1 + ·) := by
  unfold baseG
  rw [inputsG_ins (base0_wf _ _)]
  rfl
theorem base_wf (N : Nt) : WF (baseG N).nodes := inputsG_wf (base0_wf _ _) _
theorem base_length (N : Nt) : (baseG N).nodes.length = 1 + (inMany N.inb + (goingL N).length) := by
  rw [base_nodes, List.length_cons, List.length_map, rowFrom_length]
  omega
theorem standR_ok (N : Nt) {j : Nat} (hj : j < N.regs.length) : (baseG N).ok (standR N j) := by
  unfold Gr.ok standR
  rw [base_length]
  split
  · rename_i hg
    have := goingTo_lt hg hj
    unfold goingL
    omega
  · unfold firstR
    split <;> omega
theorem standN_ok (N : Nt) (node : Nat) : (baseG N).ok (standN N node) := by
  unfold standN
  cases hp : posOf (N.inb.flatMap (·.lits)) node with
  | some p =>
    have hlt : p < inMany N.inb := by
      unfold posOf at hp
      exact (List.findIdx?_eq_some_iff_getElem.1 hp).1
    show 2 * (1 + p) / 2 < _
    rw [base_length]
    omega
  | none =>
    simp only
    cases hr : placeR N.regs node with
    | some j => exact standR_ok N (placeR_lt hr).1
    | none => show 0 / 2 < _; rw [base_length]; omega
theorem byN_ok (N : Nt) : ∀ x ∈ byN N, (baseG N).ok x := fun x hx => by
  obtain ⟨n, _, rfl⟩ := List.mem_map.1 hx
  exact standN_ok N n
theorem copyN_ok (N : Nt) : CpOk N.g.nodes.length (baseG N) N.g.nodes.length (copyN N) := copyG_ok (base_wf N) (byN_ok N)
theorem wanted_ok (hf : NtFine k N) : ∀ x ∈ wantedN N, N.g.ok x := fun x hx => by
  unfold wantedN at hx
  rcases List.mem_append.1 hx with hx | hx
  · exact outs_ok hf x hx
  · obtain ⟨r, hr, hx⟩ := List.mem_flatMap.1 hx
    have := hf.ok.rl r (going_in hr)
    simp only [List.mem_cons, List.not_mem_nil, or_false] at hx
    rcases hx with rfl | rfl
    · exact this.2.1
    · exact this.2.2
/-! how many there are -/
theorem pick_ins (ns : List (Nat × Nat)) (M : List Bool) : ∀ n, n ≤ ns.length → (pick n (fun j => gAt ns j && M.getD j false)).length + (ins (ns.take n)).length + min n 1 ≤ n := by
  intro n
  induction n with
  | zero => intro _; simp [pick, ins, insFrom]
  | succ n ih =>
    intro hn
    have h := ih (by omega)
    have hlt : n < ns.length := by omega
    rw [pick_succ, List.take_succ_eq_append_getElem hlt, ins_snoc, List.length_append, List.length_append, List.length_take, Nat.min_eq_left (show n ≤ ns.length by omega)]
    by_cases h0 : n = 0
    · subst h0
      have : gAt ns 0 = false := by simp [gAt]
      simp [this, pick, ins, insFrom]
    · rw [show min n 1 = 1 by omega] at h
      rw [show min (n + 1) 1 = 1 by omega]
      by_cases hi : ns[n].1 / 2 = n
      · have hg : gAt ns n = false := by
          unfold gAt
          rw [List.getD_eq_getElem?_getD, List.getElem?_eq_getElem hlt]
          simp [hi]
        have hx : (inAt n ns[n] && decide (n ≠ 0)) = true := by simp [inAt, hi, h0]
        rw [hg, hx, Bool.false_and, if_neg (by simp), if_pos rfl, List.length_nil, List.length_singleton]
        omega
      · have hx : (inAt n ns[n] && decide (n ≠ 0)) = false := by simp [inAt, hi]
        rw [hx, if_neg (show ¬ (false = true) by simp), List.length_nil]
        have : (if (gAt ns n && M.getD n false) = true then [n] else []).length ≤ 1 := by split <;> simp
        omega
theorem nodup_le {l m : List Nat} (hn : l.Nodup) (h : ∀ x ∈ l, x ∈ m) : l.length ≤ m.length := by
  induction l generalizing m with
  | nil => simp
  | cons x l ih =>
    have hx := h x (by simp)
    have h1 := List.nodup_cons.1 hn
    have h2 := ih (m := m.erase x) h1.2 (fun y hy => (List.mem_erase_of_ne (fun e => by subst e; exact h1.1 hy)).2 (h y (by simp [hy])))
    rw [List.length_erase_of_mem hx] at h2
    have := List.length_pos_of_mem hx
    rw [List.length_cons]
    omega
theorem driven_le (hf : NtFine k N) : (drivenN N).length ≤ (ins N.g.nodes).length := by
  have h1 : ∀ x ∈ drivenN N, x ∈ (ins N.g.nodes).map (2 * ·) := fun x hx => by
    obtain ⟨i, hi, rfl⟩ := hf.di x hx
    exact List.mem_map.2 ⟨i, hi, rfl⟩
  have := nodup_le hf.dn h1
  simpa using this
theorem once_length (hf : NtFine k N) : (onceN N).g.nodes.length ≤ N.g.nodes.length := by
  have h1 := copyTo_most (start_ok (base_wf N) (byN_ok N) N.g.nodes.length (ins N.g.nodes) (ins N.g.nodes).length) (ns := N.g.nodes) (M := marksL N.g.nodes (wantedN N)) N.g.nodes.length
  have h2 := pick_ins N.g.nodes (marksL N.g.nodes (wantedN N)) N.g.nodes.length (Nat.le_refl _)
  rw [List.take_length] at h2
  have h3 := driven_le hf
  unfold drivenN at h3
  rw [List.length_append, List.length_map] at h3
  have h4 := goingTo_length N N.regs.length
  have h5 := base_length N
  have hp := hf.ok.wf.pos
  show (copyN N).1.nodes.length ≤ _
  unfold copyN copyG
  unfold inMany at h5
  unfold goingL at h5
  simp only at h1
  omega
/-! what a sweep makes is well formed -/
theorem once_ins (N : Nt) : ins (onceN N).g.nodes = (List.range (inMany N.inb + (goingL N).length)).map (1 + ·) := by
  rw [← base_ins]
  exact (copyN_ok N).ext.ins
theorem once_driven (N : Nt) : drivenN (onceN N) = rowFrom 1 (inMany N.inb + (goingL N).length) := by
  unfold drivenN onceN
  show (inRows 1 N.inb).flatMap (·.lits) ++ (newRegs _ _ _).map (·.q) = _
  rw [inRows_flat, newRegs_q, rowFrom_app]
theorem once_mono (N : Nt) : 1 + (inMany N.inb + (goingL N).length) ≤ (onceN N).g.nodes.length := by
  have h := (copyN_ok N).ext.le
  rw [base_length] at h
  exact h.1
theorem over_ok (N : Nt) (x : Nat) : (onceN N).g.ok (overL (copyN N).2 x) := overL_ok (copyN_ok N).wf (copyN_ok N).ok x
theorem once_fine (hf : NtFine k N) : NtFine k (onceN N) ∧ checkN (onceN N) = 0 := by
  have hlen := once_length hf
  have hmono := once_mono N
  have hins := once_ins N
  have hdrv := once_driven N
  have hok := hf.ok
  refine ⟨⟨⟨(copyN_ok N).wf, by have := hok.len; omega, ?_, ?_, ?_, fun b hb => ?_, fun b hb => ?_, fun r hr => ?_⟩, hf.nm, ?_, ?_, ?_, fun x hx => ?_⟩, ?_⟩
  · show (inRows 1 N.inb).length ≤ k
    rw [inRows_length]; exact hok.ik
  · show (newRegs _ _ (goingL N)).length ≤ k
    rw [newRegs_length]
    have h1 := goingTo_length N N.regs.length
    have := hok.rk
    unfold goingL
    omega
  · show (N.outb.map _).length ≤ k
    rw [List.length_map]; exact hok.ok
  · obtain ⟨b0, h1, h2, h3, h4⟩ := inRows_mem hb
    obtain ⟨i1, i2, i3, _⟩ := hok.il b0 h1
    refine ⟨by omega, by omega, by rw [h2]; exact i3, fun x hx => ?_⟩
    obtain ⟨i, j1, j2, rfl⟩ := h4 x hx
    show 2 * i / 2 < _
    omega
  · obtain ⟨b0, h1, rfl⟩ := List.mem_map.1 hb
    obtain ⟨i1, i2, i3, _⟩ := hok.ol b0 h1
    refine ⟨by simpa using i1, by simpa using i2, i3, fun x hx => ?_⟩
    obtain ⟨y, _, rfl⟩ := List.mem_map.1 hx
    exact over_ok N y
  · obtain ⟨i, r0, h1, rfl⟩ := newRegs_mem hr
    have hi := (List.getElem?_eq_some_iff.1 h1).1
    refine ⟨?_, over_ok N _, over_ok N _⟩
    show 2 * (1 + inMany N.inb + i) / 2 < _
    omega
  · show ((inRows 1 N.inb).map (·.name)).Pairwise (· ≠ ·)
    rw [inRows_names]; exact hf.ni
  · show ((N.outb.map fun b => (⟨b.name, b.lits.map (overL (copyN N).2)⟩ : Bus)).map fun b => b.name).Pairwise (· ≠ ·)
    rw [List.map_map]; exact hf.no
  · rw [hdrv]; exact rowFrom_nodup _ _
  · rw [hdrv] at hx
    obtain ⟨i, h1, h2, rfl⟩ := mem_rowFrom.1 hx
    refine ⟨i, ?_, rfl⟩
    rw [hins]
    exact List.mem_map.2 ⟨i - 1, List.mem_range.2 (by omega), by omega⟩
  · unfold checkN
    rw [if_pos]
    unfold fullB
    rw [List.all_eq_true, hins]
    intro i hi
    obtain ⟨j, hj, rfl⟩ := List.mem_map.1 hi
    have := List.mem_range.1 hj
    rw [hdrv]
    simp only [List.contains_iff_mem]
    exact mem_rowFrom.2 ⟨1 + j, by omega, by omega, rfl⟩
/-! again and again -/
def leantN (N : Nt) : List Nat := outsN N ++ N.regs.flatMap fun r => [r.d, r.en]
def reachedN (N : Nt) : Nat := ((reachL N.g.nodes (leantN N)).filter (gAt N.g.nodes)).length
def gatesX (N : Nt) : Nat := N.g.nodes.length - 1 - (ins N.g.nodes).length
def doneN (N : Nt) : Bool := !(neededN N).contains false && !N.regs.any stuckR && decide (reachedN N = gatesX N)
def allGo : Nat → Nt → Nt
  | 0, N => N
  | f + 1, N => if doneN (onceN N) then onceN N else allGo f (onceN N)
/-- registers and gates -/
def sizeN (N : Nt) : Nat := N.regs.length + gatesX N
def allN (N : Nt) : Nt := allGo (sizeN N + 2) N
theorem going_all {N : Nt} (h : ∀ j, j < N.regs.length → goesB N j = true) : ∀ m, m ≤ N.regs.length → goingTo N m = N.regs.take m := by
  intro m
  induction m with
  | zero => intro _; rfl
  | succ m ih =>
    intro hm
    simp only [goingTo]
    rw [ih (by omega), if_pos (h m hm), List.take_succ_eq_append_getElem (show m < N.regs.length from hm), List.getD_eq_getElem?_getD, List.getElem?_eq_getElem (show m < N.regs.length from hm)]
    rfl
theorem pick_filter (n : Nat) (P Q : Nat → Bool) : (pick n P).filter Q = pick n (fun j => Q j && P j) := by
  unfold pick
  rw [List.filter_filter]
/-- gates of what is made: no more than were leant on -/
theorem once_gates (hf : NtFine k N) : gatesX (onceN N) ≤ (pick N.g.nodes.length (fun j => gAt N.g.nodes j && (marksL N.g.nodes (wantedN N)).getD j false)).length := by
  have h1 := copyTo_most (start_ok (base_wf N) (byN_ok N) N.g.nodes.length (ins N.g.nodes) (ins N.g.nodes).length) (ns := N.g.nodes) (M := marksL N.g.nodes (wantedN N)) N.g.nodes.length
  have h2 := once_ins N
  have h3 := base_length N
  unfold gatesX
  rw [h2, List.length_map, List.length_range]
  show (copyN N).1.nodes.length - 1 - _ ≤ _
  unfold copyN copyG
  simp only at h1
  omega
end Go.Proofs.Ytdmcdhkkbkgnbaa
