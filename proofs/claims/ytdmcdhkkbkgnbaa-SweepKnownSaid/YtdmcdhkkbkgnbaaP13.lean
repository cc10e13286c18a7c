/-
  Package sweep, plain: which registers are needed, which are stuck.
-/
import Derived.Test.YtdmcdhkkbkgnbaaP03
import Derived.Test.YtdmcdhkkbkgnbaaP12
namespace Go.Proofs.Ytdmcdhkkbkgnbaa
set_option linter.unusedVariables false
set_option linter.unusedSimpArgs false

variable {N : Nt} {k : Nat}
/-- node m is leant on by node n, by gates -/
inductive Cn (ns : List (Nat × Nat)) (n : Nat) : Nat → Prop
  | self : Cn ns n n
  | ga {m : Nat} : Cn ns n m → gAt ns m = true → Cn ns n (gA ns m / 2)
  | gb {m : Nat} : Cn ns n m → gAt ns m = true → Cn ns n (gB ns m / 2)
theorem marks_cn {ns : List (Nat × Nat)} (hw : WF ns) {l : List Nat} (hl : ∀ x ∈ l, x / 2 < ns.length) (m : Nat) : (marksL ns l).getD m false = true ↔ m ≠ 0 ∧ ∃ x ∈ l, Cn ns (x / 2) m := by
  have h := marks_ok hw hl
  constructor
  · intro hm
    refine ⟨(h.why m hm).1, ?_⟩
    -- from below up: the leaning node is greater
    have key : ∀ d m, ns.length - m ≤ d → (marksL ns l).getD m false = true → ∃ x ∈ l, Cn ns (x / 2) m := by
      intro d
      induction d with
      | zero =>
        intro m hd hm
        have := (h.why m hm).2.1
        omega
      | succ d ih =>
        intro m hd hm
        obtain ⟨h0, h1, h2⟩ := h.why m hm
        rcases h2 with ⟨x, hx, rfl⟩ | ⟨n, n1, n2, n3, n4⟩
        · exact ⟨x, hx, .self⟩
        · obtain ⟨x, hx, hc⟩ := ih n (by omega) n3
          rcases n4 with rfl | rfl
          · exact ⟨x, hx, .ga hc n2⟩
          · exact ⟨x, hx, .gb hc n2⟩
    exact key ns.length m (by omega) hm
  · rintro ⟨h0, x, hx, hc⟩
    induction hc with
    | self => exact h.has x hx h0
    | @ga m' hc' hg ih =>
      have hm0 : m' ≠ 0 := by have := (gAt_lt hw hg).2.2.1; omega
      exact (h.down m' hg (ih hm0)).1 h0
    | @gb m' hc' hg ih =>
      have hm0 : m' ≠ 0 := by have := (gAt_lt hw hg).2.2.1; omega
      exact (h.down m' hg (ih hm0)).2 h0
theorem sup_cn {ns : List (Nat × Nat)} (hw : WF ns) {l : List Nat} (hl : ∀ x ∈ l, x / 2 < ns.length) (m : Nat) : m ∈ supportL ns l ↔ m ≠ 0 ∧ gAt ns m = false ∧ ∃ x ∈ l, Cn ns (x / 2) m := by
  unfold supportL pick
  rw [List.mem_filter, List.mem_range, Bool.and_eq_true, marks_cn hw hl]
  have hc : (∃ x ∈ l, Cn ns (x / 2) m) → m < ns.length := by
    rintro ⟨x, hx, h⟩
    cases h with
    | self => exact hl x hx
    | ga _ hg => have := gAt_lt hw hg; omega
    | gb _ hg => have := gAt_lt hw hg; omega
  constructor
  · rintro ⟨_, ⟨h1, h2⟩, h3⟩
    exact ⟨h1, by simpa using h3, h2⟩
  · rintro ⟨h1, h2, h3⟩
    exact ⟨hc h3, ⟨h1, h3⟩, by simpa using h2⟩
def firstR (r : Rg) : Nat := if r.init then 1 else 0
def stuckR (r : Rg) : Bool := decide (r.en = 0) || decide (r.d = r.q) || decide (r.d = firstR r)
def outsN (N : Nt) : List Nat := N.outb.flatMap (·.lits)
/-- which register's a node is -/
def placeR (l : List Rg) (node : Nat) : Option Nat := l.findIdx? fun r => decide (r.q / 2 = node)
/-- a node that is met: the register there is needed, and what it takes is still to be done -/
def meetR (N : Nt) (s : List Bool × List Nat) (node : Nat) : List Bool × List Nat :=
  match placeR N.regs node with
  | some k => if s.1.getD k false then s else (s.1.set k true, s.2 ++ [(N.regs.getD k ⟨0, 0, 0, false⟩).d, (N.regs.getD k ⟨0, 0, 0, false⟩).en])
  | none => s
def moreR (N : Nt) (nd : List Bool) (todo : List Nat) : List Bool × List Nat := (supportL N.g.nodes todo).foldl (meetR N) (nd, [])
def needGo (N : Nt) : Nat → List Bool → List Nat → List Bool
  | 0, nd, _ => nd
  | f + 1, nd, todo => if (moreR N nd todo).2 = [] then (moreR N nd todo).1 else needGo N f (moreR N nd todo).1 (moreR N nd todo).2
def neededN (N : Nt) : List Bool := needGo N (N.regs.length + 1) (List.replicate N.regs.length false) (outsN N)
/-! how often -/
def falses (l : List Bool) : Nat := l.countP (· == false)
theorem falses_set {l : List Bool} {k : Nat} (hk : k < l.length) (h : l.getD k false = false) : falses (l.set k true) + 1 = falses l := by
  induction l generalizing k with
  | nil => simp at hk
  | cons b l ih =>
    cases k with
    | zero => simp at h; subst h; simp [falses]
    | succ k =>
      have := ih (k := k) (by simpa using hk) (by simpa using h)
      unfold falses at *
      rw [List.set_cons_succ, List.countP_cons, List.countP_cons]
      omega
theorem placeR_lt {l : List Rg} {node k : Nat} (h : placeR l node = some k) : k < l.length ∧ (l.getD k ⟨0, 0, 0, false⟩).q / 2 = node := by
  unfold placeR at h
  rw [List.findIdx?_eq_some_iff_getElem] at h
  obtain ⟨h1, h2, _⟩ := h
  refine ⟨h1, ?_⟩
  rw [List.getD_eq_getElem?_getD, List.getElem?_eq_getElem h1]
  simpa using h2
/-- what is known of one look half done -/
structure MeetOk (N : Nt) (nd0 : List Bool) (done : List Nat) (s : List Bool × List Nat) : Prop where
  len : s.1.length = N.regs.length
  up : ∀ j, nd0.getD j false = true → s.1.getD j false = true
  why : ∀ j, s.1.getD j false = true → nd0.getD j false = true ∨ (j < N.regs.length ∧ (N.regs.getD j ⟨0, 0, 0, false⟩).q / 2 ∈ done)
  tod : ∀ x ∈ s.2, ∃ j, j < N.regs.length ∧ nd0.getD j false = false ∧ s.1.getD j false = true ∧ (x = (N.regs.getD j ⟨0, 0, 0, false⟩).d ∨ x = (N.regs.getD j ⟨0, 0, 0, false⟩).en)
  all : ∀ j, j < N.regs.length → nd0.getD j false = false → s.1.getD j false = true → (N.regs.getD j ⟨0, 0, 0, false⟩).d ∈ s.2 ∧ (N.regs.getD j ⟨0, 0, 0, false⟩).en ∈ s.2
  met : ∀ j node, node ∈ done → placeR N.regs node = some j → s.1.getD j false = true
  cnt : falses s.1 ≤ falses nd0 ∧ (s.2 ≠ [] → falses s.1 < falses nd0)
  twice : s.2.length + 2 * falses s.1 = 2 * falses nd0
theorem getBs {l : List Bool} {i j : Nat} {v : Bool} (h : i < l.length) : (l.set i v).getD j false = if j = i then v else l.getD j false := getB_set h
theorem MeetOk.step {nd0 : List Bool} {done : List Nat} {s : List Bool × List Nat} (h : MeetOk N nd0 done s) (node : Nat) : MeetOk N nd0 (done ++ [node]) (meetR N s node) := by
  have keep : ∀ j, (s.1.getD j false = true → nd0.getD j false = true ∨ (j < N.regs.length ∧ (N.regs.getD j ⟨0, 0, 0, false⟩).q / 2 ∈ done ++ [node])) := fun j hj => (h.why j hj).imp id fun x => ⟨x.1, List.mem_append_left _ x.2⟩
  unfold meetR
  cases hp : placeR N.regs node with
  | none =>
    refine ⟨h.len, h.up, keep, h.tod, h.all, fun j nd hm hj => ?_, h.cnt, h.twice⟩
    rcases List.mem_append.1 hm with hm | hm
    · exact h.met j nd hm hj
    · rw [List.mem_singleton] at hm
      subst hm
      rw [hp] at hj; cases hj
  | some k =>
    obtain ⟨hk, hq⟩ := placeR_lt hp
    simp only
    by_cases hs : s.1.getD k false = true
    · rw [if_pos hs]
      refine ⟨h.len, h.up, keep, h.tod, h.all, fun j nd hm hj => ?_, h.cnt, h.twice⟩
      rcases List.mem_append.1 hm with hm | hm
      · exact h.met j nd hm hj
      · rw [List.mem_singleton] at hm
        subst hm
        rw [hp] at hj
        injection hj with hj
        subst hj
        exact hs
    · rw [if_neg hs]
      have hs' : s.1.getD k false = false := by simpa using hs
      have hkl : k < s.1.length := by rw [h.len]; exact hk
      have hget := fun j => getBs (j := j) (v := true) hkl
      have h0 : nd0.getD k false = false := by
        cases hh : nd0.getD k false with
        | false => rfl
        | true => exact absurd (h.up k hh) hs
      have hc := falses_set hkl hs'
      refine ⟨by simp [h.len], fun j hj => ?_, fun j hj => ?_, fun x hx => ?_, fun j hj h1 h2 => ?_, fun j nd hm hj => ?_, ?_, ?_⟩
      · show (s.1.set k true).getD j false = true
        rw [hget]
        split
        · rfl
        · exact h.up j hj
      · replace hj : (s.1.set k true).getD j false = true := hj
        rw [hget] at hj
        by_cases e : j = k
        · subst e
          exact .inr ⟨hk, by rw [hq]; simp⟩
        · rw [if_neg e] at hj
          exact keep j hj
      · rcases List.mem_append.1 hx with hx | hx
        · obtain ⟨j, j1, j2, j3, j4⟩ := h.tod x hx
          refine ⟨j, j1, j2, ?_, j4⟩
          show (s.1.set k true).getD j false = true
          rw [hget]
          split
          · rfl
          · exact j3
        · refine ⟨k, hk, h0, ?_, ?_⟩
          · show (s.1.set k true).getD k false = true
            rw [hget, if_pos rfl]
          · simpa using hx
      · replace h2 : (s.1.set k true).getD j false = true := h2
        rw [hget] at h2
        by_cases e : j = k
        · subst e
          exact ⟨List.mem_append_right _ (by simp), List.mem_append_right _ (by simp)⟩
        · rw [if_neg e] at h2
          obtain ⟨a, b⟩ := h.all j hj h1 h2
          exact ⟨List.mem_append_left _ a, List.mem_append_left _ b⟩
      · show (s.1.set k true).getD j false = true
        rw [hget]
        split
        · rfl
        · rename_i e
          rcases List.mem_append.1 hm with hm | hm
          · exact h.met j nd hm hj
          · rw [List.mem_singleton] at hm
            subst hm
            rw [hp] at hj
            injection hj with hj
            exact absurd hj.symm e
      · have := h.cnt.1
        exact ⟨by show falses (s.1.set k true) ≤ _; omega, fun _ => by show falses (s.1.set k true) < _; omega⟩
      · have := h.twice
        show (s.2 ++ _).length + 2 * falses (s.1.set k true) = _
        rw [List.length_append]
        simp only [List.length_cons, List.length_nil]
        omega
theorem meet_all {nd0 : List Bool} (hl : nd0.length = N.regs.length) (l : List Nat) : MeetOk N nd0 l (l.foldl (meetR N) (nd0, [])) := by
  suffices h : ∀ (l done : List Nat) (s : List Bool × List Nat), MeetOk N nd0 done s → MeetOk N nd0 (done ++ l) (l.foldl (meetR N) s) by
    have h2 := h l [] (nd0, []) ⟨hl, fun _ h => h, fun _ h => .inl h, by simp, fun j _ h1 h2 => (by rw [h1] at h2; cases h2), by simp, ⟨Nat.le_refl _, fun h => absurd rfl h⟩, by simp⟩
    simpa using h2
  intro l
  induction l with
  | nil => intro done s h; simpa using h
  | cons x l ih =>
    intro done s h
    have := ih (done ++ [x]) _ (h.step x)
    rw [List.append_assoc] at this
    exact this
theorem needGo_more (f : Nat) (nd : List Bool) (todo : List Nat) (hl : nd.length = N.regs.length) (hf : falses nd < f + 1) : needGo N (f + 1) nd todo = if (moreR N nd todo).2 = [] then (moreR N nd todo).1 else needGo N (falses (moreR N nd todo).1 + 1) (moreR N nd todo).1 (moreR N nd todo).2 := by
  have key : ∀ (c f1 f2 : Nat) (nd : List Bool) (todo : List Nat), falses nd ≤ c → nd.length = N.regs.length → falses nd < f1 → falses nd < f2 → needGo N f1 nd todo = needGo N f2 nd todo := by
    intro c
    induction c with
    | zero =>
      intro f1 f2 nd todo hc hl h1 h2
      obtain ⟨f1, rfl⟩ : ∃ g, f1 = g + 1 := ⟨f1 - 1, by omega⟩
      obtain ⟨f2, rfl⟩ : ∃ g, f2 = g + 1 := ⟨f2 - 1, by omega⟩
      have hm := meet_all (nd0 := nd) hl (supportL N.g.nodes todo)
      have he : (moreR N nd todo).2 = [] := by
        apply Classical.byContradiction
        intro hne
        have := hm.cnt.2 hne
        omega
      simp only [needGo, he, if_true]
    | succ c ih =>
      intro f1 f2 nd todo hc hl h1 h2
      obtain ⟨f1, rfl⟩ : ∃ g, f1 = g + 1 := ⟨f1 - 1, by omega⟩
      obtain ⟨f2, rfl⟩ : ∃ g, f2 = g + 1 := ⟨f2 - 1, by omega⟩
      have hm := meet_all (nd0 := nd) hl (supportL N.g.nodes todo)
      simp only [needGo]
      split
      · rfl
      · rename_i hne
        have h3 : falses (moreR N nd todo).1 < falses nd := hm.cnt.2 hne
        exact ih _ _ _ _ (by omega) hm.len (by omega) (by omega)
  have hm := meet_all (nd0 := nd) hl (supportL N.g.nodes todo)
  have hlen : (moreR N nd todo).1.length = N.regs.length := hm.len
  show (if (moreR N nd todo).2 = [] then (moreR N nd todo).1 else needGo N f (moreR N nd todo).1 (moreR N nd todo).2) = _
  split
  · rfl
  · rename_i hne
    have h3 : falses (moreR N nd todo).1 < falses nd := hm.cnt.2 hne
    exact key (falses (moreR N nd todo).1) _ _ (moreR N nd todo).1 _ (Nat.le_refl _) hlen (by omega) (by omega)
/-! who is needed -/
/-- a node that what goes out leans on, by gates and through registers -/
inductive Nd (N : Nt) : Nat → Prop
  | out {x : Nat} : x ∈ outsN N → Nd N (x / 2)
  | ga {n : Nat} : Nd N n → gAt N.g.nodes n = true → Nd N (gA N.g.nodes n / 2)
  | gb {n : Nat} : Nd N n → gAt N.g.nodes n = true → Nd N (gB N.g.nodes n / 2)
  | rd {r : Rg} : r ∈ N.regs → Nd N (r.q / 2) → Nd N (r.d / 2)
  | re {r : Rg} : r ∈ N.regs → Nd N (r.q / 2) → Nd N (r.en / 2)
theorem Nd.cn {n m : Nat} (h : Nd N n) (hc : Cn N.g.nodes n m) : Nd N m := by
  induction hc with
  | self => exact h
  | ga _ hg ih => exact .ga ih hg
  | gb _ hg ih => exact .gb ih hg
/-- what is known between two looks -/
structure NeedOk (N : Nt) (nd : List Bool) (todo : List Nat) : Prop where
  len : nd.length = N.regs.length
  snd : ∀ j, nd.getD j false = true → Nd N ((N.regs.getD j ⟨0, 0, 0, false⟩).q / 2)
  std : ∀ x ∈ todo, Nd N (x / 2) ∧ N.g.ok x
  cls : ∀ x, (x ∈ outsN N ∨ ∃ j, j < N.regs.length ∧ nd.getD j false = true ∧ (x = (N.regs.getD j ⟨0, 0, 0, false⟩).d ∨ x = (N.regs.getD j ⟨0, 0, 0, false⟩).en)) → x ∈ todo ∨ ∀ j, j < N.regs.length → Cn N.g.nodes (x / 2) ((N.regs.getD j ⟨0, 0, 0, false⟩).q / 2) → nd.getD j false = true
theorem getD_regs {l : List Rg} {j : Nat} (h : j < l.length) : l.getD j ⟨0, 0, 0, false⟩ ∈ l := by
  rw [List.getD_eq_getElem?_getD, List.getElem?_eq_getElem h]
  exact List.getElem_mem h
/-- registers' nodes are inputs, each another -/
theorem regs_apart (hf : NtFine k N) : (∀ r ∈ N.regs, r.q / 2 ≠ 0 ∧ gAt N.g.nodes (r.q / 2) = false ∧ r.q = 2 * (r.q / 2)) ∧ ∀ i j, i < N.regs.length → j < N.regs.length → (N.regs.getD i ⟨0, 0, 0, false⟩).q / 2 = (N.regs.getD j ⟨0, 0, 0, false⟩).q / 2 → i = j := by
  have hin : ∀ r ∈ N.regs, ∃ i ∈ ins N.g.nodes, r.q = 2 * i := fun r hr => hf.di r.q (by unfold drivenN; exact List.mem_append_right _ (List.mem_map_of_mem hr))
  refine ⟨fun r hr => ?_, fun i j hi hj he => ?_⟩
  · obtain ⟨i, hi, hq⟩ := hin r hr
    obtain ⟨h0, a, b, hab, hai⟩ := ins_of hi
    have e : r.q / 2 = i := by omega
    rw [e]
    refine ⟨h0, ?_, by omega⟩
    unfold gAt
    rw [List.getD_eq_getElem?_getD, hab]
    simp [hai]
  · obtain ⟨x, _, hx⟩ := hin _ (getD_regs hi)
    obtain ⟨y, _, hy⟩ := hin _ (getD_regs hj)
    have hq : (N.regs.getD i ⟨0, 0, 0, false⟩).q = (N.regs.getD j ⟨0, 0, 0, false⟩).q := by omega
    have hn : (N.regs.map (·.q)).Nodup := by
      have h := hf.dn
      unfold drivenN at h
      exact (List.nodup_append.1 h).2.1
    have h1 : (N.regs.map (·.q))[i]'(by simpa using hi) = (N.regs.map (·.q))[j]'(by simpa using hj) := by
      rw [List.getElem_map, List.getElem_map]
      rw [List.getD_eq_getElem?_getD, List.getElem?_eq_getElem hi, List.getD_eq_getElem?_getD, List.getElem?_eq_getElem hj] at hq
      exact hq
    exact (List.getElem_inj hn).1 h1
theorem placeR_of (hf : NtFine k N) {j : Nat} (hj : j < N.regs.length) : placeR N.regs ((N.regs.getD j ⟨0, 0, 0, false⟩).q / 2) = some j := by
  cases hp : placeR N.regs ((N.regs.getD j ⟨0, 0, 0, false⟩).q / 2) with
  | none =>
    unfold placeR at hp
    rw [List.findIdx?_eq_none_iff] at hp
    have := hp _ (getD_regs hj)
    simp at this
  | some i =>
    obtain ⟨h1, h2⟩ := placeR_lt hp
    rw [(regs_apart hf).2 i j h1 hj h2]
theorem NeedOk.more (hf : NtFine k N) {nd : List Bool} {todo : List Nat} (h : NeedOk N nd todo) : NeedOk N (moreR N nd todo).1 (moreR N nd todo).2 := by
  have hw := hf.ok.wf
  have hl : ∀ x ∈ todo, x / 2 < N.g.nodes.length := fun x hx => (h.std x hx).2
  have hm := meet_all (nd0 := nd) h.len (supportL N.g.nodes todo)
  have hsnd : ∀ j, (moreR N nd todo).1.getD j false = true → Nd N ((N.regs.getD j ⟨0, 0, 0, false⟩).q / 2) := fun j hj => by
    rcases hm.why j hj with h1 | ⟨h1, h2⟩
    · exact h.snd j h1
    · obtain ⟨_, _, x, hx, hc⟩ := (sup_cn hw hl _).1 h2
      exact (h.std x hx).1.cn hc
  refine ⟨hm.len, hsnd, fun x hx => ?_, fun x hx => ?_⟩
  · obtain ⟨j, h1, _, h3, h4⟩ := hm.tod x hx
    have hr := getD_regs h1
    have hok := hf.ok.rl _ hr
    rcases h4 with rfl | rfl
    · exact ⟨.rd hr (hsnd j h3), hok.2.1⟩
    · exact ⟨.re hr (hsnd j h3), hok.2.2⟩
  · -- closed again
    have closed : ∀ y, (y ∈ outsN N ∨ ∃ j, j < N.regs.length ∧ nd.getD j false = true ∧ (y = (N.regs.getD j ⟨0, 0, 0, false⟩).d ∨ y = (N.regs.getD j ⟨0, 0, 0, false⟩).en)) → ∀ j, j < N.regs.length → Cn N.g.nodes (y / 2) ((N.regs.getD j ⟨0, 0, 0, false⟩).q / 2) → (moreR N nd todo).1.getD j false = true := by
      intro y hy j hj hc
      rcases h.cls y hy with h1 | h1
      · have hr := (regs_apart hf).1 _ (getD_regs hj)
        exact hm.met j _ ((sup_cn hw hl _).2 ⟨hr.1, hr.2.1, y, h1, hc⟩) (placeR_of hf hj)
      · exact hm.up j (h1 j hj hc)
    rcases hx with hx | ⟨j, j1, j2, j3⟩
    · exact .inr (closed x (.inl hx))
    · cases h0 : nd.getD j false with
      | true => exact .inr (closed x (.inr ⟨j, j1, h0, j3⟩))
      | false =>
        obtain ⟨a, b⟩ := hm.all j j1 h0 j2
        rcases j3 with rfl | rfl
        · exact .inl a
        · exact .inl b
theorem need_go (hf : NtFine k N) : ∀ (c : Nat) (nd : List Bool) (todo : List Nat), falses nd ≤ c → NeedOk N nd todo → NeedOk N (needGo N (falses nd + 1) nd todo) [] := by
  intro c
  induction c with
  | zero =>
    intro nd todo hc h
    have hm := meet_all (nd0 := nd) h.len (supportL N.g.nodes todo)
    have h2 := h.more hf
    rw [needGo_more _ _ _ h.len (by omega)]
    split
    · rename_i he
      rw [he] at h2
      exact h2
    · rename_i hne
      have := hm.cnt.2 hne
      omega
  | succ c ih =>
    intro nd todo hc h
    have hm := meet_all (nd0 := nd) h.len (supportL N.g.nodes todo)
    have h2 := h.more hf
    rw [needGo_more _ _ _ h.len (by omega)]
    split
    · rename_i he
      rw [he] at h2
      exact h2
    · rename_i hne
      have h3 : falses (moreR N nd todo).1 < falses nd := hm.cnt.2 hne
      exact ih _ _ (by omega) h2
theorem falses_new (n : Nat) : falses (List.replicate n false) = n := by
  unfold falses
  rw [List.countP_eq_length.2 (by simp), List.length_replicate]
theorem outs_ok (hf : NtFine k N) : ∀ x ∈ outsN N, N.g.ok x := fun x hx => by
  unfold outsN at hx
  obtain ⟨b, hb, hxb⟩ := List.mem_flatMap.1 hx
  exact (hf.ok.ol b hb).2.2.2 x hxb
theorem need_end (hf : NtFine k N) : NeedOk N (neededN N) [] := by
  have h := need_go hf _ (List.replicate N.regs.length false) (outsN N) (Nat.le_refl _) ⟨by simp, fun j hj => by
    rw [List.getD_eq_getElem?_getD, List.getElem?_replicate] at hj
    split at hj <;> simp at hj, fun x hx => ⟨.out hx, outs_ok hf x hx⟩, fun x hx => .inl (by
    rcases hx with hx | ⟨j, _, hj, _⟩
    · exact hx
    · rw [List.getD_eq_getElem?_getD, List.getElem?_replicate] at hj
      split at hj <;> simp at hj)⟩
  rw [falses_new] at h
  exact h
/-- a register is needed just if what goes out leans on it -/
theorem needed_iff (hf : NtFine k N) {j : Nat} (hj : j < N.regs.length) : (neededN N).getD j false = true ↔ Nd N ((N.regs.getD j ⟨0, 0, 0, false⟩).q / 2) := by
  have h := need_end hf
  have hz : ∀ j, j < N.regs.length → (N.regs.getD j ⟨0, 0, 0, false⟩).q / 2 ≠ 0 := fun j hj => ((regs_apart hf).1 _ (getD_regs hj)).1
  constructor
  · exact h.snd j
  · intro hn
    have key : ∀ n, Nd N n → n = 0 ∨ ∃ x, (x ∈ outsN N ∨ ∃ j, j < N.regs.length ∧ (neededN N).getD j false = true ∧ (x = (N.regs.getD j ⟨0, 0, 0, false⟩).d ∨ x = (N.regs.getD j ⟨0, 0, 0, false⟩).en)) ∧ Cn N.g.nodes (x / 2) n := by
      intro n hn
      have reg : ∀ r ∈ N.regs, (r.q / 2 = 0 ∨ ∃ x, (x ∈ outsN N ∨ ∃ j, j < N.regs.length ∧ (neededN N).getD j false = true ∧ (x = (N.regs.getD j ⟨0, 0, 0, false⟩).d ∨ x = (N.regs.getD j ⟨0, 0, 0, false⟩).en)) ∧ Cn N.g.nodes (x / 2) (r.q / 2)) → ∃ j, j < N.regs.length ∧ (neededN N).getD j false = true ∧ N.regs.getD j ⟨0, 0, 0, false⟩ = r := by
        intro r hr hh
        obtain ⟨j, hj, rfl⟩ := List.getElem_of_mem hr
        have e : N.regs.getD j ⟨0, 0, 0, false⟩ = N.regs[j] := by rw [List.getD_eq_getElem?_getD, List.getElem?_eq_getElem hj]; rfl
        rcases hh with h0 | ⟨x, hx, hc⟩
        · exact absurd h0 (by rw [← e]; exact hz j hj)
        · rcases h.cls x hx with h1 | h1
          · simp at h1
          · exact ⟨j, hj, h1 j hj (by rw [e]; exact hc), e⟩
      induction hn with
      | @out x hx => exact .inr ⟨x, .inl hx, .self⟩
      | @ga n hn hg ih =>
        rcases ih with h0 | ⟨x, hx, hc⟩
        · subst h0; simp [gAt] at hg
        · exact .inr ⟨x, hx, .ga hc hg⟩
      | @gb n hn hg ih =>
        rcases ih with h0 | ⟨x, hx, hc⟩
        · subst h0; simp [gAt] at hg
        · exact .inr ⟨x, hx, .gb hc hg⟩
      | @rd r hr hn ih =>
        obtain ⟨j, j1, j2, rfl⟩ := reg r hr ih
        exact .inr ⟨_, .inr ⟨j, j1, j2, .inl rfl⟩, .self⟩
      | @re r hr hn ih =>
        obtain ⟨j, j1, j2, rfl⟩ := reg r hr ih
        exact .inr ⟨_, .inr ⟨j, j1, j2, .inr rfl⟩, .self⟩
    rcases key _ hn with h0 | ⟨x, hx, hc⟩
    · exact absurd h0 (hz j hj)
    · rcases h.cls x hx with h1 | h1
      · simp at h1
      · exact h1 j hj hc
theorem needed_length (hf : NtFine k N) : (neededN N).length = N.regs.length := (need_end hf).len
end Go.Proofs.Ytdmcdhkkbkgnbaa
