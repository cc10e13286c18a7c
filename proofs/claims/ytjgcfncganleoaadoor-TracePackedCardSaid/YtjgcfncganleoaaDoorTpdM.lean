/-
  Law 09, TracePacked, plain: tables whose rows are turned round; where they lie.
-/
import Derived.Test.YtjgcfncganleoaaDoorTpB
import Derived.Test.YtjgcfncganleoaaDoorLnL
import Derived.Test.YtjgcfncganleoaaDoorTrcT
import Derived.Test.YtjgcfncganleoaaDoorTdT
namespace Go.Proofs.YtjgcfncganleoaaDoor
open Go.ChangeShapes Go.WideShapes Go.ChangeAt Go.RowKit
set_option linter.unusedVariables false
set_option linter.unusedSimpArgs false

variable {w w' w1 W : World}
def madeT (F : Tb) (i : Nat) : Tb := ⟨F.bs, F.rs.drop (i % F.rs.length) ++ F.rs.take (i % F.rs.length / 2)⟩
def madeTs (F : Tb) (j : Nat) : List Tb := (List.range j).map (madeT F)
theorem madeTs_succ (F : Tb) (j : Nat) : madeTs F (j + 1) = madeTs F j ++ [madeT F j] := by simp [madeTs, List.range_succ]
theorem madeTs_len (F : Tb) (j : Nat) : (madeTs F j).length = j := by simp [madeTs]
theorem made_len (F : Tb) (i : Nat) : (madeT F i).rs.length ≤ F.rs.length := by
  simp only [madeT, List.length_append, List.length_drop, List.length_take]
  rcases Nat.eq_zero_or_pos F.rs.length with h | h
  · omega
  · have := Nat.mod_lt i h
    omega
theorem made_may {F : Tb} (h : mayT F = true) (i : Nat) : mayT (madeT F i) = true := by
  obtain ⟨h1, h2, h3, h4, h5⟩ := (mayT_iff F).1 h
  refine (mayT_iff _).2 ⟨h1, h2, h3, fun r hr => ?_, Nat.le_trans (made_len F i) h5⟩
  simp only [madeT] at hr
  rcases List.mem_append.1 hr with hr | hr
  · exact h4 r (List.mem_of_mem_drop hr)
  · exact h4 r (List.mem_of_mem_take hr)
theorem made_zero (F : Tb) : madeT F 0 = F := by simp [madeT]
theorem made_bs0 (F : Tb) {m : Nat} (hm : 1 ≤ m) : bs0 (madeTs F m) = F.bs := by
  obtain ⟨k, rfl⟩ : ∃ k, m = k + 1 := ⟨m - 1, by omega⟩
  simp [madeTs, List.range_succ_eq_map, bs0, madeT]
theorem made_good {F : Tb} (h : mayT F = true) {m : Nat} (hm : 1 ≤ m) (h64 : m ≤ 64) : packBad (madeTs F m) = false := by
  unfold packBad
  rw [made_bs0 F hm, madeTs_len, decide_eq_false (by omega), decide_eq_false (by omega), Bool.false_or, Bool.false_or, List.any_eq_false]
  intro t ht
  obtain ⟨i, _, rfl⟩ := List.mem_map.1 ht
  rw [made_may h i]
  simp [madeT]
theorem made_some {F : Tb} {m at_ : Nat} (hm : 1 ≤ m) (hat : at_ < F.rs.length) : packNone (at_ : Int) (madeTs F m) = false := by
  unfold packNone
  rw [decide_eq_false (by omega), Bool.false_or, Bool.not_eq_false', List.any_eq_true]
  refine ⟨F, ?_, by simpa using hat⟩
  unfold madeTs
  rw [List.mem_map]
  exact ⟨0, List.mem_range.2 (by omega), made_zero F⟩
def tvCells (vs : List TV) : List Value := vs.flatMap fun x => [.slice x.ba x.t.bs.length x.bc, .slice x.ra x.t.rs.length x.rc]
theorem tvCells_snoc (vs : List TV) (x : TV) : tvCells vs ++ [.slice x.ba x.t.bs.length x.bc, .slice x.ra x.t.rs.length x.rc] = tvCells (vs ++ [x]) := by simp [tvCells]
theorem tvCells_length (vs : List TV) : (tvCells vs).length = 2 * vs.length := by
  induction vs with
  | nil => rfl
  | cons p vs ih => simp [tvCells] at ih ⊢; omega
theorem tvCells_get (vs : List TV) (i : Nat) (p : TV) (h : vs[i]? = some p) : (tvCells vs)[2 * i]? = some (.slice p.ba p.t.bs.length p.bc) ∧ (tvCells vs)[2 * i + 1]? = some (.slice p.ra p.t.rs.length p.rc) := by
  induction vs generalizing i with
  | nil => simp at h
  | cons q vs ih =>
    cases i with
    | zero => simp at h; subst h; simp [tvCells]
    | succ i =>
      have := ih i (by simpa using h)
      have e1 : 2 * (i + 1) = (2 * i) + 1 + 1 := by omega
      rw [e1]
      simpa [tvCells] using this
/-- the call's own tables, their rows those of a table wl0 -/
structure MadeAt (w0 wr : World) (F : Tb) (ba : Option Addr) (bc : Nat) (wl0 : List WR) (la : Option Addr) (j lc : Nat) (vs : List TV) : Prop where
  own : wr.ownsRow 0 25 2 (.slice la j lc) j (tvCells vs)
  each : ∀ x ∈ vs, x.ba = ba ∧ x.bc = bc ∧ x.t.bs = F.bs ∧ Own wr 33 x.ra x.t.rs.length x.rc (wrCells x.wl) ∧ x.wl.map (·.l) = x.t.rs ∧ ∀ r ∈ x.wl, r ∈ wl0
  ts : vs.map (·.t) = madeTs F j
  kept : Kept [] w0 wr
  fresh : ∀ b ∈ ft la, w0.heap.size ≤ b
theorem MadeAt.keep {w0 wr w2 : World} {F : Tb} {ba la : Option Addr} {bc j lc : Nat} {wl0 : List WR} {vs : List TV} (h : MadeAt w0 wr F ba bc wl0 la j lc vs) (hk : Kept [] wr w2) : MadeAt w0 w2 F ba bc wl0 la j lc vs :=
  ⟨own_kept h.own hk (by simp), fun x hx => by obtain ⟨h1, h2, h3, h4, h5⟩ := h.each x hx; exact ⟨h1, h2, h3, h4.kept0 hk, h5⟩, h.ts, h.kept.trans hk, h.fresh⟩
theorem MadeAt.len {w0 wr : World} {F : Tb} {ba la : Option Addr} {bc j lc : Nat} {wl0 : List WR} {vs : List TV} (h : MadeAt w0 wr F ba bc wl0 la j lc vs) : vs.length = j := by
  have := congrArg List.length h.ts
  rwa [List.length_map, madeTs_len] at this
theorem own_apart {e1 e2 : TypeId} {s1 s2 n m c d : Nat} {a b : Option Addr} {xs ys : List Value} (h1 : w.ownsRow 0 e1 s1 (.slice a n c) n xs) (h2 : w.ownsRow 0 e2 s2 (.slice b m d) m ys) (hne : e2 ≠ e1) : ∀ q ∈ ft a, q ∉ ft b := fun q hq => by
  rcases h1.2 with ⟨hv, _⟩ | ⟨g, cp, cur, hv, _, hg, _⟩
  · injection hv with hv; subst hv; simp [ft] at hq
  · injection hv with hv; subst hv; rw [mem_ft] at hq; subst hq
    exact blk_apart hg h2 hne
/-- one table more -/
theorem MadeAt.push {w0 wr W w6 : World} {F : Tb} {ba la a6 : Option Addr} {bc j lc c6 : Nat} {wl0 : List WR} {vs : List TV} (h : MadeAt w0 wr F ba bc wl0 la j lc vs) (hk : Kept [] wr W) (x : TV) (hx1 : x.ba = ba) (hx2 : x.bc = bc) (hxt : x.t = madeT F j)
    (hown5 : Own W 33 x.ra x.t.rs.length x.rc (wrCells x.wl)) (hm : x.wl.map (·.l) = x.t.rs) (hsub : ∀ r ∈ x.wl, r ∈ wl0)
    (ho : w6.ownsRow 0 25 2 (.slice a6 (j + 1) c6) (j + 1) (tvCells vs ++ [.slice x.ba x.t.bs.length x.bc, .slice x.ra x.t.rs.length x.rc])) (hst : Stepped W w6 (ft la) (ft a6)) : MadeAt w0 w6 F ba bc wl0 a6 (j + 1) c6 (vs ++ [x]) := by
  have hW := h.keep hk
  refine ⟨by rw [← tvCells_snoc]; exact ho, fun y hy => ?_, by rw [List.map_append, h.ts, madeTs_succ, List.map_singleton, hxt], ?_, fun b hb => ?_⟩
  · rcases List.mem_append.1 hy with hy | hy
    · obtain ⟨h1, h2, h3, h4, h5⟩ := hW.each y hy
      exact ⟨h1, h2, h3, own_kept h4 hst.kept (own_apart h4 hW.own (by decide)), h5⟩
    · rw [List.mem_singleton] at hy
      subst hy
      exact ⟨hx1, hx2, by rw [hxt]; rfl, own_kept hown5 hst.kept (own_apart hown5 hW.own (by decide)), hm, hsub⟩
  · exact kept_up hW.kept hst.kept hW.fresh
  · rcases hst.fresh b hb with h1 | h1
    · exact hW.fresh b h1
    · exact Nat.le_trans hW.kept.size h1
/-- where they lie, each table is a table -/
theorem MadeAt.tabs {w0 wr : World} {F : Tb} {ba la ra : Option Addr} {bc j lc rc : Nat} {wl0 : List WR} {vs : List TV} (h : MadeAt w0 wr F ba bc wl0 la j lc vs) (hF : TabV w0 ba F.bs.length bc ra F.rs.length rc F wl0) (hm : mayT F = true) (hok : ∀ u, mayT u = true → u.ok) : SlTab wr la vs := by
  intro k hk
  have hl : (tvCells vs).length = j * 2 := h.own.1
  rw [tvCells_length, h.len] at hl
  have hj := h.len
  have hform : ∃ g, la = some ⟨g, 0, none⟩ := by
    rcases h.own.2 with ⟨hv, h0⟩ | ⟨g, cap', cur, hv, _⟩
    · omega
    · injection hv with hv; exact ⟨g, hv⟩
  obtain ⟨g, rfl⟩ := hform
  have hc := fun q u (hq : (tvCells vs)[q]? = some u) => World.ownsRow.cells h.own (g := g) rfl q u hq
  have hg := tvCells_get vs k _ (List.getElem?_eq_getElem hk)
  have h0 := hc _ _ hg.1
  have h1 := hc _ _ hg.2
  rw [add_at] at h0 h1
  obtain ⟨e1, e2, e3, e4, e5, e6⟩ := h.each _ (List.getElem_mem hk)
  have htk : vs[k].t = madeT F k := by
    have h2 : (vs.map (·.t))[k]'(by simpa using hk) = (madeTs F j)[k]'(by rw [madeTs_len]; omega) := by simp only [h.ts]
    simpa [madeTs] using h2
  refine ⟨g, 0, rfl, by rw [← h0]; congr 2; omega, by rw [← h1]; congr 2; omega, ?_, hok _ (by rw [htk]; exact made_may hm k)⟩
  have hlen : vs[k].wl.length = vs[k].t.rs.length := by rw [← e5, List.length_map]
  refine ⟨rfl, hlen, e5, ?_, fun q hq => ?_, ?_, owns_cap e4, fun r hr => hF.wk r (e6 r hr)⟩
  · rw [e1, e3]
    exact hF.bs.kept0 h.kept
  · obtain ⟨gb, hra⟩ := e4.form (by omega)
    obtain ⟨ad, hc1, hc2⟩ := e4.cell (k := q) (by rw [wrCells_length]; exact hq)
    rw [hra] at hc1
    injection hc1 with hc1
    subst hc1
    refine ⟨gb, 0, hra, ?_, ?_⟩
    · rw [add_at] at hc2
      rw [hc2]
      simp [wrCells]
    · obtain ⟨i, hi, hri⟩ := List.getElem_of_mem (e6 _ (List.getElem_mem hq))
      obtain ⟨_, _, _, _, hs⟩ := hF.rs i hi
      rw [hri] at hs
      exact hs.kept0 h.kept
  · rw [e2, e3]
    exact hF.bk
end Go.Proofs.YtjgcfncganleoaaDoor
