/-
  Law SimTells, parts: a step with words that fit or do not, of the simulation and of the document's.
-/
import Derived.Test.YtielfgngdhcpfaaGreatQTellM
namespace Go.Proofs.YtielfgngdhcpfaaGreat
open Go.ChangeShapes Go.WideShapes Go.ChangeAt Go.RowKit
open Go.Maps (Keyed)
open Go.WideMaps
set_option linter.unusedVariables false
set_option linter.unusedSimpArgs false

variable {w w' : World} {s n v more kk m c : Nat} {F R R2 : List Nat} {N : Nt} {σ : Sm} {l : List Nat} {a : Option Addr} {rs : List WR}
def stepM (σ : Sm) (l : List Nat) (more : Nat) : Sm := if more = 0 then nextS σ (givenN σ.N.inb l 0) else σ
def outM (σ : Sm) (l : List Nat) (more : Nat) : List (List Nat) := if more = 0 then outN σ.N (wordsN σ.N (givenN σ.N.inb l 0) σ.regs) else []
theorem stepM_N (σ : Sm) (l : List Nat) (more : Nat) : (stepM σ l more).N = σ.N := by unfold stepM; split <;> simp [nextS]
theorem stepM_ok (h : SmOk kk σ) (hl : Words l) (more : Nat) : SmOk kk (stepM σ l more) := by
  unfold stepM
  split
  · exact nextS_ok h (given_words hl 0)
  · exact h
theorem stepM_cy (σ : Sm) (l : List Nat) (more : Nat) : (stepM σ l more).cy ≤ σ.cy + 1 := by unfold stepM; split <;> simp [nextS]
theorem outM_short (h : SmOk kk σ) : ∀ r ∈ outM σ l more, r.length ≤ 1000000 := by
  intro r hr
  unfold outM at hr
  split at hr
  · unfold outN at hr
    obtain ⟨b, hb, rfl⟩ := List.mem_map.1 hr
    have := (h.fine.ok.ol b hb).2.1
    rw [List.length_map]; omega
  · simp at hr
theorem given_short {b : List Bus} (hb : ∀ x ∈ b, x.lits.length ≤ 64) : ∀ r ∈ givenN b l more, r.length ≤ 1000000 := by
  intro r hr
  rcases List.mem_append.1 hr with h | h
  · have h1 := givenTo_lens b l b.length (Nat.le_refl _)
    have h2 : r.length ∈ (givenTo b l b.length).map List.length := List.mem_map_of_mem h
    rw [h1] at h2
    obtain ⟨x, hx, hxr⟩ := List.mem_map.1 h2
    have := hb x (List.mem_of_mem_take hx)
    omega
  · rw [List.eq_of_mem_replicate h]; simp
theorem given_len (b : List Bus) (l : List Nat) (more : Nat) : (givenN b l more).length = b.length + more := by
  have h1 := congrArg List.length (givenTo_lens b l b.length (Nat.le_refl _))
  simp at h1
  simp [givenN, h1]
def StepAny (s : Nat) (F R : List Nat) (σ : Sm) (l : List Nat) (more : Nat) (w : World) (e : Ending) (w' : World) : Prop :=
  ∃ a n c rs R', e = .returned (.tuple #[.slice a n c, .int .i64 (more : Int)]) ∧ n ≤ 1000000 ∧ WRows w' a n c rs ∧ rs.map (·.l) = outM σ l more ∧ SimAt w' s F R' (stepM σ l more) ∧ NStep w w' F R F R' ∧ ∀ b ∈ ft a ++ wrBlocks rs, w.heap.size ≤ b
def RStepAny (v : Nat) (R : List Nat) (σ : Sm) (l : List Nat) (more : Nat) (w : World) (e : Ending) (w' : World) : Prop :=
  ∃ a n c rs R', e = .returned (.tuple #[.slice a n c, .int .i64 (more : Int)]) ∧ n ≤ 1000000 ∧ WRows w' a n c rs ∧ rs.map (·.l) = outM σ l more ∧ RSimAt w' v R' (stepM σ l more) ∧ Kept [v] w w' ∧ (∀ b ∈ R', b ∈ R ∨ w.heap.size ≤ b) ∧ ∀ b ∈ ft a ++ wrBlocks rs, w.heap.size ≤ b
theorem step_any (h : SimAt w s F R σ) (hok : SmOk kk σ) (hcy : σ.cy ≤ 1000000) (hr : WRows w a m c rs) (hl : Words l) (hm : more ≤ 1) (hrs : rs.map (·.l) = givenN σ.N.inb l more) :
    Calls Tryz.prog 10 #[.pointer (some ⟨s, 0, none⟩), .slice a m c] w (StepAny s F R σ l more w) := by
  have l2 := hok.fine.ok.ik
  have l4 := hok.fine.ok.ok
  have l7 := hok.k7
  have hlen := hr.len
  have h2 := congrArg List.length hrs
  rw [given_len, List.length_map] at h2
  by_cases h0 : more = 0
  · subst h0
    refine (sim_step h hok hcy (by omega) hr (fun r hr' => given_words (b := σ.N.inb) hl 0 _ (by rw [← hrs]; exact List.mem_map_of_mem hr')) (by rw [hrs]; exact given_fits _ _)).mono ?_
    rintro e w' ⟨a', c', rs', R', rfl, hw, hmap, hs, hst, hf⟩
    rw [hrs] at hmap hs
    refine ⟨a', _, c', rs', R', rfl, by omega, hw, ?_, ?_, hst, hf⟩
    · rw [hmap]; rfl
    · exact hs
  · obtain rfl : more = 1 := by omega
    refine (sim_step_bad h (by omega) (by omega) hr (by rw [hrs]; exact given_not _ _)).mono ?_
    rintro e w' ⟨rfl, hk⟩
    exact ⟨none, 0, 0, [], R, rfl, by omega, WRows.nil _, rfl, h.kept0 hk, (NStep.refl w F R).keep hk, by simp [ft, wrBlocks]⟩
theorem rstep_any (h : RSimAt w v R σ) (hok : SmOk kk σ) (hz : checkN σ.N = 0) (hcy : σ.cy ≤ 1000000) (hr : WRows w a m c rs) (hl : Words l) (hm : more ≤ 1) (hrs : rs.map (·.l) = givenN σ.N.inb l more) :
    Calls Tryz.prog 30 #[.pointer (some ⟨v, 0, none⟩), .slice a m c] w (RStepAny v R σ l more w) := by
  have l2 := hok.fine.ok.ik
  have l4 := hok.fine.ok.ok
  have l7 := hok.k7
  have hlen := hr.len
  have h2 := congrArg List.length hrs
  rw [given_len, List.length_map] at h2
  by_cases h0 : more = 0
  · subst h0
    refine (step08 a m c rs h hok hz hcy hr (by rw [hrs]; exact given_fits _ _) (fun r hr' => given_words (b := σ.N.inb) hl 0 _ (by rw [← hrs]; exact List.mem_map_of_mem hr'))).mono ?_
    rintro e w' ⟨a', c', rs', R', rfl, hw, hmap, hs, hk, hR, hf⟩
    rw [hrs] at hmap hs
    refine ⟨a', _, c', rs', R', rfl, by omega, hw, ?_, ?_, hk, hR, hf⟩
    · rw [hmap]; rfl
    · exact hs
  · obtain rfl : more = 1 := by omega
    refine (step08_bad a m c h (by omega) (by omega) (by omega)).mono ?_
    rintro e w' ⟨rfl, rfl⟩
    exact ⟨none, 0, 0, [], R, rfl, by omega, WRows.nil _, rfl, h, Kept.refl _ _, fun b hb => .inl hb, by simp [ft, wrBlocks]⟩
/-- two rows' rows of one place are the same -/
theorem rows_same {a b : Option Addr} {c d m : Nat} {r1 r2 : List WR} (h1 : WRows w a m c r1) (h2 : WRows w b m d r2) (he : r1.map (·.l) = r2.map (·.l)) (hl : ∀ r ∈ r1, r.l.length ≤ 1000000) (k : Nat) (hk : k < m) :
    ∃ (b1 b2 : Nat) (u1 : Option Addr) (u2 u3 : Nat) (v1 : Option Addr) (v2 v3 : Nat), a = some ⟨b1, 0, none⟩ ∧ b = some ⟨b2, 0, none⟩ ∧ w.cell? ⟨b1, k, none⟩ = some (.slice u1 u2 u3) ∧ w.cell? ⟨b2, k, none⟩ = some (.slice v1 v2 v3) ∧
      ∀ (W : World), Kept [] w W → Calls Tryz.prog 15 #[.slice u1 u2 u3, .slice v1 v2 v3] W fun e w' => e = .returned (.bool true) ∧ ∃ j, w' = W.drewN j := by
  have e1 : k < r1.length := by rw [h1.len]; exact hk
  have e2 : k < r2.length := by rw [h2.len]; exact hk
  obtain ⟨b1, rfl, x1⟩ := h1.cell k e1
  obtain ⟨b2, rfl, x2⟩ := h2.cell k e2
  have hs : r1[k].l = r2[k].l := by
    have h3 : (r1.map (·.l))[k]'(by simpa using e1) = (r2.map (·.l))[k]'(by simpa using e2) := by simp only [he]
    simpa using h3
  have s1 := (h1.rows r1[k] (List.getElem_mem e1)).1
  have s2 := (h2.rows r2[k] (List.getElem_mem e2)).1
  have hle := hl r1[k] (List.getElem_mem e1)
  refine ⟨b1, b2, _, _, _, _, _, _, rfl, rfl, x1, x2, fun W hk' => ?_⟩
  have h := same_eq r1[k].a r2[k].a r1[k].l.length r2[k].l.length r1[k].c r2[k].c r1[k].l r2[k].l W rfl rfl hle (by rw [← hs]; exact hle) (s1.kept0 hk') (s2.kept0 hk')
  rw [hs] at h ⊢
  simpa using h
end Go.Proofs.YtielfgngdhcpfaaGreat
