/-
  Joined: QSwRow, QSwTrM.
-/
import Derived.Test.YtdmcdhkkbkgnbaaGreatQSimT
import Derived.Test.YtdmcdhkkbkgnbaaGreatP40
import Derived.Test.YtdmcdhkkbkgnbaaGreatQSwS
import Derived.Test.YtdmcdhkkbkgnbaaGreatQSimE
namespace Go.Proofs.YtdmcdhkkbkgnbaaGreat
open Go.ChangeShapes Go.WideShapes Go.ChangeAt Go.RowKit Go.Deep Go.Joins
set_option linter.unusedVariables false

/-- rows of words, wherever they lie -/
def SlW (W : World) (a : Option Addr) (l : List WR) : Prop :=
  ∀ k, (hk : k < l.length) → ∃ b o, a = some ⟨b, o, none⟩ ∧ W.cell? ⟨b, o + k, none⟩ = some (.slice l[k].a l[k].l.length l[k].c) ∧ SlN W .u64 l[k].a l[k].l
theorem SlW.kept0 {W W' : World} {a : Option Addr} {l : List WR} (h : SlW W a l) (hk : Kept [] W W') : SlW W' a l := by
  intro k hkl
  obtain ⟨b, o, h1, h2, h3⟩ := h k hkl
  exact ⟨b, o, h1, hk.cell h2 (by simp), h3.kept0 hk⟩
section
variable {H : Type} {enc : TypeId × Value → H} {W : World} {base : Nat} {v : Value} {d : DataW H} {ps : List MemPlace}
set_option maxRecDepth 100000 in
theorem open_wrows (hv : Value.okWide Tryz.prog W .any base 74 v) (h : DataW.Trod enc Tryz.prog W 0 (fun _ => true) true 74 v d ps) (hz : Sized Tryz.prog 74 d) :
    ∃ (a : Option Addr) (l : List WR) (c : Nat), v = .slice a l.length c ∧ l.length ≤ 140737488351232 ∧ SlW W a l ∧ ∀ r ∈ l, Words r.l ∧ r.l.length ≤ 17592186043904 := by
  obtain ⟨a0, len0, cap0, rfl⟩ := okWide_slice Tryz.underlying74 hv
  obtain ⟨fuel, hf⟩ := h
  rcases open_slice Tryz.underlying74 hf with ⟨hcs, hx⟩ | ⟨a, len, cap, m, n, D, Pl, hcs, hb, hl, hm, hmm, hx, hi⟩
  · have hcs' : Value.slice a0 len0 cap0 = .slice none 0 0 := by first | simpa using hcs | (injection hcs)
    injection hcs' with h1 h2 h3
    subst h1 h2 h3
    exact ⟨none, [], 0, rfl, by simp, fun k hk => absurd hk (by simp), by simp⟩
  · simp at hcs hmm
    obtain ⟨rfl, rfl, rfl⟩ := hcs
    subst hmm
    have hx1 := congrArg Prod.fst hx
    simp only at hx1
    rw [hx1] at hz
    obtain ⟨hz1, hz2⟩ := hz.slice Tryz.underlying74
    have hbt : Tryz.prog.bytesOf 78 = 24 := by kernel_rfl
    have hct : Tryz.prog.cellsOf 78 = 1 := by kernel_rfl
    rw [hbt] at hz1
    simp [reachBytes] at hz1
    obtain ⟨rows, hrl, hrows⟩ := choose_list (n := len0) (p := fun k (x : WR) => (∃ b o, some a = some ⟨b, o, none⟩ ∧ W.cell? ⟨b, o + k, none⟩ = some (.slice x.a x.l.length x.c) ∧ SlN W .u64 x.a x.l) ∧ Words x.l ∧ x.l.length ≤ 17592186043904) fun i hil => by
      obtain ⟨cs', hc', ht'⟩ := hi i (by omega)
      rw [hct] at hc'
      obtain ⟨_, hcl, hat⟩ := World.cells?_some hc'
      obtain ⟨u, rfl⟩ : ∃ u, cs' = [u] := List.length_eq_one_iff.1 hcl
      have hcell := hat 0 (by omega)
      have hs := hz2 (D i) (List.mem_map.2 ⟨i, List.mem_range.2 hil, rfl⟩)
      obtain ⟨al, cl, l, rfl, hlcl, hsl, hlm, hnl, hclb⟩ := open_natsT (m := 18446744073709551616) (bytes := 8) Tryz.underlying78 Tryz.underlying79 (by kernel_rfl) (by kernel_rfl) rfl rfl ht' hs
      rw [Go.Deep.add_add] at hcell
      simp only [Nat.mul_one, Nat.add_zero] at hcell
      have hsp : ∃ b o, a = ⟨b, o, none⟩ := by
        obtain ⟨cs0, hc0, _⟩ := hi 0 (by omega)
        rw [hct] at hc0
        obtain ⟨_, hcl0, hat0⟩ := World.cells?_some hc0
        obtain ⟨u0, rfl⟩ : ∃ u, cs0 = [u] := List.length_eq_one_iff.1 hcl0
        have h0 := hat0 0 (by omega)
        rw [Go.Deep.add_add] at h0
        exact plain_spot (v := u0) (by simpa using h0)
      obtain ⟨b, o, rfl⟩ := hsp
      rw [add_at] at hcell
      exact ⟨⟨l, al, cl⟩, ⟨b, o, rfl, by simpa using hcell, hsl⟩, hlm, by show l.length ≤ _; omega⟩
    refine ⟨some a, rows, _, by rw [hrl], by omega, fun k hk => (hrows k hk).1, fun r hr => ?_⟩
    obtain ⟨k, hk, rfl⟩ := List.getElem_of_mem hr
    exact (hrows k hk).2
end
end Go.Proofs.YtdmcdhkkbkgnbaaGreat

namespace Go.Proofs.YtdmcdhkkbkgnbaaGreat
open Go.ChangeShapes Go.WideShapes Go.ChangeAt Go.RowKit
open Go.Maps (Keyed)
open Go.WideMaps
set_option linter.unusedVariables false
set_option linter.unusedSimpArgs false

variable {w w' W w0 : World} {s t u n k : Nat} {F R F' R' F'' R'' R1 : List Nat} {σ τ υ σ1 : Sm} {N M : Nt}
/-- a simulation's state behind i cycles -/
def sgC (N : Nt) (c : Nat → List (List Nat)) : Nat → Sm
  | 0 => newS N
  | i + 1 => nextS (sgC N c i) (c i)
theorem sgC_N (N : Nt) (c : Nat → List (List Nat)) (i : Nat) : (sgC N c i).N = N := by
  induction i with
  | zero => rfl
  | succ i ih => simp [sgC, nextS, ih]
theorem sgC_cy (N : Nt) (c : Nat → List (List Nat)) (i : Nat) : (sgC N c i).cy = i := by
  induction i with
  | zero => rfl
  | succ i ih => simp [sgC, nextS, ih]
theorem sgC_regs (N : Nt) (c : Nat → List (List Nat)) (i : Nat) : (sgC N c i).regs = stS N c i := by
  induction i with
  | zero => rfl
  | succ i ih => simp [sgC, nextS, stS, ih, sgC_N]
theorem sgC_ok {c : Nat → List (List Nat)} (hf : NtFine k N) (hk : k ≤ 700) (hc : ∀ i, ∀ r ∈ c i, Words r) (i : Nat) : SmOk k (sgC N c i) := by
  induction i with
  | zero => exact newS_ok hf hk
  | succ i ih => exact nextS_ok ih (hc i)
theorem sgC_out (N : Nt) (c : Nat → List (List Nat)) (i : Nat) : outN (sgC N c i).N (wordsN (sgC N c i).N (c i) (sgC N c i).regs) = outS N c i := by
  rw [sgC_N, sgC_regs]; rfl
structure Sims3 (w0 w : World) (s : Nat) (F R : List Nat) (σ : Sm) (t : Nat) (F' R' : List Nat) (τ : Sm) (u : Nat) (F'' R'' : List Nat) (υ : Sm) : Prop where
  a : SimAt w s F R σ
  b : SimAt w t F' R' τ
  c : SimAt w u F'' R'' υ
  ab : ∀ x, x ∈ F → x ∉ F' ∧ x ∉ R'
  ac : ∀ x, x ∈ F → x ∉ F'' ∧ x ∉ R''
  ba : ∀ x, x ∈ F' → x ∉ F ∧ x ∉ R
  bc : ∀ x, x ∈ F' → x ∉ F'' ∧ x ∉ R''
  ca : ∀ x, x ∈ F'' → x ∉ F ∧ x ∉ R
  cb : ∀ x, x ∈ F'' → x ∉ F' ∧ x ∉ R'
  kept : Kept [] w0 w
  nw : ∀ x, x ∈ F ∨ x ∈ F' ∨ x ∈ F'' → w0.heap.size ≤ x
theorem Sims3.rot (h : Sims3 w0 w s F R σ t F' R' τ u F'' R'' υ) : Sims3 w0 w t F' R' τ u F'' R'' υ s F R σ :=
  ⟨h.b, h.c, h.a, h.bc, h.ba, h.cb, h.ca, h.ab, h.ac, h.kept, fun x hx => h.nw x (by rcases hx with h | h | h; exact .inr (.inl h); exact .inr (.inr h); exact .inl h)⟩
theorem Sims3.step (h : Sims3 w0 w s F R σ t F' R' τ u F'' R'' υ) (hn : SimAt w' s F R1 σ1) (hs : NStep w w' F R F R1) : Sims3 w0 w' s F R1 σ1 t F' R' τ u F'' R'' υ := by
  have l2 := h.b.lt
  have l3 := h.c.lt
  refine ⟨hn, h.b.kept hs.st.kept (fun x hx => (h.ba x hx).1) (fun x hx hx' => (h.ab x hx').2 hx), h.c.kept hs.st.kept (fun x hx => (h.ca x hx).1) (fun x hx hx' => (h.ac x hx').2 hx), h.ab, h.ac, fun x hx => ⟨(h.ba x hx).1, fun hx' => ?_⟩, h.bc, fun x hx => ⟨(h.ca x hx).1, fun hx' => ?_⟩, h.cb, kept_up h.kept hs.st.kept (fun x hx => h.nw x (.inl hx)), h.nw⟩
  · rcases hs.rows x hx' with h1 | h1
    · exact (h.ba x hx).2 h1
    · have := l2.1 x hx; omega
  · rcases hs.rows x hx' with h1 | h1
    · exact (h.ca x hx).2 h1
    · have := l3.1 x hx; omega
theorem Sims3.kept0 (h : Sims3 w0 w s F R σ t F' R' τ u F'' R'' υ) (hk : Kept [] w w') : Sims3 w0 w' s F R σ t F' R' τ u F'' R'' υ := h.step (h.a.kept0 hk) ((NStep.refl w F R).keep hk)
/-- the words of a cycle, as the law cuts them -/
def cycC (N : Nt) (cl : List (List Nat)) (i : Nat) : List (List Nat) := givenN N.inb (cl.getD i []) 0
theorem cycC_fit (N : Nt) {cl : List (List Nat)} (hc : ∀ r ∈ cl, Words r) : fitC N (cycC N cl) := by
  intro i
  refine ⟨?_, ?_⟩
  · have h := given_fits N.inb (cl.getD i [])
    unfold fitB at h
    exact of_decide_eq_true h
  · refine given_words ?_ 0
    rw [List.getD_eq_getElem?_getD]
    cases h : cl[i]? with
    | none => simp [Words]
    | some r => simpa using hc r (List.mem_of_getElem? h)
end Go.Proofs.YtdmcdhkkbkgnbaaGreat
