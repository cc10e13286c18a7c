/-
  Law 06's arguments, opened: rows of steps.
-/
import Derived.Test.YthiccfaldahmhaaOptsOpen
import Derived.Test.YthiccfaldahmhaaNetG
namespace Go.Proofs.Ythiccfaldahmhaa
open Go.ChangeShapes Go.WideShapes Go.ChangeAt Go.RowKit Go.Deep Go.Joins
set_option linter.unusedVariables false

/-- the cells of a step -/
def StepCells (W : World) (b o : Nat) (s : NStp) (la : Option Addr) (lc : Nat) : Prop :=
  W.cell? ⟨b, o, none⟩ = some (.int .i64 s.what) ∧ W.cell? ⟨b, o + 1, none⟩ = some (.string s.name) ∧ W.cell? ⟨b, o + 2, none⟩ = some (.int .i64 s.n) ∧ W.cell? ⟨b, o + 3, none⟩ = some (.int .u32 (s.a : Int)) ∧
  W.cell? ⟨b, o + 4, none⟩ = some (.int .u32 (s.b : Int)) ∧ W.cell? ⟨b, o + 5, none⟩ = some (.int .u32 (s.c : Int)) ∧ W.cell? ⟨b, o + 6, none⟩ = some (.slice la s.lits.length lc)
/-- steps where they lie -/
def SlNSteps (W : World) (a : Option Addr) (l : List NStp) : Prop :=
  ∀ k, (hk : k < l.length) → ∃ b o, a = some ⟨b, o, none⟩ ∧ ∃ la lc, StepCells W b (o + k * 7) l[k] la lc ∧ SlN W .u32 la l[k].lits
theorem SlNSteps.kept0 {W W' : World} {a : Option Addr} {l : List NStp} (h : SlNSteps W a l) (hk : Kept [] W W') : SlNSteps W' a l := by
  intro k hkl
  obtain ⟨b, o, h1, la, lc, ⟨c0, c1, c2, c3, c4, c5, c6⟩, h3⟩ := h k hkl
  exact ⟨b, o, h1, la, lc, ⟨hk.cell c0 (by simp), hk.cell c1 (by simp), hk.cell c2 (by simp), hk.cell c3 (by simp), hk.cell c4 (by simp), hk.cell c5 (by simp), hk.cell c6 (by simp)⟩, h3.kept0 hk⟩
section
variable {H : Type} {enc : TypeId × Value → H} {W : World} {base : Nat} {v : Value} {d : DataW H} {ps : List MemPlace}
set_option maxRecDepth 100000 in
theorem open_nsteps (hv : Value.okWide Try.prog W .any base 24 v) (h : DataW.Trod enc Try.prog W 0 (fun _ => true) true 24 v d ps) (hz : Sized Try.prog 24 d) :
    ∃ (a : Option Addr) (l : List NStp) (c : Nat), v = .slice a l.length c ∧ l.length ≤ 140737488351232 ∧ SlNSteps W a l ∧ ∀ s ∈ l, s.ok := by
  obtain ⟨a0, len0, cap0, rfl⟩ := okWide_slice Try.underlying24 hv
  obtain ⟨fuel, hf⟩ := h
  obtain ⟨a, len, cap, hvv, hlc, hcb, hnil, hat⟩ := open_recs (v := .slice a0 len0 cap0) Try.underlying24 Try.underlying39 (by kernel_rfl) (by kernel_rfl) hf hz
  injection hvv with h1 h2 h3
  subst h1 h2 h3
  have hb : Try.prog.bytesOf 39 = 72 := by kernel_rfl
  rw [hb] at hcb
  obtain ⟨acts, hl, hacts⟩ := choose_list (n := len0) (p := fun k (x : NStp) => (∃ b o, a0 = some ⟨b, o, none⟩ ∧ ∃ la lc, StepCells W b (o + k * 7) x la lc ∧ SlN W .u32 la x.lits) ∧ x.ok) fun i hi => by
    have h00 := hat 0 (by omega)
    obtain ⟨ad, m, rfl, hfields⟩ := hat i hi
    obtain ⟨u0, z0, hc0, ht0, _⟩ := hfields 0 _ rfl
    obtain ⟨u1, z1, hc1, ht1, hz1⟩ := hfields 1 _ rfl
    obtain ⟨u2, z2, hc2, ht2, _⟩ := hfields 2 _ rfl
    obtain ⟨u3, z3, hc3, ht3, _⟩ := hfields 3 _ rfl
    obtain ⟨u4, z4, hc4, ht4, _⟩ := hfields 4 _ rfl
    obtain ⟨u5, z5, hc5, ht5, _⟩ := hfields 5 _ rfl
    obtain ⟨u6, z6, hc6, ht6, hz6⟩ := hfields 6 _ rfl
    obtain ⟨x0, e0, _, f0⟩ := DataW.trod_int Try.underlying3 ht0
    obtain ⟨x1, e1, d1, f1⟩ := DataW.trod_string Try.underlying9 ht1
    obtain ⟨x2, e2, _, f2⟩ := DataW.trod_int Try.underlying3 ht2
    obtain ⟨x3, e3, _, f3⟩ := DataW.trod_int Try.underlying36 ht3
    obtain ⟨x4, e4, _, f4⟩ := DataW.trod_int Try.underlying36 ht4
    obtain ⟨x5, e5, _, f5⟩ := DataW.trod_int Try.underlying36 ht5
    simp at e0 e1 e2 e3 e4 e5
    subst e0 e1 e2 e3 e4 e5
    obtain ⟨x3, rfl, y3⟩ := wf_nat (m := 4294967296) rfl rfl f3
    obtain ⟨x4, rfl, y4⟩ := wf_nat (m := 4294967296) rfl rfl f4
    obtain ⟨x5, rfl, y5⟩ := wf_nat (m := 4294967296) rfl rfl f5
    have fx : -9223372036854775808 ≤ x2 ∧ x2 ≤ 9223372036854775807 := by
      simp [Lit.wf, IntKind.min, IntKind.max, IntKind.signed, IntKind.bits] at f2
      omega
    have hs1 : x1.size ≤ 140737488351232 := by
      have h := hz1 x1.size (by rw [d1]; simp [DataW.weights])
      simpa [reachBytes] using h
    obtain ⟨al, cl, l, rfl, hlcl, hsl, hlm, hnl, hclb⟩ := open_natsT (m := 4294967296) (bytes := 4) Try.underlying37 Try.underlying36 (by kernel_rfl) (by kernel_rfl) rfl rfl ht6 hz6
    obtain ⟨ad2, m2, e2, hf2⟩ := h00
    injection e2 with e2
    subst e2
    obtain ⟨u7, z7, hc7, _, _⟩ := hf2 0 _ rfl
    obtain ⟨b, o, rfl⟩ := plain_spot (by simpa using hc7)
    rw [add_at] at hc0 hc1 hc2 hc3 hc4 hc5 hc6
    exact ⟨⟨x0, x1, x2, x3, x4, x5, l⟩, ⟨b, o, rfl, al, cl, ⟨hc0, hc1, hc2, hc3, hc4, hc5, hc6⟩, hsl⟩, ⟨hs1, fx.1, fx.2, y3, y4, y5, hlm, by show l.length ≤ _; omega⟩⟩
  refine ⟨a0, acts, cap0, by rw [hl], by omega, fun k hk => (hacts k hk).1, fun s hs => ?_⟩
  obtain ⟨k, hk, rfl⟩ := List.getElem_of_mem hs
  exact (hacts k hk).2
end
end Go.Proofs.Ythiccfaldahmhaa
