/-
  A netlist of steps, and the document's, side by side (laws 08 and 30).
  Law 06: Wants, joined. Rows of steps, with their rows' capacities. A netlist and the document's, built side by side.
  Law 06's arguments, opened: rows of steps.
  Opening a law's argument: a graph's options.
-/
import Derived.Test.YtdmcdhkkbkgnbaaGreatP36
import Derived.Test.YtdmcdhkkbkgnbaaGreatP15
import Derived.Test.YtdmcdhkkbkgnbaaGreatP39
import Derived.Test.YtdmcdhkkbkgnbaaGreatP18
import Derived.Test.YtdmcdhkkbkgnbaaGreatP03
import Derived.Test.YtdmcdhkkbkgnbaaGreatP35
namespace Go.Proofs.YtdmcdhkkbkgnbaaGreat
open Go.ChangeShapes Go.WideShapes Go.ChangeAt Go.RowKit Go.Deep Go.Joins
set_option linter.unusedVariables false

section
variable {H : Type} {enc : TypeId × Value → H} {W : World} {base : Nat} {v : Value} {d : DataW H} {ps : List MemPlace}
set_option maxRecDepth 100000 in
theorem open_opts (hv : Value.okWide Tryz.prog W .any base 23 v) (h : DataW.Trod enc Tryz.prog W 0 (fun _ => true) true 23 v d ps) (hz : Sized Tryz.prog 23 d) : ∃ a b : Bool, v = .agg #[.bool a, .bool b] :=
  open_bools2 Tryz.underlying23 (by kernel_rfl) (by kernel_rfl) Tryz.underlying4 Tryz.underlying4 hv h
end
end Go.Proofs.YtdmcdhkkbkgnbaaGreat

namespace Go.Proofs.YtdmcdhkkbkgnbaaGreat
open Go.ChangeShapes Go.WideShapes Go.ChangeAt Go.RowKit Go.Deep Go.Joins
set_option linter.unusedVariables false

/-- the cells of a step -/
def StepCells (W : World) (b o : Nat) (s : NStp) (la : Option Addr) (lc : Nat) : Prop :=
  W.cell? ⟨b, o, none⟩ = some (.int .i64 s.what) ∧ W.cell? ⟨b, o + 1, none⟩ = some (.string s.name) ∧ W.cell? ⟨b, o + 2, none⟩ = some (.int .i64 s.n) ∧ W.cell? ⟨b, o + 3, none⟩ = some (.int .u32 (s.a : Int)) ∧
  W.cell? ⟨b, o + 4, none⟩ = some (.int .u32 (s.b : Int)) ∧ W.cell? ⟨b, o + 5, none⟩ = some (.int .u32 (s.c : Int)) ∧ W.cell? ⟨b, o + 6, none⟩ = some (.slice la s.lits.length lc)
/-- steps where they lie -/
def SlNSteps (W : World) (a : Option Addr) (l : List NStp) : Prop :=
  ∀ k, (hk : k < l.length) → ∃ b o, a = some ⟨b, o, none⟩ ∧ ∃ la lc, StepCells W b (o + k * 7) l[k] la lc ∧ SlN W .u32 la l[k].lits
theorem SlNSteps.kept0 {W W' : World} {a : Option Addr} {l : List NStp} (h : SlNSteps W a l) (hk : Kept [] W W') : SlNSteps W' a l := by
  intro k hkl
  obtain ⟨b, o, h1, la, lc, ⟨c0, c1, c2, c3, c4, c5, c6⟩, h3⟩ := h k hkl
  exact ⟨b, o, h1, la, lc, ⟨hk.cell c0 (by simp), hk.cell c1 (by simp), hk.cell c2 (by simp), hk.cell c3 (by simp), hk.cell c4 (by simp), hk.cell c5 (by simp), hk.cell c6 (by simp)⟩, h3.kept0 hk⟩
section
variable {H : Type} {enc : TypeId × Value → H} {W : World} {base : Nat} {v : Value} {d : DataW H} {ps : List MemPlace}
set_option maxRecDepth 100000 in
theorem open_nsteps (hv : Value.okWide Tryz.prog W .any base 24 v) (h : DataW.Trod enc Tryz.prog W 0 (fun _ => true) true 24 v d ps) (hz : Sized Tryz.prog 24 d) :
    ∃ (a : Option Addr) (l : List NStp) (c : Nat), v = .slice a l.length c ∧ l.length ≤ 140737488351232 ∧ SlNSteps W a l ∧ ∀ s ∈ l, s.ok := by
  obtain ⟨a0, len0, cap0, rfl⟩ := okWide_slice Tryz.underlying24 hv
  obtain ⟨fuel, hf⟩ := h
  obtain ⟨a, len, cap, hvv, hlc, hcb, hnil, hat⟩ := open_recs (v := .slice a0 len0 cap0) Tryz.underlying24 Tryz.underlying89 (by kernel_rfl) (by kernel_rfl) hf hz
  injection hvv with h1 h2 h3
  subst h1 h2 h3
  have hb : Tryz.prog.bytesOf 89 = 72 := by kernel_rfl
  rw [hb] at hcb
  obtain ⟨acts, hl, hacts⟩ := choose_list (n := len0) (p := fun k (x : NStp) => (∃ b o, a0 = some ⟨b, o, none⟩ ∧ ∃ la lc, StepCells W b (o + k * 7) x la lc ∧ SlN W .u32 la x.lits) ∧ x.ok) fun i hi => by
    have h00 := hat 0 (by omega)
    obtain ⟨ad, m, rfl, hfields⟩ := hat i hi
    obtain ⟨u0, z0, hc0, ht0, _⟩ := hfields 0 _ rfl
    obtain ⟨u1, z1, hc1, ht1, hz1⟩ := hfields 1 _ rfl
    obtain ⟨u2, z2, hc2, ht2, _⟩ := hfields 2 _ rfl
    obtain ⟨u3, z3, hc3, ht3, _⟩ := hfields 3 _ rfl
    obtain ⟨u4, z4, hc4, ht4, _⟩ := hfields 4 _ rfl
    obtain ⟨u5, z5, hc5, ht5, _⟩ := hfields 5 _ rfl
    obtain ⟨u6, z6, hc6, ht6, hz6⟩ := hfields 6 _ rfl
    obtain ⟨x0, e0, _, f0⟩ := DataW.trod_int Tryz.underlying3 ht0
    obtain ⟨x1, e1, d1, f1⟩ := DataW.trod_string Tryz.underlying9 ht1
    obtain ⟨x2, e2, _, f2⟩ := DataW.trod_int Tryz.underlying3 ht2
    obtain ⟨x3, e3, _, f3⟩ := DataW.trod_int Tryz.underlying46 ht3
    obtain ⟨x4, e4, _, f4⟩ := DataW.trod_int Tryz.underlying46 ht4
    obtain ⟨x5, e5, _, f5⟩ := DataW.trod_int Tryz.underlying46 ht5
    simp at e0 e1 e2 e3 e4 e5
    subst e0 e1 e2 e3 e4 e5
    obtain ⟨x3, rfl, y3⟩ := wf_nat (m := 4294967296) rfl rfl f3
    obtain ⟨x4, rfl, y4⟩ := wf_nat (m := 4294967296) rfl rfl f4
    obtain ⟨x5, rfl, y5⟩ := wf_nat (m := 4294967296) rfl rfl f5
    have fx : -9223372036854775808 ≤ x2 ∧ x2 ≤ 9223372036854775807 := by
      simp [Lit.wf, IntKind.min, IntKind.max, IntKind.signed, IntKind.bits] at f2
      omega
    have hs1 : x1.size ≤ 140737488351232 := by
      have h := hz1 x1.size (by rw [d1]; simp [DataW.weights])
      simpa [reachBytes] using h
    obtain ⟨al, cl, l, rfl, hlcl, hsl, hlm, hnl, hclb⟩ := open_natsT (m := 4294967296) (bytes := 4) Tryz.underlying87 Tryz.underlying46 (by kernel_rfl) (by kernel_rfl) rfl rfl ht6 hz6
    obtain ⟨ad2, m2, e2, hf2⟩ := h00
    injection e2 with e2
    subst e2
    obtain ⟨u7, z7, hc7, _, _⟩ := hf2 0 _ rfl
    obtain ⟨b, o, rfl⟩ := plain_spot (by simpa using hc7)
    rw [add_at] at hc0 hc1 hc2 hc3 hc4 hc5 hc6
    exact ⟨⟨x0, x1, x2, x3, x4, x5, l⟩, ⟨b, o, rfl, al, cl, ⟨hc0, hc1, hc2, hc3, hc4, hc5, hc6⟩, hsl⟩, ⟨hs1, fx.1, fx.2, y3, y4, y5, hlm, by show l.length ≤ _; omega⟩⟩
  refine ⟨a0, acts, cap0, by rw [hl], by omega, fun k hk => (hacts k hk).1, fun s hs => ?_⟩
  obtain ⟨k, hk, rfl⟩ := List.getElem_of_mem hs
  exact (hacts k hk).2
end
end Go.Proofs.YtdmcdhkkbkgnbaaGreat

namespace Go.Proofs.YtdmcdhkkbkgnbaaGreat
open Go.ChangeShapes Go.WideShapes Go.ChangeAt Go.RowKit Go.Deep Go.Joins
open Go.Maps (Keyed)
open Go.WideMaps
set_option linter.unusedVariables false
set_option linter.unusedSimpArgs false

variable {w w' : World} {p q n : Nat} {F R S : List Nat} {g : Gr} {N : Nt}
set_option maxHeartbeats 3200000 in
set_option maxRecDepth 100000 in
theorem wants_3 (s : NStp) (la : Option Addr) (lc : Nat) (h : RNetAt w n F R N) (hok : NtSmall N) (hs : s.ok) (hsl : SlN w .u32 la s.lits) (hlc : s.lits.length ≤ lc) (h0 : s.what = 3) :
    Calls Tryz.prog 35 #[.pointer (some ⟨n, 0, none⟩), stepV s la lc] w (WantPost (addOut N s.name (s.lits.take 70)).1 w n F R) := by
  have HK0 := (Kept.refl [] w).alloc (.cells (stepCells6 s la lc) 89)
  have HK := Lib.hid HK0
  have hqF : w.heap.size ∉ F := fun hx => Nat.lt_irrefl _ (h.lt.1 _ hx)
  have HB := Lib.hid (fun i => box_cell s la lc w i)
  have HA := Lib.hid (fun (W : World) (hk : Kept [] (w.alloc (.cells (stepCells6 s la lc) 89)) W) (m : Nat) (hm : (s.lits.take 70).length = m) => addout06 ((h.kept0 HK0).kept0 hk) ⟨hok.1, by have := hok.2.2.2; omega⟩ s.name hs.nm la lc m (s.lits.take 70) hm (by rw [← hm, List.length_take]; have := hs.ll; omega) (((hsl.kept0 HK0).kept0 hk).take 70) (fun x hx => hs.l x (List.mem_of_mem_take hx)))
  have hll := hs.ll
  generalize addOut N s.name (s.lits.take 70) = res at *
  obtain ⟨N', y⟩ := res
  obtain ⟨what, nm, sn, a, b, c, lits⟩ := s
  simp only at hlc hll
  obtain ⟨ln, hln⟩ : ∃ k, k = lits.length := ⟨_, rfl⟩
  have HLN := Lib.hid hln
  simp only [stepV, stepCells6] at *
  rw [← hln] at HK HB HA hlc hll ⊢
  subst h0
  clear hs hln HK0 h hsl hok
  rcases (show (ln ≤ 70 ∧ (0 : Int) ≤ (lc : Int) ∧ ((70 : Int) < (ln : Int)) = False ∧ (70 < ln) = False) ∨ (¬ ln ≤ 70 ∧ (70 : Int) ≤ (lc : Int) ∧ ((70 : Int) < (ln : Int)) = True ∧ (70 < ln) = True) from by
    by_cases h : ln ≤ 70
    · exact .inl ⟨h, by omega, eq_false (by omega), eq_false (by omega)⟩
    · exact .inr ⟨h, by omega, eq_true (by omega), eq_true (by omega)⟩) with ⟨h70, i3, m1, m2⟩ | ⟨h70, i3, m1, m2⟩
  all_goals
    go_enter Tryz.func35, Tryz.ntmps35; (try simp only [List.append])
    go_wp2_with fail
    obtain ⟨q, hq⟩ : ∃ q, q = w.heap.size := ⟨_, rfl⟩
    obtain ⟨w0, hw0⟩ : ∃ w0, w0 = w.alloc (.cells #[.int .i64 3, .string nm, .int .i64 sn, .int .u32 (a : Int), .int .u32 (b : Int), .int .u32 (c : Int), .slice la ln lc] 89) := ⟨_, rfl⟩
    rw [← hq, ← hw0] at HB
    rw [← hw0] at HK HA
    rw [← hq] at hqF
    rw [← hq, ← hw0]
    have d1 : w0.cell? ⟨q, 1, none⟩ = some (.string nm) := HB.out 1
    have d6 : w0.cell? ⟨q, 6, none⟩ = some (.slice la ln lc) := HB.out 6
    have i1 : (ln : Int) ≤ (lc : Int) := by omega
    have i2 : (0 : Int) ≤ (ln : Int) := by omega
    clear hq hw0 HB
    go_region_held3 (fun w' => w'.cell? ⟨q, 1, none⟩ = some (.string nm) ∧ w'.cell? ⟨q, 6, none⟩ = some (.slice la ln lc))
      (first | exact ⟨Kept.cell (F := F) (w := w0) (by (repeat (first | with_reducible exact Kept.refl _ _ | with_reducible apply Kept.drew | with_reducible apply Kept.drewN | with_reducible apply Kept.alloc | refine Kept.trans ?_ k5))) d1 hqF, Kept.cell (F := F) (w := w0) (by (repeat (first | with_reducible exact Kept.refl _ _ | with_reducible apply Kept.drew | with_reducible apply Kept.drewN | with_reducible apply Kept.alloc | refine Kept.trans ?_ k5))) d6 hqF⟩ | go_keep)
      (first
        | (go_at_call 48; (with_reducible refine (HA.out _ ?kk1 ln ?kk2).mono ?_); (case kk1 => ((repeat (first | with_reducible exact Kept.refl _ _ | with_reducible apply Kept.drew | with_reducible apply Kept.drewN | with_reducible apply Kept.alloc)))); (case kk2 => (rw [List.length_take]; have := HLN.out; omega)); rintro e w5 ⟨F5, R5, rfl, hn5, hs5⟩; have k5 := hs5.st.kept)
        | (go_at_call 48; (with_reducible refine (HA.out _ ?kk1 70 ?kk2).mono ?_); (case kk1 => ((repeat (first | with_reducible exact Kept.refl _ _ | with_reducible apply Kept.drew | with_reducible apply Kept.drewN | with_reducible apply Kept.alloc)))); (case kk2 => (rw [List.length_take]; have := HLN.out; omega)); rintro e w5 ⟨F5, R5, rfl, hn5, hs5⟩; have k5 := hs5.st.kept))
    all_goals
      have HN5 := Lib.hid hn5
      have HS5 := Lib.hid (((NStep.refl w F R).keep (HK.out.trans (by (repeat (first | with_reducible exact Kept.refl _ _ | with_reducible apply Kept.drew | with_reducible apply Kept.drewN | with_reducible apply Kept.alloc))))).trans hs5)
      clear hn5 hs5 k5 d1 d6
      go_wp2_with fail
      go_ret2
      exact ⟨F5, R5, none, 0, 0, _, rfl, HN5.out, HS5.out⟩
theorem wants_c (s : NStp) (la : Option Addr) (lc : Nat) (h : RNetAt w n F R N) (hok : NtSmall N) (hs : s.ok) (hsl : SlN w .u32 la s.lits) (hlc : s.lits.length ≤ lc) :
    Calls Tryz.prog 35 #[.pointer (some ⟨n, 0, none⟩), stepV s la lc] w (WantPost (doesN N s).1 w n F R) := by
  unfold doesN
  by_cases h0 : s.what = 0
  · rw [if_pos h0]; exact wants_0 s la lc h hok hs h0
  rw [if_neg h0]
  by_cases h1 : s.what = 1
  · rw [if_pos h1]; exact wants_1 s la lc h hok hs h1
  rw [if_neg h1]
  by_cases h2 : s.what = 2
  · rw [if_pos h2]; exact wants_2 s la lc h hok hs h2
  rw [if_neg h2]
  by_cases h3 : s.what = 3
  · rw [if_pos h3]; exact wants_3 s la lc h hok hs hsl hlc h3
  rw [if_neg h3]
  by_cases h4 : s.what = 4
  · rw [if_pos (.inl h4)]; exact wants_4 s la lc h hok hs h4
  by_cases h5 : s.what = 5
  · rw [if_pos (.inr (.inl h5))]; exact wants_5 s la lc h hok hs h5
  by_cases h6 : s.what = 6
  · rw [if_pos (.inr (.inr h6))]; exact wants_6 s la lc h hok hs h6
  rw [if_neg (by omega)]
  by_cases h7 : s.what = 7
  · rw [if_pos h7]; exact wants_7 s la lc h hok hs h7
  rw [if_neg h7]
  by_cases h8 : s.what = 8
  · rw [if_pos h8]; exact wants_8 s la lc h hok hs h8
  rw [if_neg h8]
  exact wants_9 s la lc h hok hs (by omega)
/-- steps where they lie, their rows within their capacities -/
def SlNStepsC (W : World) (a : Option Addr) (l : List NStp) : Prop :=
  ∀ k, (hk : k < l.length) → ∃ b o, a = some ⟨b, o, none⟩ ∧ ∃ la lc, StepCells W b (o + k * 7) l[k] la lc ∧ SlN W .u32 la l[k].lits ∧ l[k].lits.length ≤ lc
theorem SlNStepsC.kept0 {W W' : World} {a : Option Addr} {l : List NStp} (h : SlNStepsC W a l) (hk : Kept [] W W') : SlNStepsC W' a l := by
  intro k hkl
  obtain ⟨b, o, h1, la, lc, ⟨c0, c1, c2, c3, c4, c5, c6⟩, h3, h4⟩ := h k hkl
  exact ⟨b, o, h1, la, lc, ⟨hk.cell c0 (by simp), hk.cell c1 (by simp), hk.cell c2 (by simp), hk.cell c3 (by simp), hk.cell c4 (by simp), hk.cell c5 (by simp), hk.cell c6 (by simp)⟩, h3.kept0 hk, h4⟩
section
variable {H : Type} {enc : TypeId × Value → H} {W : World} {base : Nat} {v : Value} {d : DataW H} {ps : List MemPlace}
set_option maxRecDepth 100000 in
theorem open_nstepsc (hv : Value.okWide Tryz.prog W .any base 24 v) (h : DataW.Trod enc Tryz.prog W 0 (fun _ => true) true 24 v d ps) (hz : Sized Tryz.prog 24 d) :
    ∃ (a : Option Addr) (l : List NStp) (c : Nat), v = .slice a l.length c ∧ l.length ≤ 140737488351232 ∧ SlNStepsC W a l ∧ ∀ s ∈ l, s.ok := by
  obtain ⟨a0, len0, cap0, rfl⟩ := okWide_slice Tryz.underlying24 hv
  obtain ⟨fuel, hf⟩ := h
  obtain ⟨a, len, cap, hvv, hlc, hcb, hnil, hat⟩ := open_recs (v := .slice a0 len0 cap0) Tryz.underlying24 Tryz.underlying89 (by kernel_rfl) (by kernel_rfl) hf hz
  injection hvv with h1 h2 h3
  subst h1 h2 h3
  have hb : Tryz.prog.bytesOf 89 = 72 := by kernel_rfl
  rw [hb] at hcb
  obtain ⟨acts, hl, hacts⟩ := choose_list (n := len0) (p := fun k (x : NStp) => (∃ b o, a0 = some ⟨b, o, none⟩ ∧ ∃ la lc, StepCells W b (o + k * 7) x la lc ∧ SlN W .u32 la x.lits ∧ x.lits.length ≤ lc) ∧ x.ok) fun i hi => by
    have h00 := hat 0 (by omega)
    obtain ⟨ad, m, rfl, hfields⟩ := hat i hi
    obtain ⟨u0, z0, hc0, ht0, _⟩ := hfields 0 _ rfl
    obtain ⟨u1, z1, hc1, ht1, hz1⟩ := hfields 1 _ rfl
    obtain ⟨u2, z2, hc2, ht2, _⟩ := hfields 2 _ rfl
    obtain ⟨u3, z3, hc3, ht3, _⟩ := hfields 3 _ rfl
    obtain ⟨u4, z4, hc4, ht4, _⟩ := hfields 4 _ rfl
    obtain ⟨u5, z5, hc5, ht5, _⟩ := hfields 5 _ rfl
    obtain ⟨u6, z6, hc6, ht6, hz6⟩ := hfields 6 _ rfl
    obtain ⟨x0, e0, _, f0⟩ := DataW.trod_int Tryz.underlying3 ht0
    obtain ⟨x1, e1, d1, f1⟩ := DataW.trod_string Tryz.underlying9 ht1
    obtain ⟨x2, e2, _, f2⟩ := DataW.trod_int Tryz.underlying3 ht2
    obtain ⟨x3, e3, _, f3⟩ := DataW.trod_int Tryz.underlying46 ht3
    obtain ⟨x4, e4, _, f4⟩ := DataW.trod_int Tryz.underlying46 ht4
    obtain ⟨x5, e5, _, f5⟩ := DataW.trod_int Tryz.underlying46 ht5
    simp at e0 e1 e2 e3 e4 e5
    subst e0 e1 e2 e3 e4 e5
    obtain ⟨x3, rfl, y3⟩ := wf_nat (m := 4294967296) rfl rfl f3
    obtain ⟨x4, rfl, y4⟩ := wf_nat (m := 4294967296) rfl rfl f4
    obtain ⟨x5, rfl, y5⟩ := wf_nat (m := 4294967296) rfl rfl f5
    have fx : -9223372036854775808 ≤ x2 ∧ x2 ≤ 9223372036854775807 := by
      simp [Lit.wf, IntKind.min, IntKind.max, IntKind.signed, IntKind.bits] at f2
      omega
    have hs1 : x1.size ≤ 140737488351232 := by
      have h := hz1 x1.size (by rw [d1]; simp [DataW.weights])
      simpa [reachBytes] using h
    obtain ⟨al, cl, l, rfl, hlcl, hsl, hlm, hnl, hclb⟩ := open_natsT (m := 4294967296) (bytes := 4) Tryz.underlying87 Tryz.underlying46 (by kernel_rfl) (by kernel_rfl) rfl rfl ht6 hz6
    obtain ⟨ad2, m2, e2, hf2⟩ := h00
    injection e2 with e2
    subst e2
    obtain ⟨u7, z7, hc7, _, _⟩ := hf2 0 _ rfl
    obtain ⟨b, o, rfl⟩ := plain_spot (by simpa using hc7)
    rw [add_at] at hc0 hc1 hc2 hc3 hc4 hc5 hc6
    exact ⟨⟨x0, x1, x2, x3, x4, x5, l⟩, ⟨b, o, rfl, al, cl, ⟨hc0, hc1, hc2, hc3, hc4, hc5, hc6⟩, hsl, hlcl⟩, ⟨hs1, fx.1, fx.2, y3, y4, y5, hlm, by show l.length ≤ _; omega⟩⟩
  refine ⟨a0, acts, cap0, by rw [hl], by omega, fun k hk => (hacts k hk).1, fun s hs => ?_⟩
  obtain ⟨k, hk, rfl⟩ := List.getElem_of_mem hs
  exact (hacts k hk).2
end
end Go.Proofs.YtdmcdhkkbkgnbaaGreat

namespace Go.Proofs.YtdmcdhkkbkgnbaaGreat
open Go.ChangeShapes Go.WideShapes Go.ChangeAt Go.RowKit
open Go.Maps (Keyed)
open Go.WideMaps
set_option linter.unusedVariables false
set_option linter.unusedSimpArgs false

def topS : ByteArray := ⟨#[116, 111, 112]⟩
def stepN (skip : Bool) (N : Nt) (s : NStp) : Nt := if skip = true ∧ s.what = 8 then N else (doesN N s).1
def builtN (skip o1 o2 : Bool) (l : List NStp) (k : Nat) : Nt := (l.take k).foldl (stepN skip) (newN topS o1 o2)
theorem builtN_succ (skip o1 o2 : Bool) (l : List NStp) (k : Nat) (h : k < l.length) : builtN skip o1 o2 l (k + 1) = stepN skip (builtN skip o1 o2 l k) l[k] := by
  unfold builtN
  rw [List.take_succ_eq_append_getElem h, List.foldl_append]
  rfl
theorem builtN_end (skip o1 o2 : Bool) (l : List NStp) (k : Nat) (h : l.length ≤ k) : builtN skip o1 o2 l k = builtN skip o1 o2 l l.length := by
  unfold builtN
  rw [List.take_of_length_le h, List.take_of_length_le (Nat.le_refl _)]
theorem stepN_fine {k : Nat} {N : Nt} (h : NtFine k N) (skip : Bool) (s : NStp) : NtFine (k + 1) (stepN skip N s) := by
  unfold stepN
  split
  · exact h.mono
  · exact doesN_fine h s
theorem builtN_fine (skip o1 o2 : Bool) (l : List NStp) (k : Nat) : NtFine k (builtN skip o1 o2 l k) := by
  induction k with
  | zero => exact newN_fine topS o1 o2 t_facts.1
  | succ k ih =>
    by_cases h : k < l.length
    · rw [builtN_succ _ _ _ _ _ h]; exact stepN_fine ih _ _
    · have e : builtN skip o1 o2 l (k + 1) = builtN skip o1 o2 l k := by rw [builtN_end _ _ _ _ _ (by omega), ← builtN_end _ _ _ _ k (by omega)]
      rw [e]; exact ih.mono
theorem NtFine.small {k : Nat} {N : Nt} (h : NtFine k N) (hk : k ≤ 700) : NtSmall N := by
  have a1 := h.ok.len
  have a2 := h.ok.ik
  have a3 := h.ok.rk
  have a4 := h.ok.ok
  exact ⟨by omega, by omega, by omega, by omega⟩
structure BothN (w w' : World) (n : Nat) (F R : List Nat) (N : Nt) (q : Nat) (F2 R2 : List Nat) (N2 : Nt) : Prop where
  net : NetAt w' n F R N
  ref : RNetAt w' q F2 R2 N2
  kept : Kept [] w w'
  new1 : ∀ b ∈ F ++ R, w.heap.size ≤ b
  new2 : ∀ b ∈ F2 ++ R2, w.heap.size ≤ b
  ap1 : ∀ b ∈ F2 ++ R2, b ∉ F
  ap2 : ∀ b ∈ F ++ R, b ∉ F2
variable {w w1 w2 : World} {n q : Nat} {F R F' R' F2 R2 F2' R2' : List Nat} {N N' N2 N2' : Nt}
theorem BothN.keep (h : BothN w w1 n F R N q F2 R2 N2) (hk : Kept [] w1 w2) : BothN w w2 n F R N q F2 R2 N2 :=
  ⟨h.net.kept0 hk, h.ref.kept0 hk, h.kept.trans hk, h.new1, h.new2, h.ap1, h.ap2⟩
theorem BothN.stepNet (h : BothN w w1 n F R N q F2 R2 N2) (hn : NetAt w2 n F' R' N') (hs : NStep w1 w2 F R F' R') : BothN w w2 n F' R' N' q F2 R2 N2 := by
  have l2 := h.ref.lt
  refine ⟨hn, h.ref.kept hs.st.kept (fun b hb => h.ap1 b (by simp [hb])) (fun b hb => h.ap1 b (by simp [hb])), kept_up h.kept hs.st.kept (fun b hb => h.new1 b (by simp [hb])), fun b hb => ?_, h.new2, fun b hb hx => ?_, fun b hb hx => ?_⟩
  · rcases List.mem_append.1 hb with hb | hb
    · exact (hs.st.fresh b hb).elim (fun h1 => h.new1 b (by simp [h1])) (fun h1 => Nat.le_trans h.kept.size h1)
    · exact (hs.rows b hb).elim (fun h1 => h.new1 b (by simp [h1])) (fun h1 => Nat.le_trans h.kept.size h1)
  · rcases hs.st.fresh b hx with h1 | h1
    · exact h.ap1 b hb h1
    · rcases List.mem_append.1 hb with hb | hb
      · have := l2.1 b hb; omega
      · have := l2.2 b hb; omega
  · rcases List.mem_append.1 hb with hb | hb
    · rcases hs.st.fresh b hb with h1 | h1
      · exact h.ap2 b (by simp [h1]) hx
      · have := l2.1 b hx; omega
    · rcases hs.rows b hb with h1 | h1
      · exact h.ap2 b (by simp [h1]) hx
      · have := l2.1 b hx; omega
theorem BothN.stepRef (h : BothN w w1 n F R N q F2 R2 N2) (hn : RNetAt w2 q F2' R2' N2') (hs : NStep w1 w2 F2 R2 F2' R2') : BothN w w2 n F R N q F2' R2' N2' := by
  have l1 := h.net.lt
  refine ⟨h.net.kept hs.st.kept (fun b hb => h.ap2 b (by simp [hb])) (fun b hb => h.ap2 b (by simp [hb])), hn, kept_up h.kept hs.st.kept (fun b hb => h.new2 b (by simp [hb])), h.new1, fun b hb => ?_, fun b hb hx => ?_, fun b hb hx => ?_⟩
  · rcases List.mem_append.1 hb with hb | hb
    · exact (hs.st.fresh b hb).elim (fun h1 => h.new2 b (by simp [h1])) (fun h1 => Nat.le_trans h.kept.size h1)
    · exact (hs.rows b hb).elim (fun h1 => h.new2 b (by simp [h1])) (fun h1 => Nat.le_trans h.kept.size h1)
  · rcases List.mem_append.1 hb with hb | hb
    · rcases hs.st.fresh b hb with h1 | h1
      · exact h.ap1 b (by simp [h1]) hx
      · have := l1.1 b hx; omega
    · rcases hs.rows b hb with h1 | h1
      · exact h.ap1 b (by simp [h1]) hx
      · have := l1.1 b hx; omega
  · rcases hs.st.fresh b hx with h1 | h1
    · exact h.ap2 b hb h1
    · rcases List.mem_append.1 hb with hb | hb
      · have := l1.1 b hb; omega
      · have := l1.2 b hb; omega
def BuiltPost (skip o1 o2 : Bool) (l : List NStp) (w : World) (e : Ending) (w' : World) : Prop :=
  ∃ n F R q F2 R2, e = .returned (.tuple #[.pointer (some ⟨n, 0, none⟩), .pointer (some ⟨q, 0, none⟩)]) ∧ BothN w w' n F R (builtN skip o1 o2 l 60) q F2 R2 (builtN skip o1 o2 l 60)
theorem NetAt.graphC (h : NetAt w n F R N) : ∃ p, w.cell? ⟨n, 0, none⟩ = some (.pointer (some ⟨p, 0, none⟩)) := by
  obtain ⟨p, G, ia, ic, ra, rc, oa, oc, ri, ro, rfl, rfl, hc⟩ := h
  exact ⟨p, hc.c0⟩
set_option maxHeartbeats 3200000 in
set_option maxRecDepth 100000 in
theorem built30 (o1 o2 : Bool) (sa : Option Addr) (sl : List NStp) (sc len : Nat) (w : World) (hlen : sl.length = len) (hss : SlNStepsC w sa sl) (hso : ∀ s ∈ sl, s.ok) :
    Calls Tryz.prog 7 #[.agg #[.bool o1, .bool o2], .slice sa len sc] w (BuiltPost false o1 o2 sl w) := by
  have HL := Lib.hid hlen.symm
  have HS := Lib.hid hss
  have HO := Lib.hid hso
  have HZ := Lib.hid (show builtN false o1 o2 sl 0 = newN topS o1 o2 from rfl)
  clear hlen hss hso
  go_enter Tryz.func7, Tryz.ntmps7; (try simp only [List.append])
  go_wp2_with fail
  refine (new_net topS o1 o2 _ (by decide) t_facts.1).mono ?_
  rintro e w1 ⟨n, F, rfl, hn, hk, hf⟩
  have N1 := Lib.hid hn
  have K1 := Lib.hid (((Kept.refl [] w).alloc (.cells #[.bool o1, .bool o2] 23)).trans hk)
  have F1 := Lib.hid (show ∀ b ∈ F, w.heap.size ≤ b from fun b hb => Nat.le_trans (by simp) (hf b hb))
  have hq0 : w1.cell? ⟨w.heap.size, 0, none⟩ = some (.bool o1) := hk.cell (blk_cell (heap_alloc_new w _) 0) (by simp)
  have hq1 : w1.cell? ⟨w.heap.size, 1, none⟩ = some (.bool o2) := hk.cell (blk_cell (heap_alloc_new w _) 1) (by simp)
  clear hn hk hf
  go_wp2_with fail
  refine (new06 topS o1 o2 _ (by decide) t_facts.1).mono ?_
  rintro e w2 ⟨q, F2, rfl, hn2, hk2, hf2⟩
  have B0 := Lib.hid (show BothN w w2 n F [] (builtN false o1 o2 sl 0) q F2 [] (builtN false o1 o2 sl 0) from by
    rw [HZ.out]
    have l1 := N1.out.lt
    exact ⟨N1.out.kept0 hk2, hn2, K1.out.trans hk2, fun b hb => by simp at hb; exact F1.out b hb, fun b hb => by simp at hb; exact Nat.le_trans K1.out.size (hf2 b hb), fun b hb hx => by simp at hb; have := hf2 b hb; have := l1.1 b hx; omega, fun b hb hx => by simp at hb; have := hf2 b hx; have := l1.1 b hb; omega⟩)
  obtain ⟨p0, hc0⟩ := B0.out.net.graphC
  clear hn2 hk2 hf2 hq0 hq1
  go_wp2_with fail
  clear hc0
  go_loopw [10] (fun i wr => ∃ (k : Nat) (F R F2 R2 : List Nat), k ≤ 60 ∧ k ≤ len ∧ i = .int .i64 k ∧ BothN w wr n F R (builtN false o1 o2 sl k) q F2 R2 (builtN false o1 o2 sl k)) (fun i _ => 60 - (intOf i).toNat)
  case atStart => exact ⟨0, F, [], F2, [], by omega, by omega, rfl, B0.out⟩
  case round =>
    obtain ⟨k, F, R, F2, R2, h60, hkl, rfl, hB⟩ := hrel
    have BB := Lib.hid hB
    clear hB B0
    by_cases hlt : k < len ∧ k < 60
    · obtain ⟨h1, h2⟩ := hlt
      have hkk : k < sl.length := by rw [← HL.out]; exact h1
      obtain ⟨b, o, rfl, la, lc, ⟨z0, z1, z2, z3, z4, z5, z6⟩, hlw, hlc⟩ := HS.out k hkk
      have KB := Lib.hid BB.out.kept
      have c0 := KB.out.cell z0 (by simp)
      have c1 := KB.out.cell z1 (by simp)
      have c2 := KB.out.cell z2 (by simp)
      have c3 := KB.out.cell z3 (by simp)
      have c4 := KB.out.cell z4 (by simp)
      have c5 := KB.out.cell z5 (by simp)
      have c6 := KB.out.cell z6 (by simp)
      have HSM := Lib.hid ((builtN_fine false o1 o2 sl k).small (by omega))
      have HSTEP := Lib.hid (builtN_succ false o1 o2 sl k hkk)
      have hok := HO.out _ (List.getElem_mem hkk)
      have HD := Lib.hid (does_c sl[k] la lc BB.out.net (by have := HSM.out; unfold NtSmall at this; omega) hok (hlw.kept0 KB.out))
      have HW := Lib.hid (fun (W : World) (hkW : Kept [] w W) (F2 R2 : List Nat) (h : RNetAt W q F2 R2 (builtN false o1 o2 sl k)) => wants_c sl[k] la lc h HSM.out hok (hlw.kept0 hkW) hlc)
      have Z := Lib.hid (show StepCells w b (o + k * 7) sl[k] la lc from ⟨z0, z1, z2, z3, z4, z5, z6⟩)
      generalize sl[k] = s at *
      generalize hNk : builtN false o1 o2 sl k = Nk at *
      generalize hNk1 : builtN false o1 o2 sl (k + 1) = Nk1 at *
      obtain ⟨what, nm, sn, a, bb, c, lits⟩ := s
      obtain ⟨ln, hln⟩ : ∃ k, k = lits.length := ⟨_, rfl⟩
      have HNk := Lib.hid hNk
      have HNk1 := Lib.hid hNk1
      unfold StepCells at Z
      simp only [stepV, stepCells6] at c0 c1 c2 c3 c4 c5 c6 HD HW Z
      rw [← hln] at c6 HD HW Z
      clear hok hlw hlc hln z0 z1 z2 z3 z4 z5 z6 hNk hNk1
      have HE := Lib.hid (show Nk1 = (doesN Nk ⟨what, nm, sn, a, bb, c, lits⟩).1 from by rw [HSTEP.out]; unfold stepN; rw [if_neg (fun h => Bool.noConfusion h.1)])
      go_wp2_with fail
      refine HD.out.mono ?_
      intro e w4 hx
      obtain ⟨F4, R4, a4, c4', k4, he, hn4, hs4, ho4, hf4⟩ := hx
      subst he
      rw [← HE.out] at hn4
      have B4 := Lib.hid (BB.out.stepNet hn4 hs4)
      have K4 := Lib.hid B4.out.kept
      obtain ⟨z0, z1, z2, z3, z4, z5, z6⟩ := Z.out
      have d0 := K4.out.cell z0 (by simp)
      have d1 := K4.out.cell z1 (by simp)
      have d2 := K4.out.cell z2 (by simp)
      have d3 := K4.out.cell z3 (by simp)
      have d4 := K4.out.cell z4 (by simp)
      have d5 := K4.out.cell z5 (by simp)
      have d6 := K4.out.cell z6 (by simp)
      clear hn4 hs4 ho4 hf4 z0 z1 z2 z3 z4 z5 z6 c0 c1 c2 c3 c4 c5 c6
      go_wp2_with fail
      refine (HW.out _ K4.out F2 R2 B4.out.ref).mono ?_
      intro e w5 hx
      obtain ⟨F5, R5, a5, c5', k5, z5, he, hn5, hs5⟩ := hx
      subst he
      rw [← HE.out] at hn5
      have B5 := Lib.hid (B4.out.stepRef hn5 hs5)
      clear hn5 hs5 d0 d1 d2 d3 d4 d5 d6
      go_wp2_with fail
      go_roundw
      case rel => exact ⟨k + 1, F4, R4, F5, R5, by omega, by omega, by go_num, by rw [HNk1.out]; exact B5.out⟩
      case measure => simp [intOf]; omega
    · have HE := Lib.hid (show builtN false o1 o2 sl k = builtN false o1 o2 sl 60 from by
        by_cases h : k < len
        · have : k = 60 := by omega
          rw [this]
        · have hl := HL.out
          rw [builtN_end _ _ _ _ 60 (by omega), builtN_end _ _ _ _ k (by omega)])
      rw [HE.out] at BB
      rcases (show (k < len ∧ ¬ k < 60) ∨ (¬ k < len ∧ True) from by by_cases h : k < len; exact .inl ⟨h, by omega⟩; exact .inr ⟨h, trivial⟩) with ⟨h1, h2⟩ | ⟨h1, h2⟩
      all_goals
        clear hlt
        go_wp2_with fail
        go_ret2
        exact ⟨n, F, R, q, F2, R2, rfl, BB.out⟩
end Go.Proofs.YtdmcdhkkbkgnbaaGreat
