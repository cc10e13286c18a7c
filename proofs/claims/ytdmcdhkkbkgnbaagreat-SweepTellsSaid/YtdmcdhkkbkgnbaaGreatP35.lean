/-
  Law 30: the chapter's rows.
  Law 30: the chapter's two netlists.
  A netlist of steps, and the document's, side by side (laws 08 and 30).
  Law 06: Wants, joined. Rows of steps, with their rows' capacities. A netlist and the document's, built side by side.
  Law 06's arguments, opened: rows of steps.
  Opening a law's argument: a graph's options.
-/
import Derived.Test.YtdmcdhkkbkgnbaaGreatP32
import Derived.Test.YtdmcdhkkbkgnbaaGreatP14
import Derived.Test.YtdmcdhkkbkgnbaaGreatP34
import Derived.Test.YtdmcdhkkbkgnbaaGreatP16
import Derived.Test.YtdmcdhkkbkgnbaaGreatP02
import Derived.Test.YtdmcdhkkbkgnbaaGreatP31
namespace Go.Proofs.YtdmcdhkkbkgnbaaGreat
open Go.ChangeShapes Go.WideShapes Go.ChangeAt Go.RowKit Go.Deep Go.Joins
set_option linter.unusedVariables false

section
variable {H : Type} {enc : TypeId × Value → H} {W : World} {base : Nat} {v : Value} {d : DataW H} {ps : List MemPlace}
set_option maxRecDepth 100000 in
theorem open_opts (hv : Value.okWide Tryz.prog W .any base 23 v) (h : DataW.Trod enc Tryz.prog W 0 (fun _ => true) true 23 v d ps) (hz : Sized Tryz.prog 23 d) : ∃ a b : Bool, v = .agg #[.bool a, .bool b] :=
  open_bools2 Tryz.underlying23 (by kernel_rfl) (by kernel_rfl) Tryz.underlying4 Tryz.underlying4 hv h
end
end Go.Proofs.YtdmcdhkkbkgnbaaGreat

namespace Go.Proofs.YtdmcdhkkbkgnbaaGreat
open Go.ChangeShapes Go.WideShapes Go.ChangeAt Go.RowKit Go.Deep Go.Joins
set_option linter.unusedVariables false

/-- the cells of a step -/
def StepCells (W : World) (b o : Nat) (s : NStp) (la : Option Addr) (lc : Nat) : Prop :=
  W.cell? ⟨b, o, none⟩ = some (.int .i64 s.what) ∧ W.cell? ⟨b, o + 1, none⟩ = some (.string s.name) ∧ W.cell? ⟨b, o + 2, none⟩ = some (.int .i64 s.n) ∧ W.cell? ⟨b, o + 3, none⟩ = some (.int .u32 (s.a : Int)) ∧
  W.cell? ⟨b, o + 4, none⟩ = some (.int .u32 (s.b : Int)) ∧ W.cell? ⟨b, o + 5, none⟩ = some (.int .u32 (s.c : Int)) ∧ W.cell? ⟨b, o + 6, none⟩ = some (.slice la s.lits.length lc)
/-- steps where they lie -/
def SlNSteps (W : World) (a : Option Addr) (l : List NStp) : Prop :=
  ∀ k, (hk : k < l.length) → ∃ b o, a = some ⟨b, o, none⟩ ∧ ∃ la lc, StepCells W b (o + k * 7) l[k] la lc ∧ SlN W .u32 la l[k].lits
theorem SlNSteps.kept0 {W W' : World} {a : Option Addr} {l : List NStp} (h : SlNSteps W a l) (hk : Kept [] W W') : SlNSteps W' a l := by
  intro k hkl
  obtain ⟨b, o, h1, la, lc, ⟨c0, c1, c2, c3, c4, c5, c6⟩, h3⟩ := h k hkl
  exact ⟨b, o, h1, la, lc, ⟨hk.cell c0 (by simp), hk.cell c1 (by simp), hk.cell c2 (by simp), hk.cell c3 (by simp), hk.cell c4 (by simp), hk.cell c5 (by simp), hk.cell c6 (by simp)⟩, h3.kept0 hk⟩
section
variable {H : Type} {enc : TypeId × Value → H} {W : World} {base : Nat} {v : Value} {d : DataW H} {ps : List MemPlace}
set_option maxRecDepth 100000 in
theorem open_nsteps (hv : Value.okWide Tryz.prog W .any base 24 v) (h : DataW.Trod enc Tryz.prog W 0 (fun _ => true) true 24 v d ps) (hz : Sized Tryz.prog 24 d) :
    ∃ (a : Option Addr) (l : List NStp) (c : Nat), v = .slice a l.length c ∧ l.length ≤ 140737488351232 ∧ SlNSteps W a l ∧ ∀ s ∈ l, s.ok := by
  obtain ⟨a0, len0, cap0, rfl⟩ := okWide_slice Tryz.underlying24 hv
  obtain ⟨fuel, hf⟩ := h
  obtain ⟨a, len, cap, hvv, hlc, hcb, hnil, hat⟩ := open_recs (v := .slice a0 len0 cap0) Tryz.underlying24 Tryz.underlying89 (by kernel_rfl) (by kernel_rfl) hf hz
  injection hvv with h1 h2 h3
  subst h1 h2 h3
  have hb : Tryz.prog.bytesOf 89 = 72 := by kernel_rfl
  rw [hb] at hcb
  obtain ⟨acts, hl, hacts⟩ := choose_list (n := len0) (p := fun k (x : NStp) => (∃ b o, a0 = some ⟨b, o, none⟩ ∧ ∃ la lc, StepCells W b (o + k * 7) x la lc ∧ SlN W .u32 la x.lits) ∧ x.ok) fun i hi => by
    have h00 := hat 0 (by omega)
    obtain ⟨ad, m, rfl, hfields⟩ := hat i hi
    obtain ⟨u0, z0, hc0, ht0, _⟩ := hfields 0 _ rfl
    obtain ⟨u1, z1, hc1, ht1, hz1⟩ := hfields 1 _ rfl
    obtain ⟨u2, z2, hc2, ht2, _⟩ := hfields 2 _ rfl
    obtain ⟨u3, z3, hc3, ht3, _⟩ := hfields 3 _ rfl
    obtain ⟨u4, z4, hc4, ht4, _⟩ := hfields 4 _ rfl
    obtain ⟨u5, z5, hc5, ht5, _⟩ := hfields 5 _ rfl
    obtain ⟨u6, z6, hc6, ht6, hz6⟩ := hfields 6 _ rfl
    obtain ⟨x0, e0, _, f0⟩ := DataW.trod_int Tryz.underlying3 ht0
    obtain ⟨x1, e1, d1, f1⟩ := DataW.trod_string Tryz.underlying9 ht1
    obtain ⟨x2, e2, _, f2⟩ := DataW.trod_int Tryz.underlying3 ht2
    obtain ⟨x3, e3, _, f3⟩ := DataW.trod_int Tryz.underlying46 ht3
    obtain ⟨x4, e4, _, f4⟩ := DataW.trod_int Tryz.underlying46 ht4
    obtain ⟨x5, e5, _, f5⟩ := DataW.trod_int Tryz.underlying46 ht5
    simp at e0 e1 e2 e3 e4 e5
    subst e0 e1 e2 e3 e4 e5
    obtain ⟨x3, rfl, y3⟩ := wf_nat (m := 4294967296) rfl rfl f3
    obtain ⟨x4, rfl, y4⟩ := wf_nat (m := 4294967296) rfl rfl f4
    obtain ⟨x5, rfl, y5⟩ := wf_nat (m := 4294967296) rfl rfl f5
    have fx : -9223372036854775808 ≤ x2 ∧ x2 ≤ 9223372036854775807 := by
      simp [Lit.wf, IntKind.min, IntKind.max, IntKind.signed, IntKind.bits] at f2
      omega
    have hs1 : x1.size ≤ 140737488351232 := by
      have h := hz1 x1.size (by rw [d1]; simp [DataW.weights])
      simpa [reachBytes] using h
    obtain ⟨al, cl, l, rfl, hlcl, hsl, hlm, hnl, hclb⟩ := open_natsT (m := 4294967296) (bytes := 4) Tryz.underlying87 Tryz.underlying46 (by kernel_rfl) (by kernel_rfl) rfl rfl ht6 hz6
    obtain ⟨ad2, m2, e2, hf2⟩ := h00
    injection e2 with e2
    subst e2
    obtain ⟨u7, z7, hc7, _, _⟩ := hf2 0 _ rfl
    obtain ⟨b, o, rfl⟩ := plain_spot (by simpa using hc7)
    rw [add_at] at hc0 hc1 hc2 hc3 hc4 hc5 hc6
    exact ⟨⟨x0, x1, x2, x3, x4, x5, l⟩, ⟨b, o, rfl, al, cl, ⟨hc0, hc1, hc2, hc3, hc4, hc5, hc6⟩, hsl⟩, ⟨hs1, fx.1, fx.2, y3, y4, y5, hlm, by show l.length ≤ _; omega⟩⟩
  refine ⟨a0, acts, cap0, by rw [hl], by omega, fun k hk => (hacts k hk).1, fun s hs => ?_⟩
  obtain ⟨k, hk, rfl⟩ := List.getElem_of_mem hs
  exact (hacts k hk).2
end
end Go.Proofs.YtdmcdhkkbkgnbaaGreat

namespace Go.Proofs.YtdmcdhkkbkgnbaaGreat
open Go.ChangeShapes Go.WideShapes Go.ChangeAt Go.RowKit Go.Deep Go.Joins
open Go.Maps (Keyed)
open Go.WideMaps
set_option linter.unusedVariables false
set_option linter.unusedSimpArgs false

variable {w w' : World} {p q n : Nat} {F R S : List Nat} {g : Gr} {N : Nt}
set_option maxHeartbeats 3200000 in
set_option maxRecDepth 100000 in
theorem wants_3 (s : NStp) (la : Option Addr) (lc : Nat) (h : RNetAt w n F R N) (hok : NtSmall N) (hs : s.ok) (hsl : SlN w .u32 la s.lits) (hlc : s.lits.length ≤ lc) (h0 : s.what = 3) :
    Calls Tryz.prog 35 #[.pointer (some ⟨n, 0, none⟩), stepV s la lc] w (WantPost (addOut N s.name (s.lits.take 70)).1 w n F R) := by
  have HK0 := (Kept.refl [] w).alloc (.cells (stepCells6 s la lc) 89)
  have HK := Lib.hid HK0
  have hqF : w.heap.size ∉ F := fun hx => Nat.lt_irrefl _ (h.lt.1 _ hx)
  have HB := Lib.hid (fun i => box_cell s la lc w i)
  have HA := Lib.hid (fun (W : World) (hk : Kept [] (w.alloc (.cells (stepCells6 s la lc) 89)) W) (m : Nat) (hm : (s.lits.take 70).length = m) => addout06 ((h.kept0 HK0).kept0 hk) ⟨hok.1, by have := hok.2.2.2; omega⟩ s.name hs.nm la lc m (s.lits.take 70) hm (by rw [← hm, List.length_take]; have := hs.ll; omega) (((hsl.kept0 HK0).kept0 hk).take 70) (fun x hx => hs.l x (List.mem_of_mem_take hx)))
  have hll := hs.ll
  generalize addOut N s.name (s.lits.take 70) = res at *
  obtain ⟨N', y⟩ := res
  obtain ⟨what, nm, sn, a, b, c, lits⟩ := s
  simp only at hlc hll
  obtain ⟨ln, hln⟩ : ∃ k, k = lits.length := ⟨_, rfl⟩
  have HLN := Lib.hid hln
  simp only [stepV, stepCells6] at *
  rw [← hln] at HK HB HA hlc hll ⊢
  subst h0
  clear hs hln HK0 h hsl hok
  rcases (show (ln ≤ 70 ∧ (0 : Int) ≤ (lc : Int) ∧ ((70 : Int) < (ln : Int)) = False ∧ (70 < ln) = False) ∨ (¬ ln ≤ 70 ∧ (70 : Int) ≤ (lc : Int) ∧ ((70 : Int) < (ln : Int)) = True ∧ (70 < ln) = True) from by
    by_cases h : ln ≤ 70
    · exact .inl ⟨h, by omega, eq_false (by omega), eq_false (by omega)⟩
    · exact .inr ⟨h, by omega, eq_true (by omega), eq_true (by omega)⟩) with ⟨h70, i3, m1, m2⟩ | ⟨h70, i3, m1, m2⟩
  all_goals
    go_enter Tryz.func35, Tryz.ntmps35; (try simp only [List.append])
    go_wp2_with fail
    obtain ⟨q, hq⟩ : ∃ q, q = w.heap.size := ⟨_, rfl⟩
    obtain ⟨w0, hw0⟩ : ∃ w0, w0 = w.alloc (.cells #[.int .i64 3, .string nm, .int .i64 sn, .int .u32 (a : Int), .int .u32 (b : Int), .int .u32 (c : Int), .slice la ln lc] 89) := ⟨_, rfl⟩
    rw [← hq, ← hw0] at HB
    rw [← hw0] at HK HA
    rw [← hq] at hqF
    rw [← hq, ← hw0]
    have d1 : w0.cell? ⟨q, 1, none⟩ = some (.string nm) := HB.out 1
    have d6 : w0.cell? ⟨q, 6, none⟩ = some (.slice la ln lc) := HB.out 6
    have i1 : (ln : Int) ≤ (lc : Int) := by omega
    have i2 : (0 : Int) ≤ (ln : Int) := by omega
    clear hq hw0 HB
    go_region_held3 (fun w' => w'.cell? ⟨q, 1, none⟩ = some (.string nm) ∧ w'.cell? ⟨q, 6, none⟩ = some (.slice la ln lc))
      (first | exact ⟨Kept.cell (F := F) (w := w0) (by (repeat (first | with_reducible exact Kept.refl _ _ | with_reducible apply Kept.drew | with_reducible apply Kept.drewN | with_reducible apply Kept.alloc | refine Kept.trans ?_ k5))) d1 hqF, Kept.cell (F := F) (w := w0) (by (repeat (first | with_reducible exact Kept.refl _ _ | with_reducible apply Kept.drew | with_reducible apply Kept.drewN | with_reducible apply Kept.alloc | refine Kept.trans ?_ k5))) d6 hqF⟩ | go_keep)
      (first
        | (go_at_call 48; (with_reducible refine (HA.out _ ?kk1 ln ?kk2).mono ?_); (case kk1 => ((repeat (first | with_reducible exact Kept.refl _ _ | with_reducible apply Kept.drew | with_reducible apply Kept.drewN | with_reducible apply Kept.alloc)))); (case kk2 => (rw [List.length_take]; have := HLN.out; omega)); rintro e w5 ⟨F5, R5, rfl, hn5, hs5⟩; have k5 := hs5.st.kept)
        | (go_at_call 48; (with_reducible refine (HA.out _ ?kk1 70 ?kk2).mono ?_); (case kk1 => ((repeat (first | with_reducible exact Kept.refl _ _ | with_reducible apply Kept.drew | with_reducible apply Kept.drewN | with_reducible apply Kept.alloc)))); (case kk2 => (rw [List.length_take]; have := HLN.out; omega)); rintro e w5 ⟨F5, R5, rfl, hn5, hs5⟩; have k5 := hs5.st.kept))
    all_goals
      have HN5 := Lib.hid hn5
      have HS5 := Lib.hid (((NStep.refl w F R).keep (HK.out.trans (by (repeat (first | with_reducible exact Kept.refl _ _ | with_reducible apply Kept.drew | with_reducible apply Kept.drewN | with_reducible apply Kept.alloc))))).trans hs5)
      clear hn5 hs5 k5 d1 d6
      go_wp2_with fail
      go_ret2
      exact ⟨F5, R5, none, 0, 0, _, rfl, HN5.out, HS5.out⟩
theorem wants_c (s : NStp) (la : Option Addr) (lc : Nat) (h : RNetAt w n F R N) (hok : NtSmall N) (hs : s.ok) (hsl : SlN w .u32 la s.lits) (hlc : s.lits.length ≤ lc) :
    Calls Tryz.prog 35 #[.pointer (some ⟨n, 0, none⟩), stepV s la lc] w (WantPost (doesN N s).1 w n F R) := by
  unfold doesN
  by_cases h0 : s.what = 0
  · rw [if_pos h0]; exact wants_0 s la lc h hok hs h0
  rw [if_neg h0]
  by_cases h1 : s.what = 1
  · rw [if_pos h1]; exact wants_1 s la lc h hok hs h1
  rw [if_neg h1]
  by_cases h2 : s.what = 2
  · rw [if_pos h2]; exact wants_2 s la lc h hok hs h2
  rw [if_neg h2]
  by_cases h3 : s.what = 3
  · rw [if_pos h3]; exact wants_3 s la lc h hok hs hsl hlc h3
  rw [if_neg h3]
  by_cases h4 : s.what = 4
  · rw [if_pos (.inl h4)]; exact wants_4 s la lc h hok hs h4
  by_cases h5 : s.what = 5
  · rw [if_pos (.inr (.inl h5))]; exact wants_5 s la lc h hok hs h5
  by_cases h6 : s.what = 6
  · rw [if_pos (.inr (.inr h6))]; exact wants_6 s la lc h hok hs h6
  rw [if_neg (by omega)]
  by_cases h7 : s.what = 7
  · rw [if_pos h7]; exact wants_7 s la lc h hok hs h7
  rw [if_neg h7]
  by_cases h8 : s.what = 8
  · rw [if_pos h8]; exact wants_8 s la lc h hok hs h8
  rw [if_neg h8]
  exact wants_9 s la lc h hok hs (by omega)
/-- steps where they lie, their rows within their capacities -/
def SlNStepsC (W : World) (a : Option Addr) (l : List NStp) : Prop :=
  ∀ k, (hk : k < l.length) → ∃ b o, a = some ⟨b, o, none⟩ ∧ ∃ la lc, StepCells W b (o + k * 7) l[k] la lc ∧ SlN W .u32 la l[k].lits ∧ l[k].lits.length ≤ lc
theorem SlNStepsC.kept0 {W W' : World} {a : Option Addr} {l : List NStp} (h : SlNStepsC W a l) (hk : Kept [] W W') : SlNStepsC W' a l := by
  intro k hkl
  obtain ⟨b, o, h1, la, lc, ⟨c0, c1, c2, c3, c4, c5, c6⟩, h3, h4⟩ := h k hkl
  exact ⟨b, o, h1, la, lc, ⟨hk.cell c0 (by simp), hk.cell c1 (by simp), hk.cell c2 (by simp), hk.cell c3 (by simp), hk.cell c4 (by simp), hk.cell c5 (by simp), hk.cell c6 (by simp)⟩, h3.kept0 hk, h4⟩
section
variable {H : Type} {enc : TypeId × Value → H} {W : World} {base : Nat} {v : Value} {d : DataW H} {ps : List MemPlace}
set_option maxRecDepth 100000 in
theorem open_nstepsc (hv : Value.okWide Tryz.prog W .any base 24 v) (h : DataW.Trod enc Tryz.prog W 0 (fun _ => true) true 24 v d ps) (hz : Sized Tryz.prog 24 d) :
    ∃ (a : Option Addr) (l : List NStp) (c : Nat), v = .slice a l.length c ∧ l.length ≤ 140737488351232 ∧ SlNStepsC W a l ∧ ∀ s ∈ l, s.ok := by
  obtain ⟨a0, len0, cap0, rfl⟩ := okWide_slice Tryz.underlying24 hv
  obtain ⟨fuel, hf⟩ := h
  obtain ⟨a, len, cap, hvv, hlc, hcb, hnil, hat⟩ := open_recs (v := .slice a0 len0 cap0) Tryz.underlying24 Tryz.underlying89 (by kernel_rfl) (by kernel_rfl) hf hz
  injection hvv with h1 h2 h3
  subst h1 h2 h3
  have hb : Tryz.prog.bytesOf 89 = 72 := by kernel_rfl
  rw [hb] at hcb
  obtain ⟨acts, hl, hacts⟩ := choose_list (n := len0) (p := fun k (x : NStp) => (∃ b o, a0 = some ⟨b, o, none⟩ ∧ ∃ la lc, StepCells W b (o + k * 7) x la lc ∧ SlN W .u32 la x.lits ∧ x.lits.length ≤ lc) ∧ x.ok) fun i hi => by
    have h00 := hat 0 (by omega)
    obtain ⟨ad, m, rfl, hfields⟩ := hat i hi
    obtain ⟨u0, z0, hc0, ht0, _⟩ := hfields 0 _ rfl
    obtain ⟨u1, z1, hc1, ht1, hz1⟩ := hfields 1 _ rfl
    obtain ⟨u2, z2, hc2, ht2, _⟩ := hfields 2 _ rfl
    obtain ⟨u3, z3, hc3, ht3, _⟩ := hfields 3 _ rfl
    obtain ⟨u4, z4, hc4, ht4, _⟩ := hfields 4 _ rfl
    obtain ⟨u5, z5, hc5, ht5, _⟩ := hfields 5 _ rfl
    obtain ⟨u6, z6, hc6, ht6, hz6⟩ := hfields 6 _ rfl
    obtain ⟨x0, e0, _, f0⟩ := DataW.trod_int Tryz.underlying3 ht0
    obtain ⟨x1, e1, d1, f1⟩ := DataW.trod_string Tryz.underlying9 ht1
    obtain ⟨x2, e2, _, f2⟩ := DataW.trod_int Tryz.underlying3 ht2
    obtain ⟨x3, e3, _, f3⟩ := DataW.trod_int Tryz.underlying46 ht3
    obtain ⟨x4, e4, _, f4⟩ := DataW.trod_int Tryz.underlying46 ht4
    obtain ⟨x5, e5, _, f5⟩ := DataW.trod_int Tryz.underlying46 ht5
    simp at e0 e1 e2 e3 e4 e5
    subst e0 e1 e2 e3 e4 e5
    obtain ⟨x3, rfl, y3⟩ := wf_nat (m := 4294967296) rfl rfl f3
    obtain ⟨x4, rfl, y4⟩ := wf_nat (m := 4294967296) rfl rfl f4
    obtain ⟨x5, rfl, y5⟩ := wf_nat (m := 4294967296) rfl rfl f5
    have fx : -9223372036854775808 ≤ x2 ∧ x2 ≤ 9223372036854775807 := by
      simp [Lit.wf, IntKind.min, IntKind.max, IntKind.signed, IntKind.bits] at f2
      omega
    have hs1 : x1.size ≤ 140737488351232 := by
      have h := hz1 x1.size (by rw [d1]; simp [DataW.weights])
      simpa [reachBytes] using h
    obtain ⟨al, cl, l, rfl, hlcl, hsl, hlm, hnl, hclb⟩ := open_natsT (m := 4294967296) (bytes := 4) Tryz.underlying87 Tryz.underlying46 (by kernel_rfl) (by kernel_rfl) rfl rfl ht6 hz6
    obtain ⟨ad2, m2, e2, hf2⟩ := h00
    injection e2 with e2
    subst e2
    obtain ⟨u7, z7, hc7, _, _⟩ := hf2 0 _ rfl
    obtain ⟨b, o, rfl⟩ := plain_spot (by simpa using hc7)
    rw [add_at] at hc0 hc1 hc2 hc3 hc4 hc5 hc6
    exact ⟨⟨x0, x1, x2, x3, x4, x5, l⟩, ⟨b, o, rfl, al, cl, ⟨hc0, hc1, hc2, hc3, hc4, hc5, hc6⟩, hsl, hlcl⟩, ⟨hs1, fx.1, fx.2, y3, y4, y5, hlm, by show l.length ≤ _; omega⟩⟩
  refine ⟨a0, acts, cap0, by rw [hl], by omega, fun k hk => (hacts k hk).1, fun s hs => ?_⟩
  obtain ⟨k, hk, rfl⟩ := List.getElem_of_mem hs
  exact (hacts k hk).2
end
end Go.Proofs.YtdmcdhkkbkgnbaaGreat

namespace Go.Proofs.YtdmcdhkkbkgnbaaGreat
open Go.ChangeShapes Go.WideShapes Go.ChangeAt Go.RowKit
open Go.Maps (Keyed)
open Go.WideMaps
set_option linter.unusedVariables false
set_option linter.unusedSimpArgs false

def topS : ByteArray := ⟨#[116, 111, 112]⟩
def stepN (skip : Bool) (N : Nt) (s : NStp) : Nt := if skip = true ∧ s.what = 8 then N else (doesN N s).1
def builtN (skip o1 o2 : Bool) (l : List NStp) (k : Nat) : Nt := (l.take k).foldl (stepN skip) (newN topS o1 o2)
theorem builtN_succ (skip o1 o2 : Bool) (l : List NStp) (k : Nat) (h : k < l.length) : builtN skip o1 o2 l (k + 1) = stepN skip (builtN skip o1 o2 l k) l[k] := by
  unfold builtN
  rw [List.take_succ_eq_append_getElem h, List.foldl_append]
  rfl
theorem builtN_end (skip o1 o2 : Bool) (l : List NStp) (k : Nat) (h : l.length ≤ k) : builtN skip o1 o2 l k = builtN skip o1 o2 l l.length := by
  unfold builtN
  rw [List.take_of_length_le h, List.take_of_length_le (Nat.le_refl _)]
theorem stepN_fine {k : Nat} {N : Nt} (h : NtFine k N) (skip : Bool) (s : NStp) : NtFine (k + 1) (stepN skip N s) := by
  unfold stepN
  split
  · exact h.mono
  · exact doesN_fine h s
theorem builtN_fine (skip o1 o2 : Bool) (l : List NStp) (k : Nat) : NtFine k (builtN skip o1 o2 l k) := by
  induction k with
  | zero => exact newN_fine topS o1 o2 t_facts.1
  | succ k ih =>
    by_cases h : k < l.length
    · rw [builtN_succ _ _ _ _ _ h]; exact stepN_fine ih _ _
    · have e : builtN skip o1 o2 l (k + 1) = builtN skip o1 o2 l k := by rw [builtN_end _ _ _ _ _ (by omega), ← builtN_end _ _ _ _ k (by omega)]
      rw [e]; exact ih.mono
theorem NtFine.small {k : Nat} {N : Nt} (h : NtFine k N) (hk : k ≤ 700) : NtSmall N := by
  have a1 := h.ok.len
  have a2 := h.ok.ik
  have a3 := h.ok.rk
  have a4 := h.ok.ok
  exact ⟨by omega, by omega, by omega, by omega⟩
structure BothN (w w' : World) (n : Nat) (F R : List Nat) (N : Nt) (q : Nat) (F2 R2 : List Nat) (N2 : Nt) : Prop where
  net : NetAt w' n F R N
  ref : RNetAt w' q F2 R2 N2
  kept : Kept [] w w'
  new1 : ∀ b ∈ F ++ R, w.heap.size ≤ b
  new2 : ∀ b ∈ F2 ++ R2, w.heap.size ≤ b
  ap1 : ∀ b ∈ F2 ++ R2, b ∉ F
  ap2 : ∀ b ∈ F ++ R, b ∉ F2
variable {w w1 w2 : World} {n q : Nat} {F R F' R' F2 R2 F2' R2' : List Nat} {N N' N2 N2' : Nt}
theorem BothN.keep (h : BothN w w1 n F R N q F2 R2 N2) (hk : Kept [] w1 w2) : BothN w w2 n F R N q F2 R2 N2 :=
  ⟨h.net.kept0 hk, h.ref.kept0 hk, h.kept.trans hk, h.new1, h.new2, h.ap1, h.ap2⟩
theorem BothN.stepNet (h : BothN w w1 n F R N q F2 R2 N2) (hn : NetAt w2 n F' R' N') (hs : NStep w1 w2 F R F' R') : BothN w w2 n F' R' N' q F2 R2 N2 := by
  have l2 := h.ref.lt
  refine ⟨hn, h.ref.kept hs.st.kept (fun b hb => h.ap1 b (by simp [hb])) (fun b hb => h.ap1 b (by simp [hb])), kept_up h.kept hs.st.kept (fun b hb => h.new1 b (by simp [hb])), fun b hb => ?_, h.new2, fun b hb hx => ?_, fun b hb hx => ?_⟩
  · rcases List.mem_append.1 hb with hb | hb
    · exact (hs.st.fresh b hb).elim (fun h1 => h.new1 b (by simp [h1])) (fun h1 => Nat.le_trans h.kept.size h1)
    · exact (hs.rows b hb).elim (fun h1 => h.new1 b (by simp [h1])) (fun h1 => Nat.le_trans h.kept.size h1)
  · rcases hs.st.fresh b hx with h1 | h1
    · exact h.ap1 b hb h1
    · rcases List.mem_append.1 hb with hb | hb
      · have := l2.1 b hb; omega
      · have := l2.2 b hb; omega
  · rcases List.mem_append.1 hb with hb | hb
    · rcases hs.st.fresh b hb with h1 | h1
      · exact h.ap2 b (by simp [h1]) hx
      · have := l2.1 b hx; omega
    · rcases hs.rows b hb with h1 | h1
      · exact h.ap2 b (by simp [h1]) hx
      · have := l2.1 b hx; omega
theorem BothN.stepRef (h : BothN w w1 n F R N q F2 R2 N2) (hn : RNetAt w2 q F2' R2' N2') (hs : NStep w1 w2 F2 R2 F2' R2') : BothN w w2 n F R N q F2' R2' N2' := by
  have l1 := h.net.lt
  refine ⟨h.net.kept hs.st.kept (fun b hb => h.ap2 b (by simp [hb])) (fun b hb => h.ap2 b (by simp [hb])), hn, kept_up h.kept hs.st.kept (fun b hb => h.new2 b (by simp [hb])), h.new1, fun b hb => ?_, fun b hb hx => ?_, fun b hb hx => ?_⟩
  · rcases List.mem_append.1 hb with hb | hb
    · exact (hs.st.fresh b hb).elim (fun h1 => h.new2 b (by simp [h1])) (fun h1 => Nat.le_trans h.kept.size h1)
    · exact (hs.rows b hb).elim (fun h1 => h.new2 b (by simp [h1])) (fun h1 => Nat.le_trans h.kept.size h1)
  · rcases List.mem_append.1 hb with hb | hb
    · rcases hs.st.fresh b hb with h1 | h1
      · exact h.ap1 b (by simp [h1]) hx
      · have := l1.1 b hx; omega
    · rcases hs.rows b hb with h1 | h1
      · exact h.ap1 b (by simp [h1]) hx
      · have := l1.1 b hx; omega
  · rcases hs.st.fresh b hx with h1 | h1
    · exact h.ap2 b hb h1
    · rcases List.mem_append.1 hb with hb | hb
      · have := l1.1 b hb; omega
      · have := l1.2 b hb; omega
def BuiltPost (skip o1 o2 : Bool) (l : List NStp) (w : World) (e : Ending) (w' : World) : Prop :=
  ∃ n F R q F2 R2, e = .returned (.tuple #[.pointer (some ⟨n, 0, none⟩), .pointer (some ⟨q, 0, none⟩)]) ∧ BothN w w' n F R (builtN skip o1 o2 l 60) q F2 R2 (builtN skip o1 o2 l 60)
theorem NetAt.graphC (h : NetAt w n F R N) : ∃ p, w.cell? ⟨n, 0, none⟩ = some (.pointer (some ⟨p, 0, none⟩)) := by
  obtain ⟨p, G, ia, ic, ra, rc, oa, oc, ri, ro, rfl, rfl, hc⟩ := h
  exact ⟨p, hc.c0⟩
set_option maxHeartbeats 3200000 in
set_option maxRecDepth 100000 in
theorem built30 (o1 o2 : Bool) (sa : Option Addr) (sl : List NStp) (sc len : Nat) (w : World) (hlen : sl.length = len) (hss : SlNStepsC w sa sl) (hso : ∀ s ∈ sl, s.ok) :
    Calls Tryz.prog 7 #[.agg #[.bool o1, .bool o2], .slice sa len sc] w (BuiltPost false o1 o2 sl w) := by
  have HL := Lib.hid hlen.symm
  have HS := Lib.hid hss
  have HO := Lib.hid hso
  have HZ := Lib.hid (show builtN false o1 o2 sl 0 = newN topS o1 o2 from rfl)
  clear hlen hss hso
  go_enter Tryz.func7, Tryz.ntmps7; (try simp only [List.append])
  go_wp2_with fail
  refine (new_net topS o1 o2 _ (by decide) t_facts.1).mono ?_
  rintro e w1 ⟨n, F, rfl, hn, hk, hf⟩
  have N1 := Lib.hid hn
  have K1 := Lib.hid (((Kept.refl [] w).alloc (.cells #[.bool o1, .bool o2] 23)).trans hk)
  have F1 := Lib.hid (show ∀ b ∈ F, w.heap.size ≤ b from fun b hb => Nat.le_trans (by simp) (hf b hb))
  have hq0 : w1.cell? ⟨w.heap.size, 0, none⟩ = some (.bool o1) := hk.cell (blk_cell (heap_alloc_new w _) 0) (by simp)
  have hq1 : w1.cell? ⟨w.heap.size, 1, none⟩ = some (.bool o2) := hk.cell (blk_cell (heap_alloc_new w _) 1) (by simp)
  clear hn hk hf
  go_wp2_with fail
  refine (new06 topS o1 o2 _ (by decide) t_facts.1).mono ?_
  rintro e w2 ⟨q, F2, rfl, hn2, hk2, hf2⟩
  have B0 := Lib.hid (show BothN w w2 n F [] (builtN false o1 o2 sl 0) q F2 [] (builtN false o1 o2 sl 0) from by
    rw [HZ.out]
    have l1 := N1.out.lt
    exact ⟨N1.out.kept0 hk2, hn2, K1.out.trans hk2, fun b hb => by simp at hb; exact F1.out b hb, fun b hb => by simp at hb; exact Nat.le_trans K1.out.size (hf2 b hb), fun b hb hx => by simp at hb; have := hf2 b hb; have := l1.1 b hx; omega, fun b hb hx => by simp at hb; have := hf2 b hx; have := l1.1 b hb; omega⟩)
  obtain ⟨p0, hc0⟩ := B0.out.net.graphC
  clear hn2 hk2 hf2 hq0 hq1
  go_wp2_with fail
  clear hc0
  go_loopw [10] (fun i wr => ∃ (k : Nat) (F R F2 R2 : List Nat), k ≤ 60 ∧ k ≤ len ∧ i = .int .i64 k ∧ BothN w wr n F R (builtN false o1 o2 sl k) q F2 R2 (builtN false o1 o2 sl k)) (fun i _ => 60 - (intOf i).toNat)
  case atStart => exact ⟨0, F, [], F2, [], by omega, by omega, rfl, B0.out⟩
  case round =>
    obtain ⟨k, F, R, F2, R2, h60, hkl, rfl, hB⟩ := hrel
    have BB := Lib.hid hB
    clear hB B0
    by_cases hlt : k < len ∧ k < 60
    · obtain ⟨h1, h2⟩ := hlt
      have hkk : k < sl.length := by rw [← HL.out]; exact h1
      obtain ⟨b, o, rfl, la, lc, ⟨z0, z1, z2, z3, z4, z5, z6⟩, hlw, hlc⟩ := HS.out k hkk
      have KB := Lib.hid BB.out.kept
      have c0 := KB.out.cell z0 (by simp)
      have c1 := KB.out.cell z1 (by simp)
      have c2 := KB.out.cell z2 (by simp)
      have c3 := KB.out.cell z3 (by simp)
      have c4 := KB.out.cell z4 (by simp)
      have c5 := KB.out.cell z5 (by simp)
      have c6 := KB.out.cell z6 (by simp)
      have HSM := Lib.hid ((builtN_fine false o1 o2 sl k).small (by omega))
      have HSTEP := Lib.hid (builtN_succ false o1 o2 sl k hkk)
      have hok := HO.out _ (List.getElem_mem hkk)
      have HD := Lib.hid (does_c sl[k] la lc BB.out.net (by have := HSM.out; unfold NtSmall at this; omega) hok (hlw.kept0 KB.out))
      have HW := Lib.hid (fun (W : World) (hkW : Kept [] w W) (F2 R2 : List Nat) (h : RNetAt W q F2 R2 (builtN false o1 o2 sl k)) => wants_c sl[k] la lc h HSM.out hok (hlw.kept0 hkW) hlc)
      have Z := Lib.hid (show StepCells w b (o + k * 7) sl[k] la lc from ⟨z0, z1, z2, z3, z4, z5, z6⟩)
      generalize sl[k] = s at *
      generalize hNk : builtN false o1 o2 sl k = Nk at *
      generalize hNk1 : builtN false o1 o2 sl (k + 1) = Nk1 at *
      obtain ⟨what, nm, sn, a, bb, c, lits⟩ := s
      obtain ⟨ln, hln⟩ : ∃ k, k = lits.length := ⟨_, rfl⟩
      have HNk := Lib.hid hNk
      have HNk1 := Lib.hid hNk1
      unfold StepCells at Z
      simp only [stepV, stepCells6] at c0 c1 c2 c3 c4 c5 c6 HD HW Z
      rw [← hln] at c6 HD HW Z
      clear hok hlw hlc hln z0 z1 z2 z3 z4 z5 z6 hNk hNk1
      have HE := Lib.hid (show Nk1 = (doesN Nk ⟨what, nm, sn, a, bb, c, lits⟩).1 from by rw [HSTEP.out]; unfold stepN; rw [if_neg (fun h => Bool.noConfusion h.1)])
      go_wp2_with fail
      refine HD.out.mono ?_
      intro e w4 hx
      obtain ⟨F4, R4, a4, c4', k4, he, hn4, hs4, ho4, hf4⟩ := hx
      subst he
      rw [← HE.out] at hn4
      have B4 := Lib.hid (BB.out.stepNet hn4 hs4)
      have K4 := Lib.hid B4.out.kept
      obtain ⟨z0, z1, z2, z3, z4, z5, z6⟩ := Z.out
      have d0 := K4.out.cell z0 (by simp)
      have d1 := K4.out.cell z1 (by simp)
      have d2 := K4.out.cell z2 (by simp)
      have d3 := K4.out.cell z3 (by simp)
      have d4 := K4.out.cell z4 (by simp)
      have d5 := K4.out.cell z5 (by simp)
      have d6 := K4.out.cell z6 (by simp)
      clear hn4 hs4 ho4 hf4 z0 z1 z2 z3 z4 z5 z6 c0 c1 c2 c3 c4 c5 c6
      go_wp2_with fail
      refine (HW.out _ K4.out F2 R2 B4.out.ref).mono ?_
      intro e w5 hx
      obtain ⟨F5, R5, a5, c5', k5, z5, he, hn5, hs5⟩ := hx
      subst he
      rw [← HE.out] at hn5
      have B5 := Lib.hid (B4.out.stepRef hn5 hs5)
      clear hn5 hs5 d0 d1 d2 d3 d4 d5 d6
      go_wp2_with fail
      go_roundw
      case rel => exact ⟨k + 1, F4, R4, F5, R5, by omega, by omega, by go_num, by rw [HNk1.out]; exact B5.out⟩
      case measure => simp [intOf]; omega
    · have HE := Lib.hid (show builtN false o1 o2 sl k = builtN false o1 o2 sl 60 from by
        by_cases h : k < len
        · have : k = 60 := by omega
          rw [this]
        · have hl := HL.out
          rw [builtN_end _ _ _ _ 60 (by omega), builtN_end _ _ _ _ k (by omega)])
      rw [HE.out] at BB
      rcases (show (k < len ∧ ¬ k < 60) ∨ (¬ k < len ∧ True) from by by_cases h : k < len; exact .inl ⟨h, by omega⟩; exact .inr ⟨h, trivial⟩) with ⟨h1, h2⟩ | ⟨h1, h2⟩
      all_goals
        clear hlt
        go_wp2_with fail
        go_ret2
        exact ⟨n, F, R, q, F2, R2, rfl, BB.out⟩
end Go.Proofs.YtdmcdhkkbkgnbaaGreat

namespace Go.Proofs.YtdmcdhkkbkgnbaaGreat
open Go.ChangeShapes Go.WideShapes Go.ChangeAt Go.RowKit
open Go.Maps (Keyed)
open Go.WideMaps
set_option linter.unusedVariables false
set_option linter.unusedSimpArgs false

variable {w w' W w0 : World} {p n k m a b : Nat} {F R F' R' Fa Ra Fb Rb Fa' Ra' Fb' Rb' : List Nat} {N M A B A' B' : Nt}
structure TwoN (w0 w : World) (a : Nat) (Fa Ra : List Nat) (A : Nt) (b : Nat) (Fb Rb : List Nat) (B : Nt) : Prop where
  na : NetAt w a Fa Ra A
  nb : NetAt w b Fb Rb B
  ap : ∀ x, x ∈ Fb ∨ x ∈ Rb → x ∉ Fa
  aq : ∀ x, x ∈ Fa ∨ x ∈ Ra → x ∉ Fb
  kept : Kept [] w0 w
  nw : ∀ x, x ∈ Fa ∨ x ∈ Fb → w0.heap.size ≤ x
theorem TwoN.stepA (h : TwoN w0 w a Fa Ra A b Fb Rb B) (hn : NetAt w' a Fa' Ra' A') (hs : NStep w w' Fa Ra Fa' Ra') : TwoN w0 w' a Fa' Ra' A' b Fb Rb B := by
  have lt := h.nb.lt
  refine ⟨hn, h.nb.kept hs.st.kept (fun x hx => h.ap x (.inl hx)) (fun x hx => h.ap x (.inr hx)), fun x hx hx' => ?_, fun x hx hx' => ?_, kept_up h.kept hs.st.kept (fun x hx => h.nw x (.inl hx)), fun x hx => ?_⟩
  · rcases hs.st.fresh x hx' with h1 | h1
    · exact h.ap x hx h1
    · rcases hx with hx | hx
      · have := lt.1 x hx; omega
      · have := lt.2 x hx; omega
  · rcases hx with hx | hx
    · rcases hs.st.fresh x hx with h1 | h1
      · exact h.aq x (.inl h1) hx'
      · have := lt.1 x hx'; omega
    · rcases hs.rows x hx with h1 | h1
      · exact h.aq x (.inr h1) hx'
      · have := lt.1 x hx'; omega
  · rcases hx with hx | hx
    · rcases hs.st.fresh x hx with h1 | h1
      · exact h.nw x (.inl h1)
      · exact Nat.le_trans h.kept.size h1
    · exact h.nw x (.inr hx)
theorem TwoN.swap (h : TwoN w0 w a Fa Ra A b Fb Rb B) : TwoN w0 w b Fb Rb B a Fa Ra A := ⟨h.nb, h.na, h.aq, h.ap, h.kept, fun x hx => h.nw x hx.symm⟩
theorem TwoN.stepB (h : TwoN w0 w a Fa Ra A b Fb Rb B) (hn : NetAt w' b Fb' Rb' B') (hs : NStep w w' Fb Rb Fb' Rb') : TwoN w0 w' a Fa Ra A b Fb' Rb' B' := (h.swap.stepA hn hs).swap
theorem TwoN.kept0 (h : TwoN w0 w a Fa Ra A b Fb Rb B) (hk : Kept [] w w') : TwoN w0 w' a Fa Ra A b Fb Rb B := h.stepA (h.na.kept0 hk) ((NStep.refl w Fa Ra).keep hk)
def uA0 : Nt := newN ⟨#[97]⟩ false false
def uA1 : Nt := (addReg uA0 true).1
def uA2 : Nt := (setReg uA1 2 2 1).1
def uA3 : Nt := (gateN uA2 andG 2 2).1
def uA4 : Nt := (addOut uA3 ⟨#[120]⟩ [2]).1
def uB0 : Nt := newN ⟨#[98]⟩ false false
def uB1 : Nt := (addIn uB0 ⟨#[105, 110]⟩ 1).1
def uB2 : Nt := (addReg uB1 false).1
def uB3 : Nt := (addReg uB2 false).1
def uB4 : Nt := (setReg uB3 4 2 1).1
def uB5 : Nt := (setReg uB4 6 4 1).1
def uB6 : Nt := (addOut uB5 ⟨#[111, 117, 116]⟩ [2]).1
set_option maxRecDepth 10000 in
theorem uA_facts : mayB ⟨#[97]⟩ = true ∧ (addReg uA0 true).2 = 2 ∧ (setReg uA1 2 2 1).2 = 0 ∧ (addOut uA3 ⟨#[120]⟩ [2]).2 = 0 ∧ checkN uA4 = 0 := by
  refine ⟨?_, ?_, ?_, ?_, ?_⟩ <;> decide
set_option maxRecDepth 10000 in
theorem uB_facts : mayB ⟨#[98]⟩ = true ∧ (addIn uB0 ⟨#[105, 110]⟩ 1).2 = ([2], 0) ∧ (addReg uB1 false).2 = 4 ∧ (addReg uB2 false).2 = 6 ∧ (setReg uB3 4 2 1).2 = 0 ∧ (setReg uB4 6 4 1).2 = 0 ∧ (addOut uB5 ⟨#[111, 117, 116]⟩ [2]).2 = 0 ∧ checkN uB6 = 0 := by
  refine ⟨?_, ?_, ?_, ?_, ?_, ?_, ?_, ?_⟩ <;> decide
theorem uA_fine : NtFine 4 uA4 := addOut_fine (gateN_fine (setReg_fine (addReg_fine (newN_fine _ false false uA_facts.1) _) _ _ _) _ two_and _ _) _ _
theorem uB_fine : NtFine 6 uB6 := addOut_fine (setReg_fine (setReg_fine (addReg_fine (addReg_fine (addIn_fine (newN_fine _ false false uB_facts.1) _ _) _) _) _ _ _) _ _ _) _ _
set_option maxRecDepth 100000 in
theorem uA_swept : (sweptN uA4).regs.length = 0 ∧ gatesX (sweptN uA4) = 0 ∧ (sweptN uA4).outb.map (·.lits) = [[1]] := by
  refine ⟨?_, ?_, ?_⟩ <;> kernel_rfl
set_option maxRecDepth 100000 in
theorem uB_swept : (sweptN uB6).regs.length = 0 ∧ (sweptN uB6).inb.length = 1 ∧ (sweptN uB6).outb.length = 1 := by
  refine ⟨?_, ?_, ?_⟩ <;> kernel_rfl
def TwoNPost (w : World) (e : Ending) (w' : World) : Prop := ∃ a Fa Ra b Fb Rb, e = .returned (.tuple #[.pointer (some ⟨a, 0, none⟩), .pointer (some ⟨b, 0, none⟩)]) ∧ TwoN w w' a Fa Ra uA4 b Fb Rb uB6
theorem own_apart2 {a0 : Option Addr} {c l : Nat} {xs : List Value} {e : TypeId} (ho : Own w e a0 l c xs) (hs : NStep w w' F R F' R') (hf : ∀ b ∈ ft a0, b ∉ F) : Own w' e a0 l c xs ∧ ∀ b ∈ ft a0, b ∉ F' :=
  ⟨ho.kept hs.st.kept hf, fun b hb hx => (hs.st.fresh b hx).elim (hf b hb) (fun h => by have := ho.lt b hb; omega)⟩
set_option maxHeartbeats 3200000 in
set_option maxRecDepth 100000 in
theorem two30 (w : World) : Calls Tryz.prog 63 #[] w (TwoNPost w) := by
  have AF := Lib.hid uA_facts
  have BF := Lib.hid uB_facts
  have b0 := Lib.hid (show uA0.g.nodes.length ≤ 100 ∧ uA0.regs.length ≤ 100 from by decide)
  have b1 := Lib.hid (show uA1.g.nodes.length ≤ 100 ∧ uA1.regs.length ≤ 100 from by decide)
  have b2 := Lib.hid (show uA2.g.nodes.length ≤ 100 ∧ gone uA2.g [2, 2] = false from by decide)
  have b3 := Lib.hid (show uA3.g.nodes.length ≤ 100 ∧ uA3.outb.length ≤ 100 from by decide)
  have q0 := Lib.hid (show uB0.g.nodes.length ≤ 100 ∧ uB0.inb.length ≤ 100 from by decide)
  have q1 := Lib.hid (show uB1.g.nodes.length ≤ 100 ∧ uB1.regs.length ≤ 100 from by decide)
  have q2 := Lib.hid (show uB2.g.nodes.length ≤ 100 ∧ uB2.regs.length ≤ 100 from by decide)
  have q3 := Lib.hid (show uB3.g.nodes.length ≤ 100 ∧ uB3.regs.length ≤ 100 from by decide)
  have q4 := Lib.hid (show uB4.g.nodes.length ≤ 100 ∧ uB4.regs.length ≤ 100 from by decide)
  have q5 := Lib.hid (show uB5.g.nodes.length ≤ 100 ∧ uB5.outb.length ≤ 100 from by decide)
  have E3 := Lib.hid (show uA3 = { uA2 with g := (andG uA2.g 2 2).1 } from by unfold uA3 gateN; rw [b2.out.2]; rfl)
  go_enter Tryz.func63, Tryz.ntmps63; (try simp only [List.append])
  go_wp2_with fail
  refine (new_net ⟨#[97]⟩ false false _ (by decide) AF.out.1).mono ?_
  rintro e w1 ⟨a, Fa, rfl, hn, hk, hf⟩
  have N1 := Lib.hid (show NetAt w1 a Fa [] uA0 from hn)
  have K1 := Lib.hid (And.intro hk hf)
  clear hn hk hf
  go_wp2_with fail
  refine (new_net ⟨#[98]⟩ false false _ (by decide) BF.out.1).mono ?_
  rintro e w2 ⟨b, Fb, rfl, hn, hk, hf⟩
  have T2 := Lib.hid (show TwoN w w2 a Fa [] uA0 b Fb [] uB0 from by
    refine ⟨N1.out.kept0 hk, hn, fun x hx hx' => ?_, fun x hx hx' => ?_, K1.out.1.trans hk, fun x hx => ?_⟩
    · rcases hx with hx | hx
      · have h1 := hf x hx
        have h2 := N1.out.lt.1 x hx'
        omega
      · simp at hx
    · rcases hx with hx | hx
      · have h1 := hf x hx'
        have h2 := N1.out.lt.1 x hx
        omega
      · simp at hx
    · rcases hx with hx | hx
      · exact K1.out.2 x hx
      · exact Nat.le_trans K1.out.1.size (hf x hx))
  obtain ⟨pa, hca⟩ := T2.out.na.graphC
  obtain ⟨pb, hcb⟩ := T2.out.nb.graphC
  clear hn hk hf N1 K1
  go_wp2_with fail
  refine (addreg_c T2.out.na (by have := b0.out; omega) true).mono ?_
  intro e w3 hx
  obtain ⟨Fa3, he, hn, hst⟩ := hx
  rw [AF.out.2.1] at he
  subst he
  have T3 := Lib.hid (T2.out.stepA (A' := uA1) hn hst)
  clear hn hst hca hcb T2
  go_wp2_with fail
  refine (setreg_c T3.out.na (by have := b1.out; omega) 2 2 1 (by omega) (by omega) (by omega)).mono ?_
  intro e w4 hx
  obtain ⟨Fa4, Ra4, he, hn, hst⟩ := hx
  rw [AF.out.2.2.1] at he
  subst he
  have T4 := Lib.hid (T3.out.stepA (A' := uA2) hn hst)
  clear hn hst T3
  obtain ⟨p, G, ia, ic, ra, rc, oa, oc, ri, ro, hF4, hR4, hc⟩ := T4.out.na
  have HC4 := Lib.hid hc
  have HF4 := Lib.hid hF4
  have HR4 := Lib.hid hR4
  have c0 := hc.c0
  clear hc hF4 hR4
  go_wp2_with fail
  have hlt4 := HC4.out.gr.lt
  refine (aig_And_ (HC4.out.gr.kept0 ((Kept.refl [] w4).alloc _)) (some ⟨w4.heap.size, 0, none⟩) 2 2 [2, 2] rfl (by have := b2.out; omega) (row_new w4 [2, 2] 61) (gone_false.1 b2.out.2) (by intro b hb hx; rw [mem_ft] at hb; subst hb; exact Nat.lt_irrefl _ (hlt4 _ hx))).mono ?_
  intro e w5 hx
  obtain ⟨G5, he, hg5, hst5⟩ := hx
  subst he
  have st5 : Stepped w4 w5 G G5 := (⟨(Kept.refl [] w4).alloc _ |>.more (by simp), fun b hb => .inl hb⟩ : Stepped w4 _ G G).trans hst5
  have hgr5 : GraphAt w5 p G5 (andG uA2.g 2 2).1 := hg5
  have hc5 := HC4.out.graph hgr5 st5
  have hs5 : NStep w4 w5 Fa4 Ra4 (a :: (G5 ++ (ft ia ++ (ft ra ++ ft oa)))) Ra4 := by
    have h := NetC.graph_step (n := a) (ia := ia) (ra := ra) (oa := oa) (ri := ri) (ro := ro) st5
    rw [HF4.out, HR4.out]; exact h
  have T5 := Lib.hid (T4.out.stepA (A' := uA3) (by
    rw [E3.out]
    exact ⟨p, G5, ia, ic, ra, rc, oa, oc, ri, ro, rfl, HR4.out, hc5⟩) hs5)
  generalize (a :: (G5 ++ (ft ia ++ (ft ra ++ ft oa)))) = Fa5 at *
  clear hg5 hst5 st5 hgr5 hc5 hs5 HC4 HF4 HR4 c0 hlt4 T4
  go_wp2_with fail
  refine (addout_c (T5.out.na.kept0 ((Kept.refl [] w5).alloc _)) (by have := b3.out; omega) ⟨#[120]⟩ (by decide) (some ⟨w5.heap.size, 0, none⟩) 1 1 [2] rfl (by omega) (row_new w5 [2] 61) (by simp)).mono ?_
  intro e w6 hx
  obtain ⟨Fa6, Ra6, he, hn, hst0⟩ := hx
  rw [AF.out.2.2.2.1] at he
  subst he
  have hst : NStep w5 w6 Fa5 Ra4 Fa6 Ra6 := ((NStep.refl w5 Fa5 Ra4).keep ((Kept.refl [] w5).alloc _)).trans hst0
  have T6 := Lib.hid (T5.out.stepA (A' := uA4) hn hst)
  clear hn hst hst0 T5
  go_wp2_with fail
  refine (addin_c T6.out.nb (by have := q0.out; omega) ⟨#[105, 110]⟩ (by decide) 1 (by omega) (by omega)).mono ?_
  intro e w7 hx
  obtain ⟨Fb7, Rb7, a7, c7, k7, he, hn, hst, ho, hfr⟩ := hx
  rw [BF.out.2.1] at he ho
  have hk7 : k7 = 1 := by have := ho.len; simpa [nats] using this.symm
  subst hk7
  subst he
  have T7 := Lib.hid (T6.out.stepB (B' := uB1) hn hst)
  have O7 := Lib.hid (And.intro ho (fun b hb => (hfr b hb).2.1))
  clear hn hst ho hfr T6
  go_wp2_with fail
  refine (addreg_c T7.out.nb (by have := q1.out; omega) false).mono ?_
  intro e w8 hx
  obtain ⟨Fb8, he, hn, hst⟩ := hx
  rw [BF.out.2.2.1] at he
  subst he
  have T8 := Lib.hid (T7.out.stepB (B' := uB2) hn hst)
  have O8 := Lib.hid (own_apart2 O7.out.1 hst O7.out.2)
  clear hn hst T7 O7
  go_wp2_with fail
  refine (addreg_c T8.out.nb (by have := q2.out; omega) false).mono ?_
  intro e w9 hx
  obtain ⟨Fb9, he, hn, hst⟩ := hx
  rw [BF.out.2.2.2.1] at he
  subst he
  have T9 := Lib.hid (T8.out.stepB (B' := uB3) hn hst)
  have O9 := Lib.hid (own_apart2 O8.out.1 hst O8.out.2)
  clear hn hst T8 O8
  go_wp2_with fail
  refine (setreg_c T9.out.nb (by have := q3.out; omega) 4 2 1 (by omega) (by omega) (by omega)).mono ?_
  intro e w10 hx
  obtain ⟨Fb10, Rb10, he, hn, hst⟩ := hx
  rw [BF.out.2.2.2.2.1] at he
  subst he
  have T10 := Lib.hid (T9.out.stepB (B' := uB4) hn hst)
  have O10 := Lib.hid (own_apart2 O9.out.1 hst O9.out.2)
  clear hn hst T9 O9
  go_wp2_with fail
  refine (setreg_c T10.out.nb (by have := q4.out; omega) 6 4 1 (by omega) (by omega) (by omega)).mono ?_
  intro e w11 hx
  obtain ⟨Fb11, Rb11, he, hn, hst⟩ := hx
  rw [BF.out.2.2.2.2.2.1] at he
  subst he
  have T11 := Lib.hid (T10.out.stepB (B' := uB5) hn hst)
  have O11 := Lib.hid (own_apart2 O10.out.1 hst O10.out.2)
  clear hn hst T10 O10
  go_wp2_with fail
  refine (addout_c T11.out.nb (by have := q5.out; omega) ⟨#[111, 117, 116]⟩ (by decide) a7 c7 1 [2] rfl (by omega) O11.out.1.sln (by simp)).mono ?_
  intro e w12 hx
  obtain ⟨Fb12, Rb12, he, hn, hst⟩ := hx
  rw [BF.out.2.2.2.2.2.2.1] at he
  subst he
  have T12 := Lib.hid (T11.out.stepB (B' := uB6) hn hst)
  clear hn hst T11 O11
  go_wp2_with fail
  go_ret2
  exact ⟨a, Fa6, Ra6, b, Fb12, Rb12, rfl, T12.out⟩
theorem nbits_c (h : NetAt w n F R N) : Calls Tryz.prog 22 #[.pointer (some ⟨n, 0, none⟩)] w (IntIs (N.regs.length : Nat) w) := by
  obtain ⟨p, G, ia, ic, ra, rc, oa, oc, ri, ro, rfl, rfl, hc⟩ := h
  have c3 := hc.c3
  clear hc
  generalize N.regs.length = nR at *
  go_enter Tryz.func22, Tryz.ntmps22
  go_wp2
  go_ret
  exact ⟨rfl, .refl _ _⟩
end Go.Proofs.YtdmcdhkkbkgnbaaGreat

namespace Go.Proofs.YtdmcdhkkbkgnbaaGreat
open Go.ChangeShapes Go.WideShapes Go.ChangeAt Go.RowKit
open Go.Maps (Keyed)
open Go.WideMaps
set_option linter.unusedVariables false
set_option linter.unusedSimpArgs false

variable {w w' W w0 : World} {p n k m a b : Nat} {F R F' R' Fa Ra Fb Rb Fa' Ra' Fb' Rb' : List Nat} {N M A B A' B' : Nt}
theorem add_nil (ad : Addr) : ad.add 0 = ad := by unfold Addr.add; rfl
/-- what the law looks at -/
structure LookN (w : World) (n : Nat) (p : Nat) (ia : Option Addr) (ic : Nat) (oa : Option Addr) (oc : Nat) (mi mo : Nat) : Prop where
  c0 : w.cell? ⟨n, 0, none⟩ = some (.pointer (some ⟨p, 0, none⟩))
  c2 : w.cell? ⟨n, 2, none⟩ = some (.slice ia mi ic)
  c4 : w.cell? ⟨n, 4, none⟩ = some (.slice oa mo oc)
theorem LookN.kept0 {p ic oc mi mo : Nat} {ia oa : Option Addr} (h : LookN w n p ia ic oa oc mi mo) (hk : Kept [] w w') : LookN w' n p ia ic oa oc mi mo := ⟨hk.cell h.c0 (by simp), hk.cell h.c2 (by simp), hk.cell h.c4 (by simp)⟩
set_option maxHeartbeats 3200000 in
set_option maxRecDepth 100000 in
theorem tells30 (w : World) : Calls Tryz.prog 16 #[] w fun e w' => e = .returned (.bool true) ∧ Kept [] w w' := by
  have TW := Lib.hid (two30 w)
  go_enter Tryz.func16, Tryz.ntmps16; (try simp only [List.append])
  go_wp2_with fail
  refine TW.out.mono ?_
  rintro e w1 ⟨a, Fa, Ra, b, Fb, Rb, rfl, t1⟩
  have T1 := Lib.hid t1
  have ha := All_c t1.na uA_fine (by omega)
  rw [if_pos uA_facts.2.2.2.2] at ha
  have HA := Lib.hid ha
  clear t1 ha
  go_wp2_with fail
  refine HA.out.mono ?_
  rintro e w2 ⟨x, Fx, Rx, rfl, hx, kx, fx⟩
  have X2 := Lib.hid hx
  have K2 := Lib.hid (T1.out.kept.trans kx)
  have hb := All_c (T1.out.nb.kept0 kx) uB_fine (by omega)
  rw [if_pos uB_facts.2.2.2.2.2.2.2] at hb
  have HB := Lib.hid hb
  clear hx kx fx hb
  go_wp2_with fail
  refine HB.out.mono ?_
  rintro e w3 ⟨y, Fy, Ry, rfl, hy, ky, fy⟩
  have X3 := Lib.hid (X2.out.kept0 ky)
  have Y3 := Lib.hid hy
  have K3 := Lib.hid (K2.out.trans ky)
  clear hy ky fy
  obtain ⟨p, G, ia, ic, ra, rc, oa, oc, ri, ro, hF, hR, hc⟩ := X3.out
  have HGX := Lib.hid hc.gr
  have hoL : (sweptN uA4).outb.length = 1 := by have h := congrArg List.length uA_swept.2.2; simpa using h
  have hro : ro.length = 1 := by rw [← hoL, ← hc.ob.is, List.length_map]
  have LX := Lib.hid (show LookN w3 x p ia ic oa oc (sweptN uA4).inb.length 1 from ⟨hc.c0, hc.c2, by have h := hc.c4; rw [hoL] at h; exact h⟩)
  obtain ⟨gb, rfl, x0, x1⟩ := hc.ob.slb 0 (by omega)
  have hlits : (ro[0]'(by omega)).b.lits = [1] := by
    have h1 := uA_swept.2.2
    rw [← hc.ob.is, List.map_map] at h1
    have h2 := congrArg (fun l => l[0]?) h1
    simpa [List.getElem?_eq_getElem (show 0 < ro.length by omega)] using h2
  have hrow := (hc.ob.rows _ (List.getElem_mem (show 0 < ro.length by omega))).1
  rw [hlits] at x1 hrow
  obtain ⟨ad, had, hcx⟩ := hrow 0 (by simp)
  rw [add_nil] at hcx
  rw [had] at x1
  simp only [Nat.zero_mul, Nat.zero_add, List.length_cons, List.length_nil, List.getElem_cons_zero] at x1 hcx
  have HX1 := Lib.hid x1
  have HCX := Lib.hid hcx
  generalize ro[0].c = rcc at *
  clear hF hR hc hoL hro x0 hlits hrow had x1 hcx
  obtain ⟨p2, G2, ia2, ic2, ra2, rc2, oa2, oc2, ri2, ro2, hF2, hR2, hc2⟩ := Y3.out
  have LY := Lib.hid (show LookN w3 y p2 ia2 ic2 oa2 oc2 1 1 from ⟨hc2.c0, by have h := hc2.c2; rw [uB_swept.2.1] at h; exact h, by have h := hc2.c4; rw [uB_swept.2.2] at h; exact h⟩)
  clear hF2 hR2 hc2
  have bx := nbits_c X3.out
  rw [uA_swept.1] at bx
  have HBX := Lib.hid bx
  have HGT := Lib.hid (fun (V : World) (hV : Kept [] w3 V) => aig_gates (HGX.out.kept0 hV) (by have h := (swept_ind uA_fine (fun _ => True) trivial (fun _ _ _ _ => trivial)).2.1.ok.len; omega))
  rw [gatesN_X (swept_ind uA_fine (fun _ => True) trivial (fun _ _ _ _ => trivial)).2.1, uA_swept.2.1] at HGT
  have HBY := Lib.hid (fun (V : World) (hV : Kept [] w3 V) => nbits_c (Y3.out.kept0 hV))
  rw [uB_swept.1] at HBY
  clear bx
  have e0 := LX.out.c0
  have f0 := LY.out.c0
  go_wp2_with fail
  refine HBX.out.mono ?_
  rintro e w4 ⟨rfl, k4⟩
  have K4 := Lib.hid k4
  have e0' := (LX.out.kept0 k4).c0
  clear k4 e0 f0
  go_wp2_with fail
  refine (HGT.out _ K4.out).mono ?_
  rintro e w5 ⟨rfl, d5, h5⟩
  have K5 := Lib.hid (show Kept [] w3 w5 from by rw [h5]; exact K4.out.drewN d5)
  clear h5 e0'
  have e4 := (LX.out.kept0 K5.out).c4
  have e5 := K5.out.cell HX1.out (by simp)
  have e6 := K5.out.cell HCX.out (by simp)
  go_wp2_with fail
  refine (HBY.out _ K5.out).mono ?_
  rintro e w6 ⟨rfl, k6⟩
  have K6 := Lib.hid (K5.out.trans k6)
  have g2 := (LY.out.kept0 K6.out).c2
  have g4 := (LY.out.kept0 K6.out).c4
  clear k6 e4 e5 e6
  go_wp2_with fail
  go_ret
  exact ⟨rfl, K3.out.trans K6.out⟩
end Go.Proofs.YtdmcdhkkbkgnbaaGreat
