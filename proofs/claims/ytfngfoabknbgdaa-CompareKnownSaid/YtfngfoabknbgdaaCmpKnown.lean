/-
  CompareKnown: the chapter's rows; what may not be; none. A closed statement.
-/
import Derived.Test.YtfngfoabknbgdaaCmpErr
namespace Go.Proofs.Ytfngfoabknbgdaa
open Go.ChangeShapes Go.WideShapes Go.ChangeAt Go.RowKit
open Go.Maps (Keyed)
open Go.WideMaps
set_option linter.unusedVariables false

variable {w w' w1 : World} {p : Nat} {F F1 F' S : List Nat} {g g' : Gr}

theorem sln_one (w : World) (x : Nat) : SlN (w.alloc (.cells #[.int .u32 (x : Int)] 24)) .u32 (some ⟨w.heap.size, 0, none⟩) [x] := by have := sln_new w .u32 [x] 24; exact this
theorem far_at (hg : GraphAt w p F g) {b : Nat} (hb : w.heap.size ≤ b) : ∀ x ∈ ft (some (⟨b, 0, none⟩ : Addr)), x ∉ F := by intro x hx hF; rw [mem_ft] at hx; subst hx; exact absurd (hg.lt _ hF) (Nat.not_lt.2 hb)
theorem fix_back {W : World} {v : Nat} {e : Ending} (hk : Kept [] w W) (h : FixPost g v W p F e w') : FixPost g v w p F e w' := by
  obtain ⟨F', h1, h2, h3⟩ := h
  exact ⟨F', h1, h2, (⟨hk.more (by simp), fun _ h => .inl h⟩ : Stepped w W F F).trans h3⟩
section
variable {x y v : Nat}
theorem less_two (hg : GraphAt w p F g) (sg : Bool) (hx : g.ok x) (hy : g.ok y) (hm : g.nodes.length ≤ 179000) (hr : lessG sg g [x] [y] = (g, v)) :
    Calls Try.prog 15 #[.pointer (some ⟨p, 0, none⟩), .bool sg, .slice (some ⟨w.heap.size, 0, none⟩) 1 1, .slice (some ⟨w.heap.size + 1, 0, none⟩) 1 1] ((w.alloc (.cells #[.int .u32 (x : Int)] 24)).alloc (.cells #[.int .u32 (y : Int)] 24)) (FixPost g v w p F) := by
  have hk : Kept [] w ((w.alloc (.cells #[.int .u32 (x : Int)] 24)).alloc (.cells #[.int .u32 (y : Int)] 24)) := ((Kept.refl [] w).alloc _).alloc _
  have h2 := sln_one (w.alloc (.cells #[.int .u32 (x : Int)] 24)) y
  rw [size_new] at h2
  refine (less_c (n := 1) (la := [x]) (lb := [y]) (hg.kept0 hk) _ _ (by omega) (by omega) rfl rfl hm ((sln_one w x).kept0 ((Kept.refl [] _).alloc _)) h2 (far_at hg (by omega)) (far_at hg (by omega)) (by simpa using hx) (by simpa using hy)).mono fun e w' h => ?_
  rw [hr] at h
  exact fix_back hk h
theorem equal_two (hg : GraphAt w p F g) (hx : g.ok x) (hy : g.ok y) (hm : g.nodes.length ≤ 179000) (hr : eqG g [x] [y] = (g, v)) :
    Calls Try.prog 14 #[.pointer (some ⟨p, 0, none⟩), .slice (some ⟨w.heap.size, 0, none⟩) 1 1, .slice (some ⟨w.heap.size + 1, 0, none⟩) 1 1] ((w.alloc (.cells #[.int .u32 (x : Int)] 24)).alloc (.cells #[.int .u32 (y : Int)] 24)) (FixPost g v w p F) := by
  have hk : Kept [] w ((w.alloc (.cells #[.int .u32 (x : Int)] 24)).alloc (.cells #[.int .u32 (y : Int)] 24)) := ((Kept.refl [] w).alloc _).alloc _
  have h2 := sln_one (w.alloc (.cells #[.int .u32 (x : Int)] 24)) y
  rw [size_new] at h2
  refine (equal_c (n := 1) (la := [x]) (lb := [y]) (hg.kept0 hk) _ _ (by omega) (by omega) rfl rfl hm ((sln_one w x).kept0 ((Kept.refl [] _).alloc _)) h2 (far_at hg (by omega)) (far_at hg (by omega)) (by simpa using hx) (by simpa using hy)).mono fun e w' h => ?_
  rw [hr] at h
  exact fix_back hk h
theorem zero_one (hg : GraphAt w p F g) (hx : g.ok x) (hm : g.nodes.length ≤ 179000) (hr : eqG g [x] [0] = (g, v)) :
    Calls Try.prog 16 #[.pointer (some ⟨p, 0, none⟩), .slice (some ⟨w.heap.size, 0, none⟩) 1 1] (w.alloc (.cells #[.int .u32 (x : Int)] 24)) (FixPost g v w p F) := by
  have hk : Kept [] w (w.alloc (.cells #[.int .u32 (x : Int)] 24)) := (Kept.refl [] w).alloc _
  refine (zero_c (n := 1) (la := [x]) (hg.kept0 hk) _ (by omega) (by omega) rfl hm (sln_one w x) (far_at hg (by omega)) (by simpa using hx)).mono fun e w' h => ?_
  rw [show List.replicate 1 0 = [0] from rfl, hr] at h
  exact fix_back hk h
end
def g1 : Gr := freshG true true 1

set_option maxHeartbeats 3200000 in
set_option maxRecDepth 100000 in
theorem cmpknown_walk (w : World) : Calls Try.prog 3 #[] w fun e w' => e = .returned (.bool true) ∧ Below w.heap.size w w' := by
  have hmk : ∀ w, (Instr.makeSlice 34 (.int .i64 65) (.int .i64 65)).run Try.prog w = .ok (.slice (some ⟨w.heap.size, 0, none⟩) 65 65) (w.alloc (.cells (List.replicate 65 (Value.int .u32 0)).toArray 24)) := fun _ => by kernel_rfl
  have e1 := Lib.hid (show lessG true g1 [1] [0] = (g1, 1) from by kernel_rfl)
  have e2 := Lib.hid (show lessG false g1 [1] [0] = (g1, 0) from by kernel_rfl)
  have e3 := Lib.hid (show eqG g1 [2] [1] = (g1, 2) from by kernel_rfl)
  have e4 := Lib.hid (show eqG g1 [2] [0] = (g1, 3) from by kernel_rfl)
  have hl := Lib.hid (show g1.nodes.length ≤ 179000 from by decide)
  have k0 := Lib.hid (show g1.ok 0 from by show 0 / 2 < 2; decide)
  have k1 := Lib.hid (show g1.ok 1 from by show 1 / 2 < 2; decide)
  have k2 := Lib.hid (show g1.ok 2 from by show 2 / 2 < 2; decide)
  go_enter Try.func3, Try.ntmps3; (try simp only [List.append])
  go_wp2_with fail
  refine (equal_err (asks_nil _ _ _ _ _ _ _) rfl).mono ?_
  rintro e u1 ⟨rfl, hk1⟩
  have K1 := Lib.hid hk1; clear hk1
  go_wp2_with fail
  refine (less_err true (asks_nil _ _ _ _ _ _ _) rfl).mono ?_
  rintro e u2 ⟨rfl, hk2⟩
  have K2 := Lib.hid (K1.out.trans hk2); clear hk2 K1
  go_wp2_with fail
  refine (zero_nil _).mono ?_
  rintro e u3 ⟨rfl, hk3⟩
  have K3 := Lib.hid (K2.out.trans hk3); clear hk3 K2
  go_wp2_with fail
  refine (aig_new true true _).mono ?_
  rintro e u4 ⟨p, F4, rfl, hg4, hst4⟩
  have S4 := Lib.hid (show Stepped w u4 [] F4 from ((Stepped.refl w []).keep K3.out).trans hst4)
  have G4 := Lib.hid (show GraphAt u4 p F4 (freshG true true 0) from hg4)
  clear K3 hg4 hst4
  go_wp2_with fail
  refine (aig_input G4.out (by decide)).mono ?_
  rw [freshG_succ]
  rintro e u5 ⟨F5, rfl, hg5, hst5⟩
  have S5 := Lib.hid (S4.out.trans hst5)
  have G5 := Lib.hid (show GraphAt u5 p F5 g1 from hg5)
  clear S4 G4 hg5 hst5
  go_wp2_with fail
  refine (equal_err (asks_len G5.out (by have := hl.out; omega) none none 0 0 0 0 (.inl ⟨rfl, rfl⟩)) rfl).mono ?_
  rintro e u6 ⟨rfl, hk6⟩
  have S6 := Lib.hid (S5.out.keep hk6)
  have G6 := Lib.hid (G5.out.kept0 hk6)
  clear S5 G5 hk6
  go_wp2_with fail
  refine (less_err false (asks_len (G6.out.kept0 (((Kept.refl [] _).alloc _).alloc _)) (by have := hl.out; omega) _ _ 1 2 _ _ (.inr (.inl ⟨rfl, rfl⟩))) rfl).mono ?_
  rintro e u7 ⟨rfl, hk7⟩
  have S7 := Lib.hid (((S6.out.alloc _).alloc _).keep hk7)
  have G7 := Lib.hid ((G6.out.kept0 (((Kept.refl [] _).alloc _).alloc _)).kept0 hk7)
  clear S6 G6 hk7
  go_wp2_with fail
  refine (zero_wide (G7.out.kept0 ((Kept.refl [] _).alloc _)) (by have := hl.out; omega) _ _).mono ?_
  rintro e u8 ⟨rfl, hk8⟩
  have S8 := Lib.hid ((S7.out.alloc _).keep hk8)
  have G8 := Lib.hid ((G7.out.kept0 ((Kept.refl [] _).alloc _)).kept0 hk8)
  clear S7 G7 hk8
  go_wp2_with fail
  refine (equal_err (asks_gone (x := 4) (G8.out.kept0 (((Kept.refl [] _).alloc _).alloc _)) (by have := hl.out; omega) _ _ _ _ ((sln_one _ 4).kept0 ((Kept.refl [] _).alloc _)) (by omega) (by show 2 ≤ 4 / 2; omega)) rfl).mono ?_
  rintro e u9 ⟨rfl, hk9⟩
  have S9 := Lib.hid (((S8.out.alloc _).alloc _).keep hk9)
  have G9 := Lib.hid ((G8.out.kept0 (((Kept.refl [] _).alloc _).alloc _)).kept0 hk9)
  clear S8 G8 hk9
  go_wp2_with fail
  refine (less_two (x := 1) (y := 0) G9.out true k1.out k0.out hl.out e1.out).mono ?_
  rintro e u10 ⟨F10, rfl, hg10, hst10⟩
  have S10 := Lib.hid (S9.out.trans hst10)
  have G10 := Lib.hid hg10
  clear S9 G9 hg10 hst10
  go_wp2_with fail
  refine (less_two (x := 1) (y := 0) G10.out false k1.out k0.out hl.out e2.out).mono ?_
  rintro e u11 ⟨F11, rfl, hg11, hst11⟩
  have S11 := Lib.hid (S10.out.trans hst11)
  have G11 := Lib.hid hg11
  clear S10 G10 hg11 hst11
  go_wp2_with fail
  refine (equal_two (x := 2) (y := 1) G11.out k2.out k1.out hl.out e3.out).mono ?_
  rintro e u12 ⟨F12, rfl, hg12, hst12⟩
  have S12 := Lib.hid (S11.out.trans hst12)
  have G12 := Lib.hid hg12
  clear S11 G11 hg12 hst12
  go_wp2_with fail
  refine (zero_one (x := 2) G12.out k2.out hl.out e4.out).mono ?_
  rintro e u13 ⟨F13, rfl, hg13, hst13⟩
  have S13 := Lib.hid (S12.out.trans hst13)
  clear S12 G12 hg13 hst13
  go_wp2_with fail
  refine (cmp_tells _).mono ?_
  rintro e u14 ⟨rfl, hk14⟩
  have S14 := Lib.hid (S13.out.keep hk14)
  clear S13 hk14
  go_wp2_with fail
  go_ret
  exact ⟨rfl, S14.out.kept.below⟩

set_option maxRecDepth 100000 in
theorem cmpknown_lifted (os : Os) (started : os.Started) (H : Type) (enc : TypeId × Value → H) :
    ReturnsInHanded {} Try.checked os 3 .any (Rows.compareKnownSpec.pre6 enc Try.prog Try.f3 Rows.compareKnownRow.domain false) (Rows.compareKnownSpec.post enc Try.prog Try.f3 false true false false) := by
  refine returnsInHanded_of_change_sized (C := Try.checked) own started (by kernel_rfl) Try.func3
    (ChangeSpec.witness6 (enc := enc) (C := Try.checked) false ⟨#[], #[], []⟩ 8 (by kernel_rfl) (by kernel_rfl) (by kernel_rfl) (by kernel_rfl)) ?_
  intro W base args ds gs before hval0 hW _ hsz0 _
  have hval : ∀ (j : Nat) t v, Try.f3.params[j]? = some t → args[j]? = some v → Value.okWide Try.prog W .any base t v := hval0
  have hend := fun W' (hb : Below W.heap.size W W') => law_post (s := Rows.compareKnownSpec) (fn := Try.f3) laidOut (by kernel_rfl) rfl ⟨4, rfl, Try.underlying4⟩ (fun l hl => by match l, hl with | [], _ => rfl) hW hb
  obtain ⟨p, q, hA0, hV, rfl, hfz, hnd⟩ := hW
  have hA : DataW.TrodAll enc Try.prog W 0 (fun _ => true) true Try.f3.params.toList args.toList ds p := hA0
  have hsz : (DataW.weightsEach Try.prog (Try.f3.params.toList ++ Rows.compareKnownSpec.plain.varTypes Try.prog) (ds ++ gs)).all (· ≤ reachBytes) = true := hsz0
  rw [Try.params3] at hA hval hsz
  obtain ⟨hargs, rfl, rfl⟩ := trodAll_nil hA
  obtain rfl : args = #[] := by cases args; simp_all
  obtain ⟨rfl, rfl⟩ := trodVars_none hV
  refine (cmpknown_walk  W ).mono fun e W' ⟨he, hb⟩ => ?_
  subst he
  exact hend W' hb

theorem cmpknown_over : Rows.compareKnownRow.holds Try.pinned (OpenSpec.ofChange Rows.compareKnownSpec) :=
  OpenClaim.holds_of_wide 3 Try.f3 rfl rfl rfl rfl rfl rfl rfl ⟨rfl, rfl, rfl, rfl, rfl⟩ rfl rfl rfl rfl rfl (by kernel_rfl) Try.func3 (by kernel_rfl)
    (of_decide_eq_true (by kernel_rfl)) (by unfold Func.isWrapper; first | (rw [if_pos (by decide +kernel)]; kernel_rfl) | (rw [if_neg (by decide +kernel)]; exact ⟨rfl, rfl⟩))
    (fun os started H enc _ => cmpknown_lifted os started H enc)

theorem compareKnown_holds : Rows.CompareKnownSaid := cmpknown_over
end Go.Proofs.Ytfngfoabknbgdaa
