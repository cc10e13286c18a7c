/-
  ConeKnown: the chapter's rows; what is not there; none. A closed statement.
-/
import Derived.Test.YthjaihmjdnijnaaConeErr
import Derived.Test.YthjaihmjdnijnaaConeTell2
namespace Go.Proofs.Ythjaihmjdnijnaa
open Go.ChangeShapes Go.WideShapes Go.ChangeAt Go.RowKit
open Go.Maps (Keyed)
open Go.WideMaps
set_option linter.unusedVariables false
set_option linter.unusedSimpArgs false

variable {w w' : World} {p q : Nat} {F R S : List Nat} {g g2 : Gr}
theorem slrow (w : World) (K : IntKind) (l : List Nat) (T : TypeId) : SlN (w.alloc (.cells (nats K l).toArray T)) K (some ⟨w.heap.size, 0, none⟩) l := by have := sln_new w K l T; exact this
set_option maxRecDepth 100000 in
theorem known_facts : reachL plainG.nodes [] = [] ∧ supportL plainG.nodes [0, 1] = [] ∧ [1, 8, 11].map (lw [12, 10, 9] plainG) = [18446744073709551615, 8, 18446744073709551614] ∧ [2, 1, 0].map (overL (copyG plainG plainG [3, 4, 6] [2, 1, 0]).2) = [3, 1, 0] ∧ plainG.nodes.length = 6 := by
  refine ⟨by kernel_rfl, by kernel_rfl, by kernel_rfl, by kernel_rfl, by decide⟩
theorem rows2 (w : World) (K1 K2 : IntKind) (T1 T2 : TypeId) (l1 l2 : List Nat) : SlN ((w.alloc (.cells (nats K1 l1).toArray T1)).alloc (.cells (nats K2 l2).toArray T2)) K1 (some ⟨w.heap.size, 0, none⟩) l1 ∧ SlN ((w.alloc (.cells (nats K1 l1).toArray T1)).alloc (.cells (nats K2 l2).toArray T2)) K2 (some ⟨w.heap.size + 1, 0, none⟩) l2 ∧ Kept [] w ((w.alloc (.cells (nats K1 l1).toArray T1)).alloc (.cells (nats K2 l2).toArray T2)) := by
  refine ⟨(slrow w K1 l1 T1).kept0 ((Kept.refl [] _).alloc _), ?_, ((Kept.refl [] w).alloc _).alloc _⟩
  have h := slrow (w.alloc (.cells (nats K1 l1).toArray T1)) K2 l2 T2
  rw [World.size_alloc] at h
  exact h
set_option maxHeartbeats 3200000 in
set_option maxRecDepth 100000 in
theorem coneknown_walk (w : World) : Calls Try.prog 6 #[] w fun e w' => e = .returned (.bool true) ∧ Below w.heap.size w w' := by
  have hmk : ∀ w, (Instr.makeSlice 54 (.int .i64 2) (.int .i64 2)).run Try.prog w = .ok (.slice (some ⟨w.heap.size, 0, none⟩) 2 2) (w.alloc (.cells #[.int .u64 0, .int .u64 0] 57)) := fun _ => by kernel_rfl
  have PF := Lib.hid plain_facts
  have KF := Lib.hid known_facts
  have pl := PF.out.1
  have OK := Lib.hid (show ∀ x, x < 12 → plainG.ok x from fun x hx => by have := KF.out.2.2.2.2; unfold Gr.ok; omega)
  go_enter Try.func6, Try.ntmps6; (try simp only [List.append])
  go_wp2_with fail
  refine (plain_c _).mono ?_
  rintro e u1 ⟨p, F, rfl, hg, hst⟩
  have G1 := Lib.hid hg
  have K1 := Lib.hid hst.kept
  clear hg hst
  go_wp2_with fail
  refine (c_reach_err (c_asks_nil _ _ _ _) rfl).mono ?_
  rintro e u2 ⟨rfl, hk⟩
  have T2 := Lib.hid (((Kept.refl [] u1).alloc _).trans hk); clear hk
  go_wp2_with fail
  refine (c_depth_err (c_asks_gone (G1.out.kept0 (T2.out.alloc _)) (by omega) _ _ 1 [12] rfl (by omega) (one_lit u2 12) (by simp) (by simp [KF.out.2.2.2.2])) rfl).mono ?_
  rintro e u3 ⟨rfl, hk⟩
  have T3 := Lib.hid ((T2.out.alloc _).trans hk); clear hk T2
  go_wp2_with fail
  refine (c_copy_err none (G1.out.kept0 (T3.out.alloc _)) (by omega) none 0 0 2 (fun W _ => c_asks_nil _ _ _ W) (.inl rfl) _ _ 1 [2] rfl (by omega) (one_lit u3 2) (by intro x hx; simp at hx; exact OK.out x (by omega))).mono ?_
  rintro e u4 ⟨rfl, hk⟩
  have T4 := Lib.hid ((T3.out.alloc _).trans hk); clear hk T3
  go_wp2_with fail
  refine (aig_copy (G1.out.kept0 T4.out) (by omega)).mono ?_
  rintro e u5 ⟨p5, F5, rfl, hg5, hst5⟩
  have T5 := Lib.hid (T4.out.trans hst5.kept)
  have G5 := Lib.hid hg5
  clear hg5 hst5 T4
  go_wp2_with fail
  obtain ⟨v5, hv5⟩ : ∃ v5, v5 = (u5.alloc (.cells #[.int .u32 2, .int .u32 4] 37)).alloc (.cells #[.int .u32 2] 37) := ⟨_, rfl⟩
  have R5 := Lib.hid (show SlN v5 .u32 (some ⟨u5.heap.size, 0, none⟩) [2, 4] ∧ SlN v5 .u32 (some ⟨u5.heap.size + 1, 0, none⟩) [2] ∧ Kept [] u5 v5 from by rw [hv5]; exact rows2 u5 .u32 .u32 37 37 [2, 4] [2])
  rw [← hv5]
  clear hv5
  refine (c_copy_err (some ⟨p5, 0, none⟩) (G1.out.kept0 (T5.out.trans R5.out.2.2)) (by omega) (some ⟨u5.heap.size, 0, none⟩) 2 2 0 (fun W hk => cone_asks_ok ((G5.out.kept0 R5.out.2.2).kept0 hk) (by omega) _ _ 2 [2, 4] rfl (by omega) (R5.out.1.kept0 hk) (by intro x hx; simp at hx; exact OK.out x (by omega))) (.inr (.inr ⟨rfl, by rw [PF.out.2.2.2.2.1]; omega⟩)) _ _ 1 [2] rfl (by omega) R5.out.2.1 (by intro x hx; simp at hx; exact OK.out x (by omega))).mono ?_
  rintro e u6 ⟨rfl, hk⟩
  have T6 := Lib.hid ((T5.out.trans R5.out.2.2).trans hk); clear hk T5 R5 G5
  go_wp2_with fail
  refine (aig_copy (G1.out.kept0 T6.out) (by omega)).mono ?_
  rintro e u7 ⟨p7, F7, rfl, hg7, hst7⟩
  have T7 := Lib.hid (T6.out.trans hst7.kept)
  have G7 := Lib.hid hg7
  clear hg7 hst7 T6
  go_wp2_with fail
  obtain ⟨v7, hv7⟩ : ∃ v7, v7 = (u7.alloc (.cells #[.int .u32 2, .int .u32 4, .int .u32 99] 37)).alloc (.cells #[.int .u32 2] 37) := ⟨_, rfl⟩
  have R7 := Lib.hid (show SlN v7 .u32 (some ⟨u7.heap.size, 0, none⟩) [2, 4, 99] ∧ SlN v7 .u32 (some ⟨u7.heap.size + 1, 0, none⟩) [2] ∧ Kept [] u7 v7 from by rw [hv7]; exact rows2 u7 .u32 .u32 37 37 [2, 4, 99] [2])
  rw [← hv7]
  clear hv7
  refine (c_copy_err (some ⟨p7, 0, none⟩) (G1.out.kept0 (T7.out.trans R7.out.2.2)) (by omega) (some ⟨u7.heap.size, 0, none⟩) 3 3 1 (fun W hk => c_asks_gone ((G7.out.kept0 R7.out.2.2).kept0 hk) (by omega) _ _ 3 [2, 4, 99] rfl (by omega) (R7.out.1.kept0 hk) (by intro x hx; simp at hx; omega) (by simp [KF.out.2.2.2.2])) (.inr (.inl rfl)) _ _ 1 [2] rfl (by omega) R7.out.2.1 (by intro x hx; simp at hx; exact OK.out x (by omega))).mono ?_
  rintro e u8 ⟨rfl, hk⟩
  have T8 := Lib.hid ((T7.out.trans R7.out.2.2).trans hk); clear hk T7 R7 G7
  go_wp2_with fail
  obtain ⟨v8, hv8⟩ : ∃ v8, v8 = (u8.alloc (.cells #[.int .u64 0, .int .u64 0] 57)).alloc (.cells #[.int .u32 2] 37) := ⟨_, rfl⟩
  have R8 := Lib.hid (show SlN v8 .u64 (some ⟨u8.heap.size, 0, none⟩) [0, 0] ∧ SlN v8 .u32 (some ⟨u8.heap.size + 1, 0, none⟩) [2] ∧ Kept [] u8 v8 from by rw [hv8]; exact rows2 u8 .u64 .u32 57 37 [0, 0] [2])
  rw [← hv8]
  clear hv8
  refine (c_words_short (G1.out.kept0 (T8.out.trans R8.out.2.2)) (by omega) _ _ 2 (by rw [PF.out.2.2.2.2.1]; omega) _ _ 1 [2] rfl (by omega) R8.out.2.1 (by intro x hx; simp at hx; exact OK.out x (by omega))).mono ?_
  rintro e u9 ⟨rfl, hk⟩
  have T9 := Lib.hid ((T8.out.trans R8.out.2.2).trans hk); clear hk T8 R8
  go_wp2_with fail
  refine (cone_reach (G1.out.kept0 T9.out) (by omega) none 0 0 [] rfl (by omega) (SlN.nil _ _ _) (by simp)).mono ?_
  intro e u10 hx
  rw [KF.out.1] at hx
  obtain ⟨a10, c10, rfl, o10, k10⟩ := hx.three rfl
  have T10 := Lib.hid (T9.out.trans k10)
  clear hx o10 k10 T9
  go_wp2_with fail
  refine (cone_support (G1.out.kept0 (T10.out.alloc _)) (by omega) _ _ 2 [0, 1] rfl (by omega) (show SlN _ .u32 _ [0, 1] from slrow u10 .u32 [0, 1] 37) (by intro x hx; simp at hx; exact OK.out x (by omega))).mono ?_
  intro e u11 hx
  rw [KF.out.2.1] at hx
  obtain ⟨a11, c11, rfl, o11, k11⟩ := hx.three rfl
  have T11 := Lib.hid ((T10.out.alloc _).trans k11)
  clear hx o11 k11 T10
  go_wp2_with fail
  obtain ⟨v11, hv11⟩ : ∃ v11, v11 = (u11.alloc (.cells #[.int .u64 12, .int .u64 10, .int .u64 9] 57)).alloc (.cells #[.int .u32 1, .int .u32 8, .int .u32 11] 37) := ⟨_, rfl⟩
  have R11 := Lib.hid (show SlN v11 .u64 (some ⟨u11.heap.size, 0, none⟩) [12, 10, 9] ∧ SlN v11 .u32 (some ⟨u11.heap.size + 1, 0, none⟩) [1, 8, 11] ∧ Kept [] u11 v11 from by rw [hv11]; exact rows2 u11 .u64 .u32 57 37 [12, 10, 9] [1, 8, 11])
  rw [← hv11]
  clear hv11
  refine (cone_words (G1.out.kept0 (T11.out.trans R11.out.2.2)) (by omega) (some ⟨u11.heap.size, 0, none⟩) 3 3 [12, 10, 9] rfl PF.out.2.2.2.2.1.symm R11.out.1 (by intro x hx; simp at hx; omega) (some ⟨u11.heap.size + 1, 0, none⟩) 3 3 [1, 8, 11] rfl (by omega) R11.out.2.1 (by intro x hx; simp at hx; exact OK.out x (by omega))).mono ?_
  intro e u12 hx
  rw [KF.out.2.2.1] at hx
  obtain ⟨m1, hm1⟩ : ∃ m : Nat, m = 18446744073709551615 := ⟨_, rfl⟩
  obtain ⟨m2, hm2⟩ : ∃ m : Nat, m = 18446744073709551614 := ⟨_, rfl⟩
  have E1 := Lib.hid (show (((m1 : Nat) : Int) == 18446744073709551615) = true from by rw [hm1]; rfl)
  have E2 := Lib.hid (show (((m2 : Nat) : Int) == 18446744073709551614) = true from by rw [hm2]; rfl)
  rw [← hm1, ← hm2] at hx
  clear hm1 hm2
  obtain ⟨a12, c12, rfl, o12, k12⟩ := hx
  obtain ⟨g12, rfl⟩ := o12.form (by omega)
  have T12 := Lib.hid ((T11.out.trans R11.out.2.2).trans k12.kept)
  have O12 := Lib.hid o12
  clear o12 k12 T11 R11
  go_wp2_with fail
  refine (aig_copy (G1.out.kept0 T12.out) (by omega)).mono ?_
  rintro e u13 ⟨p13, F13, rfl, hg13, hst13⟩
  have T13 := Lib.hid (T12.out.trans hst13.kept)
  have O13 := Lib.hid (O12.out.kept0 hst13.kept)
  have A13 := Lib.hid (keep_beside (G1.out.kept0 T12.out) (by simp) hst13)
  have N13 := Lib.hid (show ∀ b ∈ F13, u12.heap.size ≤ b from fun b hb => by rcases hst13.fresh b hb with h | h; simp at h; exact h)
  have K13 := Lib.hid hst13.kept
  have G13 := Lib.hid hg13
  clear hg13 hst13
  go_wp2_with fail
  obtain ⟨v13, hv13⟩ : ∃ v13, v13 = (u13.alloc (.cells #[.int .u32 3, .int .u32 4, .int .u32 6] 37)).alloc (.cells #[.int .u32 2, .int .u32 1, .int .u32 0] 37) := ⟨_, rfl⟩
  have R13 := Lib.hid (show SlN v13 .u32 (some ⟨u13.heap.size, 0, none⟩) [3, 4, 6] ∧ SlN v13 .u32 (some ⟨u13.heap.size + 1, 0, none⟩) [2, 1, 0] ∧ Kept [] u13 v13 from by rw [hv13]; exact rows2 u13 .u32 .u32 37 37 [3, 4, 6] [2, 1, 0])
  rw [← hv13]
  clear hv13
  refine (cone_copy (G13.out.kept0 R13.out.2.2) (A13.out.1.kept0 R13.out.2.2) A13.out.2 (by omega) (by omega) (some ⟨u13.heap.size, 0, none⟩) 3 3 [3, 4, 6] rfl PF.out.2.2.2.2.1.symm R13.out.1 (by intro x hx; simp at hx; exact OK.out x (by omega)) (far_new G13.out (Nat.le_refl _)) (some ⟨u13.heap.size + 1, 0, none⟩) 3 3 [2, 1, 0] rfl (by omega) R13.out.2.1 (by intro x hx; simp at hx; exact OK.out x (by omega)) (far_new G13.out (by omega))).mono ?_
  rintro e u14 ⟨F14, a14, c14, he, hg14, ho14, hs14⟩
  have he' : e = .returned (.tuple #[.slice a14 3 c14, .int .i64 0]) := he
  subst he'
  rw [KF.out.2.2.2.1] at ho14
  have ho14 : Own u14 37 a14 3 c14 (nats .u32 [3, 1, 0]) := ho14
  obtain ⟨g14, rfl⟩ := ho14.form (by omega)
  have K14 := Lib.hid (kept_up (K13.out.trans R13.out.2.2) hs14.kept N13.out)
  have T14 := Lib.hid (T12.out.trans K14.out)
  have O14 := Lib.hid (O12.out.kept0 K14.out)
  have P14 := Lib.hid ho14
  clear he hg14 ho14 hs14 T12 T13 O12 O13 A13 N13 K13 G13 R13 K14
  go_wp2_with fail
  refine (c_support_nil _).mono ?_
  rintro e u15 ⟨rfl, k15⟩
  have T15 := Lib.hid (T14.out.trans k15)
  have O15 := Lib.hid (O14.out.kept0 k15)
  have P15 := Lib.hid (P14.out.kept0 k15)
  clear k15 T14 O14 P14
  have q0 : u15.cell? ⟨g12, 0, none⟩ = some (.int .u64 (m1 : Nat)) := own_cells_i O15.out 0 (by simp)
  have q1 : u15.cell? ⟨g12, 1, none⟩ = some (.int .u64 8) := own_cells_i O15.out 1 (by simp)
  have q2 : u15.cell? ⟨g12, 2, none⟩ = some (.int .u64 (m2 : Nat)) := own_cells_i O15.out 2 (by simp)
  have r0 : u15.cell? ⟨g14, 0, none⟩ = some (.int .u32 3) := own_cells_i P15.out 0 (by simp)
  have r1 : u15.cell? ⟨g14, 1, none⟩ = some (.int .u32 1) := own_cells_i P15.out 1 (by simp)
  have r2 : u15.cell? ⟨g14, 2, none⟩ = some (.int .u32 0) := own_cells_i P15.out 2 (by simp)
  have e1 := E1.out
  have e2 := E2.out
  go_wp2_with fail
  refine (cone_tells _).mono ?_
  rintro e u16 ⟨rfl, k16⟩
  have T16 := Lib.hid (K1.out.trans (T15.out.trans k16))
  clear k16 T15
  go_wp2_with fail
  go_ret
  exact ⟨rfl, T16.out.below⟩

set_option maxRecDepth 100000 in
theorem coneknown_lifted (os : Os) (started : os.Started) (H : Type) (enc : TypeId × Value → H) :
    ReturnsInHanded {} Try.checked os 6 .any (Rows.coneKnownSpec.pre6 enc Try.prog Try.f6 Rows.coneKnownRow.domain false) (Rows.coneKnownSpec.post enc Try.prog Try.f6 false true false false) := by
  refine returnsInHanded_of_change_sized (C := Try.checked) own started (by kernel_rfl) Try.func6
    (ChangeSpec.witness6 (enc := enc) (C := Try.checked) false ⟨#[], #[], []⟩ 8 (by kernel_rfl) (by kernel_rfl) (by kernel_rfl) (by kernel_rfl)) ?_
  intro W base args ds gs before hval0 hW _ hsz0 _
  have hval : ∀ (j : Nat) t v, Try.f6.params[j]? = some t → args[j]? = some v → Value.okWide Try.prog W .any base t v := hval0
  have hend := fun W' (hb : Below W.heap.size W W') => law_post (s := Rows.coneKnownSpec) (fn := Try.f6) laidOut (by kernel_rfl) rfl ⟨4, rfl, Try.underlying4⟩ (fun l hl => by match l, hl with | [], _ => rfl) hW hb
  obtain ⟨p, q, hA0, hV, rfl, hfz, hnd⟩ := hW
  have hA : DataW.TrodAll enc Try.prog W 0 (fun _ => true) true Try.f6.params.toList args.toList ds p := hA0
  have hsz : (DataW.weightsEach Try.prog (Try.f6.params.toList ++ Rows.coneKnownSpec.plain.varTypes Try.prog) (ds ++ gs)).all (· ≤ reachBytes) = true := hsz0
  rw [Try.params6] at hA hval hsz
  obtain ⟨hargs, rfl, rfl⟩ := trodAll_nil hA
  obtain rfl : args = #[] := by cases args; simp_all
  obtain ⟨rfl, rfl⟩ := trodVars_none hV
  refine (coneknown_walk  W ).mono fun e W' ⟨he, hb⟩ => ?_
  subst he
  exact hend W' hb

theorem coneknown_over : Rows.coneKnownRow.holds Try.pinned (OpenSpec.ofChange Rows.coneKnownSpec) :=
  OpenClaim.holds_of_wide 6 Try.f6 rfl rfl rfl rfl rfl rfl rfl ⟨rfl, rfl, rfl, rfl, rfl⟩ rfl rfl rfl rfl rfl (by kernel_rfl) Try.func6 (by kernel_rfl)
    (of_decide_eq_true (by kernel_rfl)) (by unfold Func.isWrapper; first | (rw [if_pos (by decide +kernel)]; kernel_rfl) | (rw [if_neg (by decide +kernel)]; exact ⟨rfl, rfl⟩))
    (fun os started H enc _ => coneknown_lifted os started H enc)

theorem coneKnown_holds : Rows.ConeKnownSaid := coneknown_over
end Go.Proofs.Ythjaihmjdnijnaa
