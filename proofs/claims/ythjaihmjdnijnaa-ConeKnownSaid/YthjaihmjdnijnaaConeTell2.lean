/-
  Law 04: tells, the chapter's rows.
-/
import Derived.Test.YthjaihmjdnijnaaConeTells
namespace Go.Proofs.Ythjaihmjdnijnaa
open Go.ChangeShapes Go.WideShapes Go.ChangeAt Go.RowKit
open Go.Maps (Keyed)
open Go.WideMaps
set_option linter.unusedVariables false
set_option linter.unusedSimpArgs false

variable {w w' : World} {p q : Nat} {F R S : List Nat} {g g2 : Gr}
theorem far_new {b : Nat} (hg : GraphAt w p F g) (hb : w.heap.size ≤ b) : ∀ x ∈ ft (some (⟨b, 0, none⟩ : Addr)), x ∉ F := by intro x hx hF; rw [mem_ft] at hx; subst hx; exact absurd (hg.lt _ hF) (Nat.not_lt.2 hb)
theorem Stepped.ofKept {a b c : World} {G : List Nat} (h : Kept [] a b) (hst : Stepped b c [] G) : Stepped a c [] G := (⟨h, by simp⟩ : Stepped a b [] []).trans hst
/-- a graph beside what is written -/
theorem keep_beside {w1 w2 : World} {G G' : List Nat} (hg : GraphAt w1 p F g) (hd : ∀ x ∈ F, x ∉ G) (hst : Stepped w1 w2 G G') : GraphAt w2 p F g ∧ ∀ x ∈ F, x ∉ G' := graph_apart hg hd hst
theorem one_lit (w : World) (x : Nat) : SlN (w.alloc (.cells #[.int .u32 (x : Int)] 37)) .u32 (some ⟨w.heap.size, 0, none⟩) [x] := by have := sln_new w .u32 [x] 37; exact this
theorem int3 (w : World) (x y z : Nat) : SlN (w.alloc (.cells #[.int .i64 (x : Int), .int .i64 (y : Int), .int .i64 (z : Int)] 3)) .i64 (some ⟨w.heap.size, 0, none⟩) [x, y, z] := by have := sln_new w .i64 [x, y, z] 3; exact this
theorem IntsPost.three {l : List Nat} {e : Ending} {n : Nat} (h : IntsPost l w e w') (hl : l.length = n) : ∃ a c, e = .returned (.tuple #[.slice a n c, .int .i64 0]) ∧ SlN w' .i64 a l ∧ Kept [] w w' := by
  obtain ⟨a, c, m, h1, h2, h3⟩ := h
  have : m = n := by have := h2.len; rw [nats_length] at this; omega
  subst this
  exact ⟨a, c, h1, h2.sln, h3⟩
set_option maxHeartbeats 3200000 in
set_option maxRecDepth 100000 in
theorem cone_tells (w : World) : Calls Try.prog 22 #[] w fun e w' => e = .returned (.bool true) ∧ Kept [] w w' := by
  have PF := Lib.hid plain_facts
  have CF := Lib.hid copy_facts
  have pl := PF.out.1
  have OK8 := Lib.hid (show ∀ x ∈ [8], plainG.ok x from fun x hx => PF.out.2.2.2.2.2 x (by simp at hx; simp [hx]))
  have OK10 := Lib.hid (show ∀ x ∈ [10], plainG.ok x from fun x hx => PF.out.2.2.2.2.2 x (by simp at hx; simp [hx]))
  go_enter Try.func22, Try.ntmps22; (try simp only [List.append])
  go_wp2_with fail
  refine (plain_c _).mono ?_
  rintro e w1 ⟨p, F, rfl, hg, hst⟩
  have G1 := Lib.hid hg
  have S1 := Lib.hid hst
  clear hg hst
  go_wp2_with fail
  refine (cone_reach (G1.out.kept0 ((Kept.refl [] _).alloc _)) (by omega) _ _ 1 [8] rfl (by omega) (one_lit w1 8) OK8.out).mono ?_
  intro e w2 hx
  rw [PF.out.2.1] at hx
  obtain ⟨a2, c2, rfl, o2, k2⟩ := hx.three rfl
  have K2 := Lib.hid (((Kept.refl [] w1).alloc (.cells #[.int .u32 8] 37)).trans k2)
  have O2 := Lib.hid o2
  clear hx o2 k2
  go_wp2_with fail
  refine (cone_support (G1.out.kept0 (K2.out.alloc _)) (by omega) _ _ 1 [10] rfl (by omega) (one_lit w2 10) OK10.out).mono ?_
  intro e w3 hx
  rw [PF.out.2.2.1] at hx
  obtain ⟨a3, c3, rfl, o3, k3⟩ := hx.three rfl
  have K3' := Lib.hid (((Kept.refl [] w2).alloc (.cells #[.int .u32 10] 37)).trans k3)
  have K3 := Lib.hid (K2.out.trans K3'.out)
  have O23 := Lib.hid (O2.out.kept0 K3'.out)
  have O3 := Lib.hid o3
  clear hx o3 k3 O2 K2 K3'
  go_wp2_with fail
  refine (cone_depth (G1.out.kept0 (K3.out.alloc _)) (by omega) _ _ 1 [10] rfl (by omega) (one_lit w3 10) OK10.out).mono ?_
  rw [PF.out.2.2.2.1]
  rintro e w4 ⟨rfl, k4⟩
  have K4' := Lib.hid (((Kept.refl [] w3).alloc (.cells #[.int .u32 10] 37)).trans k4)
  have K4 := Lib.hid (K3.out.trans K4'.out)
  have O24 := Lib.hid (O23.out.kept0 K4'.out)
  have O34 := Lib.hid (O3.out.kept0 K4'.out)
  clear k4 O23 O3 K3 K4'
  go_wp2_with fail
  refine (aig_new true false _).mono ?_
  rintro e w5 ⟨r, E, rfl, hg5, hs5⟩
  have A5 := Lib.hid (graph_apart (G1.out.kept0 K4.out) (by simp) hs5)
  have H5 := Lib.hid hg5
  have T5 := Lib.hid hs5
  clear hg5 hs5
  go_wp2_with fail
  refine (aig_input H5.out (by decide)).mono ?_
  rintro e w6 ⟨E6, rfl, hg6, hs6⟩
  have A6 := Lib.hid (graph_apart A5.out.1 A5.out.2 hs6)
  have H6 := Lib.hid hg6
  have T6 := Lib.hid (T5.out.trans hs6)
  clear hg6 hs6 A5 H5 T5
  go_wp2_with fail
  refine (aig_input H6.out (by decide)).mono ?_
  rintro e w7 ⟨E7, rfl, hg7, hs7⟩
  have A7 := Lib.hid (graph_apart A6.out.1 A6.out.2 hs7)
  have H7 := Lib.hid hg7
  have T7 := Lib.hid (T6.out.trans hs7)
  clear hg7 hs7 A6 H6 T6
  go_wp2_with fail
  refine (aig_input H7.out (by decide)).mono ?_
  rintro e w8 ⟨E8, rfl, hg8, hs8⟩
  have A8 := Lib.hid (graph_apart A7.out.1 A7.out.2 hs8)
  have H8 := Lib.hid (show GraphAt w8 r E8 toG from hg8)
  have T8 := Lib.hid (T7.out.trans hs8)
  clear hg8 hs8 A7 H7 T7
  go_wp2_with fail
  obtain ⟨w9, hw9⟩ : ∃ w9, w9 = (w8.alloc (.cells #[.int .u32 1, .int .u32 4, .int .u32 6] 37)).alloc (.cells #[.int .u32 10] 37) := ⟨_, rfl⟩
  have hk9 : Kept [] w8 w9 := by rw [hw9]; exact ((Kept.refl [] w8).alloc _).alloc _
  have hb1 : SlN w9 .u32 (some ⟨w8.heap.size, 0, none⟩) [1, 4, 6] := by
    rw [hw9]
    have := sln_new w8 .u32 [1, 4, 6] 37
    exact SlN.kept0 this ((Kept.refl [] _).alloc _)
  have hb2 : SlN w9 .u32 (some ⟨w8.heap.size + 1, 0, none⟩) [10] := by
    rw [hw9]
    have := one_lit (w8.alloc (.cells #[.int .u32 1, .int .u32 4, .int .u32 6] 37)) 10
    simpa using this
  rw [← hw9]
  have HC := Lib.hid (cone_copy (H8.out.kept0 hk9) (A8.out.1.kept0 hk9) A8.out.2 (by decide) (by omega) (some ⟨w8.heap.size, 0, none⟩) 3 3 [1, 4, 6] rfl PF.out.2.2.2.2.1.symm hb1 (by intro x hx; show x / 2 < 4; simp only [List.mem_cons, List.not_mem_nil, or_false] at hx; omega) (far_new H8.out (Nat.le_refl _)) (some ⟨w8.heap.size + 1, 0, none⟩) 1 1 [10] rfl (by omega) hb2 OK10.out (far_new H8.out (by omega)))
  have K9 := Lib.hid hk9
  clear hw9 hk9 hb1 hb2
  refine HC.out.mono ?_
  rintro e w10 ⟨E10, a10, c10, he, hg10, ho10, hs10⟩
  have he' : e = .returned (.tuple #[.slice a10 1 c10, .int .i64 0]) := he
  subst he'
  rw [CF.out.1] at ho10
  have ho10 : Own w10 37 a10 1 c10 (nats .u32 [8]) := ho10
  obtain ⟨g10, rfl⟩ := ho10.form (by omega)
  have q10 : w10.cell? ⟨g10, 0, none⟩ = some (.int .u32 8) := by have := World.ownsRow.cellAt ho10 0 (by omega); rw [this]; rfl
  have H10 := Lib.hid hg10
  have K410 := Lib.hid (kept_up (T8.out.kept.trans K9.out) hs10.kept (fun b hb => by
    rcases T8.out.fresh b hb with h | h
    · simp at h
    · exact h))
  have K10 := Lib.hid ((S1.out.kept.trans K4.out).trans K410.out)
  have O2 := Lib.hid (O24.out.kept0 K410.out)
  have O3 := Lib.hid (O34.out.kept0 K410.out)
  clear hg10 ho10 hs10 he HC K410 O24 O34 K9 T8 H8 A8 K4 G1 S1
  go_wp2_with fail
  refine (lit_node 8 _ (by omega)).mono ?_
  rintro e w' ⟨rfl, rfl⟩
  have HGT := Lib.hid (aig_gateOf H10.out (show _ ≤ 1000000 by have := CF.out.2.2; omega) 4 (by omega) (by omega))
  rw [CF.out.2.1] at HGT
  go_wp2_with fail
  refine HGT.out.mono ?_
  rintro e w11 ⟨rfl, k11⟩
  have K11 := Lib.hid k11
  have q11 : w11.cell? ⟨g10, 0, none⟩ = some (.int .u32 8) := k11.cell q10 (by simp)
  clear k11 HGT q10
  go_wp2_with fail
  refine (ints_c a2 (some ⟨w11.heap.size, 0, none⟩) c2 3 3 [1, 2, 4] _ rfl (by omega) (O2.out.kept0 (K11.out.alloc _)) (int3 w11 1 2 4)).mono ?_
  rintro e w12 ⟨rfl, m12, hm12⟩
  have K12 := Lib.hid (show Kept [] w11 w12 from by rw [hm12]; exact ((Kept.refl [] w11).alloc _).drewN _)
  have q12 : w12.cell? ⟨g10, 0, none⟩ = some (.int .u32 8) := K12.out.cell q11 (by simp)
  clear hm12 q11
  go_wp2_with fail
  refine (ints_c a3 (some ⟨w12.heap.size, 0, none⟩) c3 3 3 [1, 2, 3] _ rfl (by omega) ((O3.out.kept0 (K11.out.trans K12.out)).kept0 ((Kept.refl [] w12).alloc _)) (int3 w12 1 2 3)).mono ?_
  rintro e w13 ⟨rfl, m13, hm13⟩
  have K13 := Lib.hid (show Kept [] w12 w13 from by rw [hm13]; exact ((Kept.refl [] w12).alloc _).drewN _)
  have q13 : w13.cell? ⟨g10, 0, none⟩ = some (.int .u32 8) := K13.out.cell q12 (by simp)
  clear hm13 q12
  go_wp2_with fail
  refine (c_turned 8 _ rfl false (by omega) (by decide) _).mono ?_
  rintro e w' ⟨rfl, rfl⟩
  go_wp2_with fail
  go_ret
  exact ⟨rfl, ((K10.out.trans K11.out).trans K12.out).trans K13.out⟩
end Go.Proofs.Ythjaihmjdnijnaa
