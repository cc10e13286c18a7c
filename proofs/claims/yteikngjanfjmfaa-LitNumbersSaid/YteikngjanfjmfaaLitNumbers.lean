/-
  Proved: the statement LitNumbers (a number's constants are that number cut to the width; turned, what is wanting to all ones; a row with anything else is none), for every input, no condition.
-/
import Derived.Test.YteikngjanfjmfaaLitTells
namespace Go.Proofs.Yteikngjanfjmfaa
open Go.ChangeShapes Go.WideShapes Go.ChangeAt Go.RowKit
set_option linter.unusedVariables false

theorem constL_le (n k : Nat) : ∀ b ∈ constL n k, b ≤ 1 := by
  intro b hb
  simp only [constL, List.mem_map] at hb
  obtain ⟨i, _, rfl⟩ := hb
  omega
theorem numV_turned (l : List Nat) (h : ∀ b ∈ l, b ≤ 1) : numV (l.map ntL) + numV l + 1 = 2 ^ l.length := by
  induction l with
  | nil => simp [numV]
  | cons x l ih =>
    have h1 := ih fun b hb => h b (List.mem_cons_of_mem _ hb)
    have h2 := h x (List.mem_cons_self)
    have h3 : ntL x = 1 - x := by unfold ntL; split <;> omega
    simp only [List.map_cons, numV, List.length_cons, Nat.pow_succ, h3]
    omega
theorem numB_bits (l : List Nat) (h : ∀ b ∈ l, b ≤ 1) (hl : l.length ≤ 64) : numB l = true := by
  simp only [numB, Bool.and_eq_true, decide_eq_true_eq, List.all_eq_true]
  exact ⟨hl, h⟩
theorem turned_le (l : List Nat) (h : ∀ b ∈ l, b ≤ 1) : ∀ b ∈ l.map ntL, b ≤ 1 := by
  intro b hb
  obtain ⟨x, hx, rfl⟩ := List.mem_map.1 hb
  have := h x hx
  unfold ntL; split <;> omega
theorem numR_bits (l : List Nat) (h : ∀ b ∈ l, b ≤ 1) (hl : l.length ≤ 64) : numR l = numV l := by rw [numR_eq, numB_bits l h hl]; rfl
theorem most_spell (W : Nat) (h : W ≤ 64) : IntKind.u64.wrap (IntKind.u64.wrap (2 ^ W) - 1) = ((2 ^ W - 1 : Nat) : Int) := by
  have h1 : 2 ^ W ≤ 2 ^ 64 := Nat.pow_le_pow_right (by omega) h
  have h2 : 0 < 2 ^ W := Nat.pow_pos (by omega)
  have h3 : ((2 : Int) ^ W) = ((2 ^ W : Nat) : Int) := by push_cast; rfl
  rw [h3, IntKind.wrap_u64, IntKind.wrap_u64]
  generalize 2 ^ W = x at *
  omega
theorem and_most (n W : Nat) : n &&& (2 ^ W - 1) = n % 2 ^ W := Nat.and_two_pow_sub_one_eq_mod n W

set_option maxHeartbeats 800000 in
set_option maxRecDepth 100000 in
theorem numbers_walk (n wi od at_ : Nat) (w : World) (hn : n < 18446744073709551616) (hwi : wi < 256) (hod : od < 4294967296) (hat : at_ < 256) :
    Calls Try.prog 5 #[.int .u64 n, .int .u8 wi, .int .u32 od, .int .u8 at_] w fun e w' => e = .returned (.bool true) ∧ Below w.heap.size w w' := by
  obtain ⟨W, hW⟩ : ∃ W, W = wi % 65 := ⟨_, rfl⟩
  have eW : (wi : Int) % 65 = (W : Int) := by omega
  have hW64 : W ≤ 64 := by omega
  clear hW
  have hbits := constL_le n W
  have hlen := constL_length n W
  have HN1 := Lib.hid (show numR (constL n W) = n % 2 ^ W by rw [numR_bits _ hbits (by omega), numV_constL])
  have HB1 := Lib.hid (numB_bits _ hbits (by omega))
  have htl : ((constL n W).map ntL).length = W := by simp [hlen]
  have HN2 := Lib.hid (numR_bits _ (turned_le _ hbits) (by omega))
  have HB2 := Lib.hid (numB_bits _ (turned_le _ hbits) (by omega))
  have hsum := numV_turned _ hbits
  rw [numV_constL, hlen] at hsum
  have hp : 2 ^ W ≤ 2 ^ 64 := Nat.pow_le_pow_right (by omega) hW64
  have FM := most_spell W hW64
  have FA0 := and_most n W
  have HL := Lib.hid (show Lits (constL n W) from fun b hb => by have := hbits b hb; omega)
  have HLN := Lib.hid hlen
  have HTL := Lib.hid htl
  have HOD := Lib.hid (show ∀ j v, j < W → 2 ≤ v → numB ((constL n W).set j v) = false from fun j v hj hv => by
    simp only [numB, Bool.and_eq_false_iff, List.all_eq_false]
    exact .inr ⟨v, List.mem_set (by omega) _, by simp; omega⟩)
  clear hbits hlen htl
  have HCst := Lib.hid (fun w => lit_const n W (W : Int) w hn (by omega))
  generalize constL n W = L at *
  generalize numV (L.map ntL) = t at *
  generalize hm : n % 2 ^ W = m at *
  have hmle : m ≤ 2 ^ W - 1 := by omega
  have FA : bits .and .u64 (n : Int) ((2 ^ W - 1 : Nat) : Int) = (m : Int) := by rw [u64_and_nat _ _ hn (by omega), FA0]
  have hmx : (2 ^ W - 1 : Nat) < 18446744073709551616 := by omega
  clear FA0 hm
  generalize hM : 2 ^ W - 1 = M at *
  have ht : t = M - m := by omega
  have FT : ((t : Int) != (M : Int) - (m : Int)) = false := by simp; omega
  clear hM hsum hp ht
  by_cases hW0 : W = 0
  · have kW : ((W : Int) == 0) = true := by simp [hW0]
    clear hW0
    go_enter Try.func5, Try.ntmps5
    go_wp2_with (first
      | (go_at_call 27; refine (HCst.out _).mono ?_; rintro e w1 ⟨a1, c1, rfl, hown1, hst1⟩)
      | (go_at_call_of 28 (Value.slice a1 W c1); refine (lit_number a1 c1 W L _ HLN.out (by omega) hown1.sln).mono ?_; rintro e w' ⟨rfl, rfl⟩; rw [HN1.out, HB1.out])
      | (go_at_call 29; refine (lit_turn a1 c1 W L _ HLN.out (by omega) hown1.sln HL.out).mono ?_; rintro e w2 ⟨a2, c2, rfl, hown2, hst2⟩)
      | (go_at_call 28; refine (lit_number a2 c2 W (L.map ntL) _ HTL.out (by omega) hown2.sln).mono ?_; rintro e w' ⟨rfl, rfl⟩; rw [HN2.out, HB2.out])
      | (go_at_call 26; refine (lit_tells _).mono ?_; rintro e w3 ⟨rfl, htl⟩))
    go_ret
    exact ⟨rfl, ((hst1.kept.trans hst2.kept).trans htl).below⟩
  · have kW : ((W : Int) == 0) = false := by simp [hW0]
    have hW1 : 0 < W := by omega
    clear hW0
    have hj : at_ % W < W := Nat.mod_lt _ hW1
    have ej : (at_ : Int) % (W : Int) = ((at_ % W : Nat) : Int) := by omega
    have HJ := Lib.hid (fun v hv => HOD.out _ v hj hv)
    generalize at_ % W = j at *
    have HSL := Lib.hid (show ∀ v, (L.set j v).length = W from fun v => by simp [HLN.out])
    have tok1 : True := trivial
    have tok2 : True := trivial
    by_cases hod2 : od ≤ 2
    all_goals
      go_enter Try.func5, Try.ntmps5
      go_wp2_with (first
        | (go_at_call 27; refine (HCst.out _).mono ?_; rintro e w1 ⟨a1, c1, rfl, hown1, hst1⟩; obtain ⟨g, rfl⟩ := hown1.form hW1)
        | (go_at_call 28; have tk := tok1; refine (lit_number _ c1 W L _ HLN.out (by omega) hown1.sln).mono ?_; rintro e w' ⟨rfl, rfl⟩; rw [HN1.out, HB1.out]; clear tok1 tk)
        | (go_at_call 29; refine (lit_turn _ c1 W L _ HLN.out (by omega) hown1.sln HL.out).mono ?_; rintro e w2 ⟨a2, c2, rfl, hown2, hst2⟩; have hown3 := hown1.kept0 hst2.kept; obtain ⟨⟨x0, hx0⟩, hfz, hown4⟩ := hown3.store hj)
        | (go_at_call 28; have tk := tok2; refine (lit_number a2 c2 W (L.map ntL) _ HTL.out (by omega) hown2.sln).mono ?_; rintro e w' ⟨rfl, rfl⟩; rw [HN2.out, HB2.out]; clear tok2 tk)
        | (go_at_call 28; have hq := hod2; (first | (have hq : od ≤ 2 := hod2; refine (lit_number _ c1 W (L.set j 2) _ (HSL.out _) (by omega) (by have h := hown4 (.int .u32 ((2 : Nat) : Int)); rw [nats_set] at h; exact h.sln)).mono ?_; rintro e w' ⟨rfl, rfl⟩; rw [HJ.out 2 (by omega)]) | (refine (lit_number _ c1 W (L.set j od) _ (HSL.out _) (by omega) (by have h := hown4 (.int .u32 (od : Int)); rw [nats_set] at h; exact h.sln)).mono ?_; rintro e w' ⟨rfl, rfl⟩; rw [HJ.out od (by omega)])))
        | (go_at_call 26; refine (lit_tells _).mono ?_; rintro e w3 ⟨rfl, htl⟩))
    all_goals
      go_ret
      exact ⟨rfl, ((((hst1.kept.trans hst2.kept).setCell (p := ⟨g, j, none⟩) (by simpa using hst1.fresh g (by simp [ft])) _).trans htl)).below⟩

set_option maxRecDepth 100000 in
theorem numbers_lifted (os : Os) (started : os.Started) (H : Type) (enc : TypeId × Value → H) :
    ReturnsInHanded {} Try.checked os 5 .any (Rows.litNumbersSpec.pre6 enc Try.prog Try.f5 Rows.litNumbersRow.domain false) (Rows.litNumbersSpec.post enc Try.prog Try.f5 false true false false) := by
  refine returnsInHanded_of_change_sized (C := Try.checked) own started (by kernel_rfl) Try.func5
    (ChangeSpec.witness6 (enc := enc) (C := Try.checked) false ⟨#[], #[.int .u64 0, .int .u8 0, .int .u32 0, .int .u8 0], []⟩ 8 (by kernel_rfl) (by kernel_rfl) (by kernel_rfl) (by kernel_rfl)) ?_
  intro W base args ds gs before hval0 hW _ hsz0 _
  have hval : ∀ (j : Nat) t v, Try.f5.params[j]? = some t → args[j]? = some v → Value.okWide Try.prog W .any base t v := hval0
  have hend := fun W' (hb : Below W.heap.size W W') => law_post (s := Rows.litNumbersSpec) (fn := Try.f5) laidOut (by kernel_rfl) rfl ⟨4, rfl, Try.underlying4⟩ (fun l hl => by match l, hl with | [_, _, _, _], _ => rfl) hW hb
  obtain ⟨p, q, hA0, hV, rfl, hfz, hnd⟩ := hW
  have hA : DataW.TrodAll enc Try.prog W 0 (fun _ => true) true Try.f5.params.toList args.toList ds p := hA0
  have hsz : (DataW.weightsEach Try.prog (Try.f5.params.toList ++ Rows.litNumbersSpec.plain.varTypes Try.prog) (ds ++ gs)).all (· ≤ reachBytes) = true := hsz0
  rw [Try.params5] at hA hval hsz
  obtain ⟨v0, vs0, d0, ds0, p0, q0, hargs, rfl, rfl, h0, r0⟩ := trodAll_cons hA
  obtain ⟨v1, vs1, d1, ds1, p1, q1, rfl, rfl, rfl, h1, r1⟩ := trodAll_cons r0
  obtain ⟨v2, vs2, d2, ds2, p2, q2, rfl, rfl, rfl, h2, r2⟩ := trodAll_cons r1
  obtain ⟨v3, vs3, d3, ds3, p3, q3, rfl, rfl, rfl, h3, r3⟩ := trodAll_cons r2
  obtain ⟨rfl, rfl, rfl⟩ := trodAll_nil r3
  obtain rfl : args = #[v0, v1, v2, v3] := by cases args; simp_all
  obtain ⟨rfl, rfl⟩ := trodVars_none hV
  obtain ⟨a0, rfl, rfl, rfl, f0⟩ := open_int Try.underlying41 (hval 0 41 v0 rfl rfl) h0
  obtain ⟨a0, rfl, w0⟩ := wf_nat (m := 18446744073709551616) rfl rfl f0
  obtain ⟨a1, rfl, rfl, rfl, f1⟩ := open_int Try.underlying5 (hval 1 5 v1 rfl rfl) h1
  obtain ⟨a1, rfl, w1⟩ := wf_nat (m := 256) rfl rfl f1
  obtain ⟨a2, rfl, rfl, rfl, f2⟩ := open_int Try.underlying22 (hval 2 22 v2 rfl rfl) h2
  obtain ⟨a2, rfl, w2⟩ := wf_nat (m := 4294967296) rfl rfl f2
  obtain ⟨a3, rfl, rfl, rfl, f3⟩ := open_int Try.underlying5 (hval 3 5 v3 rfl rfl) h3
  obtain ⟨a3, rfl, w3⟩ := wf_nat (m := 256) rfl rfl f3
  refine (numbers_walk a0 a1 a2 a3 W w0 w1 w2 w3).mono fun e W' ⟨he, hb⟩ => ?_
  subst he
  exact hend W' hb

theorem numbers_over : Rows.litNumbersRow.holds Try.pinned (OpenSpec.ofChange Rows.litNumbersSpec) :=
  OpenClaim.holds_of_wide 5 Try.f5 rfl rfl rfl rfl rfl rfl rfl ⟨rfl, rfl, rfl, rfl, rfl⟩ rfl rfl rfl rfl rfl (by kernel_rfl) Try.func5 (by kernel_rfl)
    (of_decide_eq_true (by kernel_rfl)) (by unfold Func.isWrapper; first | (rw [if_pos (by decide +kernel)]; kernel_rfl) | (rw [if_neg (by decide +kernel)]; exact ⟨rfl, rfl⟩))
    (fun os started H enc _ => numbers_lifted os started H enc)

theorem litNumbers_holds : Rows.LitNumbersSaid := numbers_over
end Go.Proofs.Yteikngjanfjmfaa
