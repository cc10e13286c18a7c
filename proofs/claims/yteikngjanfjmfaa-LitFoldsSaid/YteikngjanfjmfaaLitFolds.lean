/-
  Proved: the statement LitFolds (what Fold tells is the And of both words; opposites; order does not matter), for every input, no condition.
-/
import Derived.Test.YteikngjanfjmfaaLitTells
namespace Go.Proofs.Yteikngjanfjmfaa
open Go.ChangeShapes Go.WideShapes Go.ChangeAt Go.RowKit
set_option linter.unusedVariables false

set_option maxHeartbeats 400000 in
set_option maxRecDepth 100000 in
theorem folds_walk1 (a b : Nat) (ad : Option Addr) (n c : Nat) (ws : List Nat) (w : World) (ha : a < 4294967296) (hb : b < 4294967296) (hn : ws.length = n) (hm : n ≤ 140737488355328) (hc : n ≤ c) (hs : SlN w .u64 ad ws) (hw : Words ws) (h60 : n ≤ 60 ∨ 60 < n) :
    Calls Try.prog 4 #[.int .u32 a, .int .u32 b, .slice ad n c] w fun e w' => e = .returned (.bool true) ∧ Below w.heap.size w w' := by
  have hx : a % 120 < 120 := by omega
  have hy : b % 120 < 120 := by omega
  obtain ⟨x, hxe⟩ : ∃ x, x = a % 120 := ⟨_, rfl⟩
  obtain ⟨y, hye⟩ : ∃ y, y = b % 120 := ⟨_, rfl⟩
  rw [← hxe] at hx
  rw [← hye] at hy
  have ex : (a : Int) % 120 = (x : Int) := by omega
  have ey : (b : Int) % 120 = (y : Int) := by omega
  have HN := Lib.hid (show (ws.take 60).length = min n 60 by simp; omega); clear hn
  clear hxe hye
  have hs' := hs.take 60
  have hw' : Words (ws.take 60) := fun n hn => hw n (List.mem_of_mem_take hn)
  clear hs hw
  generalize ws.take 60 = W at *
  have E1 : wd W (ntL x) = noW (wd W x) := wd_ntL hw' x
  have E2 : ntL (ntL x) = x := ntL_ntL x
  have E3 : nwI (wd W x : Int) = ((noW (wd W x) : Nat) : Int) := nwI_nat _ (wd_lt hw' x)
  have E4 : ifL x true = ntL x := rfl
  have E5 : ifL x false = x := rfl
  have E6 : foldV y x = foldV x y := foldV_comm _ _
  have E7 : foldB y x = foldB x y := foldB_comm _ _
  have E8 : max y x = max x y := Nat.max_comm _ _
  have E9 : min y x = min x y := Nat.min_comm _ _
  have hlt : foldV x y < 4294967296 := foldV_lt x y (by omega) (by omega)
  have K1 : ofV ((x : Int) / 2) (decide (x % 2 = 1)) = x := of_node x (by omega)
  have K2 : ofE ((x : Int) / 2) = 0 := by unfold ofE; rw [if_pos (by omega)]
  have HW := Lib.hid (fun hf => fold_word hw' x y hf)
  have HA := Lib.hid (u64_and_nat _ _ (wd_lt hw' x) (wd_lt hw' y))
  have HG := allW_ne
  rcases h60 with h60 | h60
  all_goals
  cases hf : foldB x y
  case true =>
    have F1 : wd W (foldV x y) = wd W x &&& wd W y := HW.out hf
    have F2 : bits .and .u64 (wd W x : Int) (wd W y : Int) = ((wd W x &&& wd W y : Nat) : Int) := HA.out
    go_enter Try.func4, Try.ntmps4
    go_wp2_with (first
      | (go_at_call 22; refine (lit_not _ _ (by first | omega | exact ntL_lt (by omega))).mono ?_; rintro e w' ⟨rfl, rfl⟩)
      | (go_at_call 23; refine (lit_if _ _ _ (by omega)).mono ?_; rintro e w' ⟨rfl, rfl⟩)
      | (go_at_call_of 24 (Value.int IntKind.u32 0); refine (c_word 0 _ rfl 0 0 rfl _ _ _ W _ (by have := HN.out; omega) (by omega) hs' hw' (wd_zero W)).mono ?_; rintro e w' ⟨rfl, rfl⟩)
      | (go_at_call_of 24 (Value.int IntKind.u32 1); refine (c_word 1 _ rfl allW _ rfl _ _ _ W _ (by have := HN.out; omega) (by omega) hs' hw' (wd_one W)).mono ?_; rintro e w' ⟨rfl, rfl⟩)
      | (go_at_call 24; refine (lit_word _ _ _ _ W _ (by have := HN.out; omega) (by first | omega | exact ntL_lt (by omega)) hs' hw').mono ?_; rintro e w' ⟨rfl, rfl⟩)
      | (go_at_call 16; refine (lit_fold _ _ _ (by omega) (by omega)).mono ?_; rintro e w' ⟨rfl, rfl⟩)
      | (go_at_call 14; refine (lit_of _ _ _).mono ?_; rintro e w' ⟨rfl, rfl⟩)
      | (go_at_call 18; refine (lit_pair _ _ _).mono ?_; rintro e w' ⟨rfl, rfl⟩)
      | (go_at_call 20; refine (lit_node _ _ (by omega)).mono ?_; rintro e w' ⟨rfl, rfl⟩)
      | (go_at_call 21; refine (lit_turned _ _ (by omega)).mono ?_; rintro e w' ⟨rfl, rfl⟩)
      | (go_at_call 26; refine (lit_tells _).mono ?_; rintro e w' ⟨rfl, htl⟩))
    go_ret
    exact ⟨rfl, htl.below⟩
  case false =>
    have F3 : x / 2 ≠ y / 2 ∧ 1 < x ∧ 1 < y := fold_not x y hf
    obtain ⟨F3, F4, F5⟩ := F3
    have F6 : (((x : Int) / 2) != ((y : Int) / 2)) = true := by simp; omega
    go_enter Try.func4, Try.ntmps4
    go_wp2_with (first
      | (go_at_call 22; refine (lit_not _ _ (by first | omega | exact ntL_lt (by omega))).mono ?_; rintro e w' ⟨rfl, rfl⟩)
      | (go_at_call 23; refine (lit_if _ _ _ (by omega)).mono ?_; rintro e w' ⟨rfl, rfl⟩)
      | (go_at_call_of 24 (Value.int IntKind.u32 0); refine (c_word 0 _ rfl 0 0 rfl _ _ _ W _ (by have := HN.out; omega) (by omega) hs' hw' (wd_zero W)).mono ?_; rintro e w' ⟨rfl, rfl⟩)
      | (go_at_call_of 24 (Value.int IntKind.u32 1); refine (c_word 1 _ rfl allW _ rfl _ _ _ W _ (by have := HN.out; omega) (by omega) hs' hw' (wd_one W)).mono ?_; rintro e w' ⟨rfl, rfl⟩)
      | (go_at_call 24; refine (lit_word _ _ _ _ W _ (by have := HN.out; omega) (by first | omega | exact ntL_lt (by omega)) hs' hw').mono ?_; rintro e w' ⟨rfl, rfl⟩)
      | (go_at_call 16; refine (lit_fold _ _ _ (by omega) (by omega)).mono ?_; rintro e w' ⟨rfl, rfl⟩)
      | (go_at_call 14; refine (lit_of _ _ _).mono ?_; rintro e w' ⟨rfl, rfl⟩)
      | (go_at_call 18; refine (lit_pair _ _ _).mono ?_; rintro e w' ⟨rfl, rfl⟩)
      | (go_at_call 20; refine (lit_node _ _ (by omega)).mono ?_; rintro e w' ⟨rfl, rfl⟩)
      | (go_at_call 21; refine (lit_turned _ _ (by omega)).mono ?_; rintro e w' ⟨rfl, rfl⟩)
      | (go_at_call 26; refine (lit_tells _).mono ?_; rintro e w' ⟨rfl, htl⟩))
    go_ret
    exact ⟨rfl, htl.below⟩

theorem folds_walk (a b : Nat) (ad : Option Addr) (c : Nat) (ws : List Nat) (w : World) (ha : a < 4294967296) (hb : b < 4294967296) (hc : ws.length ≤ c) (hz : c * 8 ≤ 140737488351232) (hs : SlN w .u64 ad ws) (hw : Words ws) :
    Calls Try.prog 4 #[.int .u32 a, .int .u32 b, .slice ad ws.length c] w fun e w' => e = .returned (.bool true) ∧ Below w.heap.size w w' :=
  folds_walk1 a b ad ws.length c ws w ha hb rfl (by omega) hc hs hw (by omega)

set_option maxRecDepth 100000 in
theorem folds_lifted (os : Os) (started : os.Started) (H : Type) (enc : TypeId × Value → H) :
    ReturnsInHanded {} Try.checked os 4 .any (Rows.litFoldsSpec.pre6 enc Try.prog Try.f4 Rows.litFoldsRow.domain false) (Rows.litFoldsSpec.post enc Try.prog Try.f4 false true false false) := by
  refine returnsInHanded_of_change_sized (C := Try.checked) own started (by kernel_rfl) Try.func4
    (ChangeSpec.witness6 (enc := enc) (C := Try.checked) false ⟨#[], #[.int .u32 0, .int .u32 0, .slice none 0 0], []⟩ 8 (by kernel_rfl) (by kernel_rfl) (by kernel_rfl) (by kernel_rfl)) ?_
  intro W base args ds gs before hval0 hW _ hsz0 _
  have hval : ∀ (j : Nat) t v, Try.f4.params[j]? = some t → args[j]? = some v → Value.okWide Try.prog W .any base t v := hval0
  have hend := fun W' (hb : Below W.heap.size W W') => law_post (s := Rows.litFoldsSpec) (fn := Try.f4) laidOut (by kernel_rfl) rfl ⟨4, rfl, Try.underlying4⟩ (fun l hl => by match l, hl with | [_, _, _], _ => rfl) hW hb
  obtain ⟨p, q, hA0, hV, rfl, hfz, hnd⟩ := hW
  have hA : DataW.TrodAll enc Try.prog W 0 (fun _ => true) true Try.f4.params.toList args.toList ds p := hA0
  have hsz : (DataW.weightsEach Try.prog (Try.f4.params.toList ++ Rows.litFoldsSpec.plain.varTypes Try.prog) (ds ++ gs)).all (· ≤ reachBytes) = true := hsz0
  rw [Try.params4] at hA hval hsz
  obtain ⟨v0, vs0, d0, ds0, p0, q0, hargs, rfl, rfl, h0, r0⟩ := trodAll_cons hA
  obtain ⟨v1, vs1, d1, ds1, p1, q1, rfl, rfl, rfl, h1, r1⟩ := trodAll_cons r0
  obtain ⟨v2, vs2, d2, ds2, p2, q2, rfl, rfl, rfl, h2, r2⟩ := trodAll_cons r1
  obtain ⟨rfl, rfl, rfl⟩ := trodAll_nil r2
  obtain rfl : args = #[v0, v1, v2] := by cases args; simp_all
  obtain ⟨rfl, rfl⟩ := trodVars_none hV
  obtain ⟨a0, rfl, rfl, rfl, f0⟩ := open_int Try.underlying22 (hval 0 22 v0 rfl rfl) h0
  obtain ⟨a0, rfl, w0⟩ := wf_nat (m := 4294967296) rfl rfl f0
  obtain ⟨a1, rfl, rfl, rfl, f1⟩ := open_int Try.underlying22 (hval 1 22 v1 rfl rfl) h1
  obtain ⟨a1, rfl, w1⟩ := wf_nat (m := 4294967296) rfl rfl f1
  obtain ⟨a2, cap2, l2, rfl, hc2, hs2, hm2, hd2⟩ := open_nats (m := 18446744073709551616) Try.underlying23 Try.underlying41 (by kernel_rfl) rfl rfl (hval 2 23 v2 rfl rfl) h2
  have z2 := cap_reach (bytes := 8) (j := 2) hsz rfl rfl Try.underlying23 (by kernel_rfl) hd2
  refine (folds_walk a0 a1 a2 cap2 l2 W w0 w1 hc2 z2 hs2 hm2).mono fun e W' ⟨he, hb⟩ => ?_
  subst he
  exact hend W' hb

theorem folds_over : Rows.litFoldsRow.holds Try.pinned (OpenSpec.ofChange Rows.litFoldsSpec) :=
  OpenClaim.holds_of_wide 4 Try.f4 rfl rfl rfl rfl rfl rfl rfl ⟨rfl, rfl, rfl, rfl, rfl⟩ rfl rfl rfl rfl rfl (by kernel_rfl) Try.func4 (by kernel_rfl)
    (of_decide_eq_true (by kernel_rfl)) (by unfold Func.isWrapper; first | (rw [if_pos (by decide +kernel)]; kernel_rfl) | (rw [if_neg (by decide +kernel)]; exact ⟨rfl, rfl⟩))
    (fun os started H enc _ => folds_lifted os started H enc)

theorem litFolds_holds : Rows.LitFoldsSaid := folds_over
end Go.Proofs.Yteikngjanfjmfaa
