/-
  Proved: the statement LitOnes (any two literals, any node: what they are made of, their opposites, words, folds, in order), for every input, no condition.
-/
import Derived.Test.YteikngjanfjmfaaLitTells
namespace Go.Proofs.Yteikngjanfjmfaa
open Go.ChangeShapes Go.WideShapes Go.ChangeAt Go.RowKit
set_option linter.unusedVariables false

theorem ref_not (l : Nat) (w : World) (h : l < 4294967296) : Calls Try.prog 19 #[.int .u32 l] w fun e w' => e = .returned (.int .u32 (ntL l : Nat)) ∧ w = w' := by
  by_cases h0 : l % 2 = 0
  · have k : ((l : Int) % 2 == 0) = true := by simp; omega
    have HF := Lib.hid (show ((ntL l : Nat) : Int) = (l : Int) + 1 by unfold ntL; rw [if_pos h0]; rfl)
    have h1 : l + 1 < 4294967296 := by omega
    clear h0
    go_enter Try.func19, Try.ntmps19
    go_wp2
    go_ret
    exact ⟨by rw [HF.out]; rfl, rfl⟩
  · have k : ((l : Int) % 2 == 0) = false := by simp; omega
    have HF := Lib.hid (show ((ntL l : Nat) : Int) = (l : Int) - 1 by unfold ntL; rw [if_neg h0]; omega)
    have h1 : 1 ≤ l := by omega
    clear h0
    go_enter Try.func19, Try.ntmps19
    go_wp2
    go_ret
    exact ⟨by rw [HF.out]; rfl, rfl⟩
theorem ref_of (n : Int) (t : Bool) (w : World) :
    Calls Try.prog 15 #[.int .i64 n, .bool t] w fun e w' => e = .returned (.tuple #[.int .u32 (ofV n t : Nat), .int .i64 (ofE n)]) ∧ w = w' := by
  by_cases h0 : n < 0
  · go_enter Try.func15, Try.ntmps15
    go_wp2
    go_ret2
    rw [show ofV n t = 0 by simp [ofV]; omega, show ofE n = 1 by simp [ofE]; omega]
    exact ⟨rfl, rfl⟩
  · by_cases h1 : 16777216 < n
    · go_enter Try.func15, Try.ntmps15
      go_wp2
      go_ret2
      rw [show ofV n t = 0 by simp [ofV]; omega, show ofE n = 1 by simp [ofE]; omega]
      exact ⟨rfl, rfl⟩
    · obtain ⟨k, rfl⟩ : ∃ k : Nat, n = k := ⟨n.toNat, by omega⟩
      have he := Lib.hid (show ofE k = 0 by simp [ofE]; omega)
      cases t
      · have hv := Lib.hid (show ofV k false = 2 * k by simp [ofV, ifL]; omega)
        go_enter Try.func15, Try.ntmps15
        go_wp2
        go_ret2
        rw [hv.out, he.out]
        exact ⟨by simp [go_sem], rfl⟩
      · have hv := Lib.hid (show ofV k true = 2 * k + 1 by simp [ofV, ifL, ntL]; omega)
        go_enter Try.func15, Try.ntmps15
        go_wp2
        go_ret2
        rw [hv.out, he.out]
        exact ⟨by simp [go_sem], rfl⟩
theorem ref_word (l : Nat) (a : Option Addr) (c n : Nat) (ws : List Nat) (w : World) (hn : ws.length = n) (hl : l < 4294967296) (hs : SlN w .u64 a ws) (hw : Words ws) :
    Calls Try.prog 25 #[.int .u32 l, .slice a n c] w fun e w' => e = .returned (.int .u64 (wd ws l : Nat)) ∧ w = w' := by
  subst hn
  have hm := nodeW_lt hw (l / 2)
  have hk : l % 2 = 1 ∨ l % 2 = 0 := by omega
  rcases hk with hk | hk
  · have k : ((l : Int) % 2 == 1) = true := by simp; omega
    have HF := Lib.hid (show ((wd ws l : Nat) : Int) = 18446744073709551615 - ((nodeW ws (l / 2) : Nat) : Int) by unfold wd noW; rw [if_pos hk]; omega)
    clear hk
    by_cases h0 : l / 2 = 0
    · have k0 : ((l : Int) / 2 != 0) = false := by simp; omega
      have HQ := Lib.hid (show nodeW ws (l / 2) = 0 by simp [nodeW, h0])
      go_enter Try.func25, Try.ntmps25
      go_wp2
      go_ret
      exact ⟨by rw [HF.out, HQ.out]; rfl, rfl⟩
    · have k0 : ((l : Int) / 2 != 0) = true := by simp; omega
      by_cases h1 : l / 2 < ws.length
      · obtain ⟨ad, rfl, hc⟩ := hs _ h1
        have hv := hw _ (List.getElem_mem h1)
        have HQ := Lib.hid (show nodeW ws (l / 2) = ws[l / 2] by simp [nodeW, h0, h1])
        go_enter Try.func25, Try.ntmps25
        go_wp2
        go_ret
        exact ⟨by rw [HF.out, HQ.out]; rfl, rfl⟩
      · have HQ := Lib.hid (show nodeW ws (l / 2) = 0 by simp [nodeW, h1])
        go_enter Try.func25, Try.ntmps25
        go_wp2
        go_ret
        exact ⟨by rw [HF.out, HQ.out]; rfl, rfl⟩
  · have k : ((l : Int) % 2 == 1) = false := by simp; omega
    have HF := Lib.hid (show wd ws l = nodeW ws (l / 2) by unfold wd; rw [if_neg (by omega)])
    clear hk
    by_cases h0 : l / 2 = 0
    · have k0 : ((l : Int) / 2 != 0) = false := by simp; omega
      have HQ := Lib.hid (show nodeW ws (l / 2) = 0 by simp [nodeW, h0])
      go_enter Try.func25, Try.ntmps25
      go_wp2
      go_ret
      exact ⟨by rw [HF.out, HQ.out]; rfl, rfl⟩
    · have k0 : ((l : Int) / 2 != 0) = true := by simp; omega
      by_cases h1 : l / 2 < ws.length
      · obtain ⟨ad, rfl, hc⟩ := hs _ h1
        have HQ := Lib.hid (show nodeW ws (l / 2) = ws[l / 2] by simp [nodeW, h0, h1])
        go_enter Try.func25, Try.ntmps25
        go_wp2
        go_ret
        exact ⟨by rw [HF.out, HQ.out]; rfl, rfl⟩
      · have HQ := Lib.hid (show nodeW ws (l / 2) = 0 by simp [nodeW, h1])
        go_enter Try.func25, Try.ntmps25
        go_wp2
        go_ret
        exact ⟨by rw [HF.out, HQ.out]; rfl, rfl⟩

theorem fold_forms (a b : Nat) : foldV a b = (if a = 0 ∨ b = 0 ∨ a = ntL b then 0 else if a = 1 then b else if b = 1 ∨ a = b then a else 0) ∧ foldB a b = decide (a = 0 ∨ b = 0 ∨ a = ntL b ∨ a = 1 ∨ b = 1 ∨ a = b) := by
  have hn : a = ntL b ↔ b = ntL a := ⟨fun h => by rw [h, ntL_ntL], fun h => by rw [h, ntL_ntL]⟩
  unfold foldV foldB
  rcases Nat.le_total a b with h | h
  · rw [Nat.max_eq_right h, Nat.min_eq_left h]
    simp only [hn]
    constructor
    · by_cases h0 : a = 0
      · simp [h0]
      · by_cases h1 : b = ntL a
        · simp [h1]
        · by_cases h2 : a = 1
          · subst h2; by_cases h3 : b = 0
            · omega
            · simp [h1, h3]
          · by_cases h3 : a = b
            · subst h3; simp [h0, h1, h2]
            · have : b ≠ 0 ∧ b ≠ 1 := by omega
              simp [h0, h1, h2, h3, this]
    · congr 1
      apply propext
      constructor <;> intro hh <;> omega
  · rw [Nat.max_eq_left h, Nat.min_eq_right h]
    constructor
    · by_cases h0 : b = 0
      · simp [h0]
      · by_cases h1 : a = ntL b
        · simp [h1]
        · by_cases h2 : b = 1
          · subst h2
            by_cases h3 : a = 0
            · omega
            · by_cases h4 : a = 1
              · simp [h4]
              · simp [h1, h3, h4]
          · by_cases h3 : a = b
            · subst h3; simp [h0, h1, h2]
            · have : a ≠ 0 ∧ a ≠ 1 := by omega
              simp [h0, h1, h2, h3, this]
    · congr 1
      apply propext
      constructor <;> intro hh <;> omega
set_option maxHeartbeats 800000 in
theorem ref_fold (a b : Nat) (w : World) (ha : a < 4294967296) (hb : b < 4294967296) :
    Calls Try.prog 17 #[.int .u32 a, .int .u32 b] w fun e w' => e = .returned (.tuple #[.int .u32 (foldV a b : Nat), .bool (foldB a b)]) ∧ w = w' := by
  have HF := Lib.hid (fold_forms a b)
  have HR := Lib.hid (fun w => ref_not b w hb)
  by_cases h0 : a = 0
  · subst h0
    go_enter Try.func17, Try.ntmps17
    go_wp2_with (go_at_call 19; refine (HR.out _).mono ?_; rintro e w' ⟨rfl, rfl⟩)
    go_ret2
    rw [HF.out.1, HF.out.2]
    exact ⟨by simp, rfl⟩
  · have k0 : ((a : Int) == 0) = false := by simp; omega
    by_cases h1 : b = 0
    · subst h1
      go_enter Try.func17, Try.ntmps17
      go_wp2_with (go_at_call 19; refine (HR.out _).mono ?_; rintro e w' ⟨rfl, rfl⟩)
      go_ret2
      rw [HF.out.1, HF.out.2]
      exact ⟨by simp, rfl⟩
    · have k1 : ((b : Int) == 0) = false := by simp; omega
      by_cases h2 : a = ntL b
      · have k2 : ((a : Int) == (ntL b : Int)) = true := by simp; omega
        have H2 := Lib.hid h2; clear h2
        go_enter Try.func17, Try.ntmps17
        go_wp2_with (go_at_call 19; refine (HR.out _).mono ?_; rintro e w' ⟨rfl, rfl⟩)
        go_ret2
        rw [HF.out.1, HF.out.2]
        exact ⟨by simp [← H2.out], rfl⟩
      · have k2 : ((a : Int) == (ntL b : Int)) = false := by simp; omega
        have H2 := Lib.hid h2; clear h2
        by_cases h3 : a = 1
        · subst h3
          go_enter Try.func17, Try.ntmps17
          go_wp2_with (go_at_call 19; refine (HR.out _).mono ?_; rintro e w' ⟨rfl, rfl⟩)
          go_ret2
          rw [HF.out.1, HF.out.2]
          exact ⟨by simp [H2.out, h1], rfl⟩
        · have k3 : ((a : Int) == 1) = false := by simp; omega
          by_cases h4 : b = 1
          · subst h4
            go_enter Try.func17, Try.ntmps17
            go_wp2_with (go_at_call 19; refine (HR.out _).mono ?_; rintro e w' ⟨rfl, rfl⟩)
            go_ret2
            rw [HF.out.1, HF.out.2]
            exact ⟨by simp [H2.out, h0, h3], rfl⟩
          · have k4 : ((b : Int) == 1) = false := by simp; omega
            by_cases h5 : a = b
            · subst h5
              go_enter Try.func17, Try.ntmps17
              go_wp2_with (go_at_call 19; refine (HR.out _).mono ?_; rintro e w' ⟨rfl, rfl⟩)
              go_ret2
              rw [HF.out.1, HF.out.2]
              exact ⟨by simp [H2.out, h0, h3], rfl⟩
            · have k5 : ((a : Int) == (b : Int)) = false := by simp; omega
              go_enter Try.func17, Try.ntmps17
              go_wp2_with (go_at_call 19; refine (HR.out _).mono ?_; rintro e w' ⟨rfl, rfl⟩)
              go_ret2
              rw [HF.out.1, HF.out.2]
              exact ⟨by simp [H2.out, h0, h1, h3, h4, h5], rfl⟩

set_option maxHeartbeats 1600000 in
set_option maxRecDepth 100000 in
theorem ones_walk_true_s (a b : Nat) (nd : Int) (ad : Option Addr) (n c : Nat) (ws : List Nat) (w : World) (ha : a < 4294967296) (hb : b < 4294967296) (hn : ws.length = n) (hm : n ≤ 140737488355328) (hc : n ≤ c) (hs : SlN w .u64 ad ws) (hw : Words ws)
    (h50 : n ≤ 50) :
    Calls Try.prog 3 #[.int .u32 a, .int .u32 b, .int .i64 nd, .bool true, .slice ad n c] w fun e w' => e = .returned (.bool true) ∧ Below w.heap.size w w' := by
  have HN := Lib.hid (show (ws.take 50).length = min n 50 by simp; omega); clear hn
  have hs' := hs.take 50
  have hw' : Words (ws.take 50) := fun n hn => hw n (List.mem_of_mem_take hn)
  clear hs hw
  generalize ws.take 50 = W at *
  have T1 : ((a : Int) % 2 == 1) = decide (a % 2 = 1) := by rw [Bool.eq_iff_iff]; simp; omega
  have E4 : ifL a true = ntL a := rfl
  have E5 : ifL a false = a := rfl
  rcases Nat.lt_trichotomy a b with hab | hab | hab
  case' inl =>
    have M1 : max a b = b := by omega
    have M2 : min a b = a := by omega
    have k1 : ((b : Int) == (a : Int)) = false := by simp; omega
    have k2 : ((a : Int) == (b : Int)) = false := by simp; omega
  case' inr.inl =>
    subst hab
    have M1 : max a a = a := by omega
    have M2 : min a a = a := by omega
  case' inr.inr =>
    have M1 : max a b = a := by omega
    have M2 : min a b = b := by omega
    have k1 : ((b : Int) == (a : Int)) = false := by simp; omega
    have k2 : ((a : Int) == (b : Int)) = false := by simp; omega
  all_goals
    go_enter Try.func3, Try.ntmps3; (try simp only [List.append])
    go_wp2_with (first
      | (go_at_call 14; refine (lit_of _ _ _).mono ?_; rintro e w' ⟨rfl, rfl⟩)
      | (go_at_call 15; refine (ref_of _ _ _).mono ?_; rintro e w' ⟨rfl, rfl⟩)
      | (go_at_call 16; refine (lit_fold _ _ _ (by omega) (by omega)).mono ?_; rintro e w' ⟨rfl, rfl⟩)
      | (go_at_call 17; refine (ref_fold _ _ _ (by omega) (by omega)).mono ?_; rintro e w' ⟨rfl, rfl⟩)
      | (go_at_call 18; refine (lit_pair _ _ _).mono ?_; rintro e w' ⟨rfl, rfl⟩)
      | (go_at_call 22; refine (lit_not _ _ ha).mono ?_; rintro e w' ⟨rfl, rfl⟩)
      | (go_at_call 19; refine (ref_not _ _ ha).mono ?_; rintro e w' ⟨rfl, rfl⟩)
      | (go_at_call 23; refine (lit_if _ _ _ ha).mono ?_; rintro e w' ⟨rfl, rfl⟩)
      | (go_at_call 20; refine (lit_node _ _ ha).mono ?_; rintro e w' ⟨rfl, rfl⟩)
      | (go_at_call 21; refine (lit_turned _ _ ha).mono ?_; rintro e w' ⟨rfl, rfl⟩)
      | (go_at_call 24; refine (lit_word _ _ _ _ W _ (by have := HN.out; omega) ha hs' hw').mono ?_; rintro e w' ⟨rfl, rfl⟩)
      | (go_at_call 25; refine (ref_word _ _ _ _ W _ (by have := HN.out; omega) ha hs' hw').mono ?_; rintro e w' ⟨rfl, rfl⟩)
      | (go_at_call 26; refine (lit_tells _).mono ?_; rintro e w3 ⟨rfl, htl⟩))
    go_ret
    exact ⟨rfl, htl.below⟩

set_option maxHeartbeats 1600000 in
set_option maxRecDepth 100000 in
theorem ones_walk_true_l (a b : Nat) (nd : Int) (ad : Option Addr) (n c : Nat) (ws : List Nat) (w : World) (ha : a < 4294967296) (hb : b < 4294967296) (hn : ws.length = n) (hm : n ≤ 140737488355328) (hc : n ≤ c) (hs : SlN w .u64 ad ws) (hw : Words ws)
    (h50 : 50 < n) :
    Calls Try.prog 3 #[.int .u32 a, .int .u32 b, .int .i64 nd, .bool true, .slice ad n c] w fun e w' => e = .returned (.bool true) ∧ Below w.heap.size w w' := by
  have HN := Lib.hid (show (ws.take 50).length = min n 50 by simp; omega); clear hn
  have hs' := hs.take 50
  have hw' : Words (ws.take 50) := fun n hn => hw n (List.mem_of_mem_take hn)
  clear hs hw
  generalize ws.take 50 = W at *
  have T1 : ((a : Int) % 2 == 1) = decide (a % 2 = 1) := by rw [Bool.eq_iff_iff]; simp; omega
  have E4 : ifL a true = ntL a := rfl
  have E5 : ifL a false = a := rfl
  rcases Nat.lt_trichotomy a b with hab | hab | hab
  case' inl =>
    have M1 : max a b = b := by omega
    have M2 : min a b = a := by omega
    have k1 : ((b : Int) == (a : Int)) = false := by simp; omega
    have k2 : ((a : Int) == (b : Int)) = false := by simp; omega
  case' inr.inl =>
    subst hab
    have M1 : max a a = a := by omega
    have M2 : min a a = a := by omega
  case' inr.inr =>
    have M1 : max a b = a := by omega
    have M2 : min a b = b := by omega
    have k1 : ((b : Int) == (a : Int)) = false := by simp; omega
    have k2 : ((a : Int) == (b : Int)) = false := by simp; omega
  all_goals
    go_enter Try.func3, Try.ntmps3; (try simp only [List.append])
    go_wp2_with (first
      | (go_at_call 14; refine (lit_of _ _ _).mono ?_; rintro e w' ⟨rfl, rfl⟩)
      | (go_at_call 15; refine (ref_of _ _ _).mono ?_; rintro e w' ⟨rfl, rfl⟩)
      | (go_at_call 16; refine (lit_fold _ _ _ (by omega) (by omega)).mono ?_; rintro e w' ⟨rfl, rfl⟩)
      | (go_at_call 17; refine (ref_fold _ _ _ (by omega) (by omega)).mono ?_; rintro e w' ⟨rfl, rfl⟩)
      | (go_at_call 18; refine (lit_pair _ _ _).mono ?_; rintro e w' ⟨rfl, rfl⟩)
      | (go_at_call 22; refine (lit_not _ _ ha).mono ?_; rintro e w' ⟨rfl, rfl⟩)
      | (go_at_call 19; refine (ref_not _ _ ha).mono ?_; rintro e w' ⟨rfl, rfl⟩)
      | (go_at_call 23; refine (lit_if _ _ _ ha).mono ?_; rintro e w' ⟨rfl, rfl⟩)
      | (go_at_call 20; refine (lit_node _ _ ha).mono ?_; rintro e w' ⟨rfl, rfl⟩)
      | (go_at_call 21; refine (lit_turned _ _ ha).mono ?_; rintro e w' ⟨rfl, rfl⟩)
      | (go_at_call 24; refine (lit_word _ _ _ _ W _ (by have := HN.out; omega) ha hs' hw').mono ?_; rintro e w' ⟨rfl, rfl⟩)
      | (go_at_call 25; refine (ref_word _ _ _ _ W _ (by have := HN.out; omega) ha hs' hw').mono ?_; rintro e w' ⟨rfl, rfl⟩)
      | (go_at_call 26; refine (lit_tells _).mono ?_; rintro e w3 ⟨rfl, htl⟩))
    go_ret
    exact ⟨rfl, htl.below⟩

set_option maxHeartbeats 1600000 in
set_option maxRecDepth 100000 in
theorem ones_walk_false_s (a b : Nat) (nd : Int) (ad : Option Addr) (n c : Nat) (ws : List Nat) (w : World) (ha : a < 4294967296) (hb : b < 4294967296) (hn : ws.length = n) (hm : n ≤ 140737488355328) (hc : n ≤ c) (hs : SlN w .u64 ad ws) (hw : Words ws)
    (h50 : n ≤ 50) :
    Calls Try.prog 3 #[.int .u32 a, .int .u32 b, .int .i64 nd, .bool false, .slice ad n c] w fun e w' => e = .returned (.bool true) ∧ Below w.heap.size w w' := by
  have HN := Lib.hid (show (ws.take 50).length = min n 50 by simp; omega); clear hn
  have hs' := hs.take 50
  have hw' : Words (ws.take 50) := fun n hn => hw n (List.mem_of_mem_take hn)
  clear hs hw
  generalize ws.take 50 = W at *
  have T1 : ((a : Int) % 2 == 1) = decide (a % 2 = 1) := by rw [Bool.eq_iff_iff]; simp; omega
  have E4 : ifL a true = ntL a := rfl
  have E5 : ifL a false = a := rfl
  rcases Nat.lt_trichotomy a b with hab | hab | hab
  case' inl =>
    have M1 : max a b = b := by omega
    have M2 : min a b = a := by omega
    have k1 : ((b : Int) == (a : Int)) = false := by simp; omega
    have k2 : ((a : Int) == (b : Int)) = false := by simp; omega
  case' inr.inl =>
    subst hab
    have M1 : max a a = a := by omega
    have M2 : min a a = a := by omega
  case' inr.inr =>
    have M1 : max a b = a := by omega
    have M2 : min a b = b := by omega
    have k1 : ((b : Int) == (a : Int)) = false := by simp; omega
    have k2 : ((a : Int) == (b : Int)) = false := by simp; omega
  all_goals
    go_enter Try.func3, Try.ntmps3; (try simp only [List.append])
    go_wp2_with (first
      | (go_at_call 14; refine (lit_of _ _ _).mono ?_; rintro e w' ⟨rfl, rfl⟩)
      | (go_at_call 15; refine (ref_of _ _ _).mono ?_; rintro e w' ⟨rfl, rfl⟩)
      | (go_at_call 16; refine (lit_fold _ _ _ (by omega) (by omega)).mono ?_; rintro e w' ⟨rfl, rfl⟩)
      | (go_at_call 17; refine (ref_fold _ _ _ (by omega) (by omega)).mono ?_; rintro e w' ⟨rfl, rfl⟩)
      | (go_at_call 18; refine (lit_pair _ _ _).mono ?_; rintro e w' ⟨rfl, rfl⟩)
      | (go_at_call 22; refine (lit_not _ _ ha).mono ?_; rintro e w' ⟨rfl, rfl⟩)
      | (go_at_call 19; refine (ref_not _ _ ha).mono ?_; rintro e w' ⟨rfl, rfl⟩)
      | (go_at_call 23; refine (lit_if _ _ _ ha).mono ?_; rintro e w' ⟨rfl, rfl⟩)
      | (go_at_call 20; refine (lit_node _ _ ha).mono ?_; rintro e w' ⟨rfl, rfl⟩)
      | (go_at_call 21; refine (lit_turned _ _ ha).mono ?_; rintro e w' ⟨rfl, rfl⟩)
      | (go_at_call 24; refine (lit_word _ _ _ _ W _ (by have := HN.out; omega) ha hs' hw').mono ?_; rintro e w' ⟨rfl, rfl⟩)
      | (go_at_call 25; refine (ref_word _ _ _ _ W _ (by have := HN.out; omega) ha hs' hw').mono ?_; rintro e w' ⟨rfl, rfl⟩)
      | (go_at_call 26; refine (lit_tells _).mono ?_; rintro e w3 ⟨rfl, htl⟩))
    go_ret
    exact ⟨rfl, htl.below⟩

set_option maxHeartbeats 1600000 in
set_option maxRecDepth 100000 in
theorem ones_walk_false_l (a b : Nat) (nd : Int) (ad : Option Addr) (n c : Nat) (ws : List Nat) (w : World) (ha : a < 4294967296) (hb : b < 4294967296) (hn : ws.length = n) (hm : n ≤ 140737488355328) (hc : n ≤ c) (hs : SlN w .u64 ad ws) (hw : Words ws)
    (h50 : 50 < n) :
    Calls Try.prog 3 #[.int .u32 a, .int .u32 b, .int .i64 nd, .bool false, .slice ad n c] w fun e w' => e = .returned (.bool true) ∧ Below w.heap.size w w' := by
  have HN := Lib.hid (show (ws.take 50).length = min n 50 by simp; omega); clear hn
  have hs' := hs.take 50
  have hw' : Words (ws.take 50) := fun n hn => hw n (List.mem_of_mem_take hn)
  clear hs hw
  generalize ws.take 50 = W at *
  have T1 : ((a : Int) % 2 == 1) = decide (a % 2 = 1) := by rw [Bool.eq_iff_iff]; simp; omega
  have E4 : ifL a true = ntL a := rfl
  have E5 : ifL a false = a := rfl
  rcases Nat.lt_trichotomy a b with hab | hab | hab
  case' inl =>
    have M1 : max a b = b := by omega
    have M2 : min a b = a := by omega
    have k1 : ((b : Int) == (a : Int)) = false := by simp; omega
    have k2 : ((a : Int) == (b : Int)) = false := by simp; omega
  case' inr.inl =>
    subst hab
    have M1 : max a a = a := by omega
    have M2 : min a a = a := by omega
  case' inr.inr =>
    have M1 : max a b = a := by omega
    have M2 : min a b = b := by omega
    have k1 : ((b : Int) == (a : Int)) = false := by simp; omega
    have k2 : ((a : Int) == (b : Int)) = false := by simp; omega
  all_goals
    go_enter Try.func3, Try.ntmps3; (try simp only [List.append])
    go_wp2_with (first
      | (go_at_call 14; refine (lit_of _ _ _).mono ?_; rintro e w' ⟨rfl, rfl⟩)
      | (go_at_call 15; refine (ref_of _ _ _).mono ?_; rintro e w' ⟨rfl, rfl⟩)
      | (go_at_call 16; refine (lit_fold _ _ _ (by omega) (by omega)).mono ?_; rintro e w' ⟨rfl, rfl⟩)
      | (go_at_call 17; refine (ref_fold _ _ _ (by omega) (by omega)).mono ?_; rintro e w' ⟨rfl, rfl⟩)
      | (go_at_call 18; refine (lit_pair _ _ _).mono ?_; rintro e w' ⟨rfl, rfl⟩)
      | (go_at_call 22; refine (lit_not _ _ ha).mono ?_; rintro e w' ⟨rfl, rfl⟩)
      | (go_at_call 19; refine (ref_not _ _ ha).mono ?_; rintro e w' ⟨rfl, rfl⟩)
      | (go_at_call 23; refine (lit_if _ _ _ ha).mono ?_; rintro e w' ⟨rfl, rfl⟩)
      | (go_at_call 20; refine (lit_node _ _ ha).mono ?_; rintro e w' ⟨rfl, rfl⟩)
      | (go_at_call 21; refine (lit_turned _ _ ha).mono ?_; rintro e w' ⟨rfl, rfl⟩)
      | (go_at_call 24; refine (lit_word _ _ _ _ W _ (by have := HN.out; omega) ha hs' hw').mono ?_; rintro e w' ⟨rfl, rfl⟩)
      | (go_at_call 25; refine (ref_word _ _ _ _ W _ (by have := HN.out; omega) ha hs' hw').mono ?_; rintro e w' ⟨rfl, rfl⟩)
      | (go_at_call 26; refine (lit_tells _).mono ?_; rintro e w3 ⟨rfl, htl⟩))
    go_ret
    exact ⟨rfl, htl.below⟩

theorem ones_walk (a b : Nat) (nd : Int) (t : Bool) (ad : Option Addr) (c : Nat) (ws : List Nat) (w : World) (ha : a < 4294967296) (hb : b < 4294967296) (_ : -9223372036854775808 ≤ nd) (_ : nd ≤ 9223372036854775807) (hc : ws.length ≤ c) (hz : c * 8 ≤ 140737488351232) (hs : SlN w .u64 ad ws) (hw : Words ws) :
    Calls Try.prog 3 #[.int .u32 a, .int .u32 b, .int .i64 nd, .bool t, .slice ad ws.length c] w fun e w' => e = .returned (.bool true) ∧ Below w.heap.size w w' := by
  have hl : ws.length ≤ 140737488355328 := by omega
  cases t <;> by_cases h : ws.length ≤ 50
  · exact ones_walk_false_s a b nd ad _ c ws w ha hb rfl hl hc hs hw h
  · exact ones_walk_false_l a b nd ad _ c ws w ha hb rfl hl hc hs hw (by omega)
  · exact ones_walk_true_s a b nd ad _ c ws w ha hb rfl hl hc hs hw h
  · exact ones_walk_true_l a b nd ad _ c ws w ha hb rfl hl hc hs hw (by omega)

set_option maxRecDepth 100000 in
theorem ones_lifted (os : Os) (started : os.Started) (H : Type) (enc : TypeId × Value → H) :
    ReturnsInHanded {} Try.checked os 3 .any (Rows.litOnesSpec.pre6 enc Try.prog Try.f3 Rows.litOnesRow.domain false) (Rows.litOnesSpec.post enc Try.prog Try.f3 false true false false) := by
  refine returnsInHanded_of_change_sized (C := Try.checked) own started (by kernel_rfl) Try.func3
    (ChangeSpec.witness6 (enc := enc) (C := Try.checked) false ⟨#[], #[.int .u32 0, .int .u32 0, .int .i64 0, .bool false, .slice none 0 0], []⟩ 8 (by kernel_rfl) (by kernel_rfl) (by kernel_rfl) (by kernel_rfl)) ?_
  intro W base args ds gs before hval0 hW _ hsz0 _
  have hval : ∀ (j : Nat) t v, Try.f3.params[j]? = some t → args[j]? = some v → Value.okWide Try.prog W .any base t v := hval0
  have hend := fun W' (hb : Below W.heap.size W W') => law_post (s := Rows.litOnesSpec) (fn := Try.f3) laidOut (by kernel_rfl) rfl ⟨4, rfl, Try.underlying4⟩ (fun l hl => by match l, hl with | [_, _, _, _, _], _ => rfl) hW hb
  obtain ⟨p, q, hA0, hV, rfl, hfz, hnd⟩ := hW
  have hA : DataW.TrodAll enc Try.prog W 0 (fun _ => true) true Try.f3.params.toList args.toList ds p := hA0
  have hsz : (DataW.weightsEach Try.prog (Try.f3.params.toList ++ Rows.litOnesSpec.plain.varTypes Try.prog) (ds ++ gs)).all (· ≤ reachBytes) = true := hsz0
  rw [Try.params3] at hA hval hsz
  obtain ⟨v0, vs0, d0, ds0, p0, q0, hargs, rfl, rfl, h0, r0⟩ := trodAll_cons hA
  obtain ⟨v1, vs1, d1, ds1, p1, q1, rfl, rfl, rfl, h1, r1⟩ := trodAll_cons r0
  obtain ⟨v2, vs2, d2, ds2, p2, q2, rfl, rfl, rfl, h2, r2⟩ := trodAll_cons r1
  obtain ⟨v3, vs3, d3, ds3, p3, q3, rfl, rfl, rfl, h3, r3⟩ := trodAll_cons r2
  obtain ⟨v4, vs4, d4, ds4, p4, q4, rfl, rfl, rfl, h4, r4⟩ := trodAll_cons r3
  obtain ⟨rfl, rfl, rfl⟩ := trodAll_nil r4
  obtain rfl : args = #[v0, v1, v2, v3, v4] := by cases args; simp_all
  obtain ⟨rfl, rfl⟩ := trodVars_none hV
  obtain ⟨a0, rfl, rfl, rfl, f0⟩ := open_int Try.underlying22 (hval 0 22 v0 rfl rfl) h0
  obtain ⟨a0, rfl, w0⟩ := wf_nat (m := 4294967296) rfl rfl f0
  obtain ⟨a1, rfl, rfl, rfl, f1⟩ := open_int Try.underlying22 (hval 1 22 v1 rfl rfl) h1
  obtain ⟨a1, rfl, w1⟩ := wf_nat (m := 4294967296) rfl rfl f1
  obtain ⟨a2, rfl, rfl, rfl, f2⟩ := open_int Try.underlying3 (hval 2 3 v2 rfl rfl) h2
  have w2 : -9223372036854775808 ≤ a2 ∧ a2 ≤ 9223372036854775807 := by simpa [Lit.wf, IntKind.min, IntKind.max, IntKind.signed, IntKind.bits] using f2
  obtain ⟨a3, rfl, rfl, rfl⟩ := open_bool Try.underlying4 (hval 3 4 v3 rfl rfl) h3
  obtain ⟨a4, cap4, l4, rfl, hc4, hs4, hm4, hd4⟩ := open_nats (m := 18446744073709551616) Try.underlying23 Try.underlying41 (by kernel_rfl) rfl rfl (hval 4 23 v4 rfl rfl) h4
  have z4 := cap_reach (bytes := 8) (j := 4) hsz rfl rfl Try.underlying23 (by kernel_rfl) hd4
  refine (ones_walk a0 a1 a2 a3 a4 cap4 l4 W w0 w1 w2.1 w2.2 hc4 z4 hs4 hm4).mono fun e W' ⟨he, hb⟩ => ?_
  subst he
  exact hend W' hb

theorem ones_over : Rows.litOnesRow.holds Try.pinned (OpenSpec.ofChange Rows.litOnesSpec) :=
  OpenClaim.holds_of_wide 3 Try.f3 rfl rfl rfl rfl rfl rfl rfl ⟨rfl, rfl, rfl, rfl, rfl⟩ rfl rfl rfl rfl rfl (by kernel_rfl) Try.func3 (by kernel_rfl)
    (of_decide_eq_true (by kernel_rfl)) (by unfold Func.isWrapper; first | (rw [if_pos (by decide +kernel)]; kernel_rfl) | (rw [if_neg (by decide +kernel)]; exact ⟨rfl, rfl⟩))
    (fun os started H enc _ => ones_lifted os started H enc)

theorem litOnes_holds : Rows.LitOnesSaid := ones_over
end Go.Proofs.Yteikngjanfjmfaa
