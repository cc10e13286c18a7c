/-
  Law 15's document: one token.
-/
import Derived.Test.YtjnjldbegngooaaDoorTokRg
namespace Go.Proofs.YtjnjldbegngooaaDoor
open Go.ChangeShapes Go.WideShapes Go.ChangeAt Go.RowKit
set_option linter.unusedVariables false
set_option linter.unusedSimpArgs false

variable {w w' w1 W : World}
theorem rone_c (S : ByteArray) (k : Nat) (hk : k < S.size) (hS : S.size ≤ 140737488351232) (w : World) :
    Calls Tryd.prog 28 #[.string S, .int .i64 (k : Int)] w (ROnePost (oneB (S.data.toList.drop k)) k w) := by
  have h0 := drop_head S k hk
  cases hb : bgB (S[k]'hk) with
  | true =>
    have hd : dgB (S[k]'hk) = false := by
      generalize S[k]'hk = c at hb
      unfold bgB at hb
      unfold dgB
      simp only [Bool.or_eq_true, Bool.and_eq_true, decide_eq_true_eq] at hb
      simp only [Bool.and_eq_false_iff, decide_eq_false_iff_not]
      omega
    have h1 : oneB (S.data.toList.drop k) = nameB (S.data.toList.drop k) := by
      rw [h0]
      unfold oneB
      simp only [hd, hb, Bool.false_eq_true, if_false, if_true]
    rw [h1]
    exact rone_name S k hk hS hb w
  | false =>
    cases hd : dgB (S[k]'hk) with
    | true =>
      have h1 : oneB (S.data.toList.drop k) = numB (S.data.toList.drop k) := by
        rw [h0]
        unfold oneB
        simp only [hd, if_true]
      rw [h1]
      exact rone_num S k hk hS hb hd w
    | false =>
      have h1 : oneB (S.data.toList.drop k) = signB (S.data.toList.drop k) := by
        rw [h0]
        unfold oneB
        simp only [hd, hb, Bool.false_eq_true, if_false]
      rw [h1]
      exact rone_sign S k hk hS hb hd w
end Go.Proofs.YtjnjldbegngooaaDoor
