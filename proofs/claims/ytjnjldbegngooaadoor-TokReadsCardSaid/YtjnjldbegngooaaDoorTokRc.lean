/-
  Law 15's document: bytes; how many stand; a number's value.
-/
import Derived.Test.YtjnjldbegngooaaDoorTokRb
import Derived.Test.YtjnjldbegngooaaDoorTokC
import Derived.Test.YtjnjldbegngooaaDoorTokN
namespace Go.Proofs.YtjnjldbegngooaaDoor
open Go.ChangeShapes Go.WideShapes Go.ChangeAt Go.RowKit
set_option linter.unusedVariables false
set_option linter.unusedSimpArgs false

variable {w w' w1 W : World}
theorem rdigit_c (c : Nat) (hc : c < 256) (w : World) : Calls Tryd.prog 49 #[.int .u8 (c : Int)] w (QIs (dgB (UInt8.ofNat c)) w) := by
  have e : (UInt8.ofNat c).toNat = c := by simp; omega
  have HE := Lib.hid (show dgB (UInt8.ofNat c) = (decide (48 ≤ c) && decide (c ≤ 57)) by unfold dgB; rw [e])
  clear e
  go_enter Tryd.func49, Tryd.ntmps49
  by_cases h1 : 48 ≤ c
  · go_wp2_with fail
    go_ret
    exact ⟨by rw [HE.out]; simp [h1]; omega, rfl⟩
  · go_wp2_with fail
    go_ret
    exact ⟨by rw [HE.out]; simp [h1], rfl⟩
theorem rletter_c (c : Nat) (hc : c < 256) (w : World) : Calls Tryd.prog 47 #[.int .u8 (c : Int)] w (QIs (bgB (UInt8.ofNat c)) w) := by
  have e : (UInt8.ofNat c).toNat = c := by simp; omega
  have HE := Lib.hid (show bgB (UInt8.ofNat c) = ((decide (97 ≤ c) && decide (c ≤ 122)) || ((decide (65 ≤ c) && decide (c ≤ 90)) || decide (c = 95))) by unfold bgB; rw [e])
  clear e
  go_enter Tryd.func47, Tryd.ntmps47
  have hcases : (97 ≤ c ∧ c ≤ 122) ∨ (65 ≤ c ∧ c ≤ 90) ∨ c = 95 ∨ c < 65 ∨ (90 < c ∧ c < 95) ∨ c = 96 ∨ 122 < c := by omega
  rcases hcases with h1 | h1 | h1 | h1 | h1 | h1 | h1
  all_goals
    try have e122 : decide ((c : Int) ≤ 122) = false := decide_eq_false (by omega)
    try have e90 : decide ((c : Int) ≤ 90) = false := decide_eq_false (by omega)
    try have e95 : ((c : Int) == 95) = false := by rw [beq_eq_false_iff_ne]; omega
    try subst h1
    go_wp2_with fail
    go_ret
    refine ⟨?_, rfl⟩
    first
      | (rw [HE.out]; simp; omega)
      | rfl
theorem long_len {p : UInt8 → Bool} {S : ByteArray} {k n : Nat} (hn : k + n ≤ S.size) (hall : ∀ m, m < n → ∃ h : k + m < S.size, p (S[k + m]'h) = true) (hend : ∀ h : k + n < S.size, p (S[k + n]'h) = false) : ((S.data.toList.drop k).takeWhile p).length = n := by
  have h3 : S.data.toList.length = S.size := rfl
  rw [takeWhile_run (S.data.toList.drop k) n (fun m hm => ?_) (fun h => ?_)]
  · rw [List.length_take, List.length_drop]; omega
  · obtain ⟨h1, h2⟩ := hall m hm
    exact ⟨by rw [List.length_drop]; omega, by rw [List.getElem_drop]; exact h2⟩
  · rw [List.length_drop] at h
    have h1 : k + n < S.data.toList.length := by omega
    rw [List.getElem_drop]
    exact hend h1
def longP (d : Bool) : UInt8 → Bool := if d then dgB else moB
set_option maxHeartbeats 800000 in
theorem rlong_c (d : Bool) (S : ByteArray) (k : Nat) (hk : k ≤ S.size) (hS : S.size ≤ 140737488351232) (w : World) :
    Calls Tryd.prog 48 #[.string S, .int .i64 (k : Int), .bool d] w fun e w' => e = .returned (.int .i64 (((S.data.toList.drop k).takeWhile (longP d)).length : Int)) ∧ w' = w := by
  have HD := Lib.hid rdigit_c
  have HL := Lib.hid rletter_c
  go_enter Tryd.func48, Tryd.ntmps48
  go_wp2_with fail
  go_loopw [7] (fun i wr => ∃ n : Nat, k + n ≤ S.size ∧ i = .int .i64 n ∧ wr = w ∧ ∀ m, m < n → ∃ h : k + m < S.size, longP d (S[k + m]'h) = true) (fun i _ => S.size - (intOf i).toNat)
  case atStart => exact ⟨0, hk, rfl, rfl, fun m h1 => by omega⟩
  case round =>
    obtain ⟨n, hkn, rfl, rfl, hall⟩ := hrel
    have HA := Lib.hid hall
    clear hall
    by_cases hlt : k + n < S.size
    · obtain ⟨c, hc⟩ : ∃ c, c = S[k + n]'hlt := ⟨_, rfl⟩
      have hX := HD.out (S[k + n]'hlt).toNat (UInt8.toNat_lt _) wr
      have hY := HL.out (S[k + n]'hlt).toNat (UInt8.toNat_lt _) wr
      rw [UInt8.ofNat_toNat] at hX hY
      have HX := Lib.hid hX
      have HY := Lib.hid hY
      have HP := Lib.hid (show longP d (S[k + n]'hlt) = (dgB (S[k + n]'hlt) || (!d && bgB (S[k + n]'hlt))) from by
        cases d <;> simp [longP, moB, Bool.or_comm])
      clear hX hY hc
      generalize dgB (S[k + n]'hlt) = p at *
      generalize bgB (S[k + n]'hlt) = q at *
      have HGO := Lib.hid (fun (hp : longP d (S[k + n]'hlt) = true) => (show ∀ m, m < n + 1 → ∃ h : k + m < S.size, longP d (S[k + m]'h) = true from fun m h1 => by
          by_cases h : m < n
          · exact HA.out m h
          · obtain rfl : m = n := by omega
            exact ⟨hlt, hp⟩))
      have HE := Lib.hid (fun (hp : longP d (S[k + n]'hlt) = false) => long_len (p := longP d) hkn HA.out (fun _ => hp))
      generalize longP d (S[k + n]'hlt) = r at HP HGO HE
      cases p with
      | true =>
        have HG := Lib.hid (HGO.out (by rw [HP.out]; rfl))
        go_wp2_with fail
        refine HX.out.mono ?_
        rintro e w1 ⟨rfl, rfl⟩
        go_wp2_with fail
        go_roundw
        case rel => exact ⟨n + 1, by omega, by go_num, trivial, HG.out⟩
        case measure => simp [intOf]; omega
      | false =>
        cases d with
        | true =>
          have HG := Lib.hid (HE.out (by rw [HP.out]; rfl))
          go_wp2_with fail
          refine HX.out.mono ?_
          rintro e w1 ⟨rfl, rfl⟩
          go_wp2_with fail
          go_ret
          exact ⟨by rw [HG.out]; rfl, rfl⟩
        | false =>
          cases q with
          | true =>
            have HG := Lib.hid (HGO.out (by rw [HP.out]; rfl))
            go_wp2_with fail
            refine HX.out.mono ?_
            rintro e w1 ⟨rfl, rfl⟩
            go_wp2_with fail
            refine HY.out.mono ?_
            rintro e w1 ⟨rfl, rfl⟩
            go_wp2_with fail
            go_roundw
            case rel => exact ⟨n + 1, by omega, by go_num, trivial, HG.out⟩
            case measure => simp [intOf]; omega
          | false =>
            have HG := Lib.hid (HE.out (by rw [HP.out]; rfl))
            go_wp2_with fail
            refine HX.out.mono ?_
            rintro e w1 ⟨rfl, rfl⟩
            go_wp2_with fail
            refine HY.out.mono ?_
            rintro e w1 ⟨rfl, rfl⟩
            go_wp2_with fail
            go_ret
            exact ⟨by rw [HG.out]; rfl, rfl⟩
    · have HG := Lib.hid (long_len (p := longP d) hkn HA.out (fun h => absurd h (by omega)))
      go_wp2_with fail
      go_ret
      exact ⟨by rw [HG.out]; rfl, rfl⟩
/-! a number's value -/
def valO (l : List UInt8) : Option Nat := if 20 < l.length ∨ 18446744073709551616 ≤ valL l then none else some (valL l)
theorem valA_cat (a : Nat) (l m : List UInt8) : valA a (l ++ m) = valA (valA a l) m := by
  unfold valA
  rw [List.foldl_append]
theorem val_take (l : List UInt8) (i : Nat) (h : i < l.length) : valL (l.take (i + 1)) = 10 * valL (l.take i) + ((l[i]'h).toNat - 48) := by
  rw [List.take_succ_eq_append_getElem h]
  exact valA_cat 0 _ _
theorem val_over {l : List UInt8} {i : Nat} (h : 18446744073709551616 ≤ valL (l.take i)) : 18446744073709551616 ≤ valL l := by
  have h1 : valL l = valA (valL (l.take i)) (l.drop i) := by
    have := valA_cat 0 (l.take i) (l.drop i)
    rw [List.take_append_drop] at this
    exact this
  have := valA_ge (l.drop i) (valL (l.take i))
  omega
def ValPost (r : Option Nat) (w : World) (e : Ending) (w' : World) : Prop := e = .returned (.tuple #[.int .u64 ((r.getD 0 : Nat) : Int), .bool r.isSome]) ∧ w' = w
set_option maxHeartbeats 1600000 in
theorem rvalue_c (l : List UInt8) (hd : DigL l) (hl : l.length ≤ 140737488351232) (w : World) : Calls Tryd.prog 50 #[.string ⟨l.toArray⟩] w (ValPost (valO l) w) := by
  have HDG := Lib.hid hd
  clear hd
  have hsz : (⟨l.toArray⟩ : ByteArray).size = l.length := rfl
  by_cases h20 : 20 < l.length
  · have HV := Lib.hid (show valO l = none from by unfold valO; rw [if_pos (.inl h20)])
    go_enter Tryd.func50, Tryd.ntmps50
    go_wp2_with fail
    refine bodyPost_ret (v := .tuple #[.int .u64 0, .bool false]) (by simp [results, Tryd.results50, go_sem]) rfl ?_
    exact ⟨by rw [HV.out]; rfl, rfl⟩
  go_enter Tryd.func50, Tryd.ntmps50
  go_wp2_with fail
  go_loop [4, 5] (fun nv iv => ∃ (i n : Nat), i ≤ l.length ∧ iv = .int .i64 i ∧ nv = .int .u64 (n : Int) ∧ n < 18446744073709551616 ∧ valL (l.take i) = n) (fun _ iv => l.length - (intOf iv).toNat)
  case atStart => exact ⟨0, 0, by omega, rfl, rfl, by omega, rfl⟩
  case round =>
    obtain ⟨i, n, hi, rfl, rfl, hn, hv⟩ := hrel
    have HV := Lib.hid hv
    clear hv
    by_cases hlt : i < l.length
    · have hlt' : i < (⟨l.toArray⟩ : ByteArray).size := hlt
      have hg : (⟨l.toArray⟩ : ByteArray)[i]'hlt' = l[i]'hlt := by
        show l.toArray[i]'hlt = _
        simp
      have hdig := (dgB_iff (l[i]'hlt)).1 (HDG.out _ (List.getElem_mem hlt))
      obtain ⟨d, hd⟩ : ∃ d : Nat, d = ((⟨l.toArray⟩ : ByteArray)[i]'hlt').toNat - 48 := ⟨_, rfl⟩
      have hsub : IntKind.u8.wrap ((((⟨l.toArray⟩ : ByteArray)[i]'hlt').toNat : Int) - 48) = (d : Int) := by
        rw [hd, hg]
        have h2 : (((l[i]'hlt).toNat : Nat) : Int) - 48 = (((l[i]'hlt).toNat - 48 : Nat) : Int) := by omega
        rw [h2]
        have h3 := UInt8.toNat_lt (l[i]'hlt)
        exact IntWalk.u8_in _ ⟨by omega, by omega⟩
      have hd9 : d ≤ 9 := by rw [hd, hg]; omega
      have HST := Lib.hid (show valL (l.take (i + 1)) = 10 * n + d from by rw [val_take l i hlt, HV.out, hd, hg])
      clear hd hdig hg
      have HOV := Lib.hid (fun (h : 18446744073709551616 ≤ 10 * n + d) => (show valO l = none from by
        unfold valO
        rw [if_pos (.inr (val_over (i := i + 1) (by rw [HST.out]; exact h)))]))
      by_cases h1 : 1844674407370955161 < n
      · have HR := Lib.hid (HOV.out (by omega))
        go_wp2_with fail
        refine bodyPost_ret (v := .tuple #[.int .u64 ((0 : Nat) : Int), .bool false]) (by simp [results, Tryd.results50, go_sem]) rfl ?_
        exact ⟨by rw [HR.out]; rfl, rfl⟩
      · by_cases h2 : n = 1844674407370955161
        · subst h2
          by_cases h3 : 5 < d
          · have HR := Lib.hid (HOV.out (by omega))
            go_wp2_with fail
            refine bodyPost_ret (v := .tuple #[.int .u64 ((0 : Nat) : Int), .bool false]) (by simp [results, Tryd.results50, go_sem]) rfl ?_
            exact ⟨by rw [HR.out]; rfl, rfl⟩
          · go_wp2_with fail
            go_round
            case rel => exact ⟨i + 1, 10 * 1844674407370955161 + d, by omega, by go_num, by go_num, by omega, HST.out⟩
            case measure => simp [intOf]; omega
        · have e2 : ((n : Int) == 1844674407370955161) = false := by rw [beq_eq_false_iff_ne]; omega
          go_wp2_with fail
          go_round
          case rel => exact ⟨i + 1, 10 * n + d, by omega, by go_num, by go_num, by omega, HST.out⟩
          case measure => simp [intOf]; omega
    · obtain rfl : i = l.length := by omega
      have HR := Lib.hid (show valO l = some n from by
        have h := HV.out
        rw [List.take_length] at h
        unfold valO
        rw [if_neg (by rw [h]; omega), h])
      go_wp2_with fail
      refine bodyPost_ret (v := .tuple #[.int .u64 ((n : Nat) : Int), .bool true]) (by simp [results, Tryd.results50, go_sem]) rfl ?_
      exact ⟨by rw [HR.out]; rfl, rfl⟩
end Go.Proofs.YtjnjldbegngooaaDoor
