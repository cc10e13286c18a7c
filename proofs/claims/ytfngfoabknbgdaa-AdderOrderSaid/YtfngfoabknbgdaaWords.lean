/-
  Laws 12 and 14: words of numbers' bits; a lane's number of a row of words.
-/
import Derived.Test.YtfngfoabknbgdaaFresh
import Derived.Test.YtfngfoabknbgdaaConeDepth
import Derived.RegionTactic
import Derived.ChangeAlike
namespace Go.Proofs.Ytfngfoabknbgdaa
open Go.ChangeShapes Go.WideShapes Go.ChangeAt Go.RowKit
open Go.Maps (Keyed)
open Go.WideMaps
set_option linter.unusedVariables false

def WordsPost (n : Nat) (w : World) (e : Ending) (w' : World) : Prop := ∃ gb l, e = .returned (.slice (some ⟨gb, 0, none⟩) n n) ∧ l.length = n ∧ Words l ∧ Own w' 45 (some ⟨gb, 0, none⟩) n n (nats .u64 l) ∧ Kept [] w w' ∧ w.heap.size ≤ gb
/-- whatever is put into a word is a word -/
theorem or_spell (a b : Int) : ∃ v : Nat, bits .or .u64 a b = (v : Int) ∧ v < 18446744073709551616 := by
  have h : 0 ≤ bits .or .u64 a b ∧ bits .or .u64 a b < 18446744073709551616 := by
    unfold bits
    simp only [IntKind.wrap_u64]
    omega
  exact ⟨(bits .or .u64 a b).toNat, by omega, by omega⟩
set_option maxHeartbeats 1600000 in
set_option maxRecDepth 100000 in
theorem words12 (a : Option Addr) (c len : Nat) (l : List Nat) (n : Nat) (w : World) (hl : l.length = len) (hlm : len ≤ 140737488351232) (hs : SlN w .u64 a l) (hw : Words l) (h1 : 1 ≤ n) (hn : n ≤ 64) :
    Calls Try.prog 33 #[.slice a len c, .int .i64 n] w (WordsPost n w) := by
  have HL := Lib.hid hl
  have HW := Lib.hid hw
  have HS := Lib.hid hs
  clear hl hw hs
  go_enter Try.func33, Try.ntmps33
  go_wp2_with (at_make; refine wpList_mk rfl rfl Try.underlying48 u64_info2 rfl rfl rfl (by omega) (by unfold maxLen; omega) ?_; intro w2 hown2 hst2; rw [nats_replicate] at hown2)
  obtain ⟨gb, hgb⟩ : ∃ gb, gb = w.heap.size := ⟨_, rfl⟩
  rw [← hgb] at hown2 hst2 ⊢
  have hgw : w.heap.size ≤ gb := by omega
  clear hgb
  have HO2 := Lib.hid hown2
  have HK2 := Lib.hid hst2.kept
  clear hown2 hst2
  go_loopw [6] (fun i wr => ∃ (k : Nat) (ws : List Nat), k ≤ 64 ∧ i = .int .i64 k ∧ ws.length = n ∧ Words ws ∧ Own wr 45 (some ⟨gb, 0, none⟩) n n (nats .u64 ws) ∧ Kept [] w wr) (fun i _ => 64 - (intOf i).toNat)
  case atStart => exact ⟨0, List.replicate n 0, by omega, rfl, by simp, zeros_words n, HO2.out, HK2.out⟩
  case round =>
    obtain ⟨k, ws, hk, rfl, hwl, hww, hown, hkr⟩ := hrel
    have HO3 := Lib.hid hown
    have HK3 := Lib.hid hkr
    have HWL := Lib.hid hwl
    have HWW := Lib.hid hww
    clear hown hkr hwl hww
    by_cases h64 : k < 64
    · by_cases hkl : k < len
      · have hkL : k < l.length := by rw [HL.out]; exact hkl
        go_wp2_with fail
        obtain ⟨wo, rfl⟩ : ∃ wo : World, wo = wr := ⟨_, rfl⟩
        go_loopw [7] (fun i wr => ∃ (j : Nat) (ws : List Nat), j ≤ n ∧ i = .int .i64 j ∧ ws.length = n ∧ Words ws ∧ Own wr 45 (some ⟨gb, 0, none⟩) n n (nats .u64 ws) ∧ Kept [] w wr) (fun i _ => n - (intOf i).toNat)
        case atStart => exact ⟨0, ws, by omega, rfl, HWL.out, HWW.out, HO3.out, HK3.out⟩
        case round =>
          obtain ⟨j, us, hj, rfl, hul, huw, hown, hkr⟩ := hrel
          have HUL := Lib.hid hul
          have HUW := Lib.hid huw
          have HKR := Lib.hid hkr
          have HOW := Lib.hid hown
          by_cases hjn : j < n
          · obtain ⟨ad, rfl, hc⟩ := (HS.out.kept0 hkr) k hkL
            have q1 := own_cells_i hown j (by omega)
            obtain ⟨⟨v0, q3⟩, q4, q5⟩ := hown.store (j := j) hjn
            have HQ5 := Lib.hid q5
            clear q5 q3 hul huw hown hkr
            generalize us.getD j 0 = u at *
            generalize l[k] = x at *
            obtain ⟨v, hv, hvl⟩ := or_spell (u : Int) (IntKind.u64.wrap (bits .and .u64 ((x : Int) / 2 ^ j) 1 * 2 ^ k))
            have HV := Lib.hid hv
            have HVL := Lib.hid hvl
            clear hv hvl
            go_wp2_with fail
            go_region
            go_wp2_with fail
            go_roundw
            case rel =>
              refine ⟨j + 1, us.set j v, by omega, by go_num, by rw [List.length_set]; exact HUL.out, words_set HUW.out j HVL.out, ?_, kept_up (S := [gb]) HKR.out (((Kept.refl [gb] wr).setCell (p := ⟨gb, j, none⟩) (.inl (by simp)) _).drew) (fun b hb => by simp at hb; omega)⟩
              have h := HQ5.out (.int .u64 (v : Int))
              rw [nats_set] at h
              rw [← HV.out] at h
              exact h.drew
            case measure => simp [intOf]; omega
          · clear hul huw hown hkr
            go_wp2_with fail
            go_roundw
            case rel => exact ⟨k + 1, us, by omega, by go_num, HUL.out, HUW.out, HOW.out, HKR.out⟩
            case measure => simp [intOf]; omega
      · go_wp2_with fail
        go_ret
        exact ⟨gb, ws, rfl, HWL.out, HWW.out, HO3.out, HK3.out, hgw⟩
    · go_wp2_with fail
      go_ret
      exact ⟨gb, ws, rfl, HWL.out, HWW.out, HO3.out, HK3.out, hgw⟩
set_option maxHeartbeats 1600000 in
set_option maxRecDepth 100000 in
theorem words14 (a : Option Addr) (c len : Nat) (l : List Nat) (n : Nat) (w : World) (hl : l.length = len) (hlm : len ≤ 140737488351232) (hs : SlN w .u64 a l) (hw : Words l) (h1 : 1 ≤ n) (hn : n ≤ 64) :
    Calls Try.prog 27 #[.slice a len c, .int .i64 n] w (WordsPost n w) := by
  have HL := Lib.hid hl
  have HW := Lib.hid hw
  have HS := Lib.hid hs
  clear hl hw hs
  go_enter Try.func27, Try.ntmps27
  go_wp2_with (at_make; refine wpList_mk rfl rfl Try.underlying48 u64_info2 rfl rfl rfl (by omega) (by unfold maxLen; omega) ?_; intro w2 hown2 hst2; rw [nats_replicate] at hown2)
  obtain ⟨gb, hgb⟩ : ∃ gb, gb = w.heap.size := ⟨_, rfl⟩
  rw [← hgb] at hown2 hst2 ⊢
  have hgw : w.heap.size ≤ gb := by omega
  clear hgb
  have HO2 := Lib.hid hown2
  have HK2 := Lib.hid hst2.kept
  clear hown2 hst2
  go_loopw [6] (fun i wr => ∃ (k : Nat) (ws : List Nat), k ≤ 64 ∧ i = .int .i64 k ∧ ws.length = n ∧ Words ws ∧ Own wr 45 (some ⟨gb, 0, none⟩) n n (nats .u64 ws) ∧ Kept [] w wr) (fun i _ => 64 - (intOf i).toNat)
  case atStart => exact ⟨0, List.replicate n 0, by omega, rfl, by simp, zeros_words n, HO2.out, HK2.out⟩
  case round =>
    obtain ⟨k, ws, hk, rfl, hwl, hww, hown, hkr⟩ := hrel
    have HO3 := Lib.hid hown
    have HK3 := Lib.hid hkr
    have HWL := Lib.hid hwl
    have HWW := Lib.hid hww
    clear hown hkr hwl hww
    by_cases h64 : k < 64
    · by_cases hkl : k < len
      · have hkL : k < l.length := by rw [HL.out]; exact hkl
        go_wp2_with fail
        obtain ⟨wo, rfl⟩ : ∃ wo : World, wo = wr := ⟨_, rfl⟩
        go_loopw [7] (fun i wr => ∃ (j : Nat) (ws : List Nat), j ≤ n ∧ i = .int .i64 j ∧ ws.length = n ∧ Words ws ∧ Own wr 45 (some ⟨gb, 0, none⟩) n n (nats .u64 ws) ∧ Kept [] w wr) (fun i _ => n - (intOf i).toNat)
        case atStart => exact ⟨0, ws, by omega, rfl, HWL.out, HWW.out, HO3.out, HK3.out⟩
        case round =>
          obtain ⟨j, us, hj, rfl, hul, huw, hown, hkr⟩ := hrel
          have HUL := Lib.hid hul
          have HUW := Lib.hid huw
          have HKR := Lib.hid hkr
          have HOW := Lib.hid hown
          by_cases hjn : j < n
          · obtain ⟨ad, rfl, hc⟩ := (HS.out.kept0 hkr) k hkL
            have q1 := own_cells_i hown j (by omega)
            obtain ⟨⟨v0, q3⟩, q4, q5⟩ := hown.store (j := j) hjn
            have HQ5 := Lib.hid q5
            clear q5 q3 hul huw hown hkr
            generalize us.getD j 0 = u at *
            generalize l[k] = x at *
            obtain ⟨v, hv, hvl⟩ := or_spell (u : Int) (IntKind.u64.wrap (bits .and .u64 ((x : Int) / 2 ^ j) 1 * 2 ^ k))
            have HV := Lib.hid hv
            have HVL := Lib.hid hvl
            clear hv hvl
            go_wp2_with fail
            go_region
            go_wp2_with fail
            go_roundw
            case rel =>
              refine ⟨j + 1, us.set j v, by omega, by go_num, by rw [List.length_set]; exact HUL.out, words_set HUW.out j HVL.out, ?_, kept_up (S := [gb]) HKR.out (((Kept.refl [gb] wr).setCell (p := ⟨gb, j, none⟩) (.inl (by simp)) _).drew) (fun b hb => by simp at hb; omega)⟩
              have h := HQ5.out (.int .u64 (v : Int))
              rw [nats_set] at h
              rw [← HV.out] at h
              exact h.drew
            case measure => simp [intOf]; omega
          · clear hul huw hown hkr
            go_wp2_with fail
            go_roundw
            case rel => exact ⟨k + 1, us, by omega, by go_num, HUL.out, HUW.out, HOW.out, HKR.out⟩
            case measure => simp [intOf]; omega
      · go_wp2_with fail
        go_ret
        exact ⟨gb, ws, rfl, HWL.out, HWW.out, HO3.out, HK3.out, hgw⟩
    · go_wp2_with fail
      go_ret
      exact ⟨gb, ws, rfl, HWL.out, HWW.out, HO3.out, HK3.out, hgw⟩
end Go.Proofs.Ytfngfoabknbgdaa
