/-
  Law 15: a row of right bytes; blanks and comments passed over.
-/
import Derived.Test.YtjnjldbegngooaaDoorTokB
namespace Go.Proofs.YtjnjldbegngooaaDoor
open Go.ChangeShapes Go.WideShapes Go.ChangeAt Go.RowKit
set_option linter.unusedVariables false
set_option linter.unusedSimpArgs false

variable {w w' w1 W : World}
/-- a reader in its block -/
def RdS (w : World) (rb : Nat) (S : ByteArray) (k : Nat) : Prop := w.heap[rb]? = some (.cells #[.string S, .int .i64 (k : Int)] 54 (0, 0))
theorem ext_list (S : ByteArray) (a b : Nat) : S.extract a b = ⟨((S.data.toList.drop a).take (b - a)).toArray⟩ := by
  apply ByteArray.ext
  rw [ByteArray.data_extract]
  apply Array.ext'
  simp [Array.toList_extract]
theorem takeWhile_run {p : UInt8 → Bool} (L : List UInt8) (j : Nat) (hall : ∀ m, m < j → ∃ h : m < L.length, p L[m] = true) (hend : ∀ h : j < L.length, p L[j] = false) : L.takeWhile p = L.take j := by
  induction L generalizing j with
  | nil => simp
  | cons c L ih =>
    cases j with
    | zero =>
      have := hend (by simp)
      rw [List.takeWhile_cons, if_neg (by simpa using this)]
      rfl
    | succ j =>
      obtain ⟨_, h0⟩ := hall 0 (by omega)
      rw [List.takeWhile_cons, if_pos (by simpa using h0), List.take_succ_cons]
      congr 1
      exact ih j (fun m hm => by
        obtain ⟨h1, h2⟩ := hall (m + 1) (by omega)
        exact ⟨by simpa using h1, by simpa using h2⟩) (fun h => by have := hend (by simpa using h : j + 1 < (c :: L).length); rwa [List.getElem_cons_succ] at this)
theorem run_ext {p : UInt8 → Bool} {S : ByteArray} {k j : Nat} (hk : k ≤ j) (hall : ∀ m, k ≤ m → m < j → ∃ h : m < S.size, p (S[m]'h) = true) (hend : ∀ h : j < S.size, p (S[j]'h) = false) : S.extract k j = ⟨((S.data.toList.drop k).takeWhile p).toArray⟩ := by
  rw [ext_list, takeWhile_run (S.data.toList.drop k) (j - k) (fun m hm => ?_) (fun h => ?_)]
  · obtain ⟨h1, h2⟩ := hall (k + m) (by omega) (by omega)
    have h3 : k + m < S.data.toList.length := h1
    exact ⟨by rw [List.length_drop]; omega, by rw [List.getElem_drop]; exact h2⟩
  · rw [List.length_drop] at h
    have h1 : j < S.data.toList.length := by omega
    have h2 := hend h1
    rw [List.getElem_drop]
    have e : k + (j - k) = j := by omega
    simp only [e]
    exact h2
set_option maxHeartbeats 800000 in
theorem run_c (fid : FuncId) (hF : ∀ xs w, (callFunc fid xs).run Tryd.prog w = .ok (Next.enter fid xs) w) (p : UInt8 → Bool) (HC : ∀ c : Nat, c < 256 → ∀ w, Calls Tryd.prog fid #[.int .u8 (c : Int)] w (QIs (p (UInt8.ofNat c)) w))
    (rb : Nat) (S : ByteArray) (k at_ : Nat) (w : World) (hr : RdS w rb S at_) (hk : k ≤ S.size) (hS : S.size ≤ 140737488351232) :
    Calls Tryd.prog 42 #[.pointer (some ⟨rb, 0, none⟩), .int .i64 (k : Int), .func (.func fid) #[] #[]] w fun e w' => e = .returned (strV ((S.data.toList.drop k).takeWhile p)) ∧ w' = w := by
  have c0 : w.cell? ⟨rb, 0, none⟩ = some (.string S) := blk_cell hr 0
  have HF := Lib.hid HC
  clear HC hr
  go_enter Tryd.func42, Tryd.ntmps42
  go_wp2_with fail
  go_loopw [7] (fun i wr => ∃ j : Nat, k ≤ j ∧ j ≤ S.size ∧ i = .int .i64 j ∧ wr = w ∧ ∀ m, k ≤ m → m < j → ∃ h : m < S.size, p (S[m]'h) = true) (fun i _ => S.size - (intOf i).toNat)
  case atStart => exact ⟨k, Nat.le_refl _, hk, rfl, rfl, fun m h1 h2 => by omega⟩
  case round =>
    obtain ⟨j, hkj, hj, rfl, rfl, hall⟩ := hrel
    have HA := Lib.hid hall
    clear hall
    by_cases hlt : j < S.size
    · have hX := HF.out (S[j]'hlt).toNat (UInt8.toNat_lt _) wr
      rw [UInt8.ofNat_toNat] at hX
      have HX := Lib.hid hX
      clear hX
      cases hp : p (S[j]'hlt) with
      | true =>
        have HGO := Lib.hid (show ∀ m, k ≤ m → m < j + 1 → ∃ h : m < S.size, p (S[m]'h) = true from fun m h1 h2 => by
          by_cases h : m < j
          · exact HA.out m h1 h
          · obtain rfl : m = j := by omega
            exact ⟨hlt, hp⟩)
        rw [hp] at HX
        clear hp
        go_wp2_with fail
        refine HX.out.mono ?_
        rintro e w1 ⟨rfl, rfl⟩
        go_wp2_with fail
        go_roundw
        case rel => exact ⟨j + 1, by omega, by omega, by go_num, trivial, HGO.out⟩
        case measure => simp [intOf]; omega
      | false =>
        have HE := Lib.hid (run_ext (p := p) hkj HA.out (fun _ => hp))
        rw [hp] at HX
        clear hp
        go_wp2_with fail
        refine HX.out.mono ?_
        rintro e w1 ⟨rfl, rfl⟩
        go_wp2_with fail
        go_ret
        exact ⟨congrArg (fun x => Ending.returned (.string x)) HE.out, rfl⟩
    · obtain rfl : j = S.size := by omega
      have HE := Lib.hid (run_ext (p := p) hkj HA.out (fun h => absurd h (by omega)))
      go_wp2_with fail
      go_ret
      exact ⟨congrArg (fun x => Ending.returned (.string x)) HE.out, rfl⟩
end Go.Proofs.YtjnjldbegngooaaDoor
