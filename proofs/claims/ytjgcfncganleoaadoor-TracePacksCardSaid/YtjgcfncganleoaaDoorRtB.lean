/-
  Law 09's document: is there a bus of a name?
-/
import Derived.Test.YtjgcfncganleoaaDoorRtA
import Derived.Test.YtjgcfncganleoaaDoorTrcF
namespace Go.Proofs.YtjgcfncganleoaaDoor
open Go.ChangeShapes Go.WideShapes Go.ChangeAt Go.RowKit
set_option linter.unusedVariables false
set_option linter.unusedSimpArgs false

variable {w w' w1 W : World}
set_option maxHeartbeats 1600000 in
theorem rhas_c {a : Option Addr} {c n : Nat} {bs : List (ByteArray × Int)} (nm : ByteArray) (w : World) (hl : bs.length = n) (hn : n ≤ 140737488351232) (hs : SlBus w a bs) :
    Calls Tryd.prog 48 #[.slice a n c, .string nm] w fun e w' => e = .returned (.bool (bs.any fun x => decide (x.1 = nm))) ∧ w = w' := by
  have HS := Lib.hid hs
  have HL := Lib.hid hl
  clear hs hl
  go_enter Tryd.func48, Tryd.ntmps48
  go_wp2_with fail
  go_loop [5] (fun i => ∃ k : Nat, k ≤ n ∧ i = .int .i64 k ∧ ((bs.take k).any fun x => decide (x.1 = nm)) = false) (fun i => n - (intOf i).toNat)
  case atStart => exact ⟨0, Nat.zero_le _, rfl, by simp⟩
  case round =>
    obtain ⟨k, hk, rfl, hno⟩ := hrel
    have HNO := Lib.hid hno
    clear hno
    by_cases hlt : k < n
    · have hkl : k < bs.length := by have := HL.out; omega
      obtain ⟨gb, go_, rfl, x0, xx⟩ := HS.out k hkl
      clear xx
      have HE := Lib.hid (bytes_beq bs[k].1 nm)
      obtain ⟨s, hsn⟩ : ∃ s, s = bs[k].1 := ⟨_, rfl⟩
      by_cases he : bs[k].1 = nm
      · have HA := Lib.hid (show (bs.any fun x => decide (x.1 = nm)) = true from by rw [List.any_eq_true]; exact ⟨_, List.getElem_mem hkl, by simpa using he⟩)
        rw [he] at x0
        clear he hkl hsn HE
        go_wp2_with fail
        go_ret
        exact ⟨by rw [HA.out]; rfl, rfl⟩
      · have hbq : (s.toList == nm.toList) = false := by rw [hsn, bytes_beq]; exact decide_eq_false he
        have hbq2 : ¬ s.toList = nm.toList := by simpa using hbq
        have HN := Lib.hid (show ((bs.take (k + 1)).any fun x => decide (x.1 = nm)) = false from by
          rw [List.take_succ_eq_append_getElem hkl, List.any_append, HNO.out]; simpa using he)
        rw [← hsn] at x0
        clear he hkl hsn HE
        go_wp2_with fail
        go_round
        case rel => exact ⟨k + 1, by omega, by go_num, HN.out⟩
        case measure => simp [intOf]; omega
    · obtain rfl : k = n := by omega
      have HA := Lib.hid (show (bs.any fun x => decide (x.1 = nm)) = false from by have h := HNO.out; rw [List.take_of_length_le (by rw [HL.out]; omega)] at h; exact h)
      go_wp2_with fail
      go_ret
      exact ⟨by rw [HA.out]; rfl, rfl⟩
end Go.Proofs.YtjgcfncganleoaaDoor
