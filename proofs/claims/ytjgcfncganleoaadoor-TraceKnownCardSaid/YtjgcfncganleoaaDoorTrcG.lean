/-
  Numbers as text, appended to a buffer of the call's own: widths to base 10, words to base 16.
-/
import Derived.Test.YtjgcfncganleoaaDoorTrcF
import Derived.Test.YtjgcfncganleoaaDoorShelf
namespace Go.Proofs.YtjgcfncganleoaaDoor
open Go.ChangeShapes Go.WideShapes Go.ChangeAt Go.RowKit
set_option linter.unusedVariables false
set_option linter.unusedSimpArgs false

variable {w w' : World}
/-- what an append to the call's one buffer leaves: whatever lay below B, and whatever is no row of bytes -/
def BufPost (B n : Nat) (xs : List Value) (l : List UInt8) (w : World) (e : Ending) (w' : World) : Prop :=
  ∃ v', e = .returned v' ∧ w'.ownsRow B 5 1 v' (n + l.length) (xs ++ Lib.byteCells l) ∧ Below B w w' ∧ Lib.OthersKept 5 none w w'
theorem app_int10 (B n k : Nat) (hk : k < 100) (sv : Value) (xs : List Value) (w : World) (hown : w.ownsRow B 5 1 sv n xs) (hBw : B ≤ w.heap.size) (hlim : n + 20 ≤ 140737488355328) :
    Calls Tryd.prog 42 #[sv, .int .i64 (k : Int), .int .i64 10] w (BufPost B n xs (Lib.decDigits k) w) := by
  have HS := Lib.hid (Tryd.internal_strconv_AppendUint_10_small B n k hk sv xs w hown hBw hlim)
  have HI := Lib.hid (show Calls Tryd.prog 69 #[sv, .int .i64 (k : Int), .int .i64 10] w (BufPost B n xs (Lib.decDigits k) w) from by
    have hk0 : ¬ ((k : Int) < 0) := by omega
    have hku : (k : Int) < 18446744073709551616 := by omega
    go_enter Tryd.func69, Tryd.ntmps69
    go_wp2_with fail
    refine HS.out.mono ?_
    rintro e w1 ⟨v', rfl, h1, h2, h3⟩
    have H1 := Lib.hid (show w1.ownsRow B 5 1 v' (n + (Lib.decDigits k).length) (xs ++ Lib.byteCells (Lib.decDigits k)) ∧ Below B w w1 ∧ Lib.OthersKept 5 none w w1 from ⟨h1, h2, h3⟩)
    clear h1 h2 h3
    go_wp2_with fail
    go_ret
    exact ⟨v', rfl, H1.out.1, H1.out.2.1, H1.out.2.2⟩)
  clear hown
  go_enter Tryd.func42, Tryd.ntmps42
  go_wp2_with fail
  refine HI.out.mono ?_
  rintro e w1 ⟨v', rfl, h1, h2, h3⟩
  have H1 := Lib.hid (show w1.ownsRow B 5 1 v' (n + (Lib.decDigits k).length) (xs ++ Lib.byteCells (Lib.decDigits k)) ∧ Below B w w1 ∧ Lib.OthersKept 5 none w w1 from ⟨h1, h2, h3⟩)
  clear h1 h2 h3
  go_wp2_with fail
  go_ret
  exact ⟨v', rfl, H1.out.1, H1.out.2.1, H1.out.2.2⟩
theorem tz16 (w : World) (hg : w.cell? ⟨3, 15, none⟩ = some (.int .u8 4)) : Calls Tryd.prog 111 #[.int .u64 16] w fun e w' => e = .returned (.int .i64 4) ∧ w = w' := by
  have HI := Lib.hid (show Calls Tryd.prog 114 #[.int .u64 16] w (fun e w' => e = .returned (.int .i64 4) ∧ w = w') from by
    have hz : IntKind.u64.wrap (bits BinOp.and IntKind.u64 16 (IntKind.u64.wrap (-16)) * 285870213051353865) / 288230376151711744 = 15 := by decide +kernel
    go_enter Tryd.func114, Tryd.ntmps114
    go_wp2_with fail
    go_ret
    exact ⟨rfl, rfl⟩)
  clear hg
  go_enter Tryd.func111, Tryd.ntmps111
  go_wp2_with fail
  refine HI.out.mono ?_
  rintro e w1 ⟨rfl, rfl⟩
  go_wp2_with fail
  go_ret
  exact ⟨rfl, rfl⟩
theorem pow16 (w : World) : Calls Tryd.prog 110 #[.int .i64 16] w fun e w' => e = .returned (.bool true) ∧ w = w' := by
  have hz : bits BinOp.and IntKind.i64 16 15 = 0 := by decide +kernel
  go_enter Tryd.func110, Tryd.ntmps110
  go_wp2_with fail
  go_ret
  exact ⟨rfl, rfl⟩
end Go.Proofs.YtjgcfncganleoaaDoor
