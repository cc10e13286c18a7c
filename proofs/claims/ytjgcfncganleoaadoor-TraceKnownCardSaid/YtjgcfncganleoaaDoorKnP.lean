/-
  Law 09: TraceKnown: what is known of its tables and texts (no program).
-/
import Derived.Test.YtjgcfncganleoaaDoorTpB
import Derived.Test.YtjgcfncganleoaaDoorTrcR
import Derived.Test.YtjgcfncganleoaaDoorTrcN
namespace Go.Proofs.YtjgcfncganleoaaDoor
open Go.ChangeShapes Go.WideShapes Go.ChangeAt Go.RowKit
set_option linter.unusedVariables false
set_option linter.unusedSimpArgs false

def nmA : ByteArray := ⟨(Lib.repeatL (⟨#[97]⟩ : ByteArray).data.toList 34).toArray⟩
def badTs : List Tb := [⟨[], []⟩, ⟨[(⟨#[]⟩, 1)], []⟩, ⟨[(⟨#[97, 32, 98]⟩, 1)], []⟩, ⟨[(nmA, 1)], []⟩, ⟨[(⟨#[120]⟩, 65)], []⟩, ⟨[(⟨#[120]⟩, 0)], []⟩, ⟨[(⟨#[120]⟩, 4), (⟨#[120]⟩, 4)], []⟩, ⟨[(⟨#[120]⟩, 4)], [[16]]⟩, ⟨[(⟨#[120]⟩, 4)], [[]]⟩, ⟨[(⟨#[120]⟩, 4)], [[]]⟩]
theorem bad_may (i : Nat) (h : i < 10) : mayT (badTs[i]'h) = false := by
  match i, h with
  | 0, _ => exact (show mayT ⟨[], []⟩ = false by kernel_rfl)
  | 1, _ => exact (show mayT ⟨[(⟨#[]⟩, 1)], []⟩ = false by kernel_rfl)
  | 2, _ => exact (show mayT ⟨[(⟨#[97, 32, 98]⟩, 1)], []⟩ = false by kernel_rfl)
  | 3, _ => exact (show mayT ⟨[(nmA, 1)], []⟩ = false by kernel_rfl)
  | 4, _ => exact (show mayT ⟨[(⟨#[120]⟩, 65)], []⟩ = false by kernel_rfl)
  | 5, _ => exact (show mayT ⟨[(⟨#[120]⟩, 0)], []⟩ = false by kernel_rfl)
  | 6, _ => exact (show mayT ⟨[(⟨#[120]⟩, 4), (⟨#[120]⟩, 4)], []⟩ = false by kernel_rfl)
  | 7, _ => exact (show mayT ⟨[(⟨#[120]⟩, 4)], [[16]]⟩ = false by kernel_rfl)
  | 8, _ => exact (show mayT ⟨[(⟨#[120]⟩, 4)], [[]]⟩ = false by kernel_rfl)
  | 9, _ => exact (show mayT ⟨[(⟨#[120]⟩, 4)], [[]]⟩ = false by kernel_rfl)
  | i + 10, h => exact absurd h (by omega)
def okT (t : Tb) : Bool := decide (t.bs.length ≤ 140737488351232) && (decide (t.rs.length ≤ 140737488351232) && ((t.bs.all fun b => decide (b.1.size ≤ 140737488351232) && (decide (-9223372036854775808 ≤ b.2) && decide (b.2 ≤ 9223372036854775807))) && t.rs.all fun r => (r.all fun x => decide (x < 18446744073709551616)) && decide (r.length ≤ 140737488351232)))
theorem okT_ok {t : Tb} (h : okT t = true) : t.ok := by
  simp only [okT, Bool.and_eq_true, decide_eq_true_eq, List.all_eq_true] at h
  exact ⟨h.1, h.2.1, fun b hb => ⟨(h.2.2.1 b hb).1, (h.2.2.1 b hb).2.1, (h.2.2.1 b hb).2.2⟩, fun r hr => ⟨fun x hx => (h.2.2.2 r hr).1 x hx, (h.2.2.2 r hr).2⟩⟩
theorem bad_ok (i : Nat) (h : i < 10) : (badTs[i]'h).ok := by
  refine okT_ok ?_
  match i, h with
  | 0, _ => exact (show okT ⟨[], []⟩ = true by kernel_rfl)
  | 1, _ => exact (show okT ⟨[(⟨#[]⟩, 1)], []⟩ = true by kernel_rfl)
  | 2, _ => exact (show okT ⟨[(⟨#[97, 32, 98]⟩, 1)], []⟩ = true by kernel_rfl)
  | 3, _ => exact (show okT ⟨[(nmA, 1)], []⟩ = true by kernel_rfl)
  | 4, _ => exact (show okT ⟨[(⟨#[120]⟩, 65)], []⟩ = true by kernel_rfl)
  | 5, _ => exact (show okT ⟨[(⟨#[120]⟩, 0)], []⟩ = true by kernel_rfl)
  | 6, _ => exact (show okT ⟨[(⟨#[120]⟩, 4), (⟨#[120]⟩, 4)], []⟩ = true by kernel_rfl)
  | 7, _ => exact (show okT ⟨[(⟨#[120]⟩, 4)], [[16]]⟩ = true by kernel_rfl)
  | 8, _ => exact (show okT ⟨[(⟨#[120]⟩, 4)], [[]]⟩ = true by kernel_rfl)
  | 9, _ => exact (show okT ⟨[(⟨#[120]⟩, 4)], [[]]⟩ = true by kernel_rfl)
  | i + 10, h => exact absurd h (by omega)
def shortS : List ByteArray := [⟨#[]⟩, ⟨#[120]⟩, ⟨#[120, 58]⟩, ⟨#[120, 58, 54]⟩, ⟨#[120, 58, 56, 32]⟩, ⟨#[120, 58, 56, 10, 49]⟩, ⟨#[120, 58, 56, 32, 121, 58, 49, 10, 49, 32]⟩, ⟨#[120, 58, 56, 32, 120]⟩]
theorem shortS_get (i : Nat) (h : i < 8) : getT (shortS[i]'h).data.toList = .error 4 := by
  match i, h with
  | 0, _ => exact (show getT [] = .error 4 by kernel_rfl)
  | 1, _ => exact (show getT [120] = .error 4 by kernel_rfl)
  | 2, _ => exact (show getT [120, 58] = .error 4 by kernel_rfl)
  | 3, _ => exact (show getT [120, 58, 54] = .error 4 by kernel_rfl)
  | 4, _ => exact (show getT [120, 58, 56, 32] = .error 4 by kernel_rfl)
  | 5, _ => exact (show getT [120, 58, 56, 10, 49] = .error 4 by kernel_rfl)
  | 6, _ => exact (show getT [120, 58, 56, 32, 121, 58, 49, 10, 49, 32] = .error 4 by kernel_rfl)
  | 7, _ => exact (show getT [120, 58, 56, 32, 120] = .error 4 by kernel_rfl)
  | i + 8, h => exact absurd h (by omega)
def formS : List ByteArray := [⟨#[10]⟩, ⟨#[58, 49]⟩, ⟨#[120, 58, 48]⟩, ⟨#[120, 58, 54, 53]⟩, ⟨#[120, 58, 48, 56]⟩, ⟨#[120, 32, 56]⟩, ⟨#[120, 58, 56, 32, 32]⟩, ⟨#[120, 58, 56, 10, 10]⟩, ⟨#[120, 58, 56, 10, 49, 48, 48]⟩, ⟨#[120, 58, 56, 10, 49, 32]⟩, ⟨#[120, 58, 56, 32, 121, 58, 49, 10, 49, 10]⟩, ⟨#[120, 58, 56, 32, 120, 58]⟩, ⟨#[120, 58, 56, 10, 65]⟩, ⟨#[120, 58, 56, 13]⟩]
theorem formS_get (i : Nat) (h : i < 14) : getT (formS[i]'h).data.toList = .error 5 := by
  match i, h with
  | 0, _ => exact (show getT [10] = .error 5 by kernel_rfl)
  | 1, _ => exact (show getT [58, 49] = .error 5 by kernel_rfl)
  | 2, _ => exact (show getT [120, 58, 48] = .error 5 by kernel_rfl)
  | 3, _ => exact (show getT [120, 58, 54, 53] = .error 5 by kernel_rfl)
  | 4, _ => exact (show getT [120, 58, 48, 56] = .error 5 by kernel_rfl)
  | 5, _ => exact (show getT [120, 32, 56] = .error 5 by kernel_rfl)
  | 6, _ => exact (show getT [120, 58, 56, 32, 32] = .error 5 by kernel_rfl)
  | 7, _ => exact (show getT [120, 58, 56, 10, 10] = .error 5 by kernel_rfl)
  | 8, _ => exact (show getT [120, 58, 56, 10, 49, 48, 48] = .error 5 by kernel_rfl)
  | 9, _ => exact (show getT [120, 58, 56, 10, 49, 32] = .error 5 by kernel_rfl)
  | 10, _ => exact (show getT [120, 58, 56, 32, 121, 58, 49, 10, 49, 10] = .error 5 by kernel_rfl)
  | 11, _ => exact (show getT [120, 58, 56, 32, 120, 58] = .error 5 by kernel_rfl)
  | 12, _ => exact (show getT [120, 58, 56, 10, 65] = .error 5 by kernel_rfl)
  | 13, _ => exact (show getT [120, 58, 56, 13] = .error 5 by kernel_rfl)
  | i + 14, h => exact absurd h (by omega)
def tX : Tb := ⟨[(⟨#[120]⟩, 4)], []⟩
def tY : Tb := ⟨[(⟨#[121]⟩, 4)], []⟩
def tX3 : Tb := ⟨[(⟨#[120]⟩, 4)], [[3]]⟩
def tF : Tb := ⟨[(⟨#[97, 95, 64, 63, 90, 57]⟩, 64)], [[18446744073709551615]]⟩
theorem getX : getT [120, 58, 52, 10] = .ok tX := by kernel_rfl
theorem okX : tX.ok := okT_ok (by kernel_rfl)
theorem okY : tY.ok := okT_ok (by kernel_rfl)
theorem okX3 : tX3.ok := okT_ok (by kernel_rfl)
theorem okF : tF.ok := okT_ok (by kernel_rfl)
theorem mayX : mayT tX = true := by kernel_rfl
theorem mayF : mayT tF = true := by kernel_rfl
theorem putF : putTx tF = [97, 95, 64, 63, 90, 57, 58, 54, 52, 10, 102, 102, 102, 102, 102, 102, 102, 102, 102, 102, 102, 102, 102, 102, 102, 102, 10] := by kernel_rfl
theorem pk0 : packBad [] = true := by kernel_rfl
theorem pk1 : packBad [tX] = false := by kernel_rfl
theorem pn1 : packNone 0 [tX] = true := by kernel_rfl
theorem pk2 : packBad [tX3] = false := by kernel_rfl
theorem pn2 : packNone (-1) [tX3] = true := by kernel_rfl
theorem pk3 : packBad [tX, tY] = true := by kernel_rfl
end Go.Proofs.YtjgcfncganleoaaDoor
