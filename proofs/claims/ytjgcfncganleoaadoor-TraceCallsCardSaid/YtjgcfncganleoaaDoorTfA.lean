/-
  Law 09: bytes.Count, bytes.Clone, bytes.Equal over texts.
-/
import Derived.Test.YtjgcfncganleoaaDoorTrcCard
namespace Go.Proofs.YtjgcfncganleoaaDoor
open Go.ChangeShapes Go.WideShapes Go.ChangeAt Go.RowKit
set_option linter.unusedVariables false
set_option linter.unusedSimpArgs false

variable {w w' w1 W : World}
def ints (l : List UInt8) : List Int := l.map fun b => (b.toNat : Int)
theorem ints_len (l : List UInt8) : (ints l).length = l.length := by simp [ints]
theorem ints_get (l : List UInt8) (i : Nat) (h : i < l.length) : (ints l).getD i 0 = (l[i].toNat : Int) := by
  simp [ints, List.getD, List.getElem?_eq_getElem h]
theorem bytesOf_ints (l : List UInt8) : Lib.bytesOf (ints l) = l := by
  unfold Lib.bytesOf ints
  rw [List.map_map]
  conv => rhs; rw [← List.map_id l]
  refine List.map_congr_left fun b _ => ?_
  simp
theorem TxtAt.cells {a : Addr} {c : Nat} {l : List UInt8} (h : TxtAt w (some a) c l) : ∀ i, i < l.length → w.cell? (a.add i) = some (.int .u8 ((ints l).getD i 0)) := fun i hi => by
  obtain ⟨ad, h1, h2⟩ := h.txt i hi
  injection h1 with h1; subst h1
  rw [ints_get l i hi]; exact h2
theorem TxtAt.nil {c : Nat} {l : List UInt8} (h : TxtAt w none c l) : l = [] := by
  cases l with
  | nil => rfl
  | cons b l => obtain ⟨ad, h1, _⟩ := h.txt 0 (by simp); exact absurd h1 (by simp)
theorem count_c {a : Addr} {c b2 o2 d : Nat} {l : List UInt8} (w : World) (h : TxtAt w (some a) c l) (hc2 : w.cell? ⟨b2, o2, none⟩ = some (.int .u8 10)) :
    Calls Tryd.prog 31 #[.slice (some a) l.length c, .slice (some ⟨b2, o2, none⟩) 1 d] w fun e w' => e = .returned (.int .i64 ((l.count 10 : Nat) : Int)) ∧ w' = w := by
  have := Tryd.bytes_Count_one_at a l.length c b2 o2 d (ints l) 10 w (ints_len l) h.cells hc2
  rw [bytesOf_ints] at this
  exact this
theorem clone_c {a : Addr} {c : Nat} {l : List UInt8} (w : World) (h : TxtAt w (some a) c l) (hl : l.length ≤ 16777216) :
    Calls Tryd.prog 30 #[.slice (some a) l.length c] w fun e w' => ∃ v', e = .returned v' ∧ w'.ownsRow w.heap.size 5 1 v' l.length (Lib.byteCells l) ∧ Below w.heap.size w w' := by
  refine (Tryd.bytes_Clone_at a l.length c (ints l) w (ints_len l) (by omega) h.cells).mono ?_
  rintro e w' ⟨v', he, ho, _, hb⟩
  refine ⟨v', he, ?_, hb⟩
  have e1 : (ints l).map (Value.int .u8) = Lib.byteCells l := by
    simp [ints, Lib.byteCells, Function.comp_def]
  rw [← e1]; exact ho
theorem equal_c {a1 a2 : Option Addr} {c1 c2 : Nat} {l1 l2 : List UInt8} (w : World) (h1 : TxtAt w a1 c1 l1) (h2 : TxtAt w a2 c2 l2) :
    Calls Tryd.prog 20 #[.slice a1 l1.length c1, .slice a2 l2.length c2] w fun e w' => e = .returned (.bool (decide (l1 = l2))) ∧ w' = w := by
  have hin : ∀ {a : Option Addr} {c : Nat} {l : List UInt8}, TxtAt w a c l → Lib.BytesIn w a l.length (ints l) := fun {a c l} h => by
    cases a with
    | none => rw [h.nil]; simp [Lib.BytesIn, ints]
    | some a => exact Lib.BytesIn.of_cells h.cells
  have := Tryd.bytes_Equal_all a1 a2 l1.length c1 l2.length c2 (ints l1) (ints l2) w (ints_len l1) (ints_len l2) (hin h1) (hin h2)
  rw [bytesOf_ints, bytesOf_ints] at this
  refine this.mono fun e w' ⟨h1, h2⟩ => ⟨?_, h2⟩
  rw [h1]
  have : (l1 == l2) = decide (l1 = l2) := by rw [Bool.eq_iff_iff]; simp
  rw [this]
end Go.Proofs.YtjgcfncganleoaaDoor
