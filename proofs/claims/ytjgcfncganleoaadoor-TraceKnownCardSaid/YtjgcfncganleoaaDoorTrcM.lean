/-
  Chapter 09, plain: tables as data; which may be; where two differ; columns.
-/
import Derived.Test.YtjgcfncganleoaaDoorGen
namespace Go.Proofs.YtjgcfncganleoaaDoor
set_option linter.unusedVariables false
set_option linter.unusedSimpArgs false

/-- a table: buses' names and widths; rows of numbers -/
structure Tb where
  bs : List (ByteArray × Int)
  rs : List (List Nat)
def letterB (c : Nat) : Bool := (decide (97 ≤ c) && decide (c ≤ 122)) || ((decide (65 ≤ c) && decide (c ≤ 90)) || ((decide (48 ≤ c) && decide (c ≤ 57)) || (decide (c = 95) || (decide (c = 64) || decide (c = 63)))))
def lettersB (s : ByteArray) : Bool := s.data.toList.all fun c => letterB c.toNat
def namedB (s : ByteArray) : Bool := lettersB s && (decide (1 ≤ s.size) && decide (s.size ≤ 33))
def fitsB (w : Int) (n : Nat) : Bool := decide (1 ≤ w ∧ w ≤ 64) && decide (n < 2 ^ w.toNat)
/-- buses that may be, ahead of which there are some -/
def busB (ahead : List (ByteArray × Int)) (b : ByteArray × Int) : Bool := namedB b.1 && (!(ahead.any fun x => decide (x.1 = b.1)) && fitsB b.2 0)
def busesTo (bs : List (ByteArray × Int)) (k : Nat) : Bool := (List.range k).all fun i => match bs[i]? with | some b => busB (bs.take i) b | none => true
def busesB (bs : List (ByteArray × Int)) : Bool := busesTo bs bs.length
def rowTo (bs : List (ByteArray × Int)) (r : List Nat) (k : Nat) : Bool := (List.range k).all fun i => fitsB ((bs[i]?.map (·.2)).getD 0) (r.getD i 0)
def rowB (bs : List (ByteArray × Int)) (r : List Nat) : Bool := decide (r.length = bs.length) && rowTo bs r r.length
def rowsB (t : Tb) : Bool := t.rs.all (rowB t.bs)
def mayT (t : Tb) : Bool := busesB t.bs && (rowsB t && (decide (1 ≤ t.bs.length) && (decide (t.bs.length ≤ 512) && decide (t.rs.length ≤ 4096))))
theorem busesTo_succ {bs : List (ByteArray × Int)} {k : Nat} {b : ByteArray × Int} (h : bs[k]? = some b) : busesTo bs (k + 1) = (busesTo bs k && busB (bs.take k) b) := by
  simp [busesTo, List.range_succ, h]
theorem busesTo_no {bs : List (ByteArray × Int)} {k : Nat} {b : ByteArray × Int} (h : bs[k]? = some b) (hb : busB (bs.take k) b = false) : busesB bs = false := by
  have hk : k < bs.length := (List.getElem?_eq_some_iff.1 h).1
  unfold busesB busesTo
  rw [List.all_eq_false]
  exact ⟨k, List.mem_range.2 hk, by simp [h, hb]⟩
theorem rowTo_succ (bs : List (ByteArray × Int)) (r : List Nat) (k : Nat) : rowTo bs r (k + 1) = (rowTo bs r k && fitsB ((bs[k]?.map (·.2)).getD 0) (r.getD k 0)) := by
  simp [rowTo, List.range_succ]
theorem rowTo_no {bs : List (ByteArray × Int)} {r : List Nat} {k : Nat} (hk : k < r.length) (h : fitsB ((bs[k]?.map (·.2)).getD 0) (r.getD k 0) = false) : rowB bs r = false := by
  unfold rowB rowTo
  rw [Bool.and_eq_false_iff]
  right
  rw [List.all_eq_false]
  exact ⟨k, List.mem_range.2 hk, by rw [h]; decide⟩
theorem rowsB_no {t : Tb} {k : Nat} (hk : k < t.rs.length) (h : rowB t.bs t.rs[k] = false) : rowsB t = false := by
  unfold rowsB
  rw [List.all_eq_false]
  exact ⟨t.rs[k], List.getElem_mem hk, by simp [h]⟩
theorem all_take_succ {α : Type} {l : List α} {p : α → Bool} {k : Nat} (h : k < l.length) : (l.take (k + 1)).all p = ((l.take k).all p && p l[k]) := by
  rw [List.take_succ_eq_append_getElem h, List.all_append]
  simp
/-- few: the first buses, names' first bytes, the first rows, their first numbers -/
def cutS (s : ByteArray) (n : Nat) : ByteArray := s.extract 0 (min s.size n)
def fewT (t : Tb) : Tb := ⟨(t.bs.take 20).map fun b => (cutS b.1 40, b.2), (t.rs.take 30).map fun r => r.take 25⟩
theorem fewT_lens (t : Tb) : (fewT t).bs.length ≤ 20 ∧ (fewT t).rs.length ≤ 30 ∧ (∀ r ∈ (fewT t).rs, r.length ≤ 25) ∧ ∀ b ∈ (fewT t).bs, b.1.size ≤ 40 := by
  refine ⟨by simp [fewT]; omega, by simp [fewT]; omega, fun r hr => ?_, fun b hb => ?_⟩
  · simp only [fewT] at hr
    obtain ⟨q, _, rfl⟩ := List.mem_map.1 hr
    simp; omega
  · simp only [fewT] at hb
    obtain ⟨q, _, rfl⟩ := List.mem_map.1 hb
    simp [cutS]; omega
theorem cutS_id {s : ByteArray} {n : Nat} (h : s.size ≤ n) : cutS s n = s := by
  unfold cutS
  rw [Nat.min_eq_left h]
  exact ByteArray.extract_zero_size
theorem fewT_id {t : Tb} (h1 : t.bs.length ≤ 20) (h2 : t.rs.length ≤ 30) (h3 : ∀ r ∈ t.rs, r.length ≤ 25) (h4 : ∀ b ∈ t.bs, b.1.size ≤ 40) : fewT t = t := by
  obtain ⟨bs, rs⟩ := t
  simp only at h1 h2 h3 h4
  simp only [fewT]
  rw [List.take_of_length_le h1, List.take_of_length_le h2]
  congr 1
  · conv => rhs; rw [← List.map_id bs]
    exact List.map_congr_left fun b hb => by simp [cutS_id (h4 b hb)]
  · conv => rhs; rw [← List.map_id rs]
    exact List.map_congr_left fun r hr => by simp [List.take_of_length_le (h3 r hr)]
theorem fewT_few (t : Tb) : fewT (fewT t) = fewT t := by
  have h := fewT_lens t
  exact fewT_id h.1 h.2.1 h.2.2.1 h.2.2.2
end Go.Proofs.YtjgcfncganleoaaDoor
