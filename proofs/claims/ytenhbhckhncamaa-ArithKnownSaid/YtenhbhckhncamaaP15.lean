/-
  Law 12: rows of inputs, and a fresh graph of two rows and one input more.
  Contracts of package cone: asks, Words, Depth.
-/
import Derived.Test.YtenhbhckhncamaaP13
import Derived.Test.YtenhbhckhncamaaP12
import Derived.Test.YtenhbhckhncamaaP14
import Derived.Deep.RegionHeld3
import Derived.Deep.RegionLaw
import Derived.Outline
import Derived.Test.YtenhbhckhncamaaP10
import Derived.Deep.RegionWith
import Derived.IntWalk
namespace Go.Proofs.Ytenhbhckhncamaa
open Go.ChangeShapes Go.WideShapes Go.ChangeAt Go.RowKit
open Go.Maps (Keyed)
open Go.WideMaps
set_option linter.unusedVariables false

variable {w w' : World} {p : Nat} {F S : List Nat} {g : Gr}

theorem kept_up {w wr w2 : World} {S : List Nat} (h : Kept [] w wr) (hk : Kept S wr w2) (hS : ∀ b ∈ S, w.heap.size ≤ b) : Kept [] w w2 :=
  ⟨hk.os.trans h.os, hk.tape.trans h.tape, hk.output.trans h.output, Nat.le_trans h.size hk.size, fun b hb _ => (hk.block b (Nat.lt_of_lt_of_le hb h.size) (fun hm => by have := hS b hm; omega)).trans (h.block b hb (by simp))⟩
theorem cell_other {w : World} {b i k : Nat} {v u : Value} (hne : i ≠ k) (h : w.cell? ⟨b, i, none⟩ = some v) : (w.setCell ⟨b, k, none⟩ u).drew.cell? ⟨b, i, none⟩ = some v :=
  (World.cell?_setCell_other w ⟨b, k, none⟩ ⟨b, i, none⟩ u (fun e => hne (by injection e with _ e _; exact e.symm))).trans h
def FirstPost (b : Bool) (w : World) (e : Ending) (w' : World) : Prop := ∃ r : Int, e = .returned (.int .i64 r) ∧ decide (0 ≤ r) = b ∧ ∃ k, w' = w.drewN k
set_option maxHeartbeats 400000 in
set_option maxRecDepth 100000 in
/-- the first literal of which a closure with one captured value says yes -/
theorem index_any (fid : FuncId) (hF : ∀ xs w, (callFunc fid xs).run Try.prog w = .ok (Next.enter fid xs) w) (cap : Value) (P : Nat → Bool) (a : Option Addr) (c len : Nat) (l : List Nat) (w : World) (hl : l.length = len) (hlm : len ≤ 140737488351232) (hs : SlN w .u32 a l)
    (HC : ∀ x ∈ l, ∀ k, Calls Try.prog fid #[.int .u32 (x : Int), cap] (w.drewN k) fun e w' => e = .returned (.bool (P x)) ∧ ∃ m, w' = (w.drewN k).drewN m) :
    Calls Try.prog 61 #[.slice a len c, .func (.func fid) #[] #[cap]] w (FirstPost (l.any P) w) := by
  have HL := Lib.hid hl; clear hl
  have HF := Lib.hid HC; clear HC
  go_enter Try.func61, Try.ntmps61
  go_wp2
  go_loopw [8] (fun i wr => ∃ k m : Nat, k ≤ len ∧ i = .int .i64 k ∧ wr = w.drewN m ∧ (l.take k).any P = false) (fun i _ => len - (intOf i).toNat)
  case atStart => exact ⟨0, 0, Nat.zero_le _, rfl, rfl, by simp⟩
  case round =>
    obtain ⟨k, m, hk, rfl, rfl, hall⟩ := hrel
    have HA := Lib.hid hall; clear hall
    by_cases hlt : k < len
    · have hkl : k < l.length := by have := HL.out; omega
      obtain ⟨ad, rfl, hc⟩ := hs k hkl
      have HX := Lib.hid (HF.out _ (List.getElem_mem hkl) m)
      have HM := Lib.hid (List.getElem_mem hkl)
      have HT := Lib.hid (take_snoc l k hkl)
      generalize l[k] = x at *
      cases hp : P x with
      | true =>
        have HB := Lib.hid (show l.any P = true by rw [List.any_eq_true]; exact ⟨x, HM.out, hp⟩)
        have HP := Lib.hid hp; clear hp
        go_wp2_with fail
        refine HX.out.mono ?_
        rw [HP.out]
        rintro e w1 ⟨rfl, k1, rfl⟩
        go_wp2_with fail
        go_ret
        exact ⟨(k : Int), rfl, by rw [HB.out]; simp, _, rfl⟩
      | false =>
        have HP := Lib.hid hp; clear hp
        go_wp2_with fail
        refine HX.out.mono ?_
        rw [HP.out]
        rintro e w1 ⟨rfl, k1, rfl⟩
        go_wp2_with fail
        go_roundw
        case rel =>
          refine ⟨k + 1, m + k1, by omega, by go_num, by first | rfl | rw [World.drewN_drewN], ?_⟩
          rw [HT.out, List.any_append, HA.out]
          simp [HP.out]
        case measure => simp [intOf]; omega
    · obtain rfl : k = len := by omega
      have HB := Lib.hid (show l.any P = false by
        have h := HA.out
        rwa [List.take_of_length_le (by have := HL.out; omega)] at h)
      go_wp2_with fail
      go_ret
      exact ⟨-1, rfl, by rw [HB.out]; rfl, _, rfl⟩
theorem contains_any (fid : FuncId) (hF : ∀ xs w, (callFunc fid xs).run Try.prog w = .ok (Next.enter fid xs) w) (cap : Value) (P : Nat → Bool) (a : Option Addr) (c len : Nat) (l : List Nat) (w : World) (hl : l.length = len) (hlm : len ≤ 140737488351232) (hs : SlN w .u32 a l)
    (HC : ∀ x ∈ l, ∀ k, Calls Try.prog fid #[.int .u32 (x : Int), cap] (w.drewN k) fun e w' => e = .returned (.bool (P x)) ∧ ∃ m, w' = (w.drewN k).drewN m) :
    Calls Try.prog 43 #[.slice a len c, .func (.func fid) #[] #[cap]] w fun e w' => e = .returned (.bool (l.any P)) ∧ ∃ k, w' = w.drewN k := by
  have HX := Lib.hid (index_any fid hF cap P a c len l w hl hlm hs HC)
  clear hl HC hF
  go_enter Try.func43, Try.ntmps43
  go_wp2_with fail
  refine HX.out.mono ?_
  rintro e w1 ⟨r, rfl, hr1, k1, rfl⟩
  have HR1 := Lib.hid hr1; clear hr1
  go_wp2_with fail
  go_ret
  exact ⟨by rw [← HR1.out]; rfl, _, rfl⟩


theorem u64_info2 : (Try.prog.info? 37).map (fun i => (i.zero, i.size, i.bytes)) = some (some (.int .u64 0), 1, 8) := by kernel_rfl

def NewWords (l : List Nat) (n : Nat) (w : World) (e : Ending) (w' : World) : Prop := ∃ a c, e = .returned (.tuple #[.slice a n c, .int .i64 0]) ∧ Own w' 37 a n c (nats .u64 l) ∧ Stepped w w' [] (ft a)
end Go.Proofs.Ytenhbhckhncamaa

namespace Go.Proofs.Ytenhbhckhncamaa
open Go.ChangeShapes Go.WideShapes Go.ChangeAt Go.RowKit
open Go.Maps (Keyed)
open Go.WideMaps
set_option linter.unusedVariables false

variable {w w' : World} {p : Nat} {F S : List Nat} {g : Gr}

/-- so many inputs' literals, from a node on -/
def rowL (k n : Nat) : List Nat := (List.range n).map fun i => 2 * (k + i)
theorem rowL_succ (k n : Nat) : rowL k (n + 1) = rowL k n ++ [2 * (k + n)] := by simp [rowL, List.range_succ]
theorem rowL_length (k n : Nat) : (rowL k n).length = n := by simp [rowL]
/-- a graph of inputs alone -/
def freshG (o1 o2 : Bool) (k : Nat) : Gr := { fold := o1, hash := o2, nodes := (List.range (k + 1)).map fun i => (2 * i, 2 * i) }
theorem freshG_length (o1 o2 : Bool) (k : Nat) : (freshG o1 o2 k).nodes.length = k + 1 := by simp [freshG]
theorem freshG_succ (o1 o2 : Bool) (k : Nat) : inputG (freshG o1 o2 k) = (freshG o1 o2 (k + 1), 2 * (k + 1)) := by
  unfold inputG
  rw [freshG_length]
  simp only [freshG]
  rw [List.range_succ (n := k + 1), List.map_append]
  rfl

def RowPost (l : List Nat) (n : Nat) (w : World) (e : Ending) (w' : World) : Prop := ∃ a c, e = .returned (.slice a n c) ∧ Own w' 34 a n c (nats .u32 l) ∧ Stepped w w' [] (ft a)

theorem own_cell0 {w : World} {e : TypeId} {g3 cap k : Nat} (h : Own w e (some ⟨g3, 0, none⟩) 1 cap (nats .u32 (rowL k 1))) : w.cell? ⟨g3, 0, none⟩ = some (.int .u32 ((2 * k : Nat) : Int)) := by
  have h1 := World.ownsRow.cellAt h 0 (by omega)
  rw [h1]
  simp [nats, rowL]
def FreshPost (o1 o2 : Bool) (n : Nat) (w : World) (e : Ending) (w' : World) : Prop := ∃ p F a ca b cb, e = .returned (.tuple #[.pointer (some ⟨p, 0, none⟩), .slice a n ca, .slice b n cb, .int .u32 ((2 * (1 + 2 * n) : Nat) : Int)]) ∧
  GraphAt w' p F (freshG o1 o2 (2 * n + 1)) ∧ Own w' 34 a n ca (nats .u32 (rowL 1 n)) ∧ Own w' 34 b n cb (nats .u32 (rowL (1 + n) n)) ∧ Stepped w w' [] F
end Go.Proofs.Ytenhbhckhncamaa
