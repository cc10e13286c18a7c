/-
  Contracts of package cone: asks, Words, Depth.
-/
import Derived.Test.YtnjoklcddodfeaaDoorConeMath
import Derived.Test.YtnjoklcddodfeaaDoorAigSemEval
import Derived.Test.YtnjoklcddodfeaaDoorAigIns
import Derived.Test.YtnjoklcddodfeaaDoorLitTells
import Derived.Deep.RegionHeld3
import Derived.Deep.RegionLaw
import Derived.Outline
namespace Go.Proofs.YtnjoklcddodfeaaDoor
open Go.ChangeShapes Go.WideShapes Go.ChangeAt Go.RowKit
open Go.Maps (Keyed)
open Go.WideMaps
set_option linter.unusedVariables false

variable {w w' : World} {p : Nat} {F S : List Nat} {g : Gr}

theorem kept_up {w wr w2 : World} {S : List Nat} (h : Kept [] w wr) (hk : Kept S wr w2) (hS : ∀ b ∈ S, w.heap.size ≤ b) : Kept [] w w2 :=
  ⟨hk.os.trans h.os, hk.tape.trans h.tape, hk.output.trans h.output, Nat.le_trans h.size hk.size, fun b hb _ => (hk.block b (Nat.lt_of_lt_of_le hb h.size) (fun hm => by have := hS b hm; omega)).trans (h.block b hb (by simp))⟩
theorem cell_other {w : World} {b i k : Nat} {v u : Value} (hne : i ≠ k) (h : w.cell? ⟨b, i, none⟩ = some v) : (w.setCell ⟨b, k, none⟩ u).drew.cell? ⟨b, i, none⟩ = some v :=
  (World.cell?_setCell_other w ⟨b, k, none⟩ ⟨b, i, none⟩ u (fun e => hne (by injection e with _ e _; exact e.symm))).trans h
def FirstPost (b : Bool) (w : World) (e : Ending) (w' : World) : Prop := ∃ r : Int, e = .returned (.int .i64 r) ∧ decide (0 ≤ r) = b ∧ ∃ k, w' = w.drewN k
set_option maxHeartbeats 400000 in
set_option maxRecDepth 100000 in
/-- the first literal of which a closure with one captured value says yes -/
theorem index_any (fid : FuncId) (hF : ∀ xs w, (callFunc fid xs).run Tryd.prog w = .ok (Next.enter fid xs) w) (cap : Value) (P : Nat → Bool) (a : Option Addr) (c len : Nat) (l : List Nat) (w : World) (hl : l.length = len) (hlm : len ≤ 140737488351232) (hs : SlN w .u32 a l)
    (HC : ∀ x ∈ l, ∀ k, Calls Tryd.prog fid #[.int .u32 (x : Int), cap] (w.drewN k) fun e w' => e = .returned (.bool (P x)) ∧ ∃ m, w' = (w.drewN k).drewN m) :
    Calls Tryd.prog 62 #[.slice a len c, .func (.func fid) #[] #[cap]] w (FirstPost (l.any P) w) := by
  have HL := Lib.hid hl; clear hl
  have HF := Lib.hid HC; clear HC
  go_enter Tryd.func62, Tryd.ntmps62
  go_wp2
  go_loopw [8] (fun i wr => ∃ k m : Nat, k ≤ len ∧ i = .int .i64 k ∧ wr = w.drewN m ∧ (l.take k).any P = false) (fun i _ => len - (intOf i).toNat)
  case atStart => exact ⟨0, 0, Nat.zero_le _, rfl, rfl, by simp⟩
  case round =>
    obtain ⟨k, m, hk, rfl, rfl, hall⟩ := hrel
    have HA := Lib.hid hall; clear hall
    by_cases hlt : k < len
    · have hkl : k < l.length := by have := HL.out; omega
      obtain ⟨ad, rfl, hc⟩ := hs k hkl
      have HX := Lib.hid (HF.out _ (List.getElem_mem hkl) m)
      have HM := Lib.hid (List.getElem_mem hkl)
      have HT := Lib.hid (take_snoc l k hkl)
      generalize l[k] = x at *
      cases hp : P x with
      | true =>
        have HB := Lib.hid (show l.any P = true by rw [List.any_eq_true]; exact ⟨x, HM.out, hp⟩)
        have HP := Lib.hid hp; clear hp
        go_wp2_with fail
        refine HX.out.mono ?_
        rw [HP.out]
        rintro e w1 ⟨rfl, k1, rfl⟩
        go_wp2_with fail
        go_ret
        exact ⟨(k : Int), rfl, by rw [HB.out]; simp, _, rfl⟩
      | false =>
        have HP := Lib.hid hp; clear hp
        go_wp2_with fail
        refine HX.out.mono ?_
        rw [HP.out]
        rintro e w1 ⟨rfl, k1, rfl⟩
        go_wp2_with fail
        go_roundw
        case rel =>
          refine ⟨k + 1, m + k1, by omega, by go_num, by first | rfl | rw [World.drewN_drewN], ?_⟩
          rw [HT.out, List.any_append, HA.out]
          simp [HP.out]
        case measure => simp [intOf]; omega
    · obtain rfl : k = len := by omega
      have HB := Lib.hid (show l.any P = false by
        have h := HA.out
        rwa [List.take_of_length_le (by have := HL.out; omega)] at h)
      go_wp2_with fail
      go_ret
      exact ⟨-1, rfl, by rw [HB.out]; rfl, _, rfl⟩
theorem contains_any (fid : FuncId) (hF : ∀ xs w, (callFunc fid xs).run Tryd.prog w = .ok (Next.enter fid xs) w) (cap : Value) (P : Nat → Bool) (a : Option Addr) (c len : Nat) (l : List Nat) (w : World) (hl : l.length = len) (hlm : len ≤ 140737488351232) (hs : SlN w .u32 a l)
    (HC : ∀ x ∈ l, ∀ k, Calls Tryd.prog fid #[.int .u32 (x : Int), cap] (w.drewN k) fun e w' => e = .returned (.bool (P x)) ∧ ∃ m, w' = (w.drewN k).drewN m) :
    Calls Tryd.prog 47 #[.slice a len c, .func (.func fid) #[] #[cap]] w fun e w' => e = .returned (.bool (l.any P)) ∧ ∃ k, w' = w.drewN k := by
  have HX := Lib.hid (index_any fid hF cap P a c len l w hl hlm hs HC)
  clear hl HC hF
  go_enter Tryd.func47, Tryd.ntmps47
  go_wp2_with fail
  refine HX.out.mono ?_
  rintro e w1 ⟨r, rfl, hr1, k1, rfl⟩
  have HR1 := Lib.hid hr1; clear hr1
  go_wp2_with fail
  go_ret
  exact ⟨by rw [← HR1.out]; rfl, _, rfl⟩


theorem u64_info2 : (Tryd.prog.info? 85).map (fun i => (i.zero, i.size, i.bytes)) = some (some (.int .u64 0), 1, 8) := by kernel_rfl

def NewWords (l : List Nat) (n : Nat) (w : World) (e : Ending) (w' : World) : Prop := ∃ a c, e = .returned (.tuple #[.slice a n c, .int .i64 0]) ∧ Own w' 85 a n c (nats .u64 l) ∧ Stepped w w' [] (ft a)
end Go.Proofs.YtnjoklcddodfeaaDoor
