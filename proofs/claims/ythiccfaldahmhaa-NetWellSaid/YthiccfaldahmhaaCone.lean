/-
  Contracts of package cone: asks, Words, Depth.
-/
import Derived.Test.YthiccfaldahmhaaConeMath
import Derived.Test.YthiccfaldahmhaaAigSemEval
import Derived.Test.YthiccfaldahmhaaAigIns
import Derived.Test.YthiccfaldahmhaaLitTells
import Derived.Deep.RegionHeld3
import Derived.Deep.RegionLaw
import Derived.Outline
namespace Go.Proofs.Ythiccfaldahmhaa
open Go.ChangeShapes Go.WideShapes Go.ChangeAt Go.RowKit
open Go.Maps (Keyed)
open Go.WideMaps
set_option linter.unusedVariables false

variable {w w' : World} {p : Nat} {F S : List Nat} {g : Gr}

theorem kept_up {w wr w2 : World} {S : List Nat} (h : Kept [] w wr) (hk : Kept S wr w2) (hS : ∀ b ∈ S, w.heap.size ≤ b) : Kept [] w w2 :=
  ⟨hk.os.trans h.os, hk.tape.trans h.tape, hk.output.trans h.output, Nat.le_trans h.size hk.size, fun b hb _ => (hk.block b (Nat.lt_of_lt_of_le hb h.size) (fun hm => by have := hS b hm; omega)).trans (h.block b hb (by simp))⟩
theorem cell_other {w : World} {b i k : Nat} {v u : Value} (hne : i ≠ k) (h : w.cell? ⟨b, i, none⟩ = some v) : (w.setCell ⟨b, k, none⟩ u).drew.cell? ⟨b, i, none⟩ = some v :=
  (World.cell?_setCell_other w ⟨b, k, none⟩ ⟨b, i, none⟩ u (fun e => hne (by injection e with _ e _; exact e.symm))).trans h
def FirstPost (b : Bool) (w : World) (e : Ending) (w' : World) : Prop := ∃ r : Int, e = .returned (.int .i64 r) ∧ decide (0 ≤ r) = b ∧ ∃ k, w' = w.drewN k
set_option maxHeartbeats 400000 in
set_option maxRecDepth 100000 in
/-- the first literal of which a closure with one captured value says yes -/
theorem index_any (fid : FuncId) (hF : ∀ xs w, (callFunc fid xs).run Try.prog w = .ok (Next.enter fid xs) w) (cap : Value) (P : Nat → Bool) (a : Option Addr) (c len : Nat) (l : List Nat) (w : World) (hl : l.length = len) (hlm : len ≤ 140737488351232) (hs : SlN w .u32 a l)
    (HC : ∀ x ∈ l, ∀ k, Calls Try.prog fid #[.int .u32 (x : Int), cap] (w.drewN k) fun e w' => e = .returned (.bool (P x)) ∧ ∃ m, w' = (w.drewN k).drewN m) :
    Calls Try.prog 98 #[.slice a len c, .func (.func fid) #[] #[cap]] w (FirstPost (l.any P) w) := by
  have HL := Lib.hid hl; clear hl
  have HF := Lib.hid HC; clear HC
  go_enter Try.func98, Try.ntmps98
  go_wp2
  go_loopw [8] (fun i wr => ∃ k m : Nat, k ≤ len ∧ i = .int .i64 k ∧ wr = w.drewN m ∧ (l.take k).any P = false) (fun i _ => len - (intOf i).toNat)
  case atStart => exact ⟨0, 0, Nat.zero_le _, rfl, rfl, by simp⟩
  case round =>
    obtain ⟨k, m, hk, rfl, rfl, hall⟩ := hrel
    have HA := Lib.hid hall; clear hall
    by_cases hlt : k < len
    · have hkl : k < l.length := by have := HL.out; omega
      obtain ⟨ad, rfl, hc⟩ := hs k hkl
      have HX := Lib.hid (HF.out _ (List.getElem_mem hkl) m)
      have HM := Lib.hid (List.getElem_mem hkl)
      have HT := Lib.hid (take_snoc l k hkl)
      generalize l[k] = x at *
      cases hp : P x with
      | true =>
        have HB := Lib.hid (show l.any P = true by rw [List.any_eq_true]; exact ⟨x, HM.out, hp⟩)
        have HP := Lib.hid hp; clear hp
        go_wp2_with fail
        refine HX.out.mono ?_
        rw [HP.out]
        rintro e w1 ⟨rfl, k1, rfl⟩
        go_wp2_with fail
        go_ret
        exact ⟨(k : Int), rfl, by rw [HB.out]; simp, _, rfl⟩
      | false =>
        have HP := Lib.hid hp; clear hp
        go_wp2_with fail
        refine HX.out.mono ?_
        rw [HP.out]
        rintro e w1 ⟨rfl, k1, rfl⟩
        go_wp2_with fail
        go_roundw
        case rel =>
          refine ⟨k + 1, m + k1, by omega, by go_num, by first | rfl | rw [World.drewN_drewN], ?_⟩
          rw [HT.out, List.any_append, HA.out]
          simp [HP.out]
        case measure => simp [intOf]; omega
    · obtain rfl : k = len := by omega
      have HB := Lib.hid (show l.any P = false by
        have h := HA.out
        rwa [List.take_of_length_le (by have := HL.out; omega)] at h)
      go_wp2_with fail
      go_ret
      exact ⟨-1, rfl, by rw [HB.out]; rfl, _, rfl⟩
theorem contains_any (fid : FuncId) (hF : ∀ xs w, (callFunc fid xs).run Try.prog w = .ok (Next.enter fid xs) w) (cap : Value) (P : Nat → Bool) (a : Option Addr) (c len : Nat) (l : List Nat) (w : World) (hl : l.length = len) (hlm : len ≤ 140737488351232) (hs : SlN w .u32 a l)
    (HC : ∀ x ∈ l, ∀ k, Calls Try.prog fid #[.int .u32 (x : Int), cap] (w.drewN k) fun e w' => e = .returned (.bool (P x)) ∧ ∃ m, w' = (w.drewN k).drewN m) :
    Calls Try.prog 80 #[.slice a len c, .func (.func fid) #[] #[cap]] w fun e w' => e = .returned (.bool (l.any P)) ∧ ∃ k, w' = w.drewN k := by
  have HX := Lib.hid (index_any fid hF cap P a c len l w hl hlm hs HC)
  clear hl HC hF
  go_enter Try.func80, Try.ntmps80
  go_wp2_with fail
  refine HX.out.mono ?_
  rintro e w1 ⟨r, rfl, hr1, k1, rfl⟩
  have HR1 := Lib.hid hr1; clear hr1
  go_wp2_with fail
  go_ret
  exact ⟨by rw [← HR1.out]; rfl, _, rfl⟩

theorem cone_asks1 (x q : Nat) (hg : GraphAt w p F g) (hm : g.nodes.length ≤ 1000000) (hx : x < 4294967296) (hq : w.cell? ⟨q, 0, none⟩ = some (.pointer (some ⟨p, 0, none⟩))) :
    Calls Try.prog 111 #[.int .u32 x, .pointer (some ⟨q, 0, none⟩)] w fun e w' => e = .returned (.bool (decide (g.nodes.length ≤ x / 2))) ∧ ∃ k, w' = w.drewN k := by
  have HF := Lib.hid (show decide ((g.nodes.length : Int) ≤ (x : Int) / 2) = decide (g.nodes.length ≤ x / 2) by rw [Bool.eq_iff_iff]; simp; omega)
  have HG := Lib.hid (fun n => aig_nodes (hg.kept0 ((Kept.refl [] w).drewN n)) hm)
  clear hg
  go_enter Try.func111, Try.ntmps111
  go_wp2_with fail
  go_quiet (first
    | (go_at_call 9; exact q_same (lit_node _ _ hx))
    | (go_at_call 7; exact q_same (HG.out _)))
  go_wp2
  go_ret
  exact ⟨by rw [← HF.out]; rfl, _, rfl⟩

theorem cone_asks_ok (hg : GraphAt w p F g) (hm : g.nodes.length ≤ 200000) (a : Option Addr) (c len : Nat) (l : List Nat) (hl : l.length = len) (hlm : len ≤ 140737488351232) (hs : SlN w .u32 a l) (hok : ∀ x ∈ l, g.ok x) :
    Calls Try.prog 104 #[.pointer (some ⟨p, 0, none⟩), .slice a len c] w fun e w' => e = .returned (.int .i64 0) ∧ Kept [] w w' := by
  have hp := hg.wf.pos
  have hne : ((g.nodes.length : Int) == 0) = false := by simp only [beq_eq_false_iff_ne, ne_eq]; omega
  have HG := Lib.hid (fun o => hg.kept0 ((Kept.refl [] w).alloc o))
  have HB := Lib.hid (show (l.any fun x => decide (g.nodes.length ≤ x / 2)) = false from bad_ok hok)
  have HC := Lib.hid (contains_any 111 Try.call111 (.pointer (some ⟨w.heap.size, 0, none⟩)) (fun x => decide (g.nodes.length ≤ x / 2)) a c len l (w.alloc (.cells #[.pointer (some ⟨p, 0, none⟩)] 29)) hl hlm (hs.kept0 ((Kept.refl [] w).alloc _)) (fun x hx k =>
    cone_asks1 x w.heap.size ((HG.out _).kept0 ((Kept.refl [] _).drewN k)) (by omega) (Gr.ok_lt (hok x hx) hm) (by simp [World.cell?_alloc_new])))
  clear hg hl hok
  go_enter Try.func104, Try.ntmps104
  go_wp2_with fail
  refine (aig_nodes (HG.out _) (by omega)).mono ?_
  rintro e w' ⟨rfl, rfl⟩
  go_wp2_with fail
  refine HC.out.mono ?_
  rw [HB.out]
  rintro e w' ⟨rfl, k, rfl⟩
  go_wp2_with fail
  go_ret
  exact ⟨rfl, ((Kept.refl [] w).alloc _).drewN _⟩

end Go.Proofs.Ythiccfaldahmhaa
