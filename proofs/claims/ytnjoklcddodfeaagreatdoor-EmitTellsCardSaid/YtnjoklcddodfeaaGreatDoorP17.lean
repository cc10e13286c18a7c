/-
  Package orreryref03: literals that are there; Raw. Two graphs side by side.
  Contracts of package cone: asks, Words, Depth.
  Contracts on known numbers; the chapter's rows (tells) of law 02.
-/
import Derived.Test.YtnjoklcddodfeaaGreatDoorP04
import Derived.Deep.RegionWith
import Derived.Test.YtnjoklcddodfeaaGreatDoorP16
import Derived.Test.YtnjoklcddodfeaaGreatDoorP09
import Derived.Deep.RegionHeld3
import Derived.Deep.RegionLaw
import Derived.Outline
import Derived.Test.YtnjoklcddodfeaaGreatDoorP14
namespace Go.Proofs.YtnjoklcddodfeaaGreatDoor
open Go.ChangeShapes Go.WideShapes Go.ChangeAt Go.RowKit
set_option linter.unusedVariables false

theorem c_of (n : Int) (t : Bool) (v : Nat) (x : Int) (e : Int) (hx : x = v) (hv : ofV n t = v) (he : ofE n = e) (w : World) : Calls Tryz.prog 35 #[.int .i64 n, .bool t] w fun e' w' => e' = .returned (.tuple #[.int .u32 x, .int .i64 e]) ∧ w = w' := by
  subst hx hv he; exact lit_of n t w
theorem c_fold (a b : Nat) (x y : Int) (hx : x = a) (hy : y = b) (v : Nat) (u : Int) (t : Bool) (hu : u = v) (ha : a < 4294967296) (hb : b < 4294967296) (hv : foldV a b = v) (ht : foldB a b = t) (w : World) : Calls Tryz.prog 128 #[.int .u32 x, .int .u32 y] w fun e' w' => e' = .returned (.tuple #[.int .u32 u, .bool t]) ∧ w = w' := by
  subst hx hy hu hv ht; exact lit_fold a b w ha hb
theorem c_node (l : Nat) (x : Int) (hx : x = l) (v : Nat) (u : Int) (hu : u = v) (hl : l < 4294967296) (hv : l / 2 = v) (w : World) : Calls Tryz.prog 32 #[.int .u32 x] w fun e' w' => e' = .returned (.int .i64 u) ∧ w = w' := by
  subst hx hu hv; exact lit_node l w hl
theorem c_not (l : Nat) (x : Int) (hx : x = l) (v : Nat) (u : Int) (hu : u = v) (hl : l < 4294967296) (hv : ntL l = v) (w : World) : Calls Tryz.prog 25 #[.int .u32 x] w fun e' w' => e' = .returned (.int .u32 u) ∧ w = w' := by
  subst hx hu hv; exact lit_not l w hl

def allW : Nat := 18446744073709551615
theorem allW_ne : ((allW : Int) != 18446744073709551615) = false := by decide
def nwI (n : Int) : Int := bits .xor .u64 IntKind.u64.max n
theorem nwI_nat (v : Nat) (h : v < 18446744073709551616) : nwI (v : Int) = ((noW v : Nat) : Int) := notw_spell v h
@[go_sem high] theorem unary_not_u64 (n : Int) : Op.unary .xor (.int .u64 n) = pure (.int .u64 (nwI n)) := rfl
theorem of_node (x : Nat) (h : x < 33554432) : ofV ((x : Int) / 2) (decide (x % 2 = 1)) = x := by
  unfold ofV ifL ntL
  rw [if_pos (by omega), show ((x : Int) / 2).toNat = x / 2 by omega]
  by_cases hx : x % 2 = 1
  · simp [hx]; omega
  · simp [hx]; omega

end Go.Proofs.YtnjoklcddodfeaaGreatDoor

namespace Go.Proofs.YtnjoklcddodfeaaGreatDoor
open Go.ChangeShapes Go.WideShapes Go.ChangeAt Go.RowKit
open Go.Maps (Keyed)
open Go.WideMaps
set_option linter.unusedVariables false

variable {w w' : World} {p : Nat} {F S : List Nat} {g : Gr}

theorem kept_up {w wr w2 : World} {S : List Nat} (h : Kept [] w wr) (hk : Kept S wr w2) (hS : ∀ b ∈ S, w.heap.size ≤ b) : Kept [] w w2 :=
  ⟨hk.os.trans h.os, hk.tape.trans h.tape, hk.output.trans h.output, Nat.le_trans h.size hk.size, fun b hb _ => (hk.block b (Nat.lt_of_lt_of_le hb h.size) (fun hm => by have := hS b hm; omega)).trans (h.block b hb (by simp))⟩
theorem cell_other {w : World} {b i k : Nat} {v u : Value} (hne : i ≠ k) (h : w.cell? ⟨b, i, none⟩ = some v) : (w.setCell ⟨b, k, none⟩ u).drew.cell? ⟨b, i, none⟩ = some v :=
  (World.cell?_setCell_other w ⟨b, k, none⟩ ⟨b, i, none⟩ u (fun e => hne (by injection e with _ e _; exact e.symm))).trans h
def FirstPost (b : Bool) (w : World) (e : Ending) (w' : World) : Prop := ∃ r : Int, e = .returned (.int .i64 r) ∧ decide (0 ≤ r) = b ∧ ∃ k, w' = w.drewN k
set_option maxHeartbeats 400000 in
set_option maxRecDepth 100000 in
/-- the first literal of which a closure with one captured value says yes -/
theorem index_any (fid : FuncId) (hF : ∀ xs w, (callFunc fid xs).run Tryz.prog w = .ok (Next.enter fid xs) w) (cap : Value) (P : Nat → Bool) (a : Option Addr) (c len : Nat) (l : List Nat) (w : World) (hl : l.length = len) (hlm : len ≤ 140737488351232) (hs : SlN w .u32 a l)
    (HC : ∀ x ∈ l, ∀ k, Calls Tryz.prog fid #[.int .u32 (x : Int), cap] (w.drewN k) fun e w' => e = .returned (.bool (P x)) ∧ ∃ m, w' = (w.drewN k).drewN m) :
    Calls Tryz.prog 114 #[.slice a len c, .func (.func fid) #[] #[cap]] w (FirstPost (l.any P) w) := by
  have HL := Lib.hid hl; clear hl
  have HF := Lib.hid HC; clear HC
  go_enter Tryz.func114, Tryz.ntmps114
  go_wp2
  go_loopw [8] (fun i wr => ∃ k m : Nat, k ≤ len ∧ i = .int .i64 k ∧ wr = w.drewN m ∧ (l.take k).any P = false) (fun i _ => len - (intOf i).toNat)
  case atStart => exact ⟨0, 0, Nat.zero_le _, rfl, rfl, by simp⟩
  case round =>
    obtain ⟨k, m, hk, rfl, rfl, hall⟩ := hrel
    have HA := Lib.hid hall; clear hall
    by_cases hlt : k < len
    · have hkl : k < l.length := by have := HL.out; omega
      obtain ⟨ad, rfl, hc⟩ := hs k hkl
      have HX := Lib.hid (HF.out _ (List.getElem_mem hkl) m)
      have HM := Lib.hid (List.getElem_mem hkl)
      have HT := Lib.hid (take_snoc l k hkl)
      generalize l[k] = x at *
      cases hp : P x with
      | true =>
        have HB := Lib.hid (show l.any P = true by rw [List.any_eq_true]; exact ⟨x, HM.out, hp⟩)
        have HP := Lib.hid hp; clear hp
        go_wp2_with fail
        refine HX.out.mono ?_
        rw [HP.out]
        rintro e w1 ⟨rfl, k1, rfl⟩
        go_wp2_with fail
        go_ret
        exact ⟨(k : Int), rfl, by rw [HB.out]; simp, _, rfl⟩
      | false =>
        have HP := Lib.hid hp; clear hp
        go_wp2_with fail
        refine HX.out.mono ?_
        rw [HP.out]
        rintro e w1 ⟨rfl, k1, rfl⟩
        go_wp2_with fail
        go_roundw
        case rel =>
          refine ⟨k + 1, m + k1, by omega, by go_num, by first | rfl | rw [World.drewN_drewN], ?_⟩
          rw [HT.out, List.any_append, HA.out]
          simp [HP.out]
        case measure => simp [intOf]; omega
    · obtain rfl : k = len := by omega
      have HB := Lib.hid (show l.any P = false by
        have h := HA.out
        rwa [List.take_of_length_le (by have := HL.out; omega)] at h)
      go_wp2_with fail
      go_ret
      exact ⟨-1, rfl, by rw [HB.out]; rfl, _, rfl⟩
theorem contains_any (fid : FuncId) (hF : ∀ xs w, (callFunc fid xs).run Tryz.prog w = .ok (Next.enter fid xs) w) (cap : Value) (P : Nat → Bool) (a : Option Addr) (c len : Nat) (l : List Nat) (w : World) (hl : l.length = len) (hlm : len ≤ 140737488351232) (hs : SlN w .u32 a l)
    (HC : ∀ x ∈ l, ∀ k, Calls Tryz.prog fid #[.int .u32 (x : Int), cap] (w.drewN k) fun e w' => e = .returned (.bool (P x)) ∧ ∃ m, w' = (w.drewN k).drewN m) :
    Calls Tryz.prog 77 #[.slice a len c, .func (.func fid) #[] #[cap]] w fun e w' => e = .returned (.bool (l.any P)) ∧ ∃ k, w' = w.drewN k := by
  have HX := Lib.hid (index_any fid hF cap P a c len l w hl hlm hs HC)
  clear hl HC hF
  go_enter Tryz.func77, Tryz.ntmps77
  go_wp2_with fail
  refine HX.out.mono ?_
  rintro e w1 ⟨r, rfl, hr1, k1, rfl⟩
  have HR1 := Lib.hid hr1; clear hr1
  go_wp2_with fail
  go_ret
  exact ⟨by rw [← HR1.out]; rfl, _, rfl⟩


theorem u64_info2 : (Tryz.prog.info? 66).map (fun i => (i.zero, i.size, i.bytes)) = some (some (.int .u64 0), 1, 8) := by kernel_rfl

def NewWords (l : List Nat) (n : Nat) (w : World) (e : Ending) (w' : World) : Prop := ∃ a c, e = .returned (.tuple #[.slice a n c, .int .i64 0]) ∧ Own w' 66 a n c (nats .u64 l) ∧ Stepped w w' [] (ft a)
end Go.Proofs.YtnjoklcddodfeaaGreatDoor

namespace Go.Proofs.YtnjoklcddodfeaaGreatDoor
open Go.ChangeShapes Go.WideShapes Go.ChangeAt Go.RowKit
open Go.Maps (Keyed)
open Go.WideMaps
set_option linter.unusedVariables false

variable {w w' : World} {q p : Nat} {R F S : List Nat} {g : Gr}
set_option maxHeartbeats 800000 in
theorem ref_there (hg : RefAt w q R g) (hm : g.nodes.length ≤ 90000) (a : Option Addr) (c n : Nat) (l : List Nat) (hl : l.length = n) (hn : n ≤ 1000000) (hs : SlN w .u32 a l) (hok : ∀ x ∈ l, g.ok x) :
    Calls Tryz.prog 86 #[.pointer (some ⟨q, 0, none⟩), .slice a n c] w fun e w' => e = .returned (.bool true) ∧ ∃ k, w' = w.drewN k := by
  obtain ⟨an, cn, rfl, hc⟩ := hg
  have c2 := hc.c2
  have HL := Lib.hid hl
  have HS := Lib.hid hs
  have HOK := Lib.hid hok
  clear hc hl hs hok
  go_enter Tryz.func86, Tryz.ntmps86
  go_wp2_with fail
  go_loopw [5] (fun i wr => ∃ k m : Nat, k ≤ n ∧ i = .int .i64 k ∧ wr = w.drewN m) (fun i _ => n - (intOf i).toNat)
  case atStart => exact ⟨0, 0, Nat.zero_le _, rfl, rfl⟩
  case round =>
    obtain ⟨k, m, hk, rfl, rfl⟩ := hrel
    by_cases hlt : k < n
    · have hkl : k < l.length := by rw [HL.out]; exact hlt
      obtain ⟨ad, rfl, hcx⟩ := HS.out k hkl
      have hx := HOK.out _ (List.getElem_mem hkl)
      unfold Gr.ok at hx
      generalize l[k] = x at *
      have b1 : (x : Int) / 2 < (g.nodes.length : Int) := by omega
      have t1 : decide ((g.nodes.length : Int) ≤ (x : Int) / 2) = false := by simp; omega
      have t2 : decide (g.nodes.length ≤ x / 2) = false := by simp; omega
      go_wp2_with fail
      go_quiet (fail)
      go_wp2_with fail
      go_roundw
      case rel => exact ⟨k + 1, _, by omega, by go_num, rfl⟩
      case measure => simp [intOf]; omega
    · go_wp2_with fail
      go_ret
      exact ⟨rfl, m, rfl⟩

/-! ### The program's graph and the document's, side by side -/
theorem ref_apart {w1 w2 : World} {G G' : List Nat} (hg : RefAt w1 q R g) (hd : ∀ x ∈ R, x ∉ G) (hst : Stepped w1 w2 G G') : RefAt w2 q R g ∧ ∀ x ∈ R, x ∉ G' :=
  ⟨hg.kept hst.kept hd, fun x hx hf => by
    rcases hst.fresh x hf with h | h
    · exact hd x hx h
    · have := hg.lt x hx; omega⟩
theorem graph_apart {w1 w2 : World} {G G' : List Nat} (hg : GraphAt w1 p F g) (hd : ∀ x ∈ F, x ∉ G) (hst : Stepped w1 w2 G G') : GraphAt w2 p F g ∧ ∀ x ∈ F, x ∉ G' :=
  ⟨hg.kept hst.kept hd, fun x hx hf => by
    rcases hst.fresh x hf with h | h
    · exact hd x hx h
    · have := hg.lt x hx; omega⟩
structure Both (w0 w : World) (p : Nat) (F : List Nat) (q : Nat) (R : List Nat) (g : Gr) : Prop where
  graph : GraphAt w p F g
  ref : RefAt w q R g
  apart : ∀ x ∈ F, x ∉ R
  kept : Kept [] w0 w
  newF : ∀ x ∈ F, w0.heap.size ≤ x
  newR : ∀ x ∈ R, w0.heap.size ≤ x
theorem Both.kept0 {w0 w w' : World} {F R : List Nat} (h : Both w0 w p F q R g) (hk : Kept [] w w') : Both w0 w' p F q R g := ⟨h.graph.kept0 hk, h.ref.kept0 hk, h.apart, h.kept.trans hk, h.newF, h.newR⟩
/-- one step of each -/
theorem Both.step {w0 w w1 w2 : World} {F F' R R' : List Nat} {g' : Gr} (h : Both w0 w p F q R g) (h1 : GraphAt w1 p F' g') (s1 : Stepped w w1 F F') (h2 : RefAt w2 q R' g') (s2 : Stepped w1 w2 R R') : Both w0 w2 p F' q R' g' := by
  have a1 := ref_apart h.ref (fun x hx hf => h.apart x hf hx) s1
  have a2 := graph_apart h1 (fun x hx hf => a1.2 x hf hx) s2
  refine ⟨a2.1, h2, a2.2, ?_, ?_, ?_⟩
  · exact kept_up (kept_up h.kept s1.kept h.newF) s2.kept h.newR
  · intro x hx
    rcases s1.fresh x hx with h3 | h3
    · exact h.newF x h3
    · exact Nat.le_trans h.kept.size h3
  · intro x hx
    rcases s2.fresh x hx with h3 | h3
    · exact h.newR x h3
    · exact Nat.le_trans (Nat.le_trans h.kept.size s1.kept.size) h3
end Go.Proofs.YtnjoklcddodfeaaGreatDoor
