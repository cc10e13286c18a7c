/-
  Package orreryref03: literals that are there; Raw. Two graphs side by side.
-/
import Derived.Test.YthjaihmjdnijnaaRefAnd
import Derived.Test.YthjaihmjdnijnaaCone
namespace Go.Proofs.Ythjaihmjdnijnaa
open Go.ChangeShapes Go.WideShapes Go.ChangeAt Go.RowKit
open Go.Maps (Keyed)
open Go.WideMaps
set_option linter.unusedVariables false

variable {w w' : World} {q p : Nat} {R F S : List Nat} {g : Gr}
set_option maxHeartbeats 800000 in
theorem ref_there (hg : RefAt w q R g) (hm : g.nodes.length ≤ 90000) (a : Option Addr) (c n : Nat) (l : List Nat) (hl : l.length = n) (hn : n ≤ 1000000) (hs : SlN w .u32 a l) (hok : ∀ x ∈ l, g.ok x) :
    Calls Try.prog 62 #[.pointer (some ⟨q, 0, none⟩), .slice a n c] w fun e w' => e = .returned (.bool true) ∧ ∃ k, w' = w.drewN k := by
  obtain ⟨an, cn, rfl, hc⟩ := hg
  have c2 := hc.c2
  have HL := Lib.hid hl
  have HS := Lib.hid hs
  have HOK := Lib.hid hok
  clear hc hl hs hok
  go_enter Try.func62, Try.ntmps62
  go_wp2_with fail
  go_loopw [5] (fun i wr => ∃ k m : Nat, k ≤ n ∧ i = .int .i64 k ∧ wr = w.drewN m) (fun i _ => n - (intOf i).toNat)
  case atStart => exact ⟨0, 0, Nat.zero_le _, rfl, rfl⟩
  case round =>
    obtain ⟨k, m, hk, rfl, rfl⟩ := hrel
    by_cases hlt : k < n
    · have hkl : k < l.length := by rw [HL.out]; exact hlt
      obtain ⟨ad, rfl, hcx⟩ := HS.out k hkl
      have hx := HOK.out _ (List.getElem_mem hkl)
      unfold Gr.ok at hx
      generalize l[k] = x at *
      have b1 : (x : Int) / 2 < (g.nodes.length : Int) := by omega
      have t1 : decide ((g.nodes.length : Int) ≤ (x : Int) / 2) = false := by simp; omega
      have t2 : decide (g.nodes.length ≤ x / 2) = false := by simp; omega
      go_wp2_with fail
      go_quiet (fail)
      go_wp2_with fail
      go_roundw
      case rel => exact ⟨k + 1, _, by omega, by go_num, rfl⟩
      case measure => simp [intOf]; omega
    · go_wp2_with fail
      go_ret
      exact ⟨rfl, m, rfl⟩
set_option maxHeartbeats 800000 in
theorem ref_raw {a b : Nat} (hg : RefAt w q R g) (hm : g.nodes.length ≤ 90000) (ha : g.ok a) (hb : g.ok b) : Calls Try.prog 35 #[.pointer (some ⟨q, 0, none⟩), .int .u32 a, .int .u32 b] w (RefPost (gateG g a b) w q R) := by
  have hk := (Kept.refl [] w).alloc (.cells #[.int .u32 (a : Int), .int .u32 (b : Int)] 36)
  have HT := Lib.hid (ref_there (hg.kept0 hk) hm (some ⟨w.heap.size, 0, none⟩) 2 2 [a, b] rfl (by omega) (sln_new w .u32 [a, b] 36) (by simp [ha, hb]))
  have HG := Lib.hid (fun k => ref_gate ((hg.kept0 hk).kept0 ((Kept.refl [] _).drewN k)) (by omega) ha hb)
  clear hg ha hb hk
  generalize gateG g a b = r at *
  go_enter Try.func35, Try.ntmps35
  go_wp2_with fail
  refine HT.out.mono ?_
  rintro e w' ⟨rfl, k, rfl⟩
  go_wp2_with fail
  refine (HG.out k).mono ?_
  rintro e w1 ⟨R', rfl, h1, h2⟩
  go_wp2_with fail
  go_ret2
  exact ⟨R', rfl, h1, ((((Stepped.refl w R).alloc _).drewN k).trans h2)⟩

/-! ### The program's graph and the document's, side by side -/
theorem ref_apart {w1 w2 : World} {G G' : List Nat} (hg : RefAt w1 q R g) (hd : ∀ x ∈ R, x ∉ G) (hst : Stepped w1 w2 G G') : RefAt w2 q R g ∧ ∀ x ∈ R, x ∉ G' :=
  ⟨hg.kept hst.kept hd, fun x hx hf => by
    rcases hst.fresh x hf with h | h
    · exact hd x hx h
    · have := hg.lt x hx; omega⟩
theorem graph_apart {w1 w2 : World} {G G' : List Nat} (hg : GraphAt w1 p F g) (hd : ∀ x ∈ F, x ∉ G) (hst : Stepped w1 w2 G G') : GraphAt w2 p F g ∧ ∀ x ∈ F, x ∉ G' :=
  ⟨hg.kept hst.kept hd, fun x hx hf => by
    rcases hst.fresh x hf with h | h
    · exact hd x hx h
    · have := hg.lt x hx; omega⟩
structure Both (w0 w : World) (p : Nat) (F : List Nat) (q : Nat) (R : List Nat) (g : Gr) : Prop where
  graph : GraphAt w p F g
  ref : RefAt w q R g
  apart : ∀ x ∈ F, x ∉ R
  kept : Kept [] w0 w
  newF : ∀ x ∈ F, w0.heap.size ≤ x
  newR : ∀ x ∈ R, w0.heap.size ≤ x
theorem Both.kept0 {w0 w w' : World} {F R : List Nat} (h : Both w0 w p F q R g) (hk : Kept [] w w') : Both w0 w' p F q R g := ⟨h.graph.kept0 hk, h.ref.kept0 hk, h.apart, h.kept.trans hk, h.newF, h.newR⟩
/-- one step of each -/
theorem Both.step {w0 w w1 w2 : World} {F F' R R' : List Nat} {g' : Gr} (h : Both w0 w p F q R g) (h1 : GraphAt w1 p F' g') (s1 : Stepped w w1 F F') (h2 : RefAt w2 q R' g') (s2 : Stepped w1 w2 R R') : Both w0 w2 p F' q R' g' := by
  have a1 := ref_apart h.ref (fun x hx hf => h.apart x hf hx) s1
  have a2 := graph_apart h1 (fun x hx hf => a1.2 x hf hx) s2
  refine ⟨a2.1, h2, a2.2, ?_, ?_, ?_⟩
  · exact kept_up (kept_up h.kept s1.kept h.newF) s2.kept h.newR
  · intro x hx
    rcases s1.fresh x hx with h3 | h3
    · exact h.newF x h3
    · exact Nat.le_trans h.kept.size h3
  · intro x hx
    rcases s2.fresh x hx with h3 | h3
    · exact h.newR x h3
    · exact Nat.le_trans (Nat.le_trans h.kept.size s1.kept.size) h3
end Go.Proofs.Ythjaihmjdnijnaa
