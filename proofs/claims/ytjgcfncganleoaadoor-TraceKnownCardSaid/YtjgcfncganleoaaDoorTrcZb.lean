/-
  Package trace: Get.
-/
import Derived.Test.YtjgcfncganleoaaDoorTrcZ
namespace Go.Proofs.YtjgcfncganleoaaDoor
open Go.ChangeShapes Go.WideShapes Go.ChangeAt Go.RowKit
set_option linter.unusedVariables false
set_option linter.unusedSimpArgs false

variable {w w' w1 W : World}
/-- a text where it lies -/
structure TxtAt (w : World) (a : Option Addr) (c : Nat) (s : List UInt8) : Prop where
  txt : ∀ k (h : k < s.length), ∃ ad, a = some ad ∧ w.cell? (ad.add k) = some (.int .u8 (s[k].toNat : Int))
  cp : s.length ≤ c
theorem TxtAt.kept {a : Option Addr} {c : Nat} {s : List UInt8} {S : List Nat} (h : TxtAt w a c s) (hk : Kept S w w') (hS : ∀ b ∈ ft a, b ∉ S) : TxtAt w' a c s :=
  ⟨fun k hk' => by obtain ⟨ad, rfl, x0⟩ := h.txt k hk'; exact ⟨ad, rfl, hk.cell x0 (by rw [add_block]; exact hS _ (by simp [ft]))⟩, h.cp⟩
theorem TxtAt.al {a : Option Addr} {c : Nat} {s : List UInt8} (h : TxtAt w a c s) (hs : s ≠ []) : ∀ b ∈ ft a, b < w.heap.size := fun b hb => by
  obtain ⟨ad, rfl, x0⟩ := h.txt 0 (List.length_pos_iff.2 hs)
  have := World.block_lt_of_cell? w (ad.add 0) x0
  rw [add_block] at this
  simp [ft] at hb
  omega
/-- what Get ends in -/
def GetPost (r : Except Nat Tb) (w : World) (e : Ending) (w' : World) : Prop := match r with
  | .error k => e = .returned (.tuple #[.agg #[.slice none 0 0, .slice none 0 0], .int .i64 (k : Int)]) ∧ Kept [] w w'
  | .ok t => ∃ ba bc ra rn rc wl, e = .returned (.tuple #[.agg #[.slice ba t.bs.length bc, .slice ra rn rc], .int .i64 0]) ∧ TabN w' ba t.bs.length bc ra rn rc t wl ∧ Kept [] w w' ∧ (∀ b ∈ ft ba, w.heap.size ≤ b) ∧ (∀ b ∈ ft ra, w.heap.size ≤ b) ∧ (∀ b ∈ wrBlocks wl, w.heap.size ≤ b)
theorem res_cells {p q : Nat} {x y : Value} {A B C : Value} (h1 : w.heap[p]? = some (.cells #[x, y] 25 (0, 0))) {z : Value} (h2 : w.heap[q]? = some (.cells #[z] 45 (0, 0))) (hpq : p ≠ q) :
    let W := ((w.setCell ⟨p, 0, none⟩ A).setCell ⟨p, 1, none⟩ B).setCell ⟨q, 0, none⟩ C
    W.cell? ⟨p, 0, none⟩ = some A ∧ W.cell? ⟨p, 1, none⟩ = some B ∧ W.cell? ⟨q, 0, none⟩ = some C ∧ Kept [p, q] w W := by
  intro W
  have b1 := blk_set h1 0 A
  have b2 := blk_set (by simpa using b1) 1 B
  have b3 : ((w.setCell ⟨p, 0, none⟩ A).setCell ⟨p, 1, none⟩ B).heap[p]? = some (.cells #[A, B] 25 (0, 0)) := by simpa using b2
  have k1 : Kept [p] w ((w.setCell ⟨p, 0, none⟩ A).setCell ⟨p, 1, none⟩ B) := ((Kept.refl [p] w).setCell (p := ⟨p, 0, none⟩) (.inl (by simp)) _).setCell (p := ⟨p, 1, none⟩) (.inl (by simp)) _
  have k2 : Kept [q] ((w.setCell ⟨p, 0, none⟩ A).setCell ⟨p, 1, none⟩ B) W := (Kept.refl [q] _).setCell (p := ⟨q, 0, none⟩) (.inl (by simp)) _
  have b4 := k2.heap b3 (by simpa using hpq)
  have b5 := blk_set (k1.heap h2 (by simpa using Ne.symm hpq)) 0 C
  have b6 : W.heap[q]? = some (.cells #[C] 45 (0, 0)) := by simpa using b5
  exact ⟨blk_cell b4 0, blk_cell b4 1, blk_cell b6 0, (k1.more (by simp)).trans (k2.more (by simp))⟩
set_option maxHeartbeats 3200000 in
set_option maxRecDepth 100000 in
theorem get_c {a : Option Addr} {c : Nat} {s : List UInt8} (w : World) (h : TxtAt w a c s) :
    Calls Tryd.prog 29 #[.slice a s.length c] w (GetPost (getT s) w) := by
  have hmf : ∀ (fn : Fn) (first cap : Array Value) (w : World), (Instr.makeFunc fn first cap).run Tryd.prog w = .ok (.func fn first cap) w := fun _ _ _ _ => rfl
  have HH := Lib.hid h
  have KZ := Lib.hid (show Kept [] w ((w.alloc (.cells #[.slice none 0 0, .slice none 0 0] 25)).alloc (.cells #[.int .i64 0] 45)) from ((Kept.refl [] w).alloc _).alloc _)
  have HP := Lib.hid (show ((w.alloc (.cells #[.slice none 0 0, .slice none 0 0] 25)).alloc (.cells #[.int .i64 0] 45)).heap[w.heap.size]? = some (.cells #[.slice none 0 0, .slice none 0 0] 25 (0, 0)) from ((Kept.refl [] _).alloc _).heap (heap_new w _) (by simp))
  have HQ := Lib.hid (show ((w.alloc (.cells #[.slice none 0 0, .slice none 0 0] 25)).alloc (.cells #[.int .i64 0] 45)).heap[w.heap.size + 1]? = some (.cells #[.int .i64 0] 45 (0, 0)) from by
    have := heap_new (w.alloc (.cells #[.slice none 0 0, .slice none 0 0] 25)) (.cells #[.int .i64 0] 45)
    simpa using this)
  by_cases hl : 16777216 < s.length
  · have HG := Lib.hid (show getT s = .error 3 from by unfold getT; rw [if_pos hl])
    have hli : (16777216 : Int) < (s.length : Int) := by omega
    clear h
    generalize s.length = n at *
    go_enter_defers Tryd.func29, Tryd.ntmps29
    go_wp2_with fail
    refine ⟨.tuple #[.agg #[.slice none 0 0, .slice none 0 0], .int .i64 3], by simp [results, Tryd.results29, go_sem], ?_⟩
    rw [HG.out]
    exact ⟨rfl, ((Kept.refl [] w).alloc _).alloc _⟩
  · have HG := Lib.hid (show getT s = tableT s from by unfold getT; rw [if_neg hl])
    have HR := Lib.hid (show RdAt (((w.alloc (.cells #[.slice none 0 0, .slice none 0 0] 25)).alloc (.cells #[.int .i64 0] 45)).alloc (.cells #[.slice a s.length c, .int .i64 0] 101)) (w.heap.size + 1 + 1) a c s 0 from by
      have h1 := (h.kept KZ.out (by simp)).kept ((Kept.refl [] ((w.alloc (.cells #[.slice none 0 0, .slice none 0 0] 25)).alloc (.cells #[.int .i64 0] 45))).alloc (.cells #[.slice a s.length c, .int .i64 0] 101)) (by simp)
      refine ⟨?_, h1.txt, by omega, Nat.zero_le _, fun hs hm => by have := h.al hs _ hm; omega, h.cp⟩
      have := heap_new ((w.alloc (.cells #[.slice none 0 0, .slice none 0 0] 25)).alloc (.cells #[.int .i64 0] 45)) (.cells #[.slice a s.length c, .int .i64 0] 101)
      simpa using this)
    have HT := Lib.hid (table_c _ HR.out)
    have hlm : s.length ≤ 16777216 := by omega
    have hle : ¬ (16777216 : Int) < (s.length : Int) := by omega
    clear h hl
    obtain ⟨n, hn⟩ : ∃ n, n = s.length := ⟨_, rfl⟩
    rw [← hn] at HT hlm hle ⊢
    clear HR hn
    go_enter_defers Tryd.func29, Tryd.ntmps29
    go_wp2_with fail
    refine HT.out.mono ?_
    intro e w1 hp
    rw [List.drop_zero] at hp
    rcases e1 : tableT s with k | t
    · rw [e1] at hp
      obtain ⟨rfl, k1⟩ := hp
      have K1 := Lib.hid k1
      have E1 := Lib.hid (show getT s = .error k from by rw [HG.out, e1])
      clear e1 k1
      go_wp2_with fail
      refine leaves_cons (f := 56) (args := #[.pointer (some ⟨w.heap.size, 0, none⟩), .pointer (some ⟨w.heap.size + 1, 0, none⟩)]) (by simp) (by simp [go_sem]) ?_
      have hb1 := K1.out.heap (((Kept.refl [] _).alloc _).heap HP.out (by simp)) (by simp; omega)
      have hb2 := K1.out.heap (((Kept.refl [] _).alloc _).heap HQ.out (by simp)) (by simp)
      refine (get1_pan w.heap.size (w.heap.size + 1) k [] w1 hb1 hb2 (by omega)).mono ?_
      rintro e u' w'' ⟨rfl, rfl, rfl⟩
      obtain ⟨r0, r1, r2, r3⟩ := res_cells (A := .slice none 0 0) (B := .slice none 0 0) (C := .int .i64 (k : Int)) hb1 hb2 (by omega)
      change Leaves _ _ _ _ [] .returning _
      refine ⟨.tuple #[.agg #[.slice none 0 0, .slice none 0 0], .int .i64 (k : Int)], by simp only [results, Tryd.results29]; simp [r0, r1, r2, go_sem], ?_⟩
      rw [E1.out]
      exact ⟨rfl, kept_mix (KZ.out.trans ((Kept.refl [] _).alloc (.cells #[.slice a n c, .int .i64 0] 101))) ((K1.out.more (F' := [w.heap.size + 1 + 1, w.heap.size, w.heap.size + 1]) (by simp)).trans (r3.more (by simp))) (by simp; omega)⟩
    · rw [e1] at hp
      obtain ⟨ba, bc, ra, rn, rc, wl, rfl, htn, k1, f1, f2, f3⟩ := hp
      have K1 := Lib.hid k1
      have E1 := Lib.hid (show getT s = .ok t from by rw [HG.out, e1])
      clear e1 k1
      have hb1 := K1.out.heap (((Kept.refl [] _).alloc _).heap HP.out (by simp)) (by simp; omega)
      have hb2 := K1.out.heap (((Kept.refl [] _).alloc _).heap HQ.out (by simp)) (by simp)
      have c0 : w1.cell? ⟨w.heap.size, 0, none⟩ = some (.slice none 0 0) := blk_cell hb1 0
      have c1 : w1.cell? ⟨w.heap.size, 1, none⟩ = some (.slice none 0 0) := blk_cell hb1 1
      have c2 : w1.cell? ⟨w.heap.size + 1, 0, none⟩ = some (.int .i64 0) := blk_cell hb2 0
      have z0 := blk_free hb1 0
      have z1 := blk_free hb1 1
      have z2 := blk_free hb2 0
      have B1 := Lib.hid hb1
      have B2 := Lib.hid hb2
      have HTN := Lib.hid htn
      have HF := Lib.hid (And.intro f1 (And.intro f2 f3))
      clear hb1 hb2 htn f1 f2 f3
      go_wp2_with fail
      refine leaves_cons (f := 56) (args := #[.pointer (some ⟨w.heap.size, 0, none⟩), .pointer (some ⟨w.heap.size + 1, 0, none⟩)]) (by simp) (by simp [go_sem]) ?_
      refine (get1_idle _ _ _).mono ?_
      rintro e u' w'' ⟨rfl, rfl, rfl⟩
      obtain ⟨r0, r1, r2, r3⟩ := res_cells (A := .slice ba t.bs.length bc) (B := .slice ra rn rc) (C := .int .i64 0) B1.out B2.out (by omega)
      change Leaves _ _ _ _ [] .returning _
      refine ⟨.tuple #[.agg #[.slice ba t.bs.length bc, .slice ra rn rc], .int .i64 0], by simp only [results, Tryd.results29]; simp [r0, r1, r2, go_sem], ?_⟩
      rw [E1.out]
      have hz : (((w.alloc (.cells #[.slice none 0 0, .slice none 0 0] 25)).alloc (.cells #[.int .i64 0] 45)).alloc (.cells #[.slice a n c, .int .i64 0] 101)).heap.size = w.heap.size + 3 := by simp
      refine ⟨ba, bc, ra, rn, rc, wl, rfl, HTN.out.kept r3 (fun b hb => ?_), kept_mix (KZ.out.trans ((Kept.refl [] _).alloc (.cells #[.slice a n c, .int .i64 0] 101))) ((K1.out.more (F' := [w.heap.size + 1 + 1, w.heap.size, w.heap.size + 1]) (by simp)).trans (r3.more (by simp))) (by simp; omega), fun b hb => by have := HF.out.1 b hb; omega, fun b hb => by have := HF.out.2.1 b hb; omega, fun b hb => by have := HF.out.2.2 b hb; omega⟩
      simp only [List.mem_append] at hb
      have : w.heap.size + 3 ≤ b := by
        rcases hb with hb | hb | hb
        · have := HF.out.1 b hb; omega
        · have := HF.out.2.1 b hb; omega
        · have := HF.out.2.2 b hb; omega
      simp
      omega
end Go.Proofs.YtjgcfncganleoaaDoor
