/-
  Package trace: Get's reader: what it reads next.
-/
import Derived.Test.YtjgcfncganleoaaDoorTrcN
namespace Go.Proofs.YtjgcfncganleoaaDoor
open Go.ChangeShapes Go.WideShapes Go.ChangeAt Go.RowKit
set_option linter.unusedVariables false
set_option linter.unusedSimpArgs false

variable {w w' w1 W : World}
theorem add_block (ad : Addr) (k : Nat) : (ad.add k).block = ad.block := by unfold Addr.add; split <;> rfl
/-- a reader at block q: the text and how far it was read -/
structure RdAt (w : World) (q : Nat) (a : Option Addr) (c : Nat) (s : List UInt8) (pos : Nat) : Prop where
  blk : w.heap[q]? = some (.cells #[.slice a s.length c, .int .i64 (pos : Int)] 101 (0, 0))
  txt : ∀ k (h : k < s.length), ∃ ad, a = some ad ∧ w.cell? (ad.add k) = some (.int .u8 (s[k].toNat : Int))
  len : s.length ≤ 16777216
  pos : pos ≤ s.length
  ap : s ≠ [] → q ∉ ft a
  cp : s.length ≤ c
theorem RdAt.kept {q c pos : Nat} {a : Option Addr} {s : List UInt8} (h : RdAt w q a c s pos) (hk : Kept [] w w') : RdAt w' q a c s pos :=
  ⟨hk.heap h.blk (by simp), fun k hk' => by obtain ⟨ad, rfl, x0⟩ := h.txt k hk'; exact ⟨ad, rfl, hk.cell x0 (by simp)⟩, h.len, h.pos, h.ap, h.cp⟩
theorem ne_of_lt {s : List UInt8} {k : Nat} (h : k < s.length) : s ≠ [] := by rintro rfl; simp at h
theorem RdAt.al {q c pos : Nat} {a : Option Addr} {s : List UInt8} (h : RdAt w q a c s pos) (hs : s ≠ []) : ∀ b ∈ ft a, b < w.heap.size := fun b hb => by
  obtain ⟨ad, rfl, x0⟩ := h.txt 0 (List.length_pos_iff.2 hs)
  have := World.block_lt_of_cell? w (ad.add 0) x0
  rw [add_block] at this
  simp [ft] at hb
  omega
/-- read one further -/
theorem RdAt.step {q c pos : Nat} {a : Option Addr} {s : List UInt8} (h : RdAt w q a c s pos) (hp : pos < s.length) : RdAt (w.setCell ⟨q, 1, none⟩ (.int .i64 ((pos + 1 : Nat) : Int))) q a c s (pos + 1) :=
  ⟨by simpa using blk_set h.blk 1 (.int .i64 ((pos + 1 : Nat) : Int)), fun k hk' => by
    obtain ⟨ad, rfl, x0⟩ := h.txt k hk'
    exact ⟨ad, rfl, ((Kept.refl [q] w).setCell (p := ⟨q, 1, none⟩) (.inl (by simp)) _).cell x0 (fun hm => h.ap (ne_of_lt hk') (by simp [ft] at hm ⊢; rw [add_block] at hm; exact hm.symm))⟩, h.len, by omega, h.ap, h.cp⟩
set_option maxHeartbeats 3200000 in
set_option maxRecDepth 100000 in
theorem next_c {q c pos : Nat} {a : Option Addr} {s : List UInt8} (w : World) (h : RdAt w q a c s pos) (hp : pos < s.length) :
    Calls Tryd.prog 102 #[.pointer (some ⟨q, 0, none⟩)] w fun e w' => e = .returned (.int .u8 (s[pos].toNat : Int)) ∧ Kept [] w w' := by
  have c0 : w.cell? ⟨q, 0, none⟩ = some (.slice a s.length c) := blk_cell h.blk 0
  have c1 : w.cell? ⟨q, 1, none⟩ = some (.int .i64 (pos : Int)) := blk_cell h.blk 1
  obtain ⟨ad, rfl, x0⟩ := h.txt pos hp
  have hl := h.len
  generalize s[pos].toNat = b at *
  generalize s.length = n at *
  have hne : ¬ ((pos : Int) = (n : Int)) := by omega
  have hne2 : ¬ (pos = n) := by omega
  clear h
  go_enter Tryd.func102, Tryd.ntmps102
  go_wp2_with fail
  go_region
  go_wp2_with fail
  go_region
  go_wp2_with fail
  go_ret
  exact ⟨rfl, ((Kept.refl [] w).drew).drew⟩
set_option maxHeartbeats 3200000 in
set_option maxRecDepth 100000 in
/-- at the end of the text it panics: ErrShort -/
theorem next_end {q c : Nat} {a : Option Addr} {s : List UInt8} (w : World) (h : RdAt w q a c s s.length) :
    Calls Tryd.prog 102 #[.pointer (some ⟨q, 0, none⟩)] w fun e w' => e = .panicked [{ v := .iface 45 (.int .i64 4), recovered := false }] ∧ Kept [] w w' := by
  have c0 : w.cell? ⟨q, 0, none⟩ = some (.slice a s.length c) := blk_cell h.blk 0
  have c1 : w.cell? ⟨q, 1, none⟩ = some (.int .i64 (s.length : Int)) := blk_cell h.blk 1
  have hl := h.len
  clear h
  generalize s.length = n at *
  go_enter Tryd.func102, Tryd.ntmps102
  go_wp2_with fail
  go_region
  go_wp2_with fail
  refine ⟨rfl, ?_⟩
  exact ⟨rfl, (Kept.refl [] w).drew⟩
set_option maxHeartbeats 3200000 in
set_option maxRecDepth 100000 in
/-- the next of two: which of them it is, one further -/
theorem one_c {q c pos xa xb : Nat} {a : Option Addr} {s : List UInt8} (w : World) (h : RdAt w q a c s pos) (hp : pos < s.length) (hx : s[pos].toNat = xa ∨ s[pos].toNat = xb) :
    Calls Tryd.prog 78 #[.pointer (some ⟨q, 0, none⟩), .int .u8 (xa : Int), .int .u8 (xb : Int)] w fun e w' => e = .returned (.bool (decide (s[pos].toNat = xa))) ∧ RdAt w' q a c s (pos + 1) ∧ Kept [q] w w' := by
  have HN := Lib.hid (next_c w h hp)
  have HH := Lib.hid (fun W (hW : Kept [] w W) => h.kept hW)
  have hps : pos < 16777216 := by have := h.len; omega
  have HP := Lib.hid hp
  clear h
  go_enter Tryd.func78, Tryd.ntmps78
  generalize hb : s[pos].toNat = b at *
  clear hb
  go_wp2_with fail
  refine HN.out.mono ?_
  rintro e w1 ⟨rfl, k1⟩
  have K1 := Lib.hid k1
  have H1 := Lib.hid (HH.out w1 k1)
  have c1 : w1.cell? ⟨q, 1, none⟩ = some (.int .i64 (pos : Int)) := blk_cell H1.out.blk 1
  have f1 := blk_free H1.out.blk 1
  clear k1
  by_cases hxa : b = xa
  · subst hxa
    clear hx
    go_wp2_with fail
    go_ret
    exact ⟨rfl, H1.out.step HP.out, (K1.out.more (by simp)).setCell (.inl (by simp)) _⟩
  · obtain rfl : b = xb := by omega
    have hxi : ¬ (b : Int) = (xa : Int) := by omega
    clear hx
    go_wp2_with fail
    go_ret
    exact ⟨by rw [beq_eq_false_iff_ne.2 hxi, decide_eq_false hxa]; rfl, H1.out.step HP.out, (K1.out.more (by simp)).setCell (.inl (by simp)) _⟩
/-- what a panic with an Errno of the package api ends in -/
def Dies (k : Nat) (F : List Nat) (w : World) (e : Ending) (w' : World) : Prop := e = .panicked [{ v := .iface 45 (.int .i64 (k : Int)), recovered := false }] ∧ Kept F w w'
set_option maxHeartbeats 3200000 in
set_option maxRecDepth 100000 in
/-- neither of the two: ErrForm -/
theorem one_bad {q c pos xa xb : Nat} {a : Option Addr} {s : List UInt8} (w : World) (h : RdAt w q a c s pos) (hp : pos < s.length) (hx : s[pos].toNat ≠ xa ∧ s[pos].toNat ≠ xb) :
    Calls Tryd.prog 78 #[.pointer (some ⟨q, 0, none⟩), .int .u8 (xa : Int), .int .u8 (xb : Int)] w (Dies 5 [] w) := by
  have HN := Lib.hid (next_c w h hp)
  clear h
  go_enter Tryd.func78, Tryd.ntmps78
  generalize hb : s[pos].toNat = b at *
  clear hb
  go_wp2_with fail
  refine HN.out.mono ?_
  rintro e w1 ⟨rfl, k1⟩
  have K1 := Lib.hid k1
  have h1 : ¬ (b : Int) = (xa : Int) := by omega
  have h2 : ¬ (b : Int) = (xb : Int) := by omega
  have h3 : ((b : Int) != (xa : Int)) = true := bne_iff_ne.2 h1
  have h4 : ((b : Int) != (xb : Int)) = true := bne_iff_ne.2 h2
  clear k1 hx
  go_wp2_with fail
  refine ⟨rfl, ?_⟩
  exact ⟨rfl, K1.out⟩
set_option maxHeartbeats 3200000 in
set_option maxRecDepth 100000 in
/-- the text is at its end: ErrShort -/
theorem one_end {q c xa xb : Nat} {a : Option Addr} {s : List UInt8} (w : World) (h : RdAt w q a c s s.length) :
    Calls Tryd.prog 78 #[.pointer (some ⟨q, 0, none⟩), .int .u8 (xa : Int), .int .u8 (xb : Int)] w (Dies 4 [] w) := by
  have HN := Lib.hid (next_end w h)
  clear h
  go_enter Tryd.func78, Tryd.ntmps78
  go_wp2_with fail
  refine HN.out.mono ?_
  rintro e w1 ⟨rfl, k1⟩
  have K1 := Lib.hid k1
  clear k1
  go_wp2_with fail
  refine ⟨rfl, ?_⟩
  exact ⟨rfl, K1.out⟩
end Go.Proofs.YtjgcfncganleoaaDoor
