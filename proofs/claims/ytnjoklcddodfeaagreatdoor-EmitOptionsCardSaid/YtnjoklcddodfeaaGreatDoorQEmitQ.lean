/-
  Law 10: EmitOptions: a graph laid anew, gate by gate; copies.
-/
import Derived.Test.YtnjoklcddodfeaaGreatDoorQEmitP
import Derived.Test.YtnjoklcddodfeaaGreatDoorQNetCopy
import Derived.Test.YtnjoklcddodfeaaGreatDoorP37
import Derived.BigRegion
namespace Go.Proofs.YtnjoklcddodfeaaGreatDoor
open Go.ChangeShapes Go.WideShapes Go.ChangeAt Go.RowKit
open Go.Maps (Keyed)
open Go.WideMaps
set_option linter.unusedVariables false
set_option linter.unusedSimpArgs false

variable {w w' W W' : World} {p n k : Nat} {F R F' R' S : List Nat} {g : Gr} {N : Nt}
/-- of other options -/
def optN (N : Nt) (a b : Bool) : Nt := { N with g := ⟨a, b, N.g.nodes⟩ }
theorem optN_fine (h : NtFine k N) (a b : Bool) : NtFine k (optN N a b) :=
  ⟨⟨h.ok.wf, h.ok.len, h.ok.ik, h.ok.rk, h.ok.ok, h.ok.il, h.ok.ol, h.ok.rl⟩, h.nm, h.ni, h.no, h.dn, h.di⟩
theorem optN_lines (N : Nt) (a b : Bool) : linesN (optN N a b) = linesN N := rfl
theorem optN_check (N : Nt) (a b : Bool) : checkN (optN N a b) = checkN N := rfl
/-- the nodes below k, of other options -/
def cutG (N : Nt) (a b : Bool) (k : Nat) : Gr := ⟨a, b, N.g.nodes.take k⟩
def cutN (N : Nt) (a b : Bool) (k : Nat) : Nt := { newN N.name a b with g := cutG N a b k }
theorem cutN_one (hw : WF N.g.nodes) (a b : Bool) : cutN N a b 1 = newN N.name a b := by
  have h := hw.zero
  have hp := hw.pos
  unfold cutN cutG
  have e : N.g.nodes.take 1 = [(0, 0)] := by
    cases hn : N.g.nodes with
    | nil => rw [hn] at hp; simp at hp
    | cons x r => rw [hn] at h; simp at h; simp [h]
  rw [e]
  rfl
theorem cut_gate (hw : WF N.g.nodes) (a b : Bool) {k x y : Nat} (h : gateAt N.g k = some (x, y)) : cutG N a b (k + 1) = (gateG (cutG N a b k) x y).1 ∧ (cutG N a b k).ok x ∧ (cutG N a b k).ok y := by
  obtain ⟨h1, h2, h3⟩ := gateAt_lt hw h
  have hx : N.g.nodes[k] = (x, y) := by
    unfold gateAt at h
    rw [List.getElem?_eq_getElem h1] at h
    simp only at h
    split at h
    · cases h
    · injection h
  refine ⟨?_, ?_, ?_⟩
  · unfold cutG gateG
    rw [List.take_succ_eq_append_getElem h1, hx]
    simp only
    rw [Nat.max_eq_left h3, Nat.min_eq_right h3]
  · unfold cutG Gr.ok; simp only [List.length_take]; omega
  · unfold cutG Gr.ok; simp only [List.length_take]; omega
theorem cut_input (hw : WF N.g.nodes) (a b : Bool) {k : Nat} (hk : k < N.g.nodes.length) (h : gateAt N.g k = none) : cutG N a b (k + 1) = (inputG (cutG N a b k)).1 := by
  have hx : N.g.nodes[k] = (2 * k, 2 * k) := by
    rcases hxy : N.g.nodes[k] with ⟨x, y⟩
    have he := hw.each k x y (by rw [List.getElem?_eq_getElem hk, hxy])
    unfold gateAt at h
    rw [List.getElem?_eq_getElem hk, hxy] at h
    simp only at h
    split at h
    · rcases he with ⟨rfl, rfl⟩ | he
      · rfl
      · omega
    · cases h
  unfold cutG inputG
  rw [List.take_succ_eq_append_getElem hk, hx]
  simp only [List.length_take]
  rw [Nat.min_eq_left (by omega)]
/-- the loop's state: the old netlist as it lay; the new one, grown -/
structure AgainAt (w0 W : World) (n : Nat) (F R : List Nat) (N : Nt) (m p : Nat) (G : List Nat) (a b : Bool) (k : Nat) : Prop where
  old : NetAt W n F R N
  kept : Kept [] w0 W
  gr : GraphAt W p G (cutG N a b k)
  new : ∀ b ∈ G, w0.heap.size ≤ b
  mnew : w0.heap.size ≤ m
  mG : m ∉ G
  blk : ∃ v2 v3 v4, W.heap[m]? = some (.cells #[.pointer (some ⟨p, 0, none⟩), .string N.name, v2, v3, v4] 36 (0, 0))
theorem AgainAt.c0 {w0 : World} {m : Nat} {G : List Nat} {a b : Bool} (h : AgainAt w0 W n F R N m p G a b k) : W.cell? ⟨m, 0, none⟩ = some (.pointer (some ⟨p, 0, none⟩)) := by
  obtain ⟨v2, v3, v4, hb⟩ := h.blk
  exact blk_cell hb 0
theorem AgainAt.keep {w0 : World} {m : Nat} {G : List Nat} {a b : Bool} (h : AgainAt w0 W n F R N m p G a b k) (hk : Kept [] W W') : AgainAt w0 W' n F R N m p G a b k := by
  obtain ⟨v2, v3, v4, hb⟩ := h.blk
  exact ⟨h.old.kept0 hk, h.kept.trans hk, h.gr.kept0 hk, h.new, h.mnew, h.mG, v2, v3, v4, hk.heap hb (by simp)⟩
theorem AgainAt.grow {w0 : World} {m : Nat} {G G' : List Nat} {a b : Bool} (h0 : ∀ x ∈ F ++ R, x < w0.heap.size) (h : AgainAt w0 W n F R N m p G a b k) (hg : GraphAt W' p G' (cutG N a b (k + 1))) (hs : Stepped W W' G G') : AgainAt w0 W' n F R N m p G' a b (k + 1) := by
  obtain ⟨v2, v3, v4, hb⟩ := h.blk
  refine ⟨h.old.kept hs.kept (fun x hx hG => ?_) (fun x hx hG => ?_), kept_up h.kept hs.kept h.new, hg, fun x hx => ?_, h.mnew, fun hm => ?_, v2, v3, v4, hs.kept.heap hb h.mG⟩
  · have := h0 x (by simp [hx]); have := h.new x hG; omega
  · have := h0 x (by simp [hx]); have := h.new x hG; omega
  · exact (hs.fresh x hx).elim (h.new x) (Nat.le_trans h.kept.size)
  · rcases hs.fresh m hm with h1 | h1
    · exact h.mG h1
    · have := (Array.getElem?_eq_some_iff.1 hb).1; omega
/-- the rows handed over -/
theorem AgainAt.done {w0 : World} {m pN : Nat} {G GN : List Nat} {a b : Bool} {ia ra oa : Option Addr} {ic rc oc : Nat} {ri ro : List BR} (h : AgainAt w0 W n F R N m p G a b N.g.nodes.length) (hc : NetC w0 n N pN GN ia ic ra rc oa oc ri ro)
    (hW : W' = (((W.setCell ⟨m, 2, none⟩ (.slice ia N.inb.length ic)).setCell ⟨m, 3, none⟩ (.slice ra N.regs.length rc)).setCell ⟨m, 4, none⟩ (.slice oa N.outb.length oc)).drew) :
    (∃ F' R', NetAt W' m F' R' (optN N a b)) ∧ Kept [] w0 W' := by
  have k0 : Kept [] w0 W' := by
    rw [hW]
    exact (((h.kept.setCell (.inr h.mnew) _).setCell (.inr h.mnew) _).setCell (.inr h.mnew) _).drew
  have km : Kept [m] W W' := by
    rw [hW]
    exact ((((Kept.refl [m] W).setCell (.inl (by simp)) _).setCell (.inl (by simp)) _).setCell (.inl (by simp)) _).drew
  obtain ⟨v2, v3, v4, hb⟩ := h.blk
  refine ⟨⟨_, _, p, G, ia, ic, ra, rc, oa, oc, ri, ro, rfl, rfl, ?_, ?_, ?_, ?_, ?_, hc.io, ?_⟩, k0⟩
  · have h1 := blk_set (blk_set (blk_set hb 2 (.slice ia N.inb.length ic)) 3 (.slice ra N.regs.length rc)) 4 (.slice oa N.outb.length oc)
    rw [hW]
    exact h1
  · have hg := h.gr.kept km (fun x hx hm => by
      rw [List.mem_singleton] at hm
      exact h.mG (hm ▸ hx))
    have e : cutG N a b N.g.nodes.length = (optN N a b).g := by unfold cutG optN; rw [List.take_length]
    rw [e] at hg
    exact hg
  · exact hc.ib.kept k0 (by simp) (by simp)
  · exact own_kept hc.rb k0 (by simp)
  · exact hc.ob.kept k0 (by simp) (by simp)
  · intro x hx hm
    have hl := hc.lt.2 x hx
    simp only [List.mem_cons, List.mem_append] at hm
    rcases hm with rfl | hm | hm
    · have := h.mnew; omega
    · have := h.new x hm; omega
    · exact hc.fr x hx (by simp only [List.mem_cons, List.mem_append]; exact .inr (.inr hm))
end Go.Proofs.YtnjoklcddodfeaaGreatDoor
