/-
  ConeWords, the math: what a copy over any literals of any graph keeps, and its words.
-/
import Derived.Test.YthjaihmjdnijnaaConeWordsA
namespace Go.Proofs.Ythjaihmjdnijnaa
open Go.ChangeShapes Go.WideShapes Go.ChangeAt Go.RowKit
set_option linter.unusedVariables false
set_option linter.unusedSimpArgs false

variable {C G : Gr} {bys X inp : List Nat}
/-- the row over which it is copied -/
def byL (L : List Nat) (c k : Nat) : List Nat := (List.range k).map fun i => L.getD i 0 % (2 * c)
theorem byL_succ (L : List Nat) (c k : Nat) : byL L c (k + 1) = byL L c k ++ [L.getD k 0 % (2 * c)] := by unfold byL; rw [List.range_succ, List.map_append]; rfl
theorem byL_length (L : List Nat) (c k : Nat) : (byL L c k).length = k := by simp [byL]
theorem byL_ok (hw : WF C.nodes) (L : List Nat) (k : Nat) : ∀ x ∈ byL L C.nodes.length k, C.ok x := fun x hx => by
  obtain ⟨i, _, rfl⟩ := List.mem_map.1 hx
  exact mod_ok hw _
theorem gateA_pre {g g' : Gr} {c : Nat} (h : Ext c g g') {k : Nat} (hk : k < g.nodes.length) : gateA g' (k : Int) = gateA g (k : Int) := by
  obtain ⟨m, h1, _⟩ := h.pre
  have e : g'.nodes.getD k (0, 0) = g.nodes.getD k (0, 0) := by rw [h1, List.getD_eq_getElem?_getD, List.getD_eq_getElem?_getD, List.getElem?_append_left hk]
  have hl : g.nodes.length ≤ g'.nodes.length := by rw [h1, List.length_append]; omega
  rw [gateA_nat, gateA_nat]
  unfold gAt gA gB
  rw [e]
  have e2 : (1 ≤ k ∧ k < g'.nodes.length ∧ (g.nodes.getD k (0, 0)).1 / 2 ≠ k) = (1 ≤ k ∧ k < g.nodes.length ∧ (g.nodes.getD k (0, 0)).1 / 2 ≠ k) := by
    apply propext; constructor <;> rintro ⟨h1, _, h3⟩ <;> exact ⟨h1, by omega, h3⟩
  simp only [e2]
structure CW (C G : Gr) (bys X : List Nat) (r : Gr × List Nat) : Prop where
  words : ∀ inp, Words inp → (X.map (overL r.2)).map (lw inp r.1) = X.map (lw (bys.map (lw inp r.1)) G)
  ins : ins r.1.nodes = ins C.nodes
  gates : ∀ k, k < C.nodes.length → gateA r.1 (k : Int) = gateA C (k : Int)
  most : gatesN r.1 - gatesN C ≤ ((reachL G.nodes X).length : Int) - ((supportL G.nodes X).length : Int)
  low : C.nodes.length ≤ r.1.nodes.length
  high : r.1.nodes.length ≤ C.nodes.length + G.nodes.length
  wf : WF r.1.nodes
  row : ∀ x ∈ X.map (overL r.2), r.1.ok x
  bys : ∀ x ∈ bys, r.1.ok x
theorem copyCW (hc : WF C.nodes) (hg : WF G.nodes) (hb : ∀ x ∈ bys, C.ok x) (hbl : bys.length = (ins G.nodes).length) (hX : ∀ x ∈ X, G.ok x) : CW C G bys X (copyG C G bys X) := by
  have hk := copyG_ok (from_ := G) (l := X) hc hb
  have hle := hk.ext.le
  have hge : C.nodes.length ≤ (copyG C G bys X).1.nodes.length := by
    obtain ⟨m, h1, _⟩ := hk.ext.pre
    rw [h1, List.length_append]; omega
  refine ⟨fun inp hi => ?_, hk.ext.ins, fun k h => gateA_pre hk.ext h, ?_, hge, by omega, hk.wf, fun x hx => ?_, fun x hx => ?_⟩
  · have h := copy_words (bys := bys) (l := X) hi hc hg hb hbl hX
    have e : bys.map (lw inp (copyG C G bys X).1) = bys.map (lw inp C) := List.map_congr_left fun x hx => lw_ext hk.ext (hb x hx)
    rw [e, ← h, List.map_map]; rfl
  · have h := copyTo_most (M := marksL G.nodes X) (start_ok hc hb G.nodes.length (ins G.nodes) (ins G.nodes).length) (ns := G.nodes) G.nodes.length
    have h3 : (copyG C G bys X).1.nodes.length ≤ C.nodes.length + (pick G.nodes.length (fun j => gAt G.nodes j && (marksL G.nodes X).getD j false)).length := h
    have hrs := reach_split G.nodes X
    unfold gatesN
    rw [hk.ext.ins]
    omega
  · obtain ⟨y, _, rfl⟩ := List.mem_map.1 hx
    exact overL_ok hk.wf hk.ok y
  · have h := hb x hx
    unfold Gr.ok at *
    omega
end Go.Proofs.Ythjaihmjdnijnaa
