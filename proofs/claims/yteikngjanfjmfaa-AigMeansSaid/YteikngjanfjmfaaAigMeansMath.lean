/-
  What the calls of AigMeans make and mean. Plain mathematics.
-/
import Derived.Test.YteikngjanfjmfaaAigSem
namespace Go.Proofs.Yteikngjanfjmfaa

structure MeansOk (g g1 g2 g3 g4 g5 : Gr) (v1 v2 v3 v4 v5 : Nat) (b : List Nat) (c0 c1 c2 : Nat) : Prop where
  n0 : g.nodes.length ≤ 1000
  n1 : g1.nodes.length ≤ 2000
  n2 : g2.nodes.length ≤ 2000
  n3 : g3.nodes.length ≤ 2000
  n4 : g4.nodes.length ≤ 2000
  n5 : g5.nodes.length ≤ 2000
  le : g.nodes.length ≤ g5.nodes.length
  b1 : ∀ x ∈ b, g1.ok x
  b2 : ∀ x ∈ b, g2.ok x
  b5 : ∀ x ∈ b, g5.ok x
  c3 : g3.ok c0 ∧ g3.ok c1 ∧ g3.ok c2
  c4 : g4.ok c0 ∧ g4.ok c1
  vs : g5.ok v1 ∧ g5.ok v2 ∧ g5.ok v3 ∧ g5.ok v4 ∧ g5.ok v5
  ins : ins g5.nodes = ins g.nodes
  wf5 : WF g5.nodes
  pre : ∀ inp, ∃ t, valL inp g5.nodes = valL inp g.nodes ++ t
  and : ∀ inp, Words inp → lw inp g5 v1 = foldW (· &&& ·) inp g5 18446744073709551615 b
  or : ∀ inp, Words inp → lw inp g5 v2 = foldW (· ||| ·) inp g5 0 b
  xor : ∀ inp, Words inp → lw inp g5 v3 = foldW (· ^^^ ·) inp g5 0 b
  mux : ∀ inp, Words inp → lw inp g5 v4 = (lw inp g5 c0 &&& lw inp g5 c1) ||| (lw inp g5 c2 &&& noW (lw inp g5 c0))
  raw : ∀ inp, Words inp → lw inp g5 v5 = lw inp g5 c0 &&& lw inp g5 c1

theorem means_ok {g : Gr} (hw : WF g.nodes) (hm : g.nodes.length ≤ 1000) {b : List Nat} (hb : ∀ x ∈ b, g.ok x) (hl : b.length ≤ 8) {c0 c1 c2 : Nat} (h0 : g.ok c0) (h1 : g.ok c1) (h2 : g.ok c2)
    {g1 g2 g3 g4 g5 : Gr} {v1 v2 v3 v4 v5 : Nat} (E1 : manyG andG g 1 b = (g1, v1)) (E2 : manyG orG g1 0 b = (g2, v2)) (E3 : manyG xorG g2 0 b = (g3, v3)) (E4 : muxG g3 c0 c1 c2 = (g4, v4)) (E5 : gateG g4 c0 c1 = (g5, v5)) :
    MeansOk g g1 g2 g3 g4 g5 v1 v2 v3 v4 v5 b c0 c1 c2 := by
  obtain ⟨w1, x1, o1⟩ := manyG_spec andG two_and hw (start := 1) (by omega) b hb
  rw [E1] at w1 x1 o1
  have hb1 : ∀ x ∈ b, g1.ok x := fun x hx => x1.ok (hb x hx)
  obtain ⟨w2, x2, o2⟩ := manyG_spec orG two_or w1 (start := 0) (by omega) b hb1
  rw [E2] at w2 x2 o2
  have hb2 : ∀ x ∈ b, g2.ok x := fun x hx => x2.ok (hb1 x hx)
  obtain ⟨w3, x3, o3⟩ := manyG_spec xorG two_xor w2 (start := 0) (by omega) b hb2
  rw [E3] at w3 x3 o3
  have x03 := (x1.trans x2).trans x3
  obtain ⟨w4, x4, o4⟩ := muxG_spec w3 (x03.ok h0) (x03.ok h1) (x03.ok h2)
  rw [E4] at w4 x4 o4
  have x04 := x03.trans x4
  obtain ⟨w5, x5, o5⟩ := gateG_spec w4 (x04.ok h0) (x04.ok h1)
  rw [E5] at w5 x5 o5
  simp only at w1 x1 o1 w2 x2 o2 w3 x3 o3 w4 x4 o4 w5 x5 o5 x03 x04
  have x05 := x04.trans x5
  have l1 := x1.le
  have l2 := x2.le
  have l3 := x3.le
  have l4 := x4.le
  have l5 := x5.le
  have x15 := ((x2.trans x3).trans x4).trans x5
  have x25 := (x3.trans x4).trans x5
  have x35 := x4.trans x5
  refine ⟨hm, by omega, by omega, by omega, by omega, by omega, by omega, hb1, hb2, fun x hx => x05.ok (hb x hx), ⟨x03.ok h0, x03.ok h1, x03.ok h2⟩, ⟨x04.ok h0, x04.ok h1⟩, ⟨x15.ok o1, x25.ok o2, x35.ok o3, x5.ok o4, o5⟩, x05.ins, w5, fun inp => ?_, fun inp hi => ?_, fun inp hi => ?_, fun inp hi => ?_, fun inp hi => ?_, fun inp hi => ?_⟩
  · obtain ⟨m, hm⟩ := x05.pre'
    rw [hm]
    exact valL_append _ _ _
  · have := manyG_and hi hw b hb
    rw [E1] at this
    rw [lw_ext x15 o1, this, ← foldW_ext x05.pre' b _ hb]
  · have := manyG_or hi w1 b hb1
    rw [E2] at this
    rw [lw_ext x25 o2, this, ← foldW_ext x15.pre' b _ hb1]
  · have := manyG_xor hi w2 b hb2
    rw [E3] at this
    rw [lw_ext x35 o3, this, ← foldW_ext x25.pre' b _ hb2]
  · have := muxG_val w3 hi (x03.ok h0) (x03.ok h1) (x03.ok h2)
    rw [E4] at this
    rw [lw_ext x5 o4, this, lw_ext x05 h0, lw_ext x05 h1, lw_ext x05 h2, lw_ext x03 h0, lw_ext x03 h1, lw_ext x03 h2, Nat.and_comm (noW _)]
  · have := gateG_val w4 inp (x04.ok h0) (x04.ok h1)
    rw [E5] at this
    rw [this, lw_ext x05 h0, lw_ext x05 h1, lw_ext x04 h0, lw_ext x04 h1]

/-- the words of the inputs: those that are there, and zeros -/
def inW (ws : List Nat) (m : Nat) : List Nat := (List.range m).map fun k => ws.getD k 0
theorem inW_succ (ws : List Nat) (m : Nat) : inW ws (m + 1) = inW ws m ++ [ws.getD m 0] := by simp [inW, List.range_succ]
theorem inW_length (ws : List Nat) (m : Nat) : (inW ws m).length = m := by simp [inW]
theorem inW_words {ws : List Nat} (h : Words ws) (m : Nat) : Words (inW ws m) := fun x hx => by
  obtain ⟨k, _, rfl⟩ := List.mem_map.1 hx
  rw [List.getD_eq_getElem?_getD]
  cases hk : ws[k]? with
  | none => simp
  | some v => simpa using h v (List.mem_of_getElem? hk)
end Go.Proofs.Yteikngjanfjmfaa
