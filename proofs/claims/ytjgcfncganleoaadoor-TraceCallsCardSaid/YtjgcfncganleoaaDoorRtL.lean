/-
  Law 09: what the two answers' parts are worth, side by side.
-/
import Derived.Test.YtjgcfncganleoaaDoorTdT
import Derived.Test.YtjgcfncganleoaaDoorTfA
import Derived.Test.YtjgcfncganleoaaDoorRtH
import Derived.Test.YtjgcfncganleoaaDoorRtI
import Derived.Test.YtjgcfncganleoaaDoorRtJ
import Derived.Test.YtjgcfncganleoaaDoorRtK
namespace Go.Proofs.YtjgcfncganleoaaDoor
open Go.ChangeShapes Go.WideShapes Go.ChangeAt Go.RowKit
set_option linter.unusedVariables false
set_option linter.unusedSimpArgs false

variable {w w' w1 W : World}
theorem row_txt {B n g cap : Nat} {l : List UInt8} (h : w.ownsRow B 5 1 (.slice (some ⟨g, 0, none⟩) n cap) n (Lib.byteCells l)) (hl : l.length = n) : TxtAt w (some ⟨g, 0, none⟩) cap l :=
  ⟨fun k hk => ⟨_, rfl, World.ownsRow.cells h (g := g) rfl k _ (by simp [Lib.byteCells, List.getElem?_eq_getElem hk])⟩, by
    rcases h.2 with ⟨hv, _⟩ | ⟨g', c', cur, hv, _, _, hc, _⟩
    · injection hv with hv; exact absurd hv (by simp)
    · injection hv with _ _ hv; omega⟩
def outTx (F : Tb) : List UInt8 := if mayT F = true then putTx F else []
def outEr (F : Tb) : Int := if mayT F = true then 0 else 1
theorem put_txt {F : Tb} {e : Ending} (h : PutPost F W e w) : ∃ a c, e = .returned (.tuple #[.slice a (outTx F).length c, .int .i64 (outEr F)]) ∧ TxtAt w a c (outTx F) ∧ Kept [] W w := by
  rcases h with ⟨h1, rfl, hk⟩ | ⟨h1, v, rfl, ho, hb⟩
  · refine ⟨none, 0, ?_, ?_, hk⟩
    · simp [outTx, outEr, h1]
    · simp only [outTx, h1]
      exact ⟨fun k hk => absurd hk (by simp), by simp⟩
  · have h3 : outTx F = putTx F := by simp [outTx, h1]
    have h4 : outEr F = 0 := by simp [outEr, h1]
    rw [h3, h4]
    rcases ho.2 with ⟨hv, h0⟩ | ⟨g, c, cur, hv, hrest⟩
    · have h5 : putTx F = [] := List.eq_nil_of_length_eq_zero h0
      exact ⟨none, 0, by rw [hv, h5]; rfl, by rw [h5]; exact ⟨fun k hk => absurd hk (by simp), by simp⟩, .of_below hb⟩
    · subst hv
      exact ⟨some ⟨g, 0, none⟩, c, rfl, row_txt ho rfl, .of_below hb⟩
/-- the document's table of the call's own buses -/
def OfAt (w : World) (xa : Option Addr) (xc : Nat) (t : Tb) : Prop := Own2 w 85 xa t.bs.length xc (busCells t.bs)
theorem OfAt.kept0 {xa : Option Addr} {xc : Nat} {t : Tb} (h : OfAt w xa xc t) (hk : Kept [] w w') : OfAt w' xa xc t := own_kept h hk (by simp)
theorem OfAt.tab {ba ra xa : Option Addr} {bc rn rc xc : Nat} {t : Tb} {wl : List WR} (ho : OfAt w xa xc t) (h : TabV w ba t.bs.length bc ra rn rc t wl) : TabV w xa t.bs.length xc ra rn rc t wl := of_tab h ho
theorem of_two_at {w0 wy : World} {p7 p8 n1 n2 q1 q2 e1 e2 : Nat} {t1 t2 : Tb} {x1 r1 x2 r2 : Option Addr} {y1 y2 y3 y4 : Value} (h7 : wy.heap[p7]? = some (.cells #[y1, y2] 42 (0, 0))) (h8 : wy.heap[p8]? = some (.cells #[y3, y4] 42 (0, 0)))
    (ho1 : OfAt wy x1 e1 t1) (ho2 : OfAt wy x2 e2 t2) (kv : Kept [] w0 wy) (h78 : p7 ≠ p8) (b7 : w0.heap.size ≤ p7) (b8 : w0.heap.size ≤ p8) :
    ((((wy.setCell ⟨p7, 0, none⟩ (.slice x1 t1.bs.length e1)).setCell ⟨p7, 1, none⟩ (.slice r1 n1 q1)).setCell ⟨p8, 0, none⟩ (.slice x2 t2.bs.length e2)).setCell ⟨p8, 1, none⟩ (.slice r2 n2 q2)).heap[p7]? = some (.cells #[.slice x1 t1.bs.length e1, .slice r1 n1 q1] 42 (0, 0)) ∧
    ((((wy.setCell ⟨p7, 0, none⟩ (.slice x1 t1.bs.length e1)).setCell ⟨p7, 1, none⟩ (.slice r1 n1 q1)).setCell ⟨p8, 0, none⟩ (.slice x2 t2.bs.length e2)).setCell ⟨p8, 1, none⟩ (.slice r2 n2 q2)).heap[p8]? = some (.cells #[.slice x2 t2.bs.length e2, .slice r2 n2 q2] 42 (0, 0)) ∧
    OfAt ((((wy.setCell ⟨p7, 0, none⟩ (.slice x1 t1.bs.length e1)).setCell ⟨p7, 1, none⟩ (.slice r1 n1 q1)).setCell ⟨p8, 0, none⟩ (.slice x2 t2.bs.length e2)).setCell ⟨p8, 1, none⟩ (.slice r2 n2 q2)) x1 e1 t1 ∧
    OfAt ((((wy.setCell ⟨p7, 0, none⟩ (.slice x1 t1.bs.length e1)).setCell ⟨p7, 1, none⟩ (.slice r1 n1 q1)).setCell ⟨p8, 0, none⟩ (.slice x2 t2.bs.length e2)).setCell ⟨p8, 1, none⟩ (.slice r2 n2 q2)) x2 e2 t2 ∧
    Kept [] w0 ((((wy.setCell ⟨p7, 0, none⟩ (.slice x1 t1.bs.length e1)).setCell ⟨p7, 1, none⟩ (.slice r1 n1 q1)).setCell ⟨p8, 0, none⟩ (.slice x2 t2.bs.length e2)).setCell ⟨p8, 1, none⟩ (.slice r2 n2 q2)) := by
  have a1 := blk_set h7 0 (.slice x1 t1.bs.length e1)
  have a2 := blk_set (by simpa using a1) 1 (.slice r1 n1 q1)
  have a3 : ((wy.setCell ⟨p7, 0, none⟩ (.slice x1 t1.bs.length e1)).setCell ⟨p7, 1, none⟩ (.slice r1 n1 q1)).heap[p7]? = some (.cells #[.slice x1 t1.bs.length e1, .slice r1 n1 q1] 42 (0, 0)) := by simpa using a2
  have k1 : Kept [p7] wy ((wy.setCell ⟨p7, 0, none⟩ (.slice x1 t1.bs.length e1)).setCell ⟨p7, 1, none⟩ (.slice r1 n1 q1)) := ((Kept.refl [p7] _).setCell (p := ⟨p7, 0, none⟩) (.inl (by simp)) _).setCell (p := ⟨p7, 1, none⟩) (.inl (by simp)) _
  have c0 := k1.heap h8 (by simpa using Ne.symm h78)
  have c1 := blk_set c0 0 (.slice x2 t2.bs.length e2)
  have c2 := blk_set (by simpa using c1) 1 (.slice r2 n2 q2)
  have k2 : Kept [p8] ((wy.setCell ⟨p7, 0, none⟩ (.slice x1 t1.bs.length e1)).setCell ⟨p7, 1, none⟩ (.slice r1 n1 q1)) ((((wy.setCell ⟨p7, 0, none⟩ (.slice x1 t1.bs.length e1)).setCell ⟨p7, 1, none⟩ (.slice r1 n1 q1)).setCell ⟨p8, 0, none⟩ (.slice x2 t2.bs.length e2)).setCell ⟨p8, 1, none⟩ (.slice r2 n2 q2)) := ((Kept.refl [p8] _).setCell (p := ⟨p8, 0, none⟩) (.inl (by simp)) _).setCell (p := ⟨p8, 1, none⟩) (.inl (by simp)) _
  have k3 := (k1.more (F' := [p7, p8]) (by simp)).trans (k2.more (by simp))
  have ap : ∀ {p : Nat} {cs : Array Value} {x : Option Addr} {e : Nat} {t : Tb}, wy.heap[p]? = some (.cells cs 42 (0, 0)) → OfAt wy x e t → p ∉ ft x := fun h ho => blk_apart h ho (by decide)
  have m1 := ap h7 ho1
  have m2 := ap h8 ho1
  have m3 := ap h7 ho2
  have m4 := ap h8 ho2
  have hd : ∀ {x : Option Addr}, p7 ∉ ft x → p8 ∉ ft x → ∀ b ∈ ft x, b ∉ [p7, p8] := fun h1 h2 b hb hx => by
    simp only [List.mem_cons, List.mem_nil_iff, or_false] at hx
    rcases hx with rfl | rfl
    · exact h1 hb
    · exact h2 hb
  exact ⟨k2.heap a3 (by simpa using h78), by simpa using c2, own_kept ho1 k3 (hd m1 m2), own_kept ho2 k3 (hd m3 m4), kept_mix kv k3 (by simpa using ⟨b7, b8⟩)⟩
/-- two tables boxed: their blocks -/
theorem box_heap (w : World) (ty : TypeId) (a b c d : Value) : Kept [] w ((w.alloc (.cells #[a, b] ty)).alloc (.cells #[c, d] ty)) ∧
    ((w.alloc (.cells #[a, b] ty)).alloc (.cells #[c, d] ty)).heap[w.heap.size]? = some (.cells #[a, b] ty (0, 0)) ∧
    ((w.alloc (.cells #[a, b] ty)).alloc (.cells #[c, d] ty)).heap[w.heap.size + 1]? = some (.cells #[c, d] ty (0, 0)) := by
  have h := heap_alloc_new (w.alloc (.cells #[a, b] ty)) (.cells #[c, d] ty)
  have hs : (w.alloc (.cells #[a, b] ty)).heap.size = w.heap.size + 1 := by simp
  rw [hs] at h
  exact ⟨((Kept.refl [] w).alloc _).alloc _, ((Kept.refl [] _).alloc _).heap (heap_new _ _) (by simp), h⟩
theorem keep8 {w w' : World} {a0 a1 a2 a3 b0 b1 b2 b3 : Addr} {v0 v1 v2 v3 x0 x1 x2 x3 : Value} (hk : Kept [] w w') (h0 : w.cell? a0 = some v0) (h1 : w.cell? a1 = some v1) (h2 : w.cell? a2 = some v2) (h3 : w.cell? a3 = some v3)
    (i0 : w.cell? b0 = some x0) (i1 : w.cell? b1 = some x1) (i2 : w.cell? b2 = some x2) (i3 : w.cell? b3 = some x3) :
    w'.cell? a0 = some v0 ∧ w'.cell? a1 = some v1 ∧ w'.cell? a2 = some v2 ∧ w'.cell? a3 = some v3 ∧ w'.cell? b0 = some x0 ∧ w'.cell? b1 = some x1 ∧ w'.cell? b2 = some x2 ∧ w'.cell? b3 = some x3 :=
  ⟨hk.cell h0 (by simp), hk.cell h1 (by simp), hk.cell h2 (by simp), hk.cell h3 (by simp), hk.cell i0 (by simp), hk.cell i1 (by simp), hk.cell i2 (by simp), hk.cell i3 (by simp)⟩
/-- a column that was told, as a row of words -/
theorem col_row {r : List Nat × Bool} {e : Ending} (h : ColPost r W e w) : ∃ a c, e = .returned (.tuple #[.slice a r.1.length c, .bool r.2]) ∧ SlN w .u64 a r.1 ∧ Kept [] W w := by
  obtain ⟨a, n, c, rfl, ho, hk, _⟩ := h
  obtain rfl : r.1.length = n := by have := ho.len; rw [nats_length] at this; exact this
  exact ⟨a, c, rfl, ho.sln, hk⟩
theorem column_len (t : Tb) (nm : ByteArray) : (columnT t nm).1.length ≤ t.rs.length := by
  unfold columnT
  split
  · split
    · simp
    · simp
  · simp
/-- three answers at once -/
theorem differ_one {t u : Tb} {i k : Nat} {b : Bool} {i' k' : Nat} {b' : Bool} (h : DiffIs t u (i, k, b)) (h' : DiffIs t u (i', k', b')) : i' = i ∧ k' = k ∧ b' = b := by
  have := h'.unique h
  simpa using this
end Go.Proofs.YtjgcfncganleoaaDoor
