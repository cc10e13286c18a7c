/-
  Package trace: Put: a table as text.
-/
import Derived.Test.YtjgcfncganleoaaDoorTrcK
namespace Go.Proofs.YtjgcfncganleoaaDoor
open Go.ChangeShapes Go.WideShapes Go.ChangeAt Go.RowKit
set_option linter.unusedVariables false
set_option linter.unusedSimpArgs false

variable {w w' w1 W : World} {B pb n : Nat} {L L' : List UInt8} {v : Value}
def busTx (b : ByteArray × Int) : List UInt8 := b.1.data.toList ++ [58] ++ Lib.decDigits b.2.toNat
def headTx (bs : List (ByteArray × Int)) : List UInt8 := lineTo (fun k => match bs[k]? with | some b => busTx b | none => []) bs.length ++ [10]
def rowTx (r : List Nat) : List UInt8 := lineTo (fun k => hexD (r.getD k 0)) r.length ++ [10]
def putTo (t : Tb) (k : Nat) : List UInt8 := headTx t.bs ++ (t.rs.take k).flatMap rowTx
def putTx (t : Tb) : List UInt8 := putTo t t.rs.length
theorem putTo_succ (t : Tb) {k : Nat} {r : List Nat} (h : t.rs[k]? = some r) : putTo t (k + 1) = putTo t k ++ rowTx r := by
  simp [putTo, List.take_add_one, h]
theorem SlBus.cells {a : Option Addr} {bs : List (ByteArray × Int)} (h : SlBus w a bs) (hk : ∀ p u, w.cell? p = some u → w'.cell? p = some u) : SlBus w' a bs := by
  intro k hkl
  obtain ⟨b, o, rfl, h2, h3⟩ := h k hkl
  exact ⟨b, o, rfl, hk _ _ h2, hk _ _ h3⟩
theorem cells_below (h : Below B w w') (hB : w.heap.size ≤ B) : ∀ p u, w.cell? p = some u → w'.cell? p = some u := fun p u hc => by
  have hlt : p.block < w.heap.size := by
    rcases Nat.lt_or_ge p.block w.heap.size with h | h
    · exact h
    · simp [World.cell?, Array.getElem?_eq_none h] at hc
  exact (World.cell?_of_block (h.block _ (by omega))).trans hc
def PutPost (t : Tb) (w : World) (e : Ending) (w' : World) : Prop :=
  (mayT t = false ∧ e = .returned (.tuple #[.slice none 0 0, .int .i64 1]) ∧ Kept [] w w') ∨
    (mayT t = true ∧ ∃ v, e = .returned (.tuple #[v, .int .i64 0]) ∧ w'.ownsRow w.heap.size 5 1 v (putTx t).length (Lib.byteCells (putTx t)) ∧ Below w.heap.size w w')
theorem may_len {t : Tb} (h : mayT t = true) : t.bs.length ≤ 512 ∧ t.rs.length ≤ 4096 := by
  simp only [mayT, Bool.and_eq_true, decide_eq_true_eq] at h
  exact ⟨h.2.2.2.1, h.2.2.2.2⟩
theorem may_bus {t : Tb} (h : mayT t = true) (k : Nat) (hk : k < t.bs.length) : t.bs[k].1.size ≤ 33 ∧ 1 ≤ t.bs[k].2 ∧ t.bs[k].2 ≤ 64 := by
  simp only [mayT, Bool.and_eq_true, decide_eq_true_eq] at h
  have h1 := h.1
  unfold busesB busesTo at h1
  rw [List.all_eq_true] at h1
  have h2 := h1 k (List.mem_range.2 hk)
  rw [List.getElem?_eq_getElem hk] at h2
  simp only [busB, namedB, fitsB, Bool.and_eq_true, decide_eq_true_eq] at h2
  exact ⟨h2.1.2.2, h2.2.2.1.1, h2.2.2.1.2⟩
theorem may_row {t : Tb} (h : mayT t = true) (k : Nat) (hk : k < t.rs.length) : t.rs[k].length = t.bs.length := by
  simp only [mayT, Bool.and_eq_true, decide_eq_true_eq] at h
  have h1 := h.2.1
  unfold rowsB at h1
  rw [List.all_eq_true] at h1
  have h2 := h1 _ (List.getElem_mem hk)
  simp only [rowB, Bool.and_eq_true, decide_eq_true_eq] at h2
  exact h2.1
def busAt (bs : List (ByteArray × Int)) (k : Nat) : List UInt8 := match bs[k]? with | some b => busTx b | none => []
theorem busAt_some {bs : List (ByteArray × Int)} {k : Nat} (hk : k < bs.length) : busAt bs k = busTx bs[k] := by
  unfold busAt
  rw [List.getElem?_eq_getElem hk]
/-- the first line: w0 is the world in which the table lies, all of it below B -/
theorem head_c {ba : Option Addr} {bn bc tb : Nat} {t : Tb} {w0 : World} (hm : mayT t = true) (hB : w0.heap.size ≤ B) (hw : Below B w0 w) (hb : SlBus w0 ba t.bs) (hn : t.bs.length = bn) (ht : w0.cell? ⟨tb, 0, none⟩ = some (.slice ba bn bc)) (hbuf : BufAt B w pb L) (hL : L.length ≤ 1000000000000) :
    Calls Tryd.prog 40 #[.int .i64 (bn : Int), .func (.func 41) #[] #[.pointer (some ⟨pb, 0, none⟩), .pointer (some ⟨tb, 0, none⟩)], .pointer (some ⟨pb, 0, none⟩)] w (LinePost B pb (L ++ headTx t.bs) w) := by
  have h := line_c 41 Tryd.call41 (.pointer (some ⟨pb, 0, none⟩)) (.pointer (some ⟨tb, 0, none⟩)) (busAt t.bs) bn L w hbuf ?_ (by have := (may_len hm).1; omega) hL ?_
  · exact (show headTx t.bs = lineTo (busAt t.bs) bn ++ [10] from by rw [← hn]; rfl) ▸ h
  · intro k hk
    have hk' : k < t.bs.length := by omega
    have h1 := may_bus hm k hk'
    have h2 : t.bs[k].1.data.toList.length = t.bs[k].1.size := by rw [Array.length_toList]; rfl
    have h3 := dec_2 (show t.bs[k].2.toNat < 100 from by omega)
    rw [busAt_some hk', busTx, List.length_append, List.length_append, h2]
    simp
    omega
  · intro k hk W L1 hK hA hL1
    have hk' : k < t.bs.length := by omega
    have h1 := may_bus hm k hk'
    have hall : ∀ V, BufK B pb w V → ∀ p u, w0.cell? p = some u → V.cell? p = some u := fun V hV => cells_below (hw.trans hV.below) hB
    obtain ⟨gb, go_, rfl, x0, x1⟩ := hb k hk'
    have hx : ((t.bs[k].2.toNat : Nat) : Int) = t.bs[k].2 := Int.toNat_of_nonneg (by omega)
    rw [← hx] at x1
    have := bus_c tb gb go_ k bn bc t.bs[k].2.toNat t.bs[k].1 W hA hL1 (hall W hK _ _ ht) hk (by have := (may_len hm).1; omega) (hall W hK _ _ x0) (hall W hK _ _ x1) (by omega) (by omega) (fun V hV => ⟨hall V (hK.trans hV) _ _ ht, hall V (hK.trans hV) _ _ x1⟩)
    rw [busAt_some hk', busTx]
    exact this
/-- a row's line -/
theorem row_c {ra : Option Addr} {n c rb : Nat} {r : List Nat} {w0 : World} (hB : w0.heap.size ≤ B) (hw : Below B w0 w) (hr : SlN w0 .u64 ra r) (hW : Words r) (hn : r.length = n) (hm : n ≤ 512) (hb : w.heap[rb]? = some (.cells #[.slice ra n c] 33 (0, 0))) (hne : rb ≠ pb) (hg : w0.cell? ⟨3, 15, none⟩ = some (.int .u8 4)) (hbuf : BufAt B w pb L) (hL : L.length ≤ 1000000000000) :
    Calls Tryd.prog 40 #[.int .i64 (n : Int), .func (.func 43) #[] #[.pointer (some ⟨pb, 0, none⟩), .pointer (some ⟨rb, 0, none⟩)], .pointer (some ⟨pb, 0, none⟩)] w (LinePost B pb (L ++ rowTx r) w) := by
  have h := line_c 43 Tryd.call43 (.pointer (some ⟨pb, 0, none⟩)) (.pointer (some ⟨rb, 0, none⟩)) (fun k => hexD (r.getD k 0)) n L w hbuf ?_ (by omega) hL ?_
  · exact (show rowTx r = lineTo (fun k => hexD (r.getD k 0)) n ++ [10] from by rw [← hn]; rfl) ▸ h
  · intro k hk
    have hk' : k < r.length := by omega
    have h1 : r.getD k 0 = r[k] := by simp [List.getD, List.getElem?_eq_getElem hk']
    have h2 := hexD_16 (hW _ (List.getElem_mem hk'))
    simp only [h1]
    omega
  · intro k hk W L1 hK hA hL1
    have hk' : k < r.length := by omega
    have h1 : r.getD k 0 = r[k] := by simp [List.getD, List.getElem?_eq_getElem hk']
    have hall : ∀ p u, w0.cell? p = some u → W.cell? p = some u := cells_below (hw.trans hK.below) hB
    obtain ⟨ad, rfl, x0⟩ := hr k hk'
    have hbW := hK.heap hb hne (fun c fz e => by injection e with _ e2; exact absurd e2 (by decide))
    have := hex_c rb k n c r[k] ad W hA hL1 (by rw [blk_cell hbW 0]; rfl) hk (by omega) (hW _ (List.getElem_mem hk')) (hall _ _ x0) (hall _ _ hg)
    simp only [h1]
    exact this
theorem headTx_len {t : Tb} (hm : mayT t = true) : (headTx t.bs).length ≤ 40000 := by
  have h := lineTo_length (busAt t.bs) t.bs.length (fun k hk => by
    have h1 := may_bus hm k hk
    have h2 : t.bs[k].1.data.toList.length = t.bs[k].1.size := by rw [Array.length_toList]; rfl
    have h3 := dec_2 (show t.bs[k].2.toNat < 100 from by omega)
    rw [busAt_some hk, busTx, List.length_append, List.length_append, h2]
    simp
    omega) t.bs.length (Nat.le_refl _)
  have h1 := (may_len hm).1
  rw [show headTx t.bs = lineTo (busAt t.bs) t.bs.length ++ [10] from rfl, List.length_append]
  simp
  omega
theorem rowTx_len {r : List Nat} (hW : Words r) (hn : r.length ≤ 512) : (rowTx r).length ≤ 40000 := by
  have h := lineTo_length (fun k => hexD (r.getD k 0)) r.length (fun k hk => by
    have h1 : r.getD k 0 = r[k] := by simp [List.getD, List.getElem?_eq_getElem hk]
    have h2 := hexD_16 (hW _ (List.getElem_mem hk))
    simp only [h1]
    omega) r.length (Nat.le_refl _)
  rw [rowTx, List.length_append, List.length_singleton]
  omega
theorem putTo_len {t : Tb} (hm : mayT t = true) (hok : t.ok) (k : Nat) (hk : k ≤ t.rs.length) : (putTo t k).length ≤ 40000 * (k + 1) := by
  induction k with
  | zero =>
    have := headTx_len hm
    simpa [putTo] using this
  | succ k ih =>
    have hk' : k < t.rs.length := by omega
    rw [putTo_succ t (List.getElem?_eq_getElem hk'), List.length_append]
    have h1 := ih (by omega)
    have h2 := rowTx_len (hok.rw _ (List.getElem_mem hk')).1 (by rw [may_row hm k hk']; exact (may_len hm).1)
    omega
theorem own_mono {B' n : Nat} {e : TypeId} {size : Nat} {v : Value} {xs : List Value} (h : w.ownsRow B e size v n xs) (hB : B' ≤ B) : w.ownsRow B' e size v n xs := by
  refine ⟨h.1, ?_⟩
  rcases h.2 with hn | ⟨g, cap', cur, hv, hb, rest⟩
  · exact .inl hn
  · exact .inr ⟨g, cap', cur, hv, Nat.le_trans hB hb, rest⟩
theorem below_mono {B' : Nat} (h : Below B w w') (hB : B' ≤ B) : Below B' w w' := ⟨h.os, h.tape, h.output, h.size, fun k hk => h.block k (by omega)⟩
theorem below_of_kept (h : Kept [] w w') : Below w.heap.size w w' := ⟨h.os, h.tape, h.output, h.size, fun k hk => h.block k hk (by simp)⟩
theorem BufAt.lt (h : BufAt B w pb L) : pb < w.heap.size := by
  obtain ⟨hB, v, h1, _⟩ := h
  exact blk_lt h1
end Go.Proofs.YtjgcfncganleoaaDoor
