/-
  Package trace: Put's lines: a buffer behind a captured variable.
-/
import Derived.Test.YtjgcfncganleoaaDoorTrcH
namespace Go.Proofs.YtjgcfncganleoaaDoor
open Go.ChangeShapes Go.WideShapes Go.ChangeAt Go.RowKit
set_option linter.unusedVariables false
set_option linter.unusedSimpArgs false

variable {w w' w1 : World} {B pb : Nat} {L L' : List UInt8}
/-- the buffer in the variable at block pb, its row at or above block B -/
def BufAt (B : Nat) (w : World) (pb : Nat) (L : List UInt8) : Prop :=
  B ≤ pb ∧ ∃ v, w.heap[pb]? = some (.cells #[v] 44 (0, 0)) ∧ w.ownsRow B 5 1 v L.length (Lib.byteCells L)
/-- below B nothing has turned; above it rows of bytes alone, and the variable -/
structure BufK (B pb : Nat) (w w' : World) : Prop where
  below : Below B w w'
  others : Lib.OthersKept 5 (some pb) w w'
theorem BufK.refl (B pb : Nat) (w : World) : BufK B pb w w := ⟨Below.refl _ _, Lib.OthersKept.refl _ _ _⟩
theorem BufK.trans {a b c : World} (h : BufK B pb a b) (k : BufK B pb b c) : BufK B pb a c := ⟨h.below.trans k.below, h.others.trans k.others⟩
theorem BufK.kept {a b c : World} (h : BufK B pb a b) (k : Kept [] b c) (hB : B ≤ b.heap.size) : BufK B pb a c :=
  h.trans ⟨⟨k.os, k.tape, k.output, k.size, fun i hi => k.block i (by omega) (by simp)⟩, fun i o ho _ _ => k.heap ho (by simp)⟩
/-- a block that is no row of bytes, nor the variable -/
theorem BufK.heap {o : Obj} {k : Nat} (h : BufK B pb w w') (ho : w.heap[k]? = some o) (hk : k ≠ pb) (hx : ∀ c fz, o ≠ .cells c 5 fz) : w'.heap[k]? = some o :=
  h.others k o ho (fun e => hk (by injection e)) hx
theorem BufK.cell {p : Addr} {u : Value} (h : BufK B pb w w') (hc : w.cell? p = some u) (hp : p.block < B) : w'.cell? p = some u :=
  (World.cell?_of_block (h.below.block _ hp)).trans hc
theorem BufAt.keep {w' : World} (h : BufAt B w pb L) (k : Kept [] w w') : BufAt B w' pb L := by
  obtain ⟨hB, v, h1, h2⟩ := h
  exact ⟨hB, v, k.heap h1 (by simp), own_keptB h2 k (by simp)⟩
theorem BufAt.low (h : BufAt B w pb L) : B ≤ w.heap.size := by
  obtain ⟨hB, v, h1, _⟩ := h
  have := blk_lt h1
  omega
/-- behind an append and the store of what comes back -/
theorem BufAt.stored {v' : Value} {w9 : World} {n : Nat} (h : BufAt B w pb L) (hb : Below B w w9) (ho : Lib.OthersKept 5 none w w9) (hown : w9.ownsRow B 5 1 v' n (Lib.byteCells L')) (hn : n = L'.length) :
    BufAt B (w9.setCell ⟨pb, 0, none⟩ v') pb L' ∧ BufK B pb w (w9.setCell ⟨pb, 0, none⟩ v') := by
  subst hn
  obtain ⟨hB, v, h1, h2⟩ := h
  have h9 := ho pb _ h1 (by simp) (fun c fz e => by injection e with _ e2; exact absurd e2 (by decide))
  refine ⟨⟨hB, v', by simpa using blk_set h9 0 v', ?_⟩, ⟨hb.trans ⟨rfl, rfl, rfl, by simp [World.setCell], fun k hk => Below.heap_setCell _ _ _ _ (by simp; omega)⟩, fun k o hk hne hx => ?_⟩⟩
  · refine own_keptB hown ((Kept.refl [pb] w9).setCell (p := ⟨pb, 0, none⟩) (.inl (by simp)) v') (fun g hg hx => ?_)
    rw [List.mem_singleton] at hx
    subst hx
    obtain ⟨c, fz, hc⟩ := Lib.ownsRow_kind hown g hg
    rw [h9] at hc
    injection hc with hc
    injection hc with _ hc
    exact absurd hc (by decide)
  · have hk9 := ho k o hk (by simp) hx
    rw [Below.heap_setCell _ _ _ _ (fun e => hne (by rw [e]))]
    exact hk9
/-- behind an append to the buffer's row: what the store that follows needs, and what it leaves -/
theorem BufAt.room {v v' v0 : Value} {w0 w9 : World} {n m : Nat} {new : List UInt8} (h : BufAt B w pb L) (hk : Kept [] w w0) (hb : w.heap[pb]? = some (.cells #[v0] 44 (0, 0))) (hown : w0.ownsRow B 5 1 v n (Lib.byteCells L)) (hg : w0.grownBy w9 v.ownBlock)
    (hown9 : w9.ownsRow B 5 1 v' (n + m) (Lib.byteCells L ++ Lib.byteCells new)) (hn : n = L.length) (hm : 0 < m) (hl : new.length = m) :
    ∃ g9 cap9, v' = .slice (some ⟨g9, 0, none⟩) (n + m) cap9 ∧ (BufAt B (w9.setCell ⟨pb, 0, none⟩ v') pb (L ++ new) ∧ BufK B pb w (w9.setCell ⟨pb, 0, none⟩ v')) ∧ w9.cell? ⟨pb, 0, none⟩ = some v0 ∧ w9.frozen? ⟨pb, 0, none⟩ = false := by
  have hB0 : B ≤ w0.heap.size := by
    have := h.low
    have := hk.size
    omega
  have hO9 : Lib.OthersKept 5 none w w9 := (others_of_kept hk).grown hg (Lib.ownsRow_kind hown)
  have hB9 : Below B w w9 := (show Below B w w0 from ⟨hk.os, hk.tape, hk.output, hk.size, fun i hi => hk.block i (by have := h.low; omega) (by simp)⟩).grown hg hB0 (fun k hk => (hown.lt k hk).1)
  have b9 := hO9 pb _ hb (by simp) (fun c fz e => by injection e with _ e2; exact absurd e2 (by decide))
  obtain ⟨g9, cap9, he, _, _⟩ := hown9.form (by omega)
  refine ⟨g9, cap9, he, h.stored hB9 hO9 (by simpa [Lib.byteCells] using hown9) (by rw [List.length_append, hl, hn]), ?_, blk_free b9 0⟩
  rw [blk_cell b9 0]
  rfl
def sep (i : Nat) : List UInt8 := if i = 0 then [] else [32]
def lineTo (g : Nat → List UInt8) (k : Nat) : List UInt8 := (List.range k).flatMap fun i => sep i ++ g i
theorem lineTo_succ (g : Nat → List UInt8) (k : Nat) : lineTo g (k + 1) = lineTo g k ++ (sep k ++ g k) := by simp [lineTo, List.range_succ]
theorem lineTo_length (g : Nat → List UInt8) (m : Nat) (hg : ∀ k, k < m → (g k).length ≤ 60) (k : Nat) (hk : k ≤ m) : (lineTo g k).length ≤ 61 * k := by
  induction k with
  | zero => simp [lineTo]
  | succ k ih =>
    rw [lineTo_succ, List.length_append, List.length_append]
    have h1 := ih (by omega)
    have h2 := hg k (by omega)
    have h3 : (sep k).length ≤ 1 := by unfold sep; split <;> simp
    omega
def LinePost (B pb : Nat) (L : List UInt8) (w : World) (e : Ending) (w' : World) : Prop := e = .returned (.tuple #[]) ∧ BufAt B w' pb L ∧ BufK B pb w w'
set_option maxHeartbeats 3200000 in
set_option maxRecDepth 100000 in
theorem line_c (fid : FuncId) (hF : ∀ xs w, (callFunc fid xs).run Tryd.prog w = .ok (Next.enter fid xs) w) (c1 c2 : Value) (g : Nat → List UInt8) (m : Nat) (L0 : List UInt8) (w : World) (hbuf : BufAt B w pb L0) (hg : ∀ k, k < m → (g k).length ≤ 60) (hm : m ≤ 1000) (hL : L0.length ≤ 1000000000000)
    (HC : ∀ k, k < m → ∀ W L, BufK B pb w W → BufAt B W pb L → L.length ≤ 2000000000000 → Calls Tryd.prog fid #[.int .i64 (k : Int), c1, c2] W (LinePost B pb (L ++ g k) W)) :
    Calls Tryd.prog 40 #[.int .i64 (m : Int), .func (.func fid) #[] #[c1, c2], .pointer (some ⟨pb, 0, none⟩)] w (LinePost B pb (L0 ++ (lineTo g m ++ [10])) w) := by
  have HBU := Lib.hid hbuf
  have HCC := Lib.hid HC
  have HGL := Lib.hid (lineTo_length g m hg)
  obtain ⟨i0, hi, hz0, hz1, hz2⟩ := u8_info
  clear hbuf HC hg
  go_enter Tryd.func40, Tryd.ntmps40
  go_wp2_with fail
  go_loopw [7] (fun i wr => ∃ k : Nat, k ≤ m ∧ i = .int .i64 k ∧ BufAt B wr pb (L0 ++ lineTo g k) ∧ BufK B pb w wr) (fun i _ => m - (intOf i).toNat)
  case atStart => exact ⟨0, Nat.zero_le _, rfl, by simpa [lineTo] using HBU.out, .refl _ _ _⟩
  case round =>
    obtain ⟨k, hk, rfl, hb, hkr⟩ := hrel
    have HB := Lib.hid hb
    have KR := Lib.hid hkr
    clear hb hkr
    by_cases hlt : k < m
    · have hlen : (L0 ++ lineTo g k).length ≤ 1000000100000 := by
        have := HGL.out k (by omega)
        rw [List.length_append]
        omega
      by_cases hk0 : k = 0
      · subst hk0
        have HCK := Lib.hid (HCC.out 0 hlt wr _ KR.out HB.out (by omega))
        clear hlen
        go_wp2_with fail
        refine HCK.out.mono ?_
        rintro e w1 ⟨rfl, hb1, k1⟩
        have H1 := Lib.hid (And.intro hb1 k1)
        clear hb1 k1
        go_wp2_with fail
        go_roundw
        case rel =>
          refine ⟨1, by omega, rfl, ?_, KR.out.trans H1.out.2⟩
          have h1 := H1.out.1
          rw [lineTo_succ]
          rw [List.append_assoc] at h1
          exact h1
        case measure => simp [intOf]; omega
      · obtain ⟨hBp, v, b1, b2⟩ := HB.out
        have c1 : wr.cell? ⟨pb, 0, none⟩ = some v := by rw [blk_cell b1 0]; rfl
        have f1 := blk_free b1 0
        have HB1 := Lib.hid b1
        have HB2 := Lib.hid b2
        clear b1 b2 hBp
        have hB0 : B ≤ (wr.alloc (.cells #[.int .u8 32] 5)).heap.size := by have := HB.out.low; simp; omega
        have hown : (wr.alloc (.cells #[.int .u8 32] 5)).ownsRow B 5 1 v (L0 ++ lineTo g k).length (Lib.byteCells (L0 ++ lineTo g k)) := own_keptB HB2.out ((Kept.refl [] wr).alloc _) (by simp)
        obtain ⟨n, hn⟩ : ∃ n, n = (L0 ++ lineTo g k).length := ⟨_, rfl⟩
        rw [← hn] at hown hlen
        have HN := Lib.hid (And.intro hn (And.intro hown hB0))
        have HCK := Lib.hid (fun W => HCC.out k hlt W ((L0 ++ lineTo g k) ++ [32]))
        have HLL := Lib.hid (show ((L0 ++ lineTo g k) ++ [32]).length ≤ 2000000000000 from by rw [List.length_append, ← hn]; simp; omega)
        clear hn hown hB0
        go_upto_region 5 with (at_builtin; go_loud (refine wpList_append_own _ rfl _ _ 44 rfl B 5 i0 (.int .u8 0) 1 1 Tryd.underlying44 hi hz0 hz1 hz2 rfl (by omega) _ _ _ rfl HN.out.2.1 ⟨wr.heap.size, 0, none⟩ 1 1 [.int .u8 32] rfl rfl (cell_one_new _ _ _) (fun u hu => by rw [List.mem_singleton.1 hu]; rfl) (by unfold maxLen; omega) (by omega) HN.out.2.2 ?_; intro v' w9 hown9 hg9 _; obtain ⟨g9, cap9, rfl, hst, c9, f9⟩ := HB.out.room (new := [32]) ((Kept.refl [] wr).alloc _) HB1.out HN.out.2.1 hg9 hown9 HN.out.1 (by omega) rfl; have HST := Lib.hid hst; clear hst hown9 hg9))
        generalize World.setCell w9 ⟨pb, 0, none⟩ (.slice (some ⟨g9, 0, none⟩) (n + 1) cap9) = wS at *
        clear c9 f9 c1 f1
        have HCS := Lib.hid (HCK.out wS (KR.out.trans HST.out.2) HST.out.1 HLL.out)
        go_wp2_with fail
        refine HCS.out.mono ?_
        rintro e w1 ⟨rfl, hb1, k1⟩
        have H1 := Lib.hid (And.intro hb1 k1)
        clear hb1 k1
        go_wp2_with fail
        go_roundw
        case rel =>
          refine ⟨k + 1, by omega, rfl, ?_, (KR.out.trans HST.out.2).trans H1.out.2⟩
          have h1 := H1.out.1
          rw [lineTo_succ, show sep k = [32] from by simp [sep, hk0]]
          simp only [List.append_assoc] at h1 ⊢
          exact h1
        case measure => simp [intOf]; omega
    · have hkm : k = m := by omega
      subst hkm
      obtain ⟨hBp, v, b1, b2⟩ := HB.out
      have c1 : wr.cell? ⟨pb, 0, none⟩ = some v := by rw [blk_cell b1 0]; rfl
      have f1 := blk_free b1 0
      have HB1 := Lib.hid b1
      have HB2 := Lib.hid b2
      have HBP := Lib.hid hBp
      clear b1 b2 hBp
      have hB0 : B ≤ (wr.alloc (.cells #[.int .u8 10] 5)).heap.size := by have := HB.out.low; simp; omega
      have hown : (wr.alloc (.cells #[.int .u8 10] 5)).ownsRow B 5 1 v (L0 ++ lineTo g k).length (Lib.byteCells (L0 ++ lineTo g k)) := own_keptB HB2.out ((Kept.refl [] wr).alloc _) (by simp)
      have hlen : (L0 ++ lineTo g k).length ≤ 2000000000000 := by
        have := HGL.out k (Nat.le_refl _)
        rw [List.length_append]
        omega
      obtain ⟨n, hn⟩ : ∃ n, n = (L0 ++ lineTo g k).length := ⟨_, rfl⟩
      rw [← hn] at hown hlen
      have HN := Lib.hid (And.intro hn (And.intro hown hB0))
      clear hn hown hB0
      go_wp2_with (at_builtin; go_loud (refine wpList_append_own _ rfl _ _ 44 rfl B 5 i0 (.int .u8 0) 1 1 Tryd.underlying44 hi hz0 hz1 hz2 rfl (by omega) _ _ _ rfl HN.out.2.1 ⟨wr.heap.size, 0, none⟩ 1 1 [.int .u8 10] rfl rfl (cell_one_new _ _ _) (fun u hu => by rw [List.mem_singleton.1 hu]; rfl) (by unfold maxLen; omega) (by omega) HN.out.2.2 ?_; intro v' w9 hown9 hg9 _; obtain ⟨g9, cap9, rfl, hst, c9, f9⟩ := HB.out.room (new := [10]) ((Kept.refl [] wr).alloc _) HB1.out HN.out.2.1 hg9 hown9 HN.out.1 (by omega) rfl; have HST := Lib.hid hst; clear hst hown9 hg9))
      (try simp only [Exit.inBlock, Exit.then])
      refine bodyPost_ret (results_none rfl _ _ _) rfl ?_
      refine ⟨rfl, ?_, ?_⟩
      · rw [← List.append_assoc]
        exact HST.out.1
      · exact KR.out.trans HST.out.2
end Go.Proofs.YtjgcfncganleoaaDoor
