/-
  Package lanes: Pack.
-/
import Derived.Test.YtjgcfncganleoaaDoorLnP
import Derived.Test.YtjgcfncganleoaaDoorTrcL
import Derived.Laws.CopyOwn
namespace Go.Proofs.YtjgcfncganleoaaDoor
open Go.ChangeShapes Go.WideShapes Go.ChangeAt Go.RowKit
open Go.Maps (Keyed)
open Go.WideMaps
set_option linter.unusedVariables false
set_option linter.unusedSimpArgs false

variable {w w' w1 W : World}
def padW (l : List Nat) : List Nat := l ++ List.replicate (64 - l.length) 0
/-- words turned: so many of the bits' rows -/
def packT (k : Nat) (l : List Nat) : List Nat := (turnTo 6 (padW l)).take k
def packB (x : Int) (l : List Nat) : Bool := fitsAll x l && decide (l.length ≤ 64)
theorem padW_len {l : List Nat} (h : l.length ≤ 64) : (padW l).length = 64 := by simp [padW]; omega
theorem padW_get {l : List Nat} (i : Nat) : (padW l).getD i 0 = l.getD i 0 := by
  unfold padW
  rw [List.getD_eq_getElem?_getD, List.getD_eq_getElem?_getD]
  rcases Nat.lt_or_ge i l.length with h | h
  · rw [List.getElem?_append_left h]
  · rw [List.getElem?_append_right h, List.getElem?_replicate, List.getElem?_eq_none h]
    split <;> rfl
theorem padW_sq {l : List Nat} (h : l.length ≤ 64) (hW : Words l) : Sq (padW l) :=
  ⟨padW_len h, fun k hk => by
    rw [padW_get, List.getD_eq_getElem?_getD]
    rcases Nat.lt_or_ge k l.length with h1 | h1
    · rw [List.getElem?_eq_getElem h1]; exact hW _ (List.getElem_mem h1)
    · rw [List.getElem?_eq_none h1]; decide⟩
theorem packT_len {k : Nat} {l : List Nat} (hk : k ≤ 64) (h : l.length ≤ 64) (hW : Words l) : (packT k l).length = k := by
  unfold packT
  rw [List.length_take, (turn_bits (padW_sq h hW)).1.1]
  omega
/-- bit i of row j is bit j of word i -/
theorem packT_bit {k : Nat} {l : List Nat} (hk : k ≤ 64) (h : l.length ≤ 64) (hW : Words l) (j : Nat) (hj : j < k) : (packT k l).getD j 0 < 18446744073709551616 ∧ ∀ i, i < 64 → ((packT k l).getD j 0).testBit i = (l.getD i 0).testBit j := by
  have h1 := turn_bits (padW_sq h hW)
  have h2 : (packT k l).getD j 0 = (turnTo 6 (padW l)).getD j 0 := by
    unfold packT
    rw [List.getD_eq_getElem?_getD, List.getD_eq_getElem?_getD, List.getElem?_take, if_pos hj]
  rw [h2]
  exact ⟨h1.1.2 j (by omega), fun i hi => by rw [h1.2 j (by omega) i hi, padW_get]⟩
theorem packT_words {k : Nat} {l : List Nat} (hk : k ≤ 64) (h : l.length ≤ 64) (hW : Words l) : Words (packT k l) := by
  intro x hx
  obtain ⟨j, hj, rfl⟩ := List.getElem_of_mem hx
  rw [packT_len hk h hW] at hj
  have := (packT_bit hk h hW j hj).1
  rw [List.getD_eq_getElem?_getD, List.getElem?_eq_getElem (by rw [packT_len hk h hW]; exact hj)] at this
  exact this
theorem row_sln {p k : Nat} {T : List Nat} (h : w.heap[p]? = some (.cells (sqV T) 125 (0, 0))) (hT : T.length = 64) (hk : k ≤ 64) : SlN w .u64 (some ⟨p, 0, none⟩) (T.take k) := by
  intro j hj
  rw [List.length_take] at hj
  refine ⟨_, rfl, ?_⟩
  rw [add_at, blk_cell h (0 + j), Nat.zero_add, sqV_get (by omega), List.getD_eq_getElem?_getD, List.getElem?_eq_getElem (by omega), Option.getD_some, List.getElem_take]
theorem slice64 (W : World) (p k : Nat) (hk : k ≤ 64) : (Instr.sliceAt 125 (.pointer (some ⟨p, 0, none⟩)) none (some (.int .i64 (k : Int))) none).run Tryd.prog W = .ok (.slice (some ⟨p, 0, none⟩) k 64) W := by
  have hu := Tryd.underlying125
  have hl : Tryd.prog.arrayLen 125 = 64 := by kernel_rfl
  have he : Tryd.prog.elem 125 = 27 := by kernel_rfl
  have hs : (sizeOf 27).run Tryd.prog W = .ok 1 W := by kernel_rfl
  have h := run_sliceAt_array_h (P := Tryd.prog) W 125 ⟨p, 0, none⟩ (by rw [hl, he]; exact hu) .i64 (k : Int) (by omega) (by rw [hl]; omega)
  rw [h, he, hs, hl]
  simp [slicedAt, Result.andThen, Addr.add]
def PackPost (x : Int) (l : List Nat) (w : World) (e : Ending) (w' : World) : Prop :=
  (packB x l = false ∧ e = .returned (.tuple #[.slice none 0 0, .int .i64 1]) ∧ Kept [] w w') ∨
    (packB x l = true ∧ ∃ a c, e = .returned (.tuple #[.slice a x.toNat c, .int .i64 0]) ∧ Own w' 27 a x.toNat c (nats .u64 (packT x.toNat l)) ∧ Kept [] w w' ∧ ∀ b ∈ ft a, w.heap.size ≤ b)
set_option maxHeartbeats 1600000 in
set_option maxRecDepth 100000 in
theorem pack_c (x : Int) (a : Option Addr) (c n : Nat) (l : List Nat) (w : World) (hl : l.length = n) (hn : n ≤ 140737488351232) (hs : SlN w .u64 a l) (hW : Words l) :
    Calls Tryd.prog 53 #[.int .i64 x, .slice a n c] w (PackPost x l w) := by
  have HL := Lib.hid hl
  have HS := Lib.hid hs
  have HW := Lib.hid hW
  have HF := Lib.hid (fits_c x a c n l w hl hn hs hW)
  clear hl hs hW
  go_enter Tryd.func53, Tryd.ntmps53
  go_wp2_with fail
  refine HF.out.mono ?_
  rintro e w3 ⟨rfl, k3⟩
  have K3 := Lib.hid k3
  clear k3 HF
  cases hf : fitsAll x l with
  | false =>
    have HP := Lib.hid (show packB x l = false from by unfold packB; rw [hf]; rfl)
    clear hf
    go_wp2_with fail
    go_ret2
    exact .inl ⟨HP.out, rfl, K3.out⟩
  | true =>
  by_cases hn64 : n ≤ 64
  rotate_left
  · have HP := Lib.hid (show packB x l = false from by unfold packB; rw [HL.out, decide_eq_false hn64, Bool.and_false])
    have hgt : ¬ (n : Int) ≤ 64 := by omega
    clear hf
    go_wp2_with fail
    go_ret2
    exact .inl ⟨HP.out, rfl, K3.out⟩
  have HP := Lib.hid (show packB x l = true from by unfold packB; rw [HL.out, hf, decide_eq_true hn64]; rfl)
  have hx : 1 ≤ x ∧ x ≤ 64 := by
    unfold fitsAll at hf
    simp only [Bool.and_eq_true, decide_eq_true_eq] at hf
    exact hf.1
  clear hf
  obtain ⟨k, hk⟩ : ∃ k : Nat, x = (k : Int) := ⟨x.toNat, by omega⟩
  subst hk
  have hk1 : 1 ≤ k := by omega
  have hk64 : k ≤ 64 := by omega
  clear hx
  have hl64 : l.length ≤ 64 := by rw [HL.out]; exact hn64
  have HSQ := Lib.hid (padW_sq hl64 HW.out)
  have HT := Lib.hid (fun (V : World) => turn_c (padW l) HSQ.out V)
  have HTS := Lib.hid (turn_bits HSQ.out).1
  have HPL := Lib.hid (packT_len hk64 hl64 HW.out)
  obtain ⟨T, hT⟩ : ∃ T, T = turnTo 6 (padW l) := ⟨_, rfl⟩
  have HPT := Lib.hid (show packT k l = T.take k from by rw [hT]; rfl)
  rw [← hT] at HT HTS
  clear hT
  have HCN := Lib.hid (show splice (nats .u64 (List.replicate 64 0)) 0 (nats .u64 l) = nats .u64 (padW l) from by
    unfold splice padW nats
    rw [List.take_zero, List.nil_append, List.length_map, ← List.map_drop, List.drop_replicate, List.map_append, Nat.zero_add])
  have HCL := Lib.hid (show (nats .u64 l).length = Nat.min n 64 from by rw [nats_length, HL.out]; exact (Nat.min_eq_left hn64).symm)
  have HFIT := Lib.hid (show 0 + (nats .u64 l).length ≤ (nats .u64 (List.replicate 64 0)).length from by rw [nats_length, nats_length, List.length_replicate]; omega)
  have HSRC := Lib.hid (show ∀ V : World, Kept [] w V → 0 < (nats .u64 l).length → ∃ ad, a = some ad ∧ ∀ j v, (nats .u64 l)[j]? = some v → V.cell? (ad.add j) = some v from fun V hk h0 => by
    rw [nats_length] at h0
    obtain ⟨ad, rfl, _⟩ := HS.out 0 h0
    refine ⟨ad, rfl, fun j v hj => ?_⟩
    obtain ⟨h2, rfl⟩ := List.getElem?_eq_some_iff.1 hj
    rw [nats_length] at h2
    obtain ⟨ad', h3, h4⟩ := HS.out j h2
    injection h3 with h3
    subst h3
    rw [hk.cell h4 (by simp)]
    simp [nats])
  have HSI := Lib.hid (show (Tryd.prog.info? 125).map (·.size) = some 64 from by kernel_rfl)
  clear hl64
  go_upto_region 4 with (fail)
  generalize hw4 : World.alloc w3 _ = w4
  obtain ⟨Z, hZ, hZs⟩ : ∃ Z : Array Value, w4 = w3.alloc (.cells Z 125) ∧ Z = (nats .u64 (List.replicate 64 0)).toArray := ⟨_, hw4.symm, by rfl⟩
  obtain ⟨p, hp⟩ : ∃ q, q = w3.heap.size := ⟨_, rfl⟩
  have K4 := Lib.hid (show Kept [] w w4 from by rw [hZ]; exact K3.out.alloc _)
  have B4 := Lib.hid (show w4.heap[p]? = some (.cells (nats .u64 (List.replicate 64 0)).toArray 125 (0, 0)) from by rw [hZ, hp, ← hZs]; exact heap_alloc_new w3 _)
  have HPW := Lib.hid (show w.heap.size ≤ p from by rw [hp]; exact K3.out.size)
  have hbelow := Below.refl p w4
  try rw [← hp]
  clear hw4 hZ hZs hp
  go_upto_region 5 with (with_reducible show wpList _ _ _ _ _ _; refine wpList_copy_splice (o := ⟨some 18, _, _, _, _, _⟩) rfl (.tmp 16) (.tmp 17) 33 33 rfl 27 Tryd.underlying33 (by kernel_rfl) (some ⟨p, 0, none⟩) a 64 64 n c rfl rfl p 0 (nats .u64 (List.replicate 64 0)) 125 B4.out (nats .u64 l) HCL.out (fun h0 => ⟨rfl, HSRC.out w4 K4.out h0⟩) HFIT.out (nats_one .u64 l) p w4 hbelow (Nat.le_refl _) ?_; intro w5 hg5 hb5)
  rw [HCN.out] at hg5
  try simp only [Act.put, List.setIfInBounds_toArray, List.set_cons_zero, List.set_cons_succ]
  have B5 := Lib.hid (show w5.heap[p]? = some (.cells (sqV (padW l)) 125 (0, 0)) from hg5.out)
  have K5 := Lib.hid (show Kept [] w w5 from Kept.of_below ((below_of_kept K4.out).trans (below_mono hb5 HPW.out)))
  have HONE := Lib.hid (show (sqV T).all (·.oneCell') = true from by
    rw [Array.all_eq_true_iff_forall_mem]
    intro x hx
    exact nats_one .u64 T x (by simpa [sqV] using hx))
  have HSZ := Lib.hid (show (sqV T).size = 64 ∧ (sqV (padW l)).size = 64 from ⟨by rw [sqV_size]; exact HTS.out.1, by rw [sqV_size]; exact HSQ.out.1⟩)
  generalize goInt ((nats .u64 l).length : Int) = gi
  clear hg5 hb5 hbelow
  go_wp2_with (refine wpList_load_row rfl 125 _ rfl p rfl _ _ (0, 0) _ B5.out Tryd.underlying125 rfl (by rw [HSI.out, HSZ.out.2]) ?_)
  refine (HT.out _).mono ?_
  rintro e w6 ⟨rfl, k6⟩
  have B6 := Lib.hid (k6.heap B5.out (by simp))
  have K6 := Lib.hid (K5.out.trans k6)
  clear k6
  have hrow := setRow_heap w6 p _ (sqV T) 125 (0, 0) B6.out
  have HROW := Lib.hid hrow
  have K7 := Lib.hid (show Kept [] w (w6.setRow p (sqV T)) from kept_up K6.out ((Kept.refl [p] w6).setRowT (.inl (by simp)) _) (by simpa using HPW.out))
  have HS7 := Lib.hid (show SlN (w6.setRow p (sqV T)) .u64 (some ⟨p, 0, none⟩) (packT k l) from by rw [HPT.out]; exact row_sln hrow HTS.out.1 hk64)
  clear hrow
  have hsl := fun W => slice64 W p k hk64
  generalize hwE : w6.setRow p (sqV T) = w7 at *
  go_wp2_with (first
    | (refine wpList_store_row rfl 125 _ _ rfl p _ rfl rfl _ _ B6.out (by rw [HSI.out, HSZ.out.1]) (by rw [HSZ.out.1, HSZ.out.2]) HONE.out ?_; rw [hwE]))
  have HCR := Lib.hid (fun cc => clone_row (some ⟨p, 0, none⟩) cc k (packT k l) w7 HPL.out HS7.out (by omega))
  refine (HCR.out _).mono ?_
  rintro e w8 ⟨a8, c8, rfl, ho8, hst8⟩
  have H8 := Lib.hid (And.intro ho8 hst8)
  clear ho8 hst8
  go_wp2_with fail
  go_ret2
  refine .inr ⟨HP.out, a8, c8, rfl, H8.out.1, K7.out.trans H8.out.2.kept, fun b hb => (H8.out.2.fresh b hb).elim (fun h => by simp at h) (fun h => Nat.le_trans K7.out.size h)⟩
end Go.Proofs.YtjgcfncganleoaaDoor
