/-
  TokFault: the walk.
-/
import Derived.Test.YtjnjldbegngooaaDoorTokCard
import Derived.Test.YtjnjldbegngooaaDoorTokL
import Derived.Lib.AppendStr
import Derived.Lib.AppendZeros
namespace Go.Proofs.YtjnjldbegngooaaDoor
open Go.ChangeShapes Go.WideShapes Go.ChangeAt Go.RowKit
set_option linter.unusedVariables false
set_option linter.unusedSimpArgs false

variable {w w' w1 W : World}
theorem Bt.take {a : Option Addr} {l : List UInt8} (h : Bt w a l) (n : Nat) : Bt w a (l.take n) := fun k hk => by
  have hk2 : k < l.length := by rw [List.length_take] at hk; omega
  obtain ⟨ad, h1, h2⟩ := h k hk2
  exact ⟨ad, h1, by rw [h2, List.getElem_take]⟩
theorem allR_of (l : List UInt8) (h : l.length ≤ 65536) : allR l = match allB l with
  | .error p => .error (20, p)
  | .ok xs => .ok xs := by unfold allR; rw [if_neg (by omega)]; cases allB l <;> rfl
theorem u8_info : (Tryd.prog.info? 5).map (fun i => (i.zero, i.size, i.bytes)) = some (some (.int .u8 0), 1, 1) := by kernel_rfl
theorem bt_pre {g : Nat} {l : List UInt8} {Z : Array Value} {t : TypeId} {fr : Nat × Nat} (h : w.heap[g]? = some (.cells (cBytes l ++ Z) t fr)) : Bt w (some ⟨g, 0, none⟩) l := fun k hk => by
  refine ⟨_, rfl, ?_⟩
  rw [add_at', cell_of_row _ _ _ _ _ _ h, Nat.zero_add, Array.getElem?_append_left (by simpa [cBytes] using hk)]
  simp [cBytes, hk]
theorem cBytes_app (l m : List UInt8) : cBytes l ++ cBytes m = cBytes (l ++ m) := by simp [cBytes]
theorem add_add (a : Addr) (i j : Nat) : (a.add i).add j = a.add (i + j) := by
  unfold Addr.add
  by_cases hi : i = 0
  · simp [hi]
  · by_cases hj : j = 0
    · simp [hi, hj]
    · simp [hi, hj, Nat.add_assoc]
theorem bt_cells {ad : Addr} {l : List UInt8} (hb : Bt w (some ad) l) : ∀ j v, (l.map fun c => Value.int .u8 ((c.toNat : Nat) : Int))[j]? = some v → w.cell? (ad.add j) = some v := by
  intro j v hv
  rw [List.getElem?_map] at hv
  cases hj : l[j]? with
  | none => rw [hj] at hv; cases hv
  | some x =>
    rw [hj] at hv
    injection hv with hv
    subst hv
    obtain ⟨hlt, rfl⟩ := List.getElem?_eq_some_iff.1 hj
    obtain ⟨ad', h1, h2⟩ := hb j hlt
    injection h1 with h1
    subst h1
    exact h2
/-- append(b[:p:p], text...): new memory -/
theorem app_str (ad : Addr) (l : List UInt8) (s : ByteArray) (hs : 0 < s.size) (hl : l.length + s.size ≤ 1000000) (hb : Bt w (some ad) l) :
    ∃ c' w', (Builtin.append_ #[22, 9] 22 #[.slice (some ad) l.length l.length, .string s]).run Tryd.prog w = .ok (.slice (some ⟨w.heap.size, 0, none⟩) (l.length + s.size) c') w' ∧ Kept [] w w' ∧ Bt w' (some ⟨w.heap.size, 0, none⟩) (l ++ s.data.toList) := by
  obtain ⟨i, hi, hiz, hisz, hib⟩ := info3 u8_info
  have hn := nextslicecap_le (need := l.length + s.size) (old := l.length) (by omega)
  have h := Lib.run_append_grow_string (P := Tryd.prog) w 22 9 22 5 i (.int .u8 0) Tryd.underlying22 Tryd.underlying9 hi hiz ad l.length l.length (l.map fun c => Value.int .u8 ((c.toNat : Nat) : Int)) (by rw [hisz]; simp) (bt_cells hb) s (by omega) (by omega) (by rw [hib]; omega)
  refine ⟨_, _, h, ((Kept.refl [] w).drew).alloc _, ?_⟩
  have hg := heap_alloc_new w.drew (.cells ((l.map fun c => Value.int .u8 ((c.toNat : Nat) : Int)).toArray ++ (Lib.strCells s).toArray ++ Builtin.zeroCells (Value.int .u8 0).cells (grownCap w (l.length + s.size) l.length 5 - (l.length + s.size))) 5)
  have e : (l.map fun c => Value.int .u8 ((c.toNat : Nat) : Int)).toArray ++ (Lib.strCells s).toArray = cBytes (l ++ s.data.toList) := cBytes_app l s.data.toList
  rw [e] at hg
  rw [e]
  exact bt_pre hg
set_option maxHeartbeats 3200000 in
set_option maxRecDepth 100000 in
theorem fault_c (a : Option Addr) (c : Nat) (L : List UInt8) (w : World) (hc : L.length ≤ c) (hz : c ≤ 140737488351232) (hb : Bt w a L) (hL : Laid w) :
    Calls Tryd.prog 5 #[.slice a L.length c] w (BoolIs true w) := by
  have HL := Lib.hid hL
  have HBT := Lib.hid (hb.take 1000)
  obtain ⟨M, hM⟩ : ∃ M, M = L.take 1000 := ⟨_, rfl⟩
  have hMl : M.length = min L.length 1000 := by rw [hM, List.length_take, Nat.min_comm]
  have hM1 : M.length ≤ 1000 := by omega
  have hM2 : M.length ≤ L.length := by omega
  rw [← hM] at HBT
  have hmin : min ((L.length : Nat) : Int) 1000 = (M.length : Int) := by omega
  have HMA := Lib.hid (all_c M a c w HL.out HBT.out (by omega))
  have hMc : M.length ≤ c := by omega
  have HWK := Lib.hid (fun W hW => wakes_c W hW)
  clear hL hb hM hMl
  cases hr : allB M with
  | ok xs =>
    have HR := Lib.hid (show allR M = .ok xs from by rw [allR_of M (by omega), hr])
    clear hr
    go_enter Tryd.func5, Tryd.ntmps5
    go_wp2_with fail
    refine HMA.out.mono ?_
    intro e w1 hp
    rw [HR.out] at hp
    obtain ⟨k1, a1, c1, rfl, ho, ha⟩ := hp
    have K1 := Lib.hid (k1.alloc (.cells #[.int .i64 0, .int .i64 0] 26))
    clear k1 ho ha hmin
    go_wp2_with fail
    refine (HWK.out _ (HL.out.kept0 K1.out)).mono ?_
    rintro e w2 ⟨rfl, k2⟩
    have K2 := Lib.hid k2
    clear k2
    go_wp2_with fail
    go_ret
    exact ⟨rfl, K1.out.trans K2.out⟩
  | error p =>
    have HR := Lib.hid (show allR M = .error (20, p) from by rw [allR_of M (by omega), hr])
    have hc0 := err_cut [] (.inl rfl) M.length M 0 p (Nat.le_refl _) hr
    have hc1 := err_cut [32, 120] (.inr rfl) M.length M 0 p (Nat.le_refl _) hr
    rw [Nat.sub_zero] at hc0 hc1
    obtain ⟨_, hpl, ⟨ys0, hy0⟩, hbl, hone⟩ := hc0
    obtain ⟨_, _, ⟨ys1, hy1⟩, _, _⟩ := hc1
    rw [List.append_nil] at hy0
    have hT : (M.take p).length = p := by rw [List.length_take]; omega
    have HR0 := Lib.hid (show allR (M.take p) = .ok ys0 from by rw [allR_of _ (by omega)]; rw [show allB (M.take p) = .ok ys0 from hy0])
    have HR1 := Lib.hid (show allR (M.take p ++ [32, 120]) = .ok ys1 from by rw [allR_of _ (by simp; omega)]; rw [show allB (M.take p ++ [32, 120]) = .ok ys1 from hy1])
    have HR2 := Lib.hid (show allR (M.drop p) = .error (20, 0) from by
      rw [allR_of _ (by simp; omega), show allB (M.drop p) = .error 0 from allP_fail hbl (fun h => by rw [List.drop_eq_nil_iff] at h; omega) hone])
    clear hr hbl hone hy0 hy1
    go_enter Tryd.func5, Tryd.ntmps5
    go_wp2_with fail
    refine HMA.out.mono ?_
    intro e w1 hp
    rw [HR.out] at hp
    obtain ⟨k1, he⟩ := hp
    have he' : e = .returned (.tuple #[.slice none 0 0, .agg #[.int .i64 20, .int .i64 (p : Int)]]) := he
    subst he'
    have K1 := Lib.hid k1
    clear k1 he hmin
    obtain ⟨ad, hbt⟩ : ∃ ad, a = some ad := by
      obtain ⟨ad, h1, _⟩ := HBT.out 0 (by omega)
      exact ⟨ad, h1⟩
    subst hbt
    have HA2 := Lib.hid (show ∀ W, Kept [] w W → Calls Tryd.prog 9 #[.slice (some ad) p c] W (AllPost (allR (M.take p)) W) from fun W hW => by
      have h := all_c (M.take p) (some ad) c W (HL.out.kept0 hW) ((HBT.out.take p).kept0 hW) (by omega)
      rwa [hT] at h)
    have HT2 := Lib.hid hT
    clear hT
    go_wp2_with fail
    refine (HA2.out _ (K1.out.alloc _)).mono ?_
    intro e w2 hp
    rw [HR0.out] at hp
    obtain ⟨k2, a2, c2, rfl, _, _⟩ := hp
    have K12 := Lib.hid (show Kept [] w1 w2 from ((Kept.refl [] w1).alloc (.cells #[.int .i64 20, .int .i64 (p : Int)] 26)).trans k2)
    have HF := Lib.hid (k2.heap (heap_alloc_new w1 (.cells #[.int .i64 20, .int .i64 (p : Int)] 26)) (by simp))
    clear k2
    have d0 := blk_cell HF.out 0
    have d1 := blk_cell HF.out 1
    simp only [List.getElem?_toArray, List.getElem?_cons_zero, List.getElem?_cons_succ] at d0 d1
    have hl2 := blk_lt HF.out
    obtain ⟨w2', hw2'⟩ : ∃ V, V = w2.alloc (.cells #[.int .i64 0, .int .i64 0] 26) := ⟨_, rfl⟩
    obtain ⟨c3, w3, hr3, k3, hb3⟩ := app_str (w := w2') ad (M.take p) ⟨#[32, 120]⟩ (by decide) (by rw [HT2.out]; simp [ByteArray.size]; omega) ((HBT.out.take p).kept0 (hw2' ▸ (K1.out.trans K12.out).alloc _))
    rw [HT2.out] at hr3
    go_wp2_with (at_builtin; refine Lib.wpList_append_run _ rfl _ _ _ _ rfl _ _ rfl rfl _ _ (by rw [← hw2']; exact hr3) ?_)
    have hT3 : (M.take p ++ [32, 120]).length = p + 2 := by rw [List.length_append, HT2.out]; rfl
    have HA3 := Lib.hid (show Calls Tryd.prog 9 #[.slice (some ⟨w2.heap.size + 1, 0, none⟩) (p + 2) c3] w3 (AllPost (.ok ys1) w3) from by
      have h := all_c (M.take p ++ [32, 120]) (some ⟨w2'.heap.size, 0, none⟩) c3 w3 (HL.out.kept0 (((K1.out.trans K12.out).trans (hw2' ▸ (Kept.refl [] w2).alloc _)).trans k3)) hb3 (by rw [hT3]; omega)
      rw [hT3, HR1.out] at h
      rw [show w2'.heap.size = w2.heap.size + 1 from by rw [hw2']; simp] at h
      exact h)
    have K23 := Lib.hid (show Kept [] w2 w3 from (hw2' ▸ (Kept.refl [] w2).alloc _ : Kept [] w2 w2').trans k3)
    have HF2 := Lib.hid (show w3.heap[w2.heap.size]? = some (.cells #[.int .i64 0, .int .i64 0] 26 (0, 0)) from k3.heap (hw2' ▸ heap_alloc_new w2 _) (by simp))
    clear hw2' hr3 hb3 hT3 k3
    refine HA3.out.mono ?_
    intro e w4 hp
    obtain ⟨k4, a4, c4, rfl, _, _⟩ := hp
    have K24 := Lib.hid (K23.out.trans k4)
    have HF4 := Lib.hid (k4.heap HF2.out (by simp))
    have HF1 := Lib.hid (K24.out.heap HF.out (by simp))
    clear k4 d0 d1 hl2
    have d0 := blk_cell HF1.out 0
    have d1 := blk_cell HF1.out 1
    have b0 := blk_cell HF4.out 0
    have b1 := blk_cell HF4.out 1
    simp only [List.getElem?_toArray, List.getElem?_cons_zero, List.getElem?_cons_succ] at d0 d1 b0 b1
    have hl2 := blk_lt HF1.out
    have hl3 := blk_lt HF4.out
    have hpc : p < c := by omega
    have hD : (M.drop p).length = M.length - p := by rw [List.length_drop]
    have HBD := Lib.hid (show Bt w (some (ad.add p)) (M.drop p) from fun k hk => by
      have hk2 : p + k < M.length := by rw [hD] at hk; omega
      obtain ⟨ad', h1, h2⟩ := HBT.out (p + k) hk2
      injection h1 with h1
      subst h1
      refine ⟨_, rfl, ?_⟩
      rw [add_add, h2, List.getElem_drop])
    have HA5 := Lib.hid (show ∀ W c', Kept [] w W → Calls Tryd.prog 9 #[.slice (some (ad.add p)) (M.length - p) c'] W (AllPost (.error (20, 0)) W) from fun W c' hW => by
      have h := all_c (M.drop p) (some (ad.add p)) c' W (HL.out.kept0 hW) (HBD.out.kept0 hW) (by rw [hD]; omega)
      rwa [hD, HR2.out] at h)
    clear hD
    go_wp2_with fail
    refine (HA5.out _ _ (((K1.out.trans K12.out).trans K24.out).alloc _)).mono ?_
    intro e w5 hp
    obtain ⟨k5, he⟩ := hp
    have he' : e = .returned (.tuple #[.slice none 0 0, .agg #[.int .i64 20, .int .i64 0]]) := he
    subst he'
    have K45 := Lib.hid (show Kept [] w4 w5 from ((Kept.refl [] w4).alloc (.cells #[.int .i64 0, .int .i64 0] 26)).trans k5)
    have HF8 := Lib.hid (k5.heap (heap_alloc_new w4 (.cells #[.int .i64 0, .int .i64 0] 26)) (by simp))
    have HF4' := Lib.hid (K45.out.heap HF4.out (by simp))
    clear k5 he d0 d1 b0 b1 hl2 hl3
    have d0 := blk_cell HF4'.out 0
    have d1 := blk_cell HF4'.out 1
    have b0 := blk_cell HF8.out 0
    have b1 := blk_cell HF8.out 1
    simp only [List.getElem?_toArray, List.getElem?_cons_zero, List.getElem?_cons_succ] at d0 d1 b0 b1
    have hl2 := blk_lt HF4'.out
    have hl3 := blk_lt HF8.out
    have KA := Lib.hid (((K1.out.trans K12.out).trans K24.out).trans K45.out)
    go_wp2_with fail
    refine (HWK.out _ (HL.out.kept0 (KA.out.alloc _))).mono ?_
    rintro e w6 ⟨rfl, k6⟩
    have K6 := Lib.hid ((KA.out.alloc (.cells #[.int .i64 20, .int .i64 0] 26)).trans k6)
    clear k6
    go_wp2_with fail
    go_ret
    exact ⟨rfl, K6.out⟩
end Go.Proofs.YtjnjldbegngooaaDoor
