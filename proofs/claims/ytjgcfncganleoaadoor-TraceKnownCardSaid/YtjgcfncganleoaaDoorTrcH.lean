/-
  strconv.AppendUint to base 16.
-/
import Derived.Test.YtjgcfncganleoaaDoorTrcG
import Derived.Deep.DeepCutAuto
namespace Go.Proofs.YtjgcfncganleoaaDoor
open Go.ChangeShapes Go.WideShapes Go.ChangeAt Go.RowKit
set_option linter.unusedVariables false
set_option linter.unusedSimpArgs false

variable {w w' : World}
def hxd (d : Nat) : UInt8 := if d < 10 then UInt8.ofNat (48 + d) else UInt8.ofNat (87 + d)
def hexD (u : Nat) : List UInt8 :=
  if h : u < 16 then [hxd u] else hexD (u / 16) ++ [hxd (u % 16)]
termination_by u
decreasing_by omega
theorem hexD_small {u : Nat} (h : u < 16) : hexD u = [hxd u] := by rw [hexD, dif_pos h]
theorem hexD_big {u : Nat} (h : ¬ u < 16) : hexD u = hexD (u / 16) ++ [hxd (u % 16)] := by rw [hexD, dif_neg h]
def digs36 : ByteArray := ⟨#[48, 49, 50, 51, 52, 53, 54, 55, 56, 57, 97, 98, 99, 100, 101, 102, 103, 104, 105, 106, 107, 108, 109, 110, 111, 112, 113, 114, 115, 116, 117, 118, 119, 120, 121, 122]⟩
theorem digs36_get (d : Nat) (h : d < 16) (h2 : d < digs36.size) : digs36[d].toNat = (hxd d).toNat := by
  have : ∀ i : Fin 16, digs36[i.1]!.toNat = (hxd i.1).toNat := by decide +kernel
  have h3 := this ⟨d, h⟩
  simp only [getElem!_pos digs36 d h2] at h3
  exact h3
theorem drop_set {α : Type} (l : List α) (j : Nat) (x : α) (h : j < l.length) : (l.set j x).drop j = x :: l.drop (j + 1) := by
  rw [List.drop_eq_getElem_cons (by simpa using h), List.getElem_set_self, List.drop_set_of_lt (by omega)]
theorem slice65 (W : World) (p j : Nat) (hj : j < 65) : (Instr.sliceAt 158 (.pointer (some ⟨p, 0, none⟩)) (some (.int .i64 (j : Int))) none none).run Tryd.prog W = .ok (.slice (some ⟨p, j, none⟩) (65 - j) (65 - j)) W := by
  have hu := Tryd.underlying158
  have hl : Tryd.prog.arrayLen 158 = 65 := by kernel_rfl
  have he : Tryd.prog.elem 158 = 5 := by kernel_rfl
  have hs : (sizeOf 5).run Tryd.prog W = .ok 1 W := by kernel_rfl
  have h := run_sliceAt_array_l (P := Tryd.prog) W 158 ⟨p, 0, none⟩ (by rw [hl, he]; exact hu) .i64 (j : Int) (by omega) (by rw [hl]; omega)
  rw [h, he, hs, hl]
  have hne : ¬ 65 = j := by omega
  have ha : (⟨p, 0, none⟩ : Addr).add (j * 1) = ⟨p, j, none⟩ := by unfold Addr.add; split <;> simp_all
  simp [slicedAt, Result.andThen, hne]
  simpa using ha
theorem own_keptB {B n size : Nat} {e : TypeId} {v : Value} {xs : List Value} {F : List Nat} (h : w.ownsRow B e size v n xs) (hk : Kept F w w') (hd : ∀ g, v.ownBlock = some g → g ∉ F) : w'.ownsRow B e size v n xs := by
  refine ⟨h.1, ?_⟩
  rcases h.2 with hn | ⟨g, cap', cur, hv, hb, hg, rest⟩
  · exact .inl hn
  · exact .inr ⟨g, cap', cur, hv, hb, hk.heap hg (hd g (by rw [hv]; rfl)), rest⟩
theorem others_of_kept {e : TypeId} (h : Kept [] w w') : Lib.OthersKept e none w w' := fun k o ho _ _ => h.heap ho (by simp)
theorem u8_info : ∃ i, Tryd.prog.info? 5 = some i ∧ i.zero = some (.int .u8 0) ∧ i.size = 1 ∧ i.bytes = 1 := info3 (by kernel_rfl)
set_option maxHeartbeats 3200000 in
set_option maxRecDepth 100000 in
theorem format16 (B n u : Nat) (hu : u < 18446744073709551616) (sv : Value) (xs : List Value) (w : World) (hown : w.ownsRow B 5 1 sv n xs) (hBw : B ≤ w.heap.size) (hlim : n + 20 ≤ 140737488355328) (hg : w.cell? ⟨3, 15, none⟩ = some (.int .u8 4)) :
    Calls Tryd.prog 94 #[sv, .int .u64 (u : Int), .int .i64 16, .bool false, .bool true] w fun e w' => ∃ v', e = .returned (.tuple #[v', .string ⟨#[]⟩]) ∧ w'.ownsRow B 5 1 v' (n + (hexD u).length) (xs ++ Lib.byteCells (hexD u)) ∧ Below B w w' ∧ Lib.OthersKept 5 none w w' := by
  have HO := Lib.hid hown
  have HT := Lib.hid (fun (W : World) (hW : Kept [] w W) => tz16 W (hW.cell hg (by simp)))
  have HP := Lib.hid (fun (W : World) => pow16 W)
  clear hown hg
  go_enter Tryd.func94, Tryd.ntmps94; (try simp only [List.append])
  go_wp2_with fail
  refine (HP.out _).mono ?_
  rintro e w1 ⟨rfl, rfl⟩
  go_wp2_with fail
  refine (HT.out _ ((Kept.refl [] w).alloc _)).mono ?_
  rintro e w1 ⟨rfl, rfl⟩
  go_wp2_with fail
  obtain ⟨p, hp⟩ : ∃ q, q = w.heap.size := ⟨_, rfl⟩
  obtain ⟨w3, hw3⟩ : ∃ W, W = w.alloc (.cells Tryd.zeroCells158 158) := ⟨_, rfl⟩
  have K3 := Lib.hid (show Kept [] w w3 from by rw [hw3]; exact (Kept.refl [] w).alloc _)
  have B3 := Lib.hid (show w3.heap[p]? = some (.cells Tryd.zeroCells158 158 (0, 0)) from by rw [hw3, hp]; exact heap_alloc_new w _)
  have HPW := Lib.hid (show p = w.heap.size ∧ w3.heap.size = p + 1 from by rw [hw3, hp]; simp)
  have HZ65 := Lib.hid (show (Tryd.zeroCells158).size = 65 from by kernel_rfl)
  try rw [← hp]
  try rw [← hw3]
  clear hp hw3
  generalize Tryd.zeroCells158 = A0 at *
  go_loopw [1, 13] (fun uv iv wr => ∃ (k v : Nat) (T : List UInt8) (A : Array Value), k ≤ 15 ∧ uv = .int .u64 (v : Int) ∧ iv = .int .i64 ((65 : Int) - (k : Int)) ∧ hexD u = hexD v ++ T ∧ T.length = k ∧ v * 16 ^ k ≤ u ∧ wr.heap[p]? = some (.cells A 158 (0, 0)) ∧ A.size = 65 ∧ A.toList.drop (65 - k) = Lib.byteCells T ∧ Kept [p] w3 wr) (fun uv _ _ => (intOf uv).toNat)
  case atStart => exact ⟨0, u, [], A0, by omega, rfl, rfl, by simp, rfl, by omega, B3.out, HZ65.out, by rw [List.drop_eq_nil_of_le (by simp [HZ65.out])]; rfl, .refl _ _⟩
  case round =>
    obtain ⟨k, v, T, A, hk, rfl, rfl, hh, hT, hv, hb, hA, hdr, hkr⟩ := hrel
    have HH := Lib.hid (And.intro hh (And.intro hT (And.intro hv (And.intro hb (And.intro hA hdr)))))
    have KR := Lib.hid hkr
    clear hh hT hv hA hdr hkr
    have hvu : v < 18446744073709551616 := by
      have h1 := HH.out.2.2.1
      have h2 : 1 ≤ 16 ^ k := Nat.pow_pos (by omega)
      have h3 : v * 1 ≤ v * 16 ^ k := Nat.mul_le_mul_left v h2
      omega
    by_cases hlt : 16 ≤ v
    · have hk14 : k ≤ 14 := by
        have h1 := HH.out.2.2.1
        refine Nat.le_of_not_lt fun h => ?_
        have h2 : 16 ^ 15 ≤ 16 ^ k := Nat.pow_le_pow_right (by omega) (by omega)
        have h3 : 16 * 16 ^ 15 ≤ v * 16 ^ k := Nat.mul_le_mul hlt h2
        have h4 : (16 : Nat) * 16 ^ 15 = 18446744073709551616 := by decide
        omega
      obtain ⟨d, hd⟩ : ∃ d, d = v % 16 := ⟨_, rfl⟩
      have hd16 : d < 16 := by omega
      have hand : bits .and .u64 (v : Int) 15 = (d : Int) := by
        rw [show (15 : Int) = ((15 : Nat) : Int) from rfl, u64_and_nat _ _ hvu (by omega), nat_mask4, hd]
      have HD := Lib.hid hd
      have HHD := Lib.hid (show hexD v = hexD (v / 16) ++ [hxd d] from by rw [hd]; exact hexD_big (by omega))
      obtain ⟨j, hj⟩ : ∃ j, j = 64 - k := ⟨_, rfl⟩
      have hji : (65 : Int) - (k : Int) - 1 = (j : Int) := by omega
      have hj65 : j < 65 := by omega
      obtain ⟨c, c1⟩ : ∃ c, wr.cell? ⟨p, j, none⟩ = some c := ⟨_, by rw [blk_cell hb j]; exact Array.getElem?_eq_getElem (by rw [HH.out.2.2.2.2.1]; exact hj65)⟩
      have f1 := blk_free hb j
      have HJ := Lib.hid hj
      clear hd hj hb
      have HX := Lib.hid (show (Value.int .u8 ((digs36[d]'(by have : digs36.size = 36 := rfl; omega)).toNat : Int)) = .int .u8 ((hxd d).toNat : Int) from by rw [digs36_get d hd16])
      go_wp2_with fail
      go_roundw
      case rel =>
        have h1 := HH.out
        have hj := HJ.out
        refine ⟨k + 1, v / 16, hxd d :: T, A.setIfInBounds j (.int .u8 ((hxd d).toNat : Int)), by omega, congrArg (Value.int .u64) (Int.natCast_ediv v 16).symm, by congr 1; omega, by rw [h1.1, HHD.out]; simp, by simp [h1.2.1], ?_, ?_, by simp [h1.2.2.2.2.1], ?_, ?_⟩
        · have h2 := h1.2.2.1
          have h3 : v / 16 * 16 ≤ v := Nat.div_mul_le_self v 16
          calc v / 16 * 16 ^ (k + 1) = (v / 16 * 16) * 16 ^ k := by rw [Nat.pow_succ, Nat.mul_assoc, Nat.mul_comm (16 ^ k) 16]
            _ ≤ v * 16 ^ k := Nat.mul_le_mul_right _ h3
            _ ≤ u := h2
        · rw [← HX.out]
          exact blk_set h1.2.2.2.1 j _
        · rw [Array.toList_setIfInBounds, show 65 - (k + 1) = j from by omega, drop_set _ _ _ (by rw [Array.length_toList, h1.2.2.2.2.1]; exact hj65), show j + 1 = 65 - k from by omega, h1.2.2.2.2.2]
          rfl
        · exact KR.out.setCell (.inl (by simp)) _
      case measure => simp [intOf]; omega
    · have hlt16 : v < 16 := by omega
      obtain ⟨j, hj⟩ : ∃ j, j = 64 - k := ⟨_, rfl⟩
      have hji : (65 : Int) - (k : Int) - 1 = (j : Int) := by omega
      have hj65 : j < 65 := by omega
      obtain ⟨c, c1⟩ : ∃ c, wr.cell? ⟨p, j, none⟩ = some c := ⟨_, by rw [blk_cell hb j]; exact Array.getElem?_eq_getElem (by rw [HH.out.2.2.2.2.1]; exact hj65)⟩
      have f1 := blk_free hb j
      have HJ := Lib.hid hj
      have HX := Lib.hid (show (Value.int .u8 ((digs36[v]'(by have : digs36.size = 36 := rfl; omega)).toNat : Int)) = .int .u8 ((hxd v).toNat : Int) from by rw [digs36_get v hlt16])
      have HB := Lib.hid (show (wr.setCell ⟨p, j, none⟩ (.int .u8 ((hxd v).toNat : Int))).heap[p]? = some (.cells (A.setIfInBounds j (.int .u8 ((hxd v).toNat : Int))) 158 (0, 0)) from blk_set hb j _)
      have HDR := Lib.hid (show (A.setIfInBounds j (.int .u8 ((hxd v).toNat : Int))).toList.drop j = Lib.byteCells (hxd v :: T) from by
        rw [Array.toList_setIfInBounds, drop_set _ _ _ (by rw [Array.length_toList, HH.out.2.2.2.2.1]; exact hj65), show j + 1 = 65 - k from by omega, HH.out.2.2.2.2.2]
        rfl)
      have HXD := Lib.hid (show hexD u = hxd v :: T ∧ (hxd v :: T).length = 65 - j from by
        rw [HH.out.1, hexD_small hlt16]
        refine ⟨rfl, ?_⟩
        have := HH.out.2.1
        simp
        omega)
      have KW := Lib.hid (show Kept [p] w3 (wr.setCell ⟨p, j, none⟩ (.int .u8 ((hxd v).toNat : Int))) from KR.out.setCell (.inl (by simp)) _)
      have hsl := fun W => slice65 W p j hj65
      clear hj hb
      go_upto_region 29 with (fail)
      generalize hwE : World.setCell wr ⟨p, j, none⟩ _ = wE
      have hE : wE = wr.setCell ⟨p, j, none⟩ (.int .u8 ((hxd v).toNat : Int)) := hwE.symm.trans (congrArg (World.setCell wr ⟨p, j, none⟩) HX.out)
      rw [← hE] at HB KW
      clear hwE hE c1 f1
      have hKE : Kept [] w wE := kept_up K3.out KW.out (fun b hb => by rw [List.mem_singleton.1 hb]; have := HPW.out.1; omega)
      have hOE : wE.ownsRow B 5 1 sv n xs := own_keptB HO.out hKE (by simp)
      have HKE := Lib.hid hKE
      have HOE := Lib.hid hOE
      have hCE : ∀ q x, (Lib.byteCells (hxd v :: T))[q]? = some x → wE.cell? ((⟨p, j, none⟩ : Addr).add q) = some x := fun q x hq => by
        have ha : (⟨p, j, none⟩ : Addr).add q = ⟨p, j + q, none⟩ := add_at p j q
        rw [ha, blk_cell HB.out (j + q)]
        rw [← HDR.out, List.getElem?_drop] at hq
        rw [← Array.getElem?_toList]
        exact hq
      have HCE := Lib.hid hCE
      have HLB := Lib.hid (show (Lib.byteCells (hxd v :: T)).length = (65 - j) * 1 from by rw [Lib.byteCells_length, HXD.out.2, Nat.mul_one])
      obtain ⟨i0, hi, hz0, hz1, hz2⟩ := u8_info
      have HBW := Lib.hid (show B ≤ wE.heap.size from Nat.le_trans hBw hKE.size)
      have hj20 : 65 - j ≤ 16 := by have := HJ.out; omega
      clear hKE hOE hCE
      go_wp2_with (at_builtin; refine wpList_append_own _ rfl _ _ 44 rfl B 5 i0 (.int .u8 0) 1 1 Tryd.underlying44 hi hz0 hz1 hz2 rfl (by omega) _ _ _ rfl HOE.out ⟨p, j, none⟩ (65 - j) (65 - j) (Lib.byteCells (hxd v :: T)) rfl HLB.out HCE.out (Lib.byteCells_one _) (by unfold maxLen; omega) (by omega) HBW.out ?_; intro v' w9 hown9 hg9 _)
      have H9 := Lib.hid (And.intro hown9 hg9)
      clear hown9 hg9
      go_wp2_with fail
      go_ret2
      refine ⟨v', rfl, ?_, ?_, ?_⟩
      · rw [HXD.out.1, HXD.out.2]
        exact H9.out.1
      · exact (show Below B w wE from ⟨HKE.out.os, HKE.out.tape, HKE.out.output, HKE.out.size, fun k hk => HKE.out.block k (by omega) (by simp)⟩).grown H9.out.2 HBW.out (fun k hk => (HO.out.lt k hk).1)
      · exact (others_of_kept HKE.out).grown H9.out.2 (Lib.ownsRow_kind HOE.out)
theorem app_uint16 (B n u : Nat) (hu : u < 18446744073709551616) (sv : Value) (xs : List Value) (w : World) (hown : w.ownsRow B 5 1 sv n xs) (hBw : B ≤ w.heap.size) (hlim : n + 20 ≤ 140737488355328) (hg : w.cell? ⟨3, 15, none⟩ = some (.int .u8 4)) :
    Calls Tryd.prog 44 #[sv, .int .u64 (u : Int), .int .i64 16] w (BufPost B n xs (hexD u) w) := by
  have HF := Lib.hid (format16 B n u hu sv xs w hown hBw hlim hg)
  clear hown hg
  have HI := Lib.hid (show Calls Tryd.prog 70 #[sv, .int .u64 (u : Int), .int .i64 16] w (BufPost B n xs (hexD u) w) from by
    go_enter Tryd.func70, Tryd.ntmps70
    go_wp2_with fail
    refine HF.out.mono ?_
    rintro e w1 ⟨v', rfl, h⟩
    have H1 := Lib.hid h
    clear h
    go_wp2_with fail
    go_ret
    exact ⟨v', rfl, H1.out⟩)
  go_enter Tryd.func44, Tryd.ntmps44
  go_wp2_with fail
  refine HI.out.mono ?_
  rintro e w1 ⟨v', rfl, h⟩
  have H1 := Lib.hid h
  clear h
  go_wp2_with fail
  go_ret
  exact ⟨v', rfl, H1.out⟩
theorem hexD_length (u : Nat) (k : Nat) (h : u < 16 ^ (k + 1)) : (hexD u).length ≤ k + 1 := by
  induction k generalizing u with
  | zero => rw [hexD_small (by omega)]; simp
  | succ k ih =>
    by_cases hs : u < 16
    · rw [hexD_small hs]; simp
    · rw [hexD_big hs, List.length_append]
      have := ih (u / 16) (by rw [Nat.div_lt_iff_lt_mul (by omega)]; rw [Nat.pow_succ] at h; exact h)
      simp
      omega
theorem hexD_16 {u : Nat} (h : u < 18446744073709551616) : (hexD u).length ≤ 16 := hexD_length u 15 (by omega)
theorem dec_2 {k : Nat} (h : k < 100) : (Lib.decDigits k).length ≤ 2 := by
  rw [Lib.decDigits_length]
  by_cases h10 : k < 10
  · rw [Lib.nDigits_small h10]; omega
  · rw [Lib.nDigits_big h10, Lib.nDigits_small (show k / 10 < 10 by omega)]
    omega
end Go.Proofs.YtjgcfncganleoaaDoor
