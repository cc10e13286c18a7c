/-
  Package lanes: fits.
-/
import Derived.Test.YtjgcfncganleoaaDoorLnT
import Derived.Test.YtjgcfncganleoaaDoorTrcF
namespace Go.Proofs.YtjgcfncganleoaaDoor
open Go.ChangeShapes Go.WideShapes Go.ChangeAt Go.RowKit
open Go.Maps (Keyed)
open Go.WideMaps
set_option linter.unusedVariables false
set_option linter.unusedSimpArgs false

variable {w w' w1 W : World}
set_option maxHeartbeats 800000 in
set_option maxRecDepth 100000 in
/-- the first word of which a closure with one captured value says yes -/
theorem index_word (fid : FuncId) (hF : ∀ xs w, (callFunc fid xs).run Tryd.prog w = .ok (Next.enter fid xs) w) (cap : Value) (P : Nat → Bool) (a : Option Addr) (c len : Nat) (l : List Nat) (w : World) (hl : l.length = len) (hlm : len ≤ 140737488351232) (hs : SlN w .u64 a l)
    (HC : ∀ x ∈ l, ∀ W, Kept [] w W → Calls Tryd.prog fid #[.int .u64 (x : Int), cap] W (BoolIs (P x) W)) :
    Calls Tryd.prog 112 #[.slice a len c, .func (.func fid) #[] #[cap]] w (IdxPost (l.findIdx? P) w) := by
  have HL := Lib.hid hl; clear hl
  have HF := Lib.hid HC; clear HC
  have HS := Lib.hid hs
  clear hs
  go_enter Tryd.func112, Tryd.ntmps112
  go_wp2_with fail
  go_loopw [8] (fun i wr => ∃ k : Nat, k ≤ len ∧ i = .int .i64 k ∧ Kept [] w wr ∧ ∀ j, j < k → ∃ h : j < l.length, P l[j] = false) (fun i _ => len - (intOf i).toNat)
  case atStart => exact ⟨0, Nat.zero_le _, rfl, .refl _ _, fun j hj => by omega⟩
  case round =>
    obtain ⟨k, hk, rfl, hkr, hall⟩ := hrel
    have HA := Lib.hid hall
    have KR := Lib.hid hkr
    clear hall hkr
    by_cases hlt : k < len
    · have hkl : k < l.length := by have := HL.out; omega
      obtain ⟨ad, rfl, x0⟩ := (HS.out.kept0 KR.out) k hkl
      have HX := Lib.hid (HF.out _ (List.getElem_mem hkl) wr KR.out)
      cases hp : P l[k] with
      | true =>
        rw [hp] at HX
        have HB := Lib.hid (findIdx_some hkl hp HA.out)
        clear hp
        generalize l[k] = x at *
        go_wp2_with fail
        refine HX.out.mono ?_
        rintro e w1 ⟨rfl, k1⟩
        have K1 := Lib.hid k1
        clear k1
        go_wp2_with fail
        go_ret
        exact ⟨by rw [HB.out]; rfl, KR.out.trans K1.out⟩
      | false =>
        rw [hp] at HX
        have HB := Lib.hid (show ∀ j, j < k + 1 → ∃ h : j < l.length, P l[j] = false from fun j hj => by
          by_cases h : j < k
          · exact HA.out j h
          · obtain rfl : j = k := by omega
            exact ⟨hkl, hp⟩)
        clear hp
        generalize l[k] = x at *
        go_wp2_with fail
        refine HX.out.mono ?_
        rintro e w1 ⟨rfl, k1⟩
        have K1 := Lib.hid k1
        clear k1
        go_wp2_with fail
        go_roundw
        case rel => exact ⟨k + 1, by omega, by go_num, KR.out.trans K1.out, HB.out⟩
        case measure => simp [intOf]; omega
    · obtain rfl : len = k := by omega
      have HB := Lib.hid (findIdx_none (l := l) (p := P) (fun j hj => HA.out j (by rw [← HL.out]; exact hj)))
      go_wp2_with fail
      go_ret
      exact ⟨by rw [HB.out]; rfl, KR.out⟩
theorem idx_any {α : Type} (l : List α) (P : α → Bool) : decide (0 ≤ idxV (l.findIdx? P)) = l.any P := by
  cases h : l.findIdx? P with
  | none =>
    rw [List.findIdx?_eq_none_iff] at h
    have : l.any P = false := by rw [List.any_eq_false]; exact fun x hx => by simp [h x hx]
    rw [this]; rfl
  | some k =>
    have h2 := List.findIdx?_eq_some_iff_getElem.1 h
    have : l.any P = true := List.any_eq_true.2 ⟨_, List.getElem_mem h2.1, h2.2.1⟩
    rw [this]
    exact decide_eq_true (by show (0 : Int) ≤ (k : Int); omega)
theorem contains_word (fid : FuncId) (hF : ∀ xs w, (callFunc fid xs).run Tryd.prog w = .ok (Next.enter fid xs) w) (cap : Value) (P : Nat → Bool) (a : Option Addr) (c len : Nat) (l : List Nat) (w : World) (hl : l.length = len) (hlm : len ≤ 140737488351232) (hs : SlN w .u64 a l)
    (HC : ∀ x ∈ l, ∀ W, Kept [] w W → Calls Tryd.prog fid #[.int .u64 (x : Int), cap] W (BoolIs (P x) W)) :
    Calls Tryd.prog 95 #[.slice a len c, .func (.func fid) #[] #[cap]] w (BoolIs (l.any P) w) := by
  have HX := Lib.hid (index_word fid hF cap P a c len l w hl hlm hs HC)
  have HA := Lib.hid (idx_any l P)
  clear hs HC
  unfold IdxPost at HX
  generalize idxV (l.findIdx? P) = ix at *
  go_enter Tryd.func95, Tryd.ntmps95
  go_wp2_with fail
  refine HX.out.mono ?_
  rintro e w1 ⟨rfl, k1⟩
  have K1 := Lib.hid k1
  clear k1
  go_wp2_with fail
  go_ret
  exact ⟨by rw [← HA.out]; rfl, K1.out⟩
theorem fits1_c (x : Int) (n q : Nat) (hn : n < 18446744073709551616) (w : World) (h0 : w.cell? ⟨q, 0, none⟩ = some (.bool false)) (h1 : w.cell? ⟨q, 1, none⟩ = some (.bool false)) (h2 : w.cell? ⟨q, 2, none⟩ = some (.int .i64 x)) :
    Calls Tryd.prog 96 #[.int .u64 (n : Int), .pointer (some ⟨q, 0, none⟩)] w (BoolIs (!fitsB x n) w) := by
  have HR := Lib.hid (show fitsW false false x n = fitsB x n from by
    unfold fitsW mayW fitsB
    by_cases h1 : 1 ≤ x <;> by_cases h2 : x ≤ 64 <;> simp [h1, h2])
  have HI := Lib.hid (fun (W : World) => word_is false false x n hn W)
  rw [HR.out] at HI
  unfold tyV at HI
  go_enter Tryd.func96, Tryd.ntmps96
  go_wp2_with fail
  refine (HI.out _).mono ?_
  rintro e w1 ⟨rfl, k1⟩
  have K1 := Lib.hid k1
  clear k1
  go_wp2_with fail
  go_ret
  exact ⟨rfl, K1.out⟩
def fitsAll (x : Int) (l : List Nat) : Bool := decide (1 ≤ x ∧ x ≤ 64) && l.all (fitsB x)
set_option maxHeartbeats 800000 in
theorem fits_c (x : Int) (a : Option Addr) (c n : Nat) (l : List Nat) (w : World) (hl : l.length = n) (hn : n ≤ 140737488351232) (hs : SlN w .u64 a l) (hW : Words l) :
    Calls Tryd.prog 73 #[.int .i64 x, .slice a n c] w (BoolIs (fitsAll x l) w) := by
  have HS := Lib.hid hs
  have HL := Lib.hid hl
  have HWD := Lib.hid hW
  have hmf : ∀ (fn : Fn) (first cap : Array Value) (w : World), (Instr.makeFunc fn first cap).run Tryd.prog w = .ok (.func fn first cap) w := fun _ _ _ _ => rfl
  have HMR := Lib.hid (show mayW false false x = decide (1 ≤ x ∧ x ≤ 64) from by
    unfold mayW
    by_cases h1 : 1 ≤ x <;> by_cases h2 : x ≤ 64 <;> simp [h1, h2])
  have HM := Lib.hid (fun (W : World) => word_may false false x W)
  rw [HMR.out] at HM
  unfold tyV at HM
  clear hs hl hW
  go_enter Tryd.func73, Tryd.ntmps73
  go_upto_region 2 with (fail)
  obtain ⟨w2, hw2⟩ : ∃ W, W = w.alloc (.cells #[.bool false, .bool false, .int .i64 x] 121) := ⟨_, rfl⟩
  obtain ⟨q, hq⟩ : ∃ q, q = w.heap.size := ⟨_, rfl⟩
  have K2 := Lib.hid (show Kept [] w w2 from by rw [hw2]; exact (Kept.refl [] w).alloc _)
  have C := Lib.hid (show w2.cell? ⟨q, 0, none⟩ = some (.bool false) ∧ w2.cell? ⟨q, 1, none⟩ = some (.bool false) ∧ w2.cell? ⟨q, 2, none⟩ = some (.int .i64 x) from by
    rw [hw2, hq]
    exact ⟨blk_cell (heap_alloc_new w _) 0, blk_cell (heap_alloc_new w _) 1, blk_cell (heap_alloc_new w _) 2⟩)
  try rw [← hq]
  try rw [← hw2]
  clear hw2 hq
  obtain ⟨c0, c1, c2⟩ := C.out
  by_cases hx : 1 ≤ x ∧ x ≤ 64
  · rw [decide_eq_true hx] at HM
    have HR := Lib.hid (show fitsAll x l = !(l.any fun n => !fitsB x n) from by
      unfold fitsAll
      rw [decide_eq_true hx, Bool.true_and]
      simp [List.all_eq_not_any_not])
    have HC := Lib.hid (fun (V : World) (hV : Kept [] w2 V) => contains_word 96 Tryd.call96 (.pointer (some ⟨q, 0, none⟩)) (fun n => !fitsB x n) a c n l V HL.out hn ((HS.out.kept0 K2.out).kept0 hV)
      (fun y hy V' hV' => fits1_c x y q (HWD.out y hy) V' ((hV.trans hV').cell C.out.1 (by simp)) ((hV.trans hV').cell C.out.2.1 (by simp)) ((hV.trans hV').cell C.out.2.2 (by simp))))
    generalize (l.any fun n => !fitsB x n) = r at *
    clear hx
    go_wp2_with fail
    refine (HM.out _).mono ?_
    rintro e w3 ⟨rfl, k3⟩
    have K3 := Lib.hid k3
    clear k3
    go_wp2_with fail
    refine (HC.out _ K3.out).mono ?_
    rintro e w4 ⟨rfl, k4⟩
    have K4 := Lib.hid k4
    clear k4
    go_wp2_with fail
    go_ret
    exact ⟨by rw [HR.out]; simp, (K2.out.trans K3.out).trans K4.out⟩
  · rw [decide_eq_false hx] at HM
    have HR := Lib.hid (show fitsAll x l = false from by unfold fitsAll; rw [decide_eq_false hx]; rfl)
    clear hx
    go_wp2_with fail
    refine (HM.out _).mono ?_
    rintro e w3 ⟨rfl, k3⟩
    have K3 := Lib.hid k3
    clear k3
    go_wp2_with fail
    go_ret
    exact ⟨by rw [HR.out]; rfl, K2.out.trans K3.out⟩
end Go.Proofs.YtjgcfncganleoaaDoor
