/-
  Law 15's document: TypeOf, Reserved.
-/
import Derived.Test.YtjnjldbegngooaaDoorTokRa
namespace Go.Proofs.YtjnjldbegngooaaDoor
open Go.ChangeShapes Go.WideShapes Go.ChangeAt Go.RowKit
set_option linter.unusedVariables false
set_option linter.unusedSimpArgs false

variable {w w' w1 W : World}
theorem typeB_none {s : List UInt8} (hB : s ≠ boolL) (h : ∀ j, 1 ≤ j → j ≤ 64 → ∀ sg, sayB ⟨false, sg, ((j : Nat) : Int)⟩ ≠ s) : typeB s = none := by
  cases ht : typeB s with
  | none => rfl
  | some t =>
    exfalso
    obtain ⟨h1, h2⟩ := say_typeB ht
    cases hb : t.b with
    | true => exact hB (by rw [← h2, sayB_bool h1 hb])
    | false =>
      have hw := mayTy_num h1 hb
      obtain ⟨b, sg, x⟩ := t
      obtain ⟨n, rfl⟩ : ∃ n : Nat, x = n := ⟨x.toNat, by have := hw.1; simp only at this; omega⟩
      simp only at hb hw
      subst hb
      exact h n (by omega) (by omega) sg h2
theorem may_numT {j : Nat} (h1 : 1 ≤ j) (h2 : j ≤ 64) (sg : Bool) : mayTy ⟨false, sg, (j : Int)⟩ = true := by
  unfold mayTy
  simp
  omega
set_option maxHeartbeats 3200000 in
set_option maxRecDepth 100000 in
theorem rtypeof_c (s : List UInt8) (hs : s.length ≤ 281474976710656) (w : World) : Calls Tryd.prog 13 #[.string ⟨s.toArray⟩] w (TypePost (typeB s) w) := by
  by_cases hB : s = boolL
  · subst hB
    have HT := Lib.hid typeB_bool
    go_enter Tryd.func13, Tryd.ntmps13
    go_wp2_with fail
    refine bodyPost_ret (v := .tuple #[tyV boolTy, .bool true]) (by simp [results, Tryd.results13, go_sem, tyV, boolTy]) rfl ?_
    rw [HT.out]
    exact ⟨rfl, (Kept.refl [] w).alloc _⟩
  have HB := Lib.hid hB
  have hb1 : (s == [98, 111, 111, 108]) = false := by rw [beq_eq_false_iff_ne]; exact hB
  clear hB
  go_enter Tryd.func13, Tryd.ntmps13
  go_wp2_with fail
  have HZA := Lib.hid (heap_alloc_new w (.cells #[.bool false, .bool false, .int .i64 0] 34))
  go_loopw [4] (fun iv wr => ∃ i : Nat, 1 ≤ i ∧ i ≤ 65 ∧ iv = .int .i64 i ∧ Kept [] (w.alloc (.cells #[.bool false, .bool false, .int .i64 0] 34)) wr ∧ ∀ j, 1 ≤ j → j < i → ∀ sg, sayB ⟨false, sg, ((j : Nat) : Int)⟩ ≠ s) (fun iv _ => 65 - (intOf iv).toNat)
  case atStart => exact ⟨1, by omega, by omega, rfl, .refl _ _, fun j h1 h2 => by omega⟩
  case round =>
    obtain ⟨i, hi1, hi2, rfl, kr, hno⟩ := hrel
    have KR := Lib.hid kr
    have HNO := Lib.hid hno
    clear kr hno
    by_cases hlt : i < 65
    · obtain ⟨wA, rfl⟩ : ∃ v : World, v = wr := ⟨_, rfl⟩
      go_wp2_with fail
      go_loopw [5] (fun kv wr2 => ∃ k : Nat, k ≤ 2 ∧ kv = .int .i64 k ∧ Kept [] (w.alloc (.cells #[.bool false, .bool false, .int .i64 0] 34)) wr2 ∧ ∀ q, q < k → sayB ⟨false, decide (q = 1), ((i : Nat) : Int)⟩ ≠ s) (fun kv _ => 2 - (intOf kv).toNat)
      case atStart => exact ⟨0, by omega, rfl, KR.out, fun q h => by omega⟩
      case round =>
        obtain ⟨k, hk, rfl, kr2, hno2⟩ := hrel
        have KR2 := Lib.hid kr2
        have HNO2 := Lib.hid hno2
        have HZ2 := Lib.hid (kr2.heap HZA.out (by simp))
        have hlz := blk_lt HZ2.out
        clear kr2 hno2
        by_cases hlt2 : k < 2
        · obtain ⟨sg, hsg⟩ : ∃ sg, sg = decide (k = 1) := ⟨_, rfl⟩
          have HSG := Lib.hid hsg
          have hk1 : ((k : Int) == 1) = sg := by rw [hsg, Bool.eq_iff_iff]; simp; omega
          have HSY := Lib.hid (fun W => rsays_c ⟨false, sg, (i : Int)⟩ W)
          have HMT := Lib.hid (may_numT hi1 (by omega) sg)
          simp only [tyV] at HSY
          clear hsg
          go_wp2_with fail
          refine (HSY.out _).mono ?_
          rintro e w3 ⟨rfl, k3⟩
          have K3 := Lib.hid (((Kept.refl [] wr).alloc _).trans k3)
          have HZ3 := Lib.hid (K3.out.heap HZ2.out List.not_mem_nil)
          have hx3 := k3.heap (heap_alloc_new wr _) (by simp)
          have x0 := blk_cell hx3 0
          have x1 := blk_cell hx3 1
          have x2 := blk_cell hx3 2
          simp only [List.getElem?_toArray, List.getElem?_cons_zero, List.getElem?_cons_succ] at x0 x1 x2
          clear k3 hx3
          generalize hX : sayB ⟨false, sg, (i : Int)⟩ = X
          have HX := Lib.hid hX
          clear hX
          simp only [strV]
          by_cases hXs : X = s
          · subst hXs
            have HT := Lib.hid (show typeB X = some ⟨false, sg, (i : Int)⟩ from by
              have h := typeB_say HMT.out
              rwa [HX.out] at h)
            go_wp2_with (refine wpList_ty rfl rfl w.heap.size rfl rfl HZ3.out ⟨rfl, rfl, rfl⟩ ?_)
            intro w5 hw5 k5
            have K5 := Lib.hid k5; have z0 := blk_cell hw5 0; have z1 := blk_cell hw5 1; have z2 := blk_cell hw5 2; simp only [List.getElem?_toArray, List.getElem?_cons_zero, List.getElem?_cons_succ] at z0 z1 z2; clear hw5 k5; go_wp2_with fail
            refine bodyPost_ret (v := .tuple #[tyV ⟨false, sg, (i : Int)⟩, .bool true]) (by simp [results, Tryd.results13, go_sem, tyV, z0, z1, z2]) rfl ?_
            rw [HT.out]
            exact ⟨rfl, kept_mix ((((Kept.refl [] w).alloc _).trans KR2.out).trans K3.out) K5.out (by simp)⟩
          · have e1 : (X == s) = false := by rw [beq_eq_false_iff_ne]; exact hXs
            have HXS := Lib.hid hXs
            clear hXs
            go_wp2_with fail
            go_roundw
            case rel => exact ⟨k + 1, by omega, by go_num, KR2.out.trans K3.out, fun q hq => by
              by_cases h : q < k
              · exact HNO2.out q h
              · obtain rfl : q = k := by omega
                rw [← HSG.out, HX.out]
                exact HXS.out⟩
            case measure => simp [intOf]; omega
        · obtain rfl : k = 2 := by omega
          go_wp2_with fail
          go_roundw
          case rel => exact ⟨i + 1, by omega, by omega, by go_num, KR2.out, fun j h1 h2 sg => by
            by_cases h : j < i
            · exact HNO.out j h1 h sg
            · obtain rfl : j = i := by omega
              cases sg with
              | true => exact HNO2.out 1 (by omega)
              | false => exact HNO2.out 0 (by omega)⟩
          case measure => simp [intOf]; omega
    · obtain rfl : i = 65 := by omega
      have HT := Lib.hid (typeB_none HB.out (fun j h1 h2 sg => HNO.out j h1 (by omega) sg))
      have HZ2 := Lib.hid (KR.out.heap HZA.out (by simp))
      go_wp2_with (refine wpList_ty rfl rfl w.heap.size rfl rfl HZ2.out ⟨rfl, rfl, rfl⟩ ?_)
      intro w5 hw5 k5
      have K5 := Lib.hid k5; have z0 := blk_cell hw5 0; have z1 := blk_cell hw5 1; have z2 := blk_cell hw5 2; simp only [List.getElem?_toArray, List.getElem?_cons_zero, List.getElem?_cons_succ] at z0 z1 z2; clear hw5 k5; go_wp2_with fail
      refine bodyPost_ret (v := .tuple #[tyV noTy, .bool false]) (by simp [results, Tryd.results13, go_sem, tyV, noTy, z0, z1, z2]) rfl ?_
      rw [HT.out]
      exact ⟨rfl, kept_mix (((Kept.refl [] w).alloc _).trans KR.out) K5.out (by simp)⟩
def wordsV : Array Value := (wordsL.map fun l => Value.string ⟨l.toArray⟩).toArray
theorem rwords_c (w : World) : Calls Tryd.prog 31 #[] w fun e w' => e = .returned (.slice (some ⟨w.heap.size, 0, none⟩) 18 18) ∧ w'.heap[w.heap.size]? = some (.cells wordsV 9 (0, 0)) ∧ Kept [] w w' := by
  go_enter Tryd.func31, Tryd.ntmps31
  go_wp2_with fail
  go_ret
  exact ⟨rfl, heap_alloc_new w _, (Kept.refl [] w).alloc _⟩
theorem any_at {α : Type} {p : α → Bool} (L : List α) (j : Nat) (h : j < L.length) (hp : p L[j] = true) : L.any p = true := List.any_eq_true.2 ⟨L[j], List.getElem_mem h, hp⟩
theorem any_no {α : Type} {p : α → Bool} (L : List α) (hn : ∀ m (hm : m < L.length), p L[m] = false) : L.any p = false := by
  rw [List.any_eq_false]
  intro x hx
  obtain ⟨m, hm, rfl⟩ := List.getElem_of_mem hx
  simp [hn m hm]
set_option maxRecDepth 100000 in
theorem rreserved_c (s : List UInt8) (w : World) : Calls Tryd.prog 15 #[.string ⟨s.toArray⟩] w (BoolIs (resB s) w) := by
  have HW := Lib.hid rwords_c
  go_enter Tryd.func15, Tryd.ntmps15
  go_wp2_with fail
  refine (HW.out _).mono ?_
  rintro e w1 ⟨rfl, hb, k1⟩
  have HB := Lib.hid hb
  have K1 := Lib.hid k1
  clear hb k1
  go_wp2_with fail
  go_loop [4] (fun iv => ∃ i : Nat, i ≤ 18 ∧ iv = .int .i64 i ∧ ∀ m (h : m < 18), m < i → (wordsL[m]'h) ≠ s) (fun iv => 18 - (intOf iv).toNat)
  case atStart => exact ⟨0, by omega, rfl, fun m h h2 => by omega⟩
  case round =>
    obtain ⟨i, hi, rfl, hno⟩ := hrel
    have HNO := Lib.hid hno
    clear hno
    by_cases hlt : i < 18
    · obtain ⟨x, hx⟩ : ∃ x, x = wordsL[i]'hlt := ⟨_, rfl⟩
      have HX := Lib.hid hx
      have c0 : w1.cell? ⟨w.heap.size, i, none⟩ = some (.string ⟨x.toArray⟩) := by
        rw [blk_cell HB.out, hx]
        have : i < wordsL.length := hlt
        simp [wordsV, this]
        rfl
      clear hx
      by_cases hxs : x = s
      · subst hxs
        have HR := Lib.hid (show resB x = true from any_at wordsL i hlt (by rw [← HX.out]; simp))
        go_wp2_with fail
        go_ret
        exact ⟨by rw [HR.out]; rfl, K1.out⟩
      · have e1 : (x == s) = false := by rw [beq_eq_false_iff_ne]; exact hxs
        have HXS := Lib.hid hxs
        clear hxs
        go_wp2_with fail
        go_round
        case rel => exact ⟨i + 1, by omega, by go_num, fun m h h2 => by
          by_cases h3 : m < i
          · exact HNO.out m h h3
          · obtain rfl : m = i := by omega
            rw [← HX.out]
            exact HXS.out⟩
        case measure => simp [intOf]; omega
    · obtain rfl : i = 18 := by omega
      have HR := Lib.hid (show resB s = false from any_no wordsL (fun m hm => by simpa using HNO.out m hm hm))
      go_wp2_with fail
      go_ret
      exact ⟨by rw [HR.out]; rfl, K1.out⟩
end Go.Proofs.YtjnjldbegngooaaDoor
