/-
  TokReads: the walk.
-/
import Derived.Test.YtjnjldbegngooaaDoorTokCard
import Derived.Test.YtjnjldbegngooaaDoorTokRi
import Derived.Test.YtjnjldbegngooaaDoorTokFaW
import Derived.Test.YtjnjldbegngooaaDoorTokPaM
namespace Go.Proofs.YtjnjldbegngooaaDoor
open Go.ChangeShapes Go.WideShapes Go.ChangeAt Go.RowKit
set_option linter.unusedVariables false
set_option linter.unusedSimpArgs false

variable {w w' w1 W : World}
def resX (r : Except (Nat × Nat) (List Tk)) : List Tk := match r with
  | .error _ => []
  | .ok xs => xs
def resF (r : Except (Nat × Nat) (List Tk)) : Nat × Nat := match r with
  | .error p => p
  | .ok _ => (0, 0)
theorem all_told {r : Except (Nat × Nat) (List Tk)} {e : Ending} (h : AllPost r w e w') : ∃ a c, e = .returned (.tuple #[.slice a (resX r).length c, .agg #[.int .i64 ((resF r).1 : Int), .int .i64 ((resF r).2 : Int)]]) ∧ TkOwn w' a c (resX r) ∧ Kept [] w w' := by
  obtain ⟨k, h⟩ := h
  cases r with
  | error p => exact ⟨none, 0, h, World.ownsRow_nil _ _ _ _, k⟩
  | ok xs =>
    obtain ⟨a, c, he, ho, _⟩ := h
    exact ⟨a, c, he, ho, k⟩
theorem rall_told {r : Except (Nat × Nat) (List Tk)} {e : Ending} (h : RAllPost r w e w') : ∃ a c, e = .returned (.tuple #[.slice a (resX r).length c, .agg #[.int .i64 ((resF r).1 : Int), .int .i64 ((resF r).2 : Int)]]) ∧ TkOwnR w' a c (resX r) ∧ Kept [] w w' := by
  obtain ⟨k, h⟩ := h
  cases r with
  | error p => exact ⟨none, 0, h, World.ownsRow_nil _ _ _ _, k⟩
  | ok xs =>
    obtain ⟨a, c, he, ho, _⟩ := h
    exact ⟨a, c, he, ho, k⟩
/-- a token's cells where a row of tokens lies -/
theorem tkr_cell {a : Option Addr} {c : Nat} {xs : List Tk} (h : TkOwnR w a c xs) (k j : Nat) (hk : k < xs.length) (hj : j < 7) : ∃ g, a = some ⟨g, 0, none⟩ ∧ w.cell? ⟨g, k * 7 + j, none⟩ = (tkCells (xs[k]))[j]? := by
  rcases h.2 with ⟨_, hn⟩ | ⟨g, cap', cur, hv, hb, hg, hrest⟩
  · omega
  · refine ⟨g, by injection hv, ?_⟩
    have hl : ∀ (l : List Tk) (k : Nat) (hk : k < l.length), (l.flatMap tkCells)[k * 7 + j]? = (tkCells l[k])[j]? := by
      intro l
      induction l with
      | nil => intro k hk; simp at hk
      | cons x l ih =>
        intro k hk
        have hx : (tkCells x).length = 7 := rfl
        rw [List.flatMap_cons]
        cases k with
        | zero => rw [List.getElem?_append_left (by omega)]; simp
        | succ k =>
          rw [List.getElem?_append_right (by omega), hx, show (k + 1) * 7 + j - 7 = k * 7 + j from by omega, ih k (by simpa using hk)]
          rfl
    have hs : ∃ v, (tkCells xs[k])[j]? = some v := ⟨_, List.getElem?_eq_getElem (show j < (tkCells xs[k]).length from hj)⟩
    obtain ⟨v, hv2⟩ := hs
    have hc := World.ownsRow.cells h (g := g) (by rw [hv]; rfl) (k * 7 + j) v (by rw [hl xs k hk]; exact hv2)
    rw [hv2]
    rw [add_at'] at hc
    simpa using hc
/-- append([]byte(nil), b...) -/
theorem app_nil (a : Option Addr) (c : Nat) (l : List UInt8) (hl : l.length ≤ 1000000) (hb : Bt w a l) :
    ∃ a1 c1 w1, (Builtin.append_ #[22, 22] 22 #[.slice none 0 0, .slice a l.length c]).run Tryd.prog w = .ok (.slice a1 l.length c1) w1 ∧ Kept [] w w1 ∧ Bt w1 a1 l := by
  cases a with
  | none =>
    cases l with
    | nil => exact ⟨none, 0, w, by kernel_rfl, .refl _ _, fun k hk => absurd hk (by simp)⟩
    | cons x l =>
      obtain ⟨ad, h, _⟩ := hb 0 (by simp)
      cases h
  | some ad =>
    obtain ⟨i, hi, hiz, hisz, hib⟩ := info3 u8_info
    obtain ⟨v', w', hr, hown', hg, _, hat⟩ := run_append_own_at (P := Tryd.prog) w 0 22 22 5 i (.int .u8 0) 1 1 Tryd.underlying22 hi hiz hisz hib rfl (by decide) (.slice none 0 0) 0 [] (World.ownsRow_nil _ _ _ _) ad l.length c (l.map fun c => Value.int .u8 ((c.toNat : Nat) : Int)) (by simp) (bt_cells hb) (fun u hu => by obtain ⟨x, _, rfl⟩ := List.mem_map.1 hu; rfl) (by unfold maxLen; omega) (by omega) (Nat.zero_le _)
    rw [Nat.zero_add, List.nil_append] at hown'
    have hform : ∃ a' cap', v' = .slice a' l.length cap' := by
      rcases hown'.2 with ⟨hv, h0⟩ | ⟨g, c, cur, hv, _⟩
      · exact ⟨none, 0, by rw [hv, h0]⟩
      · exact ⟨_, _, hv⟩
    obtain ⟨a', cap', rfl⟩ := hform
    refine ⟨a', cap', w', hr, ⟨hg.os, hg.tape, hg.output, hg.size, fun k hk _ => hg.block k hk (by simp [Value.ownBlock])⟩, fun k hk => ?_⟩
    obtain ⟨ad', h1, h2⟩ := Own.cell (e := 5) hown' (k := k) (by simpa using hk)
    exact ⟨ad', h1, by rw [h2]; simp⟩
set_option maxHeartbeats 3200000 in
set_option maxRecDepth 100000 in
theorem reads_c (a : Option Addr) (c : Nat) (L : List UInt8) (w : World) (hc : L.length ≤ c) (hz : c ≤ 140737488351232) (hb : Bt w a L) (hL : Laid w) :
    Calls Tryd.prog 3 #[.slice a L.length c] w (BoolIs true w) := by
  have HL := Lib.hid hL
  have HBT := Lib.hid (hb.take 1000)
  obtain ⟨M, hM⟩ : ∃ M, M = L.take 1000 := ⟨_, rfl⟩
  have hMl : M.length = min L.length 1000 := by rw [hM, List.length_take, Nat.min_comm]
  have hM1 : M.length ≤ 1000 := by omega
  have hM2 : M.length ≤ L.length := by omega
  rw [← hM] at HBT
  have hmin : min ((L.length : Nat) : Int) 1000 = (M.length : Int) := by omega
  have hMc : M.length ≤ c := by omega
  have HWK := Lib.hid (fun W hW => wakes_c W hW)
  obtain ⟨a1, c1, w1, hr1, k1, hb1⟩ := app_nil a c M (by omega) HBT.out
  have K1 := Lib.hid k1
  have HB1 := Lib.hid hb1
  have HR1 := Lib.hid hr1
  have HMA := Lib.hid (all_c M a1 c1 w1 (HL.out.kept0 k1) hb1 (by omega))
  have HRA := Lib.hid (fun W (hW : Kept [] w W) => rall_c M a c W (HBT.out.kept0 hW) (by omega))
  obtain ⟨r, hr⟩ : ∃ r, r = allR M := ⟨_, rfl⟩
  rw [← hr] at HMA HRA
  obtain ⟨xs, hxs⟩ : ∃ xs, xs = resX r := ⟨_, rfl⟩
  obtain ⟨f1, hf1⟩ : ∃ f1, f1 = (resF r).1 := ⟨_, rfl⟩
  obtain ⟨f2, hf2⟩ : ∃ f2, f2 = (resF r).2 := ⟨_, rfl⟩
  have hxb : xs.length ≤ 1001 := by
    rw [hxs, hr]
    unfold allR
    rw [if_neg (by omega)]
    cases h : allB M with
    | error p => simp [resX]
    | ok ys =>
      have := allB_len h
      show ys.length ≤ 1001
      omega
  have HAO := Lib.hid (fun e W' (h : AllPost r w1 e W') => (show ∃ a c, e = .returned (.tuple #[.slice a xs.length c, .agg #[.int .i64 (f1 : Int), .int .i64 (f2 : Int)]]) ∧ TkOwn W' a c xs ∧ Kept [] w1 W' from by rw [hxs, hf1, hf2]; exact all_told h))
  have HRO := Lib.hid (fun W e W' (h : RAllPost r W e W') => (show ∃ a c, e = .returned (.tuple #[.slice a xs.length c, .agg #[.int .i64 (f1 : Int), .int .i64 (f2 : Int)]]) ∧ TkOwnR W' a c xs ∧ Kept [] W W' from by rw [hxs, hf1, hf2]; exact rall_told h))
  clear hL hb hM hMl k1 hb1 hr1 hr hxs hf1 hf2
  go_enter Tryd.func3, Tryd.ntmps3
  go_wp2_with (at_builtin; refine Lib.wpList_append_run _ rfl _ _ _ _ rfl _ _ rfl rfl _ _ HR1.out ?_)
  refine HMA.out.mono ?_
  intro e w2 hp
  obtain ⟨a2, c2, rfl, ho2, k2⟩ := HAO.out e w2 hp
  have HO2 := Lib.hid ho2
  have K2 := Lib.hid k2
  clear hp ho2 k2 hmin
  go_wp2_with fail
  refine (HRA.out _ ((K1.out.trans K2.out).alloc _)).mono ?_
  intro e w3 hp
  obtain ⟨a3, c3, rfl, ho3, k3⟩ := HRO.out _ e w3 hp
  have HO3 := Lib.hid ho3
  have HF2 := Lib.hid (k3.heap (heap_alloc_new w2 (.cells #[.int .i64 (f1 : Int), .int .i64 (f2 : Int)] 26)) (by simp))
  have K3 := Lib.hid (show Kept [] w2 w3 from ((Kept.refl [] w2).alloc (.cells #[.int .i64 (f1 : Int), .int .i64 (f2 : Int)] 26)).trans k3)
  clear hp ho3 k3
  have d0 := blk_cell HF2.out 0
  have d1 := blk_cell HF2.out 1
  simp only [List.getElem?_toArray, List.getElem?_cons_zero, List.getElem?_cons_succ] at d0 d1
  have hl2 := blk_lt HF2.out
  go_wp2_with fail
  obtain ⟨w4, hw4⟩ : ∃ V, V = w3.alloc (.cells #[.int .i64 (f1 : Int), .int .i64 (f2 : Int)] 26) := ⟨_, rfl⟩
  have K4 := Lib.hid (show Kept [] w3 w4 from hw4 ▸ (Kept.refl [] w3).alloc _)
  have K14 := Lib.hid (show Kept [] w1 w4 from (K2.out.trans K3.out).trans K4.out)
  rw [← hw4]
  clear hw4 d0 d1 hl2
  go_loopw [38] (fun kv wr => ∃ k : Nat, k ≤ xs.length ∧ kv = .int .i64 k ∧ Kept [] w4 wr) (fun kv _ => xs.length - (intOf kv).toNat)
  case atStart => exact ⟨0, Nat.zero_le _, rfl, .refl _ _⟩
  case round =>
    obtain ⟨k, hk, rfl, kr⟩ := hrel
    have KR := Lib.hid kr
    clear kr
    by_cases hlt : k < xs.length
    · have hA := fun j hj => tk_cell (HO2.out.kept0 ((K3.out.trans K4.out).trans KR.out)) k j hlt hj
      have hB := fun j hj => tkr_cell (HO3.out.kept0 (K4.out.trans KR.out)) k j hlt hj
      obtain ⟨g, rfl, _⟩ := hA 0 (by omega)
      obtain ⟨g', rfl, _⟩ := hB 0 (by omega)
      have hA' : ∀ j, j < 7 → wr.cell? ⟨g, k * 7 + j, none⟩ = (tkCells (xs[k]'hlt))[j]? := fun j hj => by obtain ⟨q, hq, h1, _⟩ := hA j hj; injection hq with hq; injection hq with hq; subst hq; exact h1
      have hB' : ∀ j, j < 7 → wr.cell? ⟨g', k * 7 + j, none⟩ = (tkCells (xs[k]'hlt))[j]? := fun j hj => by obtain ⟨q, hq, h1⟩ := hB j hj; injection hq with hq; injection hq with hq; subst hq; exact h1
      obtain ⟨x, hx⟩ : ∃ x, x = xs[k]'hlt := ⟨_, rfl⟩
      rw [← hx] at hA' hB'
      have a0 := hA' 0 (by omega)
      have a1' := hA' 1 (by omega)
      have a2' := hA' 2 (by omega)
      have a3' := hA' 3 (by omega)
      have a4' := hA' 4 (by omega)
      have a5' := hA' 5 (by omega)
      have a6' := hA' 6 (by omega)
      have b0 := hB' 0 (by omega)
      have b1 := hB' 1 (by omega)
      have b2 := hB' 2 (by omega)
      have b3 := hB' 3 (by omega)
      have b4 := hB' 4 (by omega)
      have b5 := hB' 5 (by omega)
      have b6 := hB' 6 (by omega)
      simp only [tkCells, List.getElem?_cons_zero, List.getElem?_cons_succ, Nat.add_zero] at a0 a1' a2' a3' a4' a5' a6' b0 b1 b2 b3 b4 b5 b6
      have q0 : (0 : Int) ≤ (k : Int) := by omega
      have q1 : (k : Int) < (xs.length : Int) := by omega
      clear hA hB hA' hB' hx
      go_wp2_with fail
      go_quiet (fail)
      go_wp2_with fail
      go_roundw
      case rel => exact ⟨k + 1, by omega, by go_num, KR.out.drewN _⟩
      case measure => simp [intOf]; omega
    · obtain rfl : k = xs.length := by omega
      have e1 := bt_str c1 (HB1.out.kept0 (K14.out.trans KR.out))
      have e2 := bt_str c (HBT.out.kept0 (K1.out.trans (K14.out.trans KR.out)))
      have KA := Lib.hid (K1.out.trans (K14.out.trans KR.out))
      go_wp2_with fail
      refine (HWK.out _ (HL.out.kept0 KA.out)).mono ?_
      rintro e w6 ⟨rfl, k6⟩
      have K6 := Lib.hid (KA.out.trans k6)
      clear k6
      go_wp2_with fail
      go_ret
      exact ⟨rfl, K6.out⟩
end Go.Proofs.YtjnjldbegngooaaDoor
