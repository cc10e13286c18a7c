/-
  Law 15's document: all tokens.
-/
import Derived.Test.YtjnjldbegngooaaDoorTokRh
import Derived.Test.YtjnjldbegngooaaDoorTokX
namespace Go.Proofs.YtjnjldbegngooaaDoor
open Go.ChangeShapes Go.WideShapes Go.ChangeAt Go.RowKit
set_option linter.unusedVariables false
set_option linter.unusedSimpArgs false

variable {w w' w1 W : World}
def TkOwnR (w : World) (a : Option Addr) (c : Nat) (xs : List Tk) : Prop := w.ownsRow 0 36 7 (.slice a xs.length c) xs.length (xs.flatMap tkCells)
def RAllPost (r : Except (Nat × Nat) (List Tk)) (w : World) (e : Ending) (w' : World) : Prop := Kept [] w w' ∧ match r with
  | .error p => e = .returned (.tuple #[.slice none 0 0, .agg #[.int .i64 (p.1 : Int), .int .i64 (p.2 : Int)]])
  | .ok xs => ∃ a c, e = .returned (.tuple #[.slice a xs.length c, .agg #[.int .i64 0, .int .i64 0]]) ∧ TkOwnR w' a c xs ∧ (∀ b ∈ ft a, w.heap.size ≤ b)
theorem tkr_info : (Tryd.prog.info? 36).map (fun i => (i.zero, i.size, i.bytes)) = some (some (.agg #[.int .i64 0, .string ⟨#[]⟩, .int .i64 0, .int .u64 0, .bool false, .bool false, .int .i64 0]), 7, 56) := by kernel_rfl
theorem TkOwnR.kept0 {a : Option Addr} {c : Nat} {xs : List Tk} (h : TkOwnR w a c xs) (hk : Kept [] w w') : TkOwnR w' a c xs := own_kept h hk (by simp)
theorem allP_ws {p : Nat} {c : UInt8} {r : List UInt8} (h : wsB c = true) : allP p (c :: r) = allP (p + 1) r := by
  rw [allP_skip p, allP_skip (p + 1), blankB_ws h]
  congr 1
  have := blankB_len r
  simp
  omega
theorem allP_com {p q : Nat} {c : UInt8} {r R : List UInt8} (hw : wsB c = false) (h : [45, 45].isPrefixOf (c :: r) = true) (hR : (c :: r).dropWhile notNl = R) (hq : q + R.length = p + (c :: r).length) : allP p (c :: r) = allP q R := by
  rw [allP_skip p, allP_skip q, blankB_com hw h, hR]
  congr 1
  have h1 := blankB_len R
  have h2 := dropWhile_len (p := notNl) (c :: r)
  rw [hR] at h2
  omega
theorem blk_new_apart {w w' : World} {e : TypeId} {size n c : Nat} {a : Option Addr} {xs ys : List Value} {o : Obj} (hw : w' = w.alloc o) (h : w'.ownsRow 0 e size (.slice a n c) n xs) (h0 : w.ownsRow 0 e size (.slice a n c) n ys) : w.heap.size ∉ ft a := fun hb => by
  have := owns_lt h0 _ hb
  omega
theorem dropWhile_at {S : ByteArray} {q : Nat} (h : q < S.size) : (S.data.toList.drop q).dropWhile notNl = if notNl (S[q]'h) = true then (S.data.toList.drop (q + 1)).dropWhile notNl else S.data.toList.drop q := by
  rw [drop_head S q h, List.dropWhile_cons]
set_option maxHeartbeats 3200000 in
set_option maxRecDepth 100000 in
theorem rall_c (l : List UInt8) (a : Option Addr) (c : Nat) (w : World) (hb : Bt w a l) (hl : l.length ≤ 140737488351232) :
    Calls Tryd.prog 10 #[.slice a l.length c] w (RAllPost (allR l) w) := by
  by_cases hlong : 65536 < l.length
  · have HR := Lib.hid (show allR l = .error (3, 0) from by unfold allR; rw [if_pos hlong])
    have g1 : ¬ ((l.length : Nat) : Int) ≤ 65536 := by omega
    have g2 : ¬ l.length ≤ 65536 := by omega
    clear hb hlong
    go_enter Tryd.func10, Tryd.ntmps10
    go_wp2_with fail
    refine bodyPost_ret (v := .tuple #[.slice none 0 0, .agg #[.int .i64 3, .int .i64 0]]) (by simp [results, Tryd.results10, go_sem]) rfl ?_
    rw [HR.out]
    exact ⟨(Kept.refl [] w).alloc _, rfl⟩
  · have HR := Lib.hid (show allR l = match allB l with
      | .error p => .error (20, p)
      | .ok xs => .ok xs from by unfold allR; rw [if_neg hlong]; cases allB l <;> rfl)
    have g1 : l.length ≤ 65536 := by omega
    have hconv := bt_str c (hb.kept0 ((Kept.refl [] w).alloc (.cells #[.int .i64 0, .int .i64 0] 26)))
    obtain ⟨S, hS⟩ : ∃ S : ByteArray, S = ⟨l.toArray⟩ := ⟨_, rfl⟩
    have hSz : S.size = l.length := by rw [hS]; rfl
    have HSZ := Lib.hid hSz
    rw [← hS] at hconv
    have HSL := Lib.hid (show S.data.toList = l from by rw [hS])
    have HLEN := Lib.hid (show S.data.toList.length = S.size from rfl)
    have hs64 : S.size ≤ 65536 := by omega
    clear hb hlong hS hSz
    go_enter Tryd.func10, Tryd.ntmps10
    go_wp2_with fail
    go_loopw [5, 6] (fun lv iv wr => ∃ (xs : List Tk) (p : Nat) (a' : Option Addr) (c' : Nat), lv = .slice a' xs.length c' ∧ iv = .int .i64 p ∧ TkOwnR wr a' c' xs ∧ (∀ b ∈ ft a', w.heap.size ≤ b) ∧ p ≤ S.size ∧ xs.length ≤ p ∧ Kept [] w wr ∧ wr.heap[w.heap.size]? = some (.cells #[.int .i64 0, .int .i64 0] 26 (0, 0)) ∧ allB l = preTk xs (allP p (S.data.toList.drop p))) (fun _ iv _ => S.size - (intOf iv).toNat)
    case atStart =>
      refine ⟨[], 0, none, 0, rfl, rfl, World.ownsRow_nil _ _ _ _, by simp [ft], Nat.zero_le _, Nat.zero_le _, (Kept.refl [] w).alloc _, heap_alloc_new w _, ?_⟩
      rw [preTk_nil, List.drop_zero, HSL.out]
      rfl
    case round =>
      obtain ⟨xs, p, a', c', rfl, rfl, how, hal, hp, hxp, kr, hfb, hinv⟩ := hrel
      have HOW := Lib.hid how
      have HAL := Lib.hid hal
      have KR := Lib.hid kr
      have HFB := Lib.hid hfb
      have HINV := Lib.hid hinv
      clear how hal kr hfb hinv
      by_cases hlt : p < S.size
      · have HDR := Lib.hid (drop_head S p hlt)
        obtain ⟨b, hb⟩ : ∃ b, b = S[p]'hlt := ⟨_, rfl⟩
        have HB := Lib.hid hb
        cases hws : wsB (S[p]'hlt) with
        | true =>
          have HE := Lib.hid (show allB l = preTk xs (allP (p + 1) (S.data.toList.drop (p + 1))) from by
            rw [HINV.out, HDR.out, allP_ws hws])
          have h4 : (S[p]'hlt).toNat = 32 ∨ (S[p]'hlt).toNat = 9 ∨ (S[p]'hlt).toNat = 10 ∨ (S[p]'hlt).toNat = 13 := by simpa [wsB] using hws
          clear hws hb
          rcases h4 with h4 | h4 | h4 | h4
          all_goals
            go_wp2_with fail
            go_roundw
            case rel => exact ⟨xs, p + 1, a', c', rfl, by go_num, HOW.out, HAL.out, by omega, by omega, KR.out, HFB.out, HE.out⟩
            case measure => simp [intOf]; omega
        | false =>
          have h4 : (S[p]'hlt).toNat ≠ 32 ∧ (S[p]'hlt).toNat ≠ 9 ∧ (S[p]'hlt).toNat ≠ 10 ∧ (S[p]'hlt).toNat ≠ 13 := by simpa [wsB] using hws
          have e32 : (((S[p]'hlt).toNat : Int) == 32) = false := by rw [beq_eq_false_iff_ne]; omega
          have e9 : (((S[p]'hlt).toNat : Int) == 9) = false := by rw [beq_eq_false_iff_ne]; omega
          have e10 : (((S[p]'hlt).toNat : Int) == 10) = false := by rw [beq_eq_false_iff_ne]; omega
          have e13 : (((S[p]'hlt).toNat : Int) == 13) = false := by rw [beq_eq_false_iff_ne]; omega
          have HWS := Lib.hid hws
          obtain ⟨n10, hn10⟩ : ∃ n, n = (S[p]'hlt).toNat := ⟨_, rfl⟩
          clear hb hws h4
          cases hpre : [45, 45].isPrefixOf (S.data.toList.drop p) with
          | true =>
            have h45 : (S[p]'hlt).toNat = 45 ∧ ∃ h : p + 1 < S.size, (S[p + 1]'h).toNat = 45 := by
              rw [HDR.out] at hpre
              by_cases h' : p + 1 < S.size
              · rw [drop_head S (p + 1) h'] at hpre
                simp [List.isPrefixOf] at hpre
                exact ⟨by rw [← hpre.1]; rfl, h', by rw [← hpre.2]; rfl⟩
              · rw [List.drop_eq_nil_of_le (by have := HLEN.out; omega)] at hpre
                simp [List.isPrefixOf] at hpre
            have HPRE := Lib.hid hpre
            obtain ⟨h45, hp1, h46⟩ := h45
            have e45 : (((S[p]'hlt).toNat : Int) == 45) = true := by rw [beq_iff_eq]; omega
            have e46 : (((S[p + 1]'hp1).toNat : Int) == 45) = true := by rw [beq_iff_eq]; omega
            clear hpre h45 h46
            obtain ⟨wo, rfl⟩ : ∃ wo : World, wo = wr := ⟨_, rfl⟩
            go_wp2_with fail
            go_loop [6] (fun iv => ∃ q : Nat, p ≤ q ∧ q ≤ S.size ∧ iv = .int .i64 q ∧ (S.data.toList.drop q).dropWhile notNl = (S.data.toList.drop p).dropWhile notNl) (fun iv => S.size - (intOf iv).toNat)
            case atStart => exact ⟨p, Nat.le_refl _, hp, rfl, rfl⟩
            case round =>
              obtain ⟨q, hpq, hq, rfl, hdw⟩ := hrel
              have HDW := Lib.hid hdw
              clear hdw
              have HOUT := Lib.hid (fun (h : (S.data.toList.drop q).dropWhile notNl = S.data.toList.drop q) => (show p < q ∧ allB l = preTk xs (allP q (S.data.toList.drop q)) from by
                have h1 := HDW.out
                rw [h] at h1
                have h2 := HPRE.out
                have h3 := HINV.out
                have hlen := congrArg List.length h1
                rw [HDR.out] at h2 h3 h1 hlen
                have h5 := comment_drop h2
                have e1 := HLEN.out
                rw [← hlen] at h5
                simp only [List.length_drop, List.length_cons] at h5
                refine ⟨by omega, ?_⟩
                rw [h3, allP_com (p := p) (q := q) HWS.out h2 h1.symm (by simp only [List.length_drop, List.length_cons]; omega)]))
              by_cases hql : q < S.size
              · cases hnl : notNl (S[q]'hql) with
                | true =>
                  have hne : (S[q]'hql).toNat ≠ 10 := by simpa [notNl] using hnl
                  have en : (((S[q]'hql).toNat : Int) == 10) = false := by rw [beq_eq_false_iff_ne]; omega
                  have HG := Lib.hid (show (S.data.toList.drop (q + 1)).dropWhile notNl = (S.data.toList.drop p).dropWhile notNl from by
                    rw [← HDW.out, dropWhile_at hql, if_pos hnl])
                  clear hnl
                  go_wp2_with fail
                  go_round
                  case rel => exact ⟨q + 1, by omega, by omega, by go_num, HG.out⟩
                  case measure => simp [intOf]; omega
                | false =>
                  have hne : (S[q]'hql).toNat = 10 := by simpa [notNl] using hnl
                  have en : (((S[q]'hql).toNat : Int) == 10) = true := by rw [beq_iff_eq]; omega
                  obtain ⟨hlq, hE⟩ := HOUT.out (by rw [dropWhile_at hql, if_neg (by rw [hnl]; simp)])
                  have HE := Lib.hid hE
                  clear hnl hE
                  go_wp2_with fail
                  go_roundw
                  case rel => exact ⟨xs, q, a', c', rfl, rfl, HOW.out, HAL.out, hq, by omega, KR.out, HFB.out, HE.out⟩
                  case measure => simp [intOf]; omega
              · obtain ⟨hlq, hE⟩ := HOUT.out (by rw [List.drop_eq_nil_of_le (by have := HLEN.out; omega)]; rfl)
                have HE := Lib.hid hE
                clear hE
                go_wp2_with fail
                go_roundw
                case rel => exact ⟨xs, q, a', c', rfl, rfl, HOW.out, HAL.out, hq, by omega, KR.out, HFB.out, HE.out⟩
                case measure => simp [intOf]; omega
          | false =>
            have HBL := Lib.hid (show blankB (S.data.toList.drop p) = S.data.toList.drop p from by
              rw [HDR.out] at hpre ⊢
              exact blankB_stop HWS.out hpre)
            obtain ⟨o, ho⟩ : ∃ o, o = oneB (S.data.toList.drop p) := ⟨_, rfl⟩
            have HO := Lib.hid ho
            have h3 : (S[p]'hlt).toNat ≠ 45 ∨ ((S[p]'hlt).toNat = 45 ∧ ¬ p + 1 < S.size) ∨ ((S[p]'hlt).toNat = 45 ∧ ∃ h : p + 1 < S.size, (S[p + 1]'h).toNat ≠ 45) := by
              by_cases h : (S[p]'hlt).toNat = 45
              · by_cases h' : p + 1 < S.size
                · refine .inr (.inr ⟨h, h', fun h2 => ?_⟩)
                  rw [drop_head S p hlt, drop_head S (p + 1) h'] at hpre
                  have e1 : S[p]'hlt = 45 := UInt8.toNat_inj.1 (by rw [h]; rfl)
                  have e2 : S[p + 1]'h' = 45 := UInt8.toNat_inj.1 (by rw [h2]; rfl)
                  rw [e1, e2] at hpre
                  simp [List.isPrefixOf] at hpre
                · exact .inr (.inl ⟨h, h'⟩)
              · exact .inl h
            clear ho hpre
            rcases h3 with h3 | ⟨h3, h5⟩ | ⟨h3, h5, h6⟩
            · have e45 : (((S[p]'hlt).toNat : Int) == 45) = false := by rw [beq_eq_false_iff_ne]; omega
              clear h3
              have HC := Lib.hid (fun (W : World) => rone_c S p hlt (by have := HSZ.out; omega) W)
              rw [← HO.out] at HC
              go_wp2_with fail
              refine (HC.out _).mono ?_
              rintro e w3 ⟨⟨x, rfl, hx⟩, k3⟩
              have HK3 := Lib.hid k3
              clear k3
              have HF3 := Lib.hid (HK3.out.heap HFB.out (by simp))
              have HO3 := Lib.hid (HOW.out.kept0 HK3.out)
              have d0 := blk_cell HF3.out 0
              have d1 := blk_cell HF3.out 1
              have f0 := blk_free HF3.out 0
              have f1 := blk_free HF3.out 1
              have hl4 := blk_lt HF3.out
              simp only [List.getElem?_toArray, List.getElem?_cons_zero, List.getElem?_cons_succ] at d0 d1
              cases o with
              | none =>
                have HE := Lib.hid (show allR l = .error (20, p) from by
                  rw [HR.out, HINV.out, allP_fail HBL.out (by rw [HDR.out]; simp) HO.out.symm]
                  rfl)
                simp only [tkV, Option.isSome_none]
                clear hx
                go_wp2_with fail
                refine bodyPost_ret (v := .tuple #[.slice none 0 0, .agg #[.int .i64 20, .int .i64 (p : Int)]]) (by simp [results, Tryd.results10, go_sem, d0, d1, hl4] <;> omega) rfl ?_
                rw [HE.out]
                exact ⟨(((KR.out.trans HK3.out).setCell (.inr (Nat.le_refl _)) _).setCell (.inr (Nat.le_refl _)) _).alloc _, rfl⟩
              | some y =>
                obtain rfl := hx y rfl
                obtain ⟨x, hxy⟩ : ∃ x, x = y := ⟨_, rfl⟩
                rw [← hxy]
                rw [← hxy] at HO
                clear hxy
                have hxp1 := oneB_pos HO.out.symm
                have hxl : p + x.text.length ≤ S.size := by
                  have h1 := oneB_len HO.out.symm
                  rw [List.length_drop] at h1
                  have h2 := HLEN.out
                  omega
                have HE := Lib.hid (show allB l = preTk (xs ++ [{ x with at_ := p }]) (allP (p + x.text.length) (S.data.toList.drop (p + x.text.length))) from by
                  rw [HINV.out, allP_step HBL.out HO.out.symm, preTk_snoc, List.drop_drop])
                simp only [tkV, Option.isSome_some]
                clear hx
                have HSP := Lib.hid (show w.heap.size ∉ ft a' from blk_apart HF3.out HO3.out (by decide))
                obtain ⟨nx, hnx⟩ : ∃ nx, nx = xs.length := ⟨_, rfl⟩
                have HNX := Lib.hid hnx
                obtain ⟨w4, hw4⟩ : ∃ V, V = w3.alloc (.cells #[.int .i64 (x.kind : Int), .string ⟨x.text.toArray⟩, .int .i64 (p : Int), .int .u64 (x.n : Int), .bool x.ty.b, .bool x.ty.sg, .int .i64 x.ty.w] 36) := ⟨_, rfl⟩
                have HK4 := Lib.hid (show Kept [] w3 w4 from hw4 ▸ (Kept.refl [] w3).alloc _)
                have hx4 : w4.heap[w3.heap.size]? = some (.cells #[.int .i64 (x.kind : Int), .string ⟨x.text.toArray⟩, .int .i64 (p : Int), .int .u64 (x.n : Int), .bool x.ty.b, .bool x.ty.sg, .int .i64 x.ty.w] 36 (0, 0)) := by rw [hw4]; exact heap_alloc_new w3 _
                have HX4 := Lib.hid hx4
                have y0 := blk_cell hx4 0
                have y1 := blk_cell hx4 1
                have y2 := blk_cell hx4 2
                have y3 := blk_cell hx4 3
                have y4 := blk_cell hx4 4
                have y5 := blk_cell hx4 5
                have y6 := blk_cell hx4 6
                simp only [List.getElem?_toArray, List.getElem?_cons_zero, List.getElem?_cons_succ] at y0 y1 y2 y3 y4 y5 y6
                have how := own_kept (HO3.out) HK4.out (by simp)
                have HF4 := Lib.hid (HK4.out.heap HF3.out (by simp))
                have HQN := Lib.hid (show w3.heap.size ∉ ft a' from blk_new_apart hw4 how HO3.out)
                rw [← hnx] at hxp how ⊢
                go_upto_region 16 with (fail)
                rw [← hw4]
                clear hnx hw4 hx4 d0 d1 f0 f1 hl4
                go_wp2_with (at_builtin; refine wpList_push2 (news := [.int .i64 (x.kind : Int), .string ⟨x.text.toArray⟩, .int .i64 (p : Int), .int .u64 (x.n : Int), .bool x.ty.b, .bool x.ty.sg, .int .i64 x.ty.w]) rfl rfl Tryd.underlying29 tkr_info rfl (by omega) rfl rfl rfl how rfl (by simp [Value.oneCell']) (by unfold maxLen; omega) (by omega) rfl ?_; intro a5 c5 w5 hown5 hst5; have hx5 := hst5.kept.heap HX4.out HQN.out; have z1 := blk_cell hx5 1; simp only [List.getElem?_toArray, List.getElem?_cons_zero, List.getElem?_cons_succ] at z1)
                have HK5 := Lib.hid (kept_mix ((KR.out.trans HK3.out).trans HK4.out) hst5.kept (fun b hb => .inr (HAL.out b hb)))
                have HF5 := Lib.hid (hst5.kept.heap HF4.out HSP.out)
                have HFR := Lib.hid (fun b (hb : b ∈ ft a5) => (show w.heap.size ≤ b from by
                  rcases hst5.fresh b hb with h | h
                  · exact HAL.out b h
                  · have := ((KR.out.trans HK3.out).size)
                    have := HK4.out.size
                    omega))
                have HOW5 := Lib.hid hown5
                clear hown5 hst5 how y0 y1 y2 y3 y4 y5 y6 hx5 z1
                go_roundw
                case rel =>
                  refine ⟨xs ++ [{ x with at_ := p }], p + x.text.length, a5, c5, by rw [List.length_append, ← HNX.out]; rfl, by go_num, ?_, HFR.out, hxl, by rw [List.length_append, ← HNX.out]; simp; omega, HK5.out, HF5.out, HE.out⟩
                  show World.ownsRow _ _ _ _ _ _ _
                  rw [flat_tk, List.length_append, ← HNX.out]
                  exact HOW5.out
                case measure => simp [intOf]; omega
            · have e45 : (((S[p]'hlt).toNat : Int) == 45) = true := by rw [beq_iff_eq]; omega
              clear h3
              have HC := Lib.hid (fun (W : World) => rone_c S p hlt (by have := HSZ.out; omega) W)
              rw [← HO.out] at HC
              go_wp2_with fail
              refine (HC.out _).mono ?_
              rintro e w3 ⟨⟨x, rfl, hx⟩, k3⟩
              have HK3 := Lib.hid k3
              clear k3
              have HF3 := Lib.hid (HK3.out.heap HFB.out (by simp))
              have HO3 := Lib.hid (HOW.out.kept0 HK3.out)
              have d0 := blk_cell HF3.out 0
              have d1 := blk_cell HF3.out 1
              have f0 := blk_free HF3.out 0
              have f1 := blk_free HF3.out 1
              have hl4 := blk_lt HF3.out
              simp only [List.getElem?_toArray, List.getElem?_cons_zero, List.getElem?_cons_succ] at d0 d1
              cases o with
              | none =>
                have HE := Lib.hid (show allR l = .error (20, p) from by
                  rw [HR.out, HINV.out, allP_fail HBL.out (by rw [HDR.out]; simp) HO.out.symm]
                  rfl)
                simp only [tkV, Option.isSome_none]
                clear hx
                go_wp2_with fail
                refine bodyPost_ret (v := .tuple #[.slice none 0 0, .agg #[.int .i64 20, .int .i64 (p : Int)]]) (by simp [results, Tryd.results10, go_sem, d0, d1, hl4] <;> omega) rfl ?_
                rw [HE.out]
                exact ⟨(((KR.out.trans HK3.out).setCell (.inr (Nat.le_refl _)) _).setCell (.inr (Nat.le_refl _)) _).alloc _, rfl⟩
              | some y =>
                obtain rfl := hx y rfl
                obtain ⟨x, hxy⟩ : ∃ x, x = y := ⟨_, rfl⟩
                rw [← hxy]
                rw [← hxy] at HO
                clear hxy
                have hxp1 := oneB_pos HO.out.symm
                have hxl : p + x.text.length ≤ S.size := by
                  have h1 := oneB_len HO.out.symm
                  rw [List.length_drop] at h1
                  have h2 := HLEN.out
                  omega
                have HE := Lib.hid (show allB l = preTk (xs ++ [{ x with at_ := p }]) (allP (p + x.text.length) (S.data.toList.drop (p + x.text.length))) from by
                  rw [HINV.out, allP_step HBL.out HO.out.symm, preTk_snoc, List.drop_drop])
                simp only [tkV, Option.isSome_some]
                clear hx
                have HSP := Lib.hid (show w.heap.size ∉ ft a' from blk_apart HF3.out HO3.out (by decide))
                obtain ⟨nx, hnx⟩ : ∃ nx, nx = xs.length := ⟨_, rfl⟩
                have HNX := Lib.hid hnx
                obtain ⟨w4, hw4⟩ : ∃ V, V = w3.alloc (.cells #[.int .i64 (x.kind : Int), .string ⟨x.text.toArray⟩, .int .i64 (p : Int), .int .u64 (x.n : Int), .bool x.ty.b, .bool x.ty.sg, .int .i64 x.ty.w] 36) := ⟨_, rfl⟩
                have HK4 := Lib.hid (show Kept [] w3 w4 from hw4 ▸ (Kept.refl [] w3).alloc _)
                have hx4 : w4.heap[w3.heap.size]? = some (.cells #[.int .i64 (x.kind : Int), .string ⟨x.text.toArray⟩, .int .i64 (p : Int), .int .u64 (x.n : Int), .bool x.ty.b, .bool x.ty.sg, .int .i64 x.ty.w] 36 (0, 0)) := by rw [hw4]; exact heap_alloc_new w3 _
                have HX4 := Lib.hid hx4
                have y0 := blk_cell hx4 0
                have y1 := blk_cell hx4 1
                have y2 := blk_cell hx4 2
                have y3 := blk_cell hx4 3
                have y4 := blk_cell hx4 4
                have y5 := blk_cell hx4 5
                have y6 := blk_cell hx4 6
                simp only [List.getElem?_toArray, List.getElem?_cons_zero, List.getElem?_cons_succ] at y0 y1 y2 y3 y4 y5 y6
                have how := own_kept (HO3.out) HK4.out (by simp)
                have HF4 := Lib.hid (HK4.out.heap HF3.out (by simp))
                have HQN := Lib.hid (show w3.heap.size ∉ ft a' from blk_new_apart hw4 how HO3.out)
                rw [← hnx] at hxp how ⊢
                go_upto_region 16 with (fail)
                rw [← hw4]
                clear hnx hw4 hx4 d0 d1 f0 f1 hl4
                go_wp2_with (at_builtin; refine wpList_push2 (news := [.int .i64 (x.kind : Int), .string ⟨x.text.toArray⟩, .int .i64 (p : Int), .int .u64 (x.n : Int), .bool x.ty.b, .bool x.ty.sg, .int .i64 x.ty.w]) rfl rfl Tryd.underlying29 tkr_info rfl (by omega) rfl rfl rfl how rfl (by simp [Value.oneCell']) (by unfold maxLen; omega) (by omega) rfl ?_; intro a5 c5 w5 hown5 hst5; have hx5 := hst5.kept.heap HX4.out HQN.out; have z1 := blk_cell hx5 1; simp only [List.getElem?_toArray, List.getElem?_cons_zero, List.getElem?_cons_succ] at z1)
                have HK5 := Lib.hid (kept_mix ((KR.out.trans HK3.out).trans HK4.out) hst5.kept (fun b hb => .inr (HAL.out b hb)))
                have HF5 := Lib.hid (hst5.kept.heap HF4.out HSP.out)
                have HFR := Lib.hid (fun b (hb : b ∈ ft a5) => (show w.heap.size ≤ b from by
                  rcases hst5.fresh b hb with h | h
                  · exact HAL.out b h
                  · have := ((KR.out.trans HK3.out).size)
                    have := HK4.out.size
                    omega))
                have HOW5 := Lib.hid hown5
                clear hown5 hst5 how y0 y1 y2 y3 y4 y5 y6 hx5 z1
                go_roundw
                case rel =>
                  refine ⟨xs ++ [{ x with at_ := p }], p + x.text.length, a5, c5, by rw [List.length_append, ← HNX.out]; rfl, by go_num, ?_, HFR.out, hxl, by rw [List.length_append, ← HNX.out]; simp; omega, HK5.out, HF5.out, HE.out⟩
                  show World.ownsRow _ _ _ _ _ _ _
                  rw [flat_tk, List.length_append, ← HNX.out]
                  exact HOW5.out
                case measure => simp [intOf]; omega
            · have e45 : (((S[p]'hlt).toNat : Int) == 45) = true := by rw [beq_iff_eq]; omega
              have e46 : (((S[p + 1]'h5).toNat : Int) == 45) = false := by rw [beq_eq_false_iff_ne]; omega
              clear h3 h6
              have HC := Lib.hid (fun (W : World) => rone_c S p hlt (by have := HSZ.out; omega) W)
              rw [← HO.out] at HC
              go_wp2_with fail
              refine (HC.out _).mono ?_
              rintro e w3 ⟨⟨x, rfl, hx⟩, k3⟩
              have HK3 := Lib.hid k3
              clear k3
              have HF3 := Lib.hid (HK3.out.heap HFB.out (by simp))
              have HO3 := Lib.hid (HOW.out.kept0 HK3.out)
              have d0 := blk_cell HF3.out 0
              have d1 := blk_cell HF3.out 1
              have f0 := blk_free HF3.out 0
              have f1 := blk_free HF3.out 1
              have hl4 := blk_lt HF3.out
              simp only [List.getElem?_toArray, List.getElem?_cons_zero, List.getElem?_cons_succ] at d0 d1
              cases o with
              | none =>
                have HE := Lib.hid (show allR l = .error (20, p) from by
                  rw [HR.out, HINV.out, allP_fail HBL.out (by rw [HDR.out]; simp) HO.out.symm]
                  rfl)
                simp only [tkV, Option.isSome_none]
                clear hx
                go_wp2_with fail
                refine bodyPost_ret (v := .tuple #[.slice none 0 0, .agg #[.int .i64 20, .int .i64 (p : Int)]]) (by simp [results, Tryd.results10, go_sem, d0, d1, hl4] <;> omega) rfl ?_
                rw [HE.out]
                exact ⟨(((KR.out.trans HK3.out).setCell (.inr (Nat.le_refl _)) _).setCell (.inr (Nat.le_refl _)) _).alloc _, rfl⟩
              | some y =>
                obtain rfl := hx y rfl
                obtain ⟨x, hxy⟩ : ∃ x, x = y := ⟨_, rfl⟩
                rw [← hxy]
                rw [← hxy] at HO
                clear hxy
                have hxp1 := oneB_pos HO.out.symm
                have hxl : p + x.text.length ≤ S.size := by
                  have h1 := oneB_len HO.out.symm
                  rw [List.length_drop] at h1
                  have h2 := HLEN.out
                  omega
                have HE := Lib.hid (show allB l = preTk (xs ++ [{ x with at_ := p }]) (allP (p + x.text.length) (S.data.toList.drop (p + x.text.length))) from by
                  rw [HINV.out, allP_step HBL.out HO.out.symm, preTk_snoc, List.drop_drop])
                simp only [tkV, Option.isSome_some]
                clear hx
                have HSP := Lib.hid (show w.heap.size ∉ ft a' from blk_apart HF3.out HO3.out (by decide))
                obtain ⟨nx, hnx⟩ : ∃ nx, nx = xs.length := ⟨_, rfl⟩
                have HNX := Lib.hid hnx
                obtain ⟨w4, hw4⟩ : ∃ V, V = w3.alloc (.cells #[.int .i64 (x.kind : Int), .string ⟨x.text.toArray⟩, .int .i64 (p : Int), .int .u64 (x.n : Int), .bool x.ty.b, .bool x.ty.sg, .int .i64 x.ty.w] 36) := ⟨_, rfl⟩
                have HK4 := Lib.hid (show Kept [] w3 w4 from hw4 ▸ (Kept.refl [] w3).alloc _)
                have hx4 : w4.heap[w3.heap.size]? = some (.cells #[.int .i64 (x.kind : Int), .string ⟨x.text.toArray⟩, .int .i64 (p : Int), .int .u64 (x.n : Int), .bool x.ty.b, .bool x.ty.sg, .int .i64 x.ty.w] 36 (0, 0)) := by rw [hw4]; exact heap_alloc_new w3 _
                have HX4 := Lib.hid hx4
                have y0 := blk_cell hx4 0
                have y1 := blk_cell hx4 1
                have y2 := blk_cell hx4 2
                have y3 := blk_cell hx4 3
                have y4 := blk_cell hx4 4
                have y5 := blk_cell hx4 5
                have y6 := blk_cell hx4 6
                simp only [List.getElem?_toArray, List.getElem?_cons_zero, List.getElem?_cons_succ] at y0 y1 y2 y3 y4 y5 y6
                have how := own_kept (HO3.out) HK4.out (by simp)
                have HF4 := Lib.hid (HK4.out.heap HF3.out (by simp))
                have HQN := Lib.hid (show w3.heap.size ∉ ft a' from blk_new_apart hw4 how HO3.out)
                rw [← hnx] at hxp how ⊢
                go_upto_region 16 with (fail)
                rw [← hw4]
                clear hnx hw4 hx4 d0 d1 f0 f1 hl4
                go_wp2_with (at_builtin; refine wpList_push2 (news := [.int .i64 (x.kind : Int), .string ⟨x.text.toArray⟩, .int .i64 (p : Int), .int .u64 (x.n : Int), .bool x.ty.b, .bool x.ty.sg, .int .i64 x.ty.w]) rfl rfl Tryd.underlying29 tkr_info rfl (by omega) rfl rfl rfl how rfl (by simp [Value.oneCell']) (by unfold maxLen; omega) (by omega) rfl ?_; intro a5 c5 w5 hown5 hst5; have hx5 := hst5.kept.heap HX4.out HQN.out; have z1 := blk_cell hx5 1; simp only [List.getElem?_toArray, List.getElem?_cons_zero, List.getElem?_cons_succ] at z1)
                have HK5 := Lib.hid (kept_mix ((KR.out.trans HK3.out).trans HK4.out) hst5.kept (fun b hb => .inr (HAL.out b hb)))
                have HF5 := Lib.hid (hst5.kept.heap HF4.out HSP.out)
                have HFR := Lib.hid (fun b (hb : b ∈ ft a5) => (show w.heap.size ≤ b from by
                  rcases hst5.fresh b hb with h | h
                  · exact HAL.out b h
                  · have := ((KR.out.trans HK3.out).size)
                    have := HK4.out.size
                    omega))
                have HOW5 := Lib.hid hown5
                clear hown5 hst5 how y0 y1 y2 y3 y4 y5 y6 hx5 z1
                go_roundw
                case rel =>
                  refine ⟨xs ++ [{ x with at_ := p }], p + x.text.length, a5, c5, by rw [List.length_append, ← HNX.out]; rfl, by go_num, ?_, HFR.out, hxl, by rw [List.length_append, ← HNX.out]; simp; omega, HK5.out, HF5.out, HE.out⟩
                  show World.ownsRow _ _ _ _ _ _ _
                  rw [flat_tk, List.length_append, ← HNX.out]
                  exact HOW5.out
                case measure => simp [intOf]; omega
      · obtain rfl : p = S.size := by omega
        have HEND := Lib.hid (show allB l = .ok (xs ++ [endTk S.size]) from by
          rw [HINV.out]
          have h0 : S.data.toList.drop S.size = [] := List.drop_eq_nil_of_le (Nat.le_refl _)
          rw [h0, allP_end]; rfl)
        have HSP := Lib.hid (show w.heap.size ∉ ft a' from blk_apart HFB.out HOW.out (by decide))
        obtain ⟨nx, hnx⟩ : ∃ nx, nx = xs.length := ⟨_, rfl⟩
        have how : wr.ownsRow 0 36 7 (.slice a' nx c') nx (xs.flatMap tkCells) := by rw [hnx]; exact HOW.out
        have HNX := Lib.hid hnx
        rw [← hnx] at hxp ⊢
        clear hnx
        go_wp2_with (at_builtin; refine wpList_push2 (news := [.int .i64 7, .string ⟨#[]⟩, .int .i64 (S.size : Int), .int .u64 0, .bool false, .bool false, .int .i64 0]) rfl rfl Tryd.underlying29 tkr_info rfl (by omega) rfl rfl rfl how rfl (by simp [Value.oneCell']) (by unfold maxLen; omega) (by omega) rfl ?_; intro a5 c5 w5 hown5 hst5; have hf5 := hst5.kept.heap (b := w.heap.size) HFB.out HSP.out; have d0 := blk_cell hf5 0; have d1 := blk_cell hf5 1; have f0 := blk_free hf5 0; have f1 := blk_free hf5 1; have hlf := blk_lt hf5; simp only [List.getElem?_toArray, List.getElem?_cons_zero, List.getElem?_cons_succ] at d0 d1)
        refine bodyPost_ret (v := .tuple #[.slice a5 (nx + 1) c5, .agg #[.int .i64 0, .int .i64 0]]) (by simp [results, Tryd.results10, go_sem, d0, d1, hlf]) rfl ?_
        have HE := Lib.hid (show allR l = .ok (xs ++ [endTk S.size]) from by rw [HR.out, HEND.out])
        rw [HE.out]
        have hk5 := kept_mix KR.out hst5.kept (fun b hb => .inr (HAL.out b hb))
        refine ⟨(hk5.setCell (.inr (Nat.le_refl _)) _).setCell (.inr (Nat.le_refl _)) _, a5, c5, ?_, ?_, fun b hb => ?_⟩
        · rw [List.length_append, ← HNX.out]; rfl
        · show World.ownsRow _ _ _ _ _ _ _
          rw [flat_tk, List.length_append, ← HNX.out]
          have hne : w.heap.size ∉ ft a5 := blk_apart hf5 hown5 (by decide)
          exact own_kept hown5 (((Kept.refl [w.heap.size] w5).setCell (.inl (by simp)) _).setCell (.inl (by simp)) _) (fun b hb => by simp; rintro rfl; exact hne hb)
        · rcases hst5.fresh b hb with h | h
          · exact HAL.out b h
          · have := KR.out.size
            omega
end Go.Proofs.YtjnjldbegngooaaDoor
