/-
  Law 09's document: a table as text.
-/
import Derived.Test.YtjgcfncganleoaaDoorRtE
import Derived.Test.YtjgcfncganleoaaDoorTrcL
import Derived.Deep.DeepCutAuto
import Derived.Deep.CutBlock
namespace Go.Proofs.YtjgcfncganleoaaDoor
open Go.ChangeShapes Go.WideShapes Go.ChangeAt Go.RowKit
set_option linter.unusedVariables false
set_option linter.unusedSimpArgs false

variable {w w' w1 W : World} {B pb n : Nat} {L L' : List UInt8} {v : Value}
theorem digB_hex (u : Nat) : digB 16 u = hexD u := by
  induction u using Nat.strongRecOn with
  | _ u ih =>
    by_cases h : u < 16
    · rw [digB_small h, hexD_small h]; rfl
    · rw [digB_big (by omega) h, hexD_big h, ih _ (Nat.div_lt_self (by omega) (by omega))]; rfl
theorem digB_dec {x : Nat} (h : x < 100) : digB 10 x = Lib.decDigits x := by
  by_cases h1 : x < 10
  · rw [digB_small h1, Lib.decDigits_one h1]
    unfold rdg
    rw [if_pos h1]
  · rw [digB_big (by omega) h1, digB_small (show x / 10 < 10 by omega), Lib.decDigits_two h1 h]
    unfold rdg
    rw [if_pos (by omega), if_pos (by omega)]
    rfl
theorem wpList_mid_one {ops : Array Oper} {rest : List Oper} {o : Oper} {act : Act} {Q : Exit → Act → World → Prop} {s x : Operand} {W1 : World} {g : Nat} {b : UInt8}
    (hgd : o.guard = none) (ho : o.op = .call { callee := .builtin .append, args := #[s, x], argTypes := #[44, 44] }) (hs : act.eval s = v) (hx : act.eval x = .slice (some ⟨g, 0, none⟩) 1 1) (hg : g = W.heap.size) (hm : MidAt B w W v n L) (hlim : n + 1 ≤ 140737488351232)
    (hW1 : W1 = W.alloc (.cells #[.int .u8 (b.toNat : Int)] 5))
    (h : ∀ v' w', MidAt B w w' v' (n + 1) (L ++ [b]) → wpList Tryd.prog ops Q rest (act.put o.dst v') w') : wpList Tryd.prog ops Q (o :: rest) act W1 := by
  subst hW1 hg
  have hm2 := hm.kept ((Kept.refl [] W).alloc (.cells #[.int .u8 (b.toNat : Int)] 5))
  obtain ⟨i0, hi, hz0, hz1, hz2⟩ := u8_info
  refine wpList_append_own _ hgd s x 44 ho B 5 i0 (.int .u8 0) 1 1 Tryd.underlying44 hi hz0 hz1 hz2 rfl (by omega) v n _ hs hm2.row ⟨W.heap.size, 0, none⟩ 1 1 [.int .u8 (b.toNat : Int)] hx rfl (cell_one_new _ _ _) (fun u hu => by rw [List.mem_singleton.1 hu]; rfl) (by unfold maxLen; omega) (by omega) hm2.low ?_
  intro v' w' h1 h2 _
  exact h v' w' (hm2.grow (new := [b]) h2 h1 rfl)
theorem wpList_mid_str {ops : Array Oper} {rest : List Oper} {o : Oper} {act : Act} {Q : Exit → Act → World → Prop} {s x : Operand} {str : ByteArray}
    (hgd : o.guard = none) (ho : o.op = .call { callee := .builtin .append, args := #[s, x], argTypes := #[44, 9] }) (hs : act.eval s = v) (hx : act.eval x = .string str) (hm : MidAt B w W v n L) (hlim : n + str.size ≤ 140737488351232)
    (h : ∀ v' w', MidAt B w w' v' (n + str.size) (L ++ str.data.toList) → wpList Tryd.prog ops Q rest (act.put o.dst v') w') : wpList Tryd.prog ops Q (o :: rest) act W := by
  obtain ⟨i0, hi, hz0, hz1, hz2⟩ := u8_info
  refine Lib.wpList_append_own_string W hgd s x 44 9 ho B 5 i0 Tryd.underlying44 Tryd.underlying9 hi hz0 hz1 hz2 v n _ hs hm.row str hx (by unfold maxLen; omega) (by omega) hm.low ?_
  intro v' w' h1 h2 _
  exact h v' w' (hm.grow (new := str.data.toList) h2 h1 (by rw [Array.length_toList]; rfl))
theorem MidAt.re {m : Nat} (h : MidAt B w W v n L) (hl : L = L') (hn : n = m) : MidAt B w W v m L' := by subst hl hn; exact h
theorem MidAt.sized (h : MidAt B w W v n L) : MidAt B w W v L.length L := h.re rfl h.len
theorem busAt_60 {t : Tb} (hm : mayT t = true) : ∀ k, k < t.bs.length → (busAt t.bs k).length ≤ 60 := fun k hk => by
  have h1 := may_bus hm k hk
  have h2 : t.bs[k].1.data.toList.length = t.bs[k].1.size := by rw [Array.length_toList]; rfl
  have h3 := dec_2 (show t.bs[k].2.toNat < 100 from by omega)
  rw [busAt_some hk, busTx, List.length_append, List.length_append, h2]
  simp
  omega
theorem hexAt_60 {r : List Nat} (hW : Words r) : ∀ k, k < r.length → (hexD (r.getD k 0)).length ≤ 60 := fun k hk => by
  have h1 : r.getD k 0 = r[k] := by simp [List.getD, List.getElem?_eq_getElem hk]
  have h2 := hexD_16 (hW _ (List.getElem_mem hk))
  simp only [h1]
  omega
theorem head_eq (bs : List (ByteArray × Int)) : headTx bs = lineTo (busAt bs) bs.length ++ [10] := rfl
set_option maxHeartbeats 6400000 in
set_option maxRecDepth 100000 in
theorem rput_c {ba ra : Option Addr} {bn bc rn rc : Nat} {t : Tb} {wl : List WR} (w : World) (h : TabV w ba bn bc ra rn rc t wl) (hok : t.ok) :
    Calls Tryd.prog 17 #[.agg #[.slice ba bn bc, .slice ra rn rc]] w (PutPost t w) := by
  have HT := Lib.hid h
  have HOK := Lib.hid hok
  have HM := Lib.hid (fun (W : World) (hW : Kept [] w W) => rmay_c (h.kept0 hW) hok)
  clear h hok
  go_enter Tryd.func17, Tryd.ntmps17; (try simp only [List.append])
  go_upto_region 1 with (fail)
  obtain ⟨w2, hw2⟩ : ∃ W, W = w.alloc (.cells #[.slice ba bn bc, .slice ra rn rc] 42) := ⟨_, rfl⟩
  obtain ⟨p, hp⟩ : ∃ q, q = w.heap.size := ⟨_, rfl⟩
  have K2 := Lib.hid (show Kept [] w w2 from by rw [hw2]; exact (Kept.refl [] w).alloc _)
  have C0 := Lib.hid (show w2.cell? ⟨p, 0, none⟩ = some (.slice ba bn bc) ∧ w2.cell? ⟨p, 1, none⟩ = some (.slice ra rn rc) from by
    rw [hw2, hp]
    exact ⟨blk_cell (heap_alloc_new w _) 0, blk_cell (heap_alloc_new w _) 1⟩)
  try rw [← hw2, ← hp]
  clear hw2 hp
  have c0 := C0.out.1
  have c1 := C0.out.2
  go_wp2_with fail
  refine (HM.out _ K2.out).mono ?_
  rintro e w3 ⟨rfl, k3⟩
  have K3 := Lib.hid (K2.out.trans k3)
  have D0 := Lib.hid (k3.cell c0 (by simp))
  have D1 := Lib.hid (k3.cell c1 (by simp))
  clear k3 c0 c1 HM
  cases hm : mayT t with
  | false =>
    have HMM := Lib.hid hm
    clear hm
    go_wp2_with fail
    go_ret2
    exact .inl ⟨HMM.out, rfl, K3.out⟩
  | true =>
    have HMM := Lib.hid hm
    have hb5 : bn ≤ 512 := by rw [← HT.out.bl]; exact (may_len hm).1
    have hr4 : rn ≤ 4096 := by rw [← HT.out.rlen]; exact (may_len hm).2
    clear hm
    obtain ⟨B, hB⟩ : ∃ B, B = w3.heap.size := ⟨_, rfl⟩
    have HALL := Lib.hid (fun (V : World) (hV : Below B w3 V) => cells_below hV (Nat.le_of_eq hB.symm))
    have HT3 := Lib.hid (HT.out.kept0 K3.out)
    have HM0 := Lib.hid (show MidAt B w3 w3 (.slice none 0 0) 0 [] from MidAt.start (Nat.le_of_eq hB) ⟨by simp [Lib.byteCells], .inl ⟨rfl, rfl⟩⟩ rfl)
    have HB := Lib.hid (show w.heap.size ≤ B from by rw [hB]; exact K3.out.size)
    clear hB
    have HLB := Lib.hid (lineTo_length (busAt t.bs) t.bs.length (busAt_60 HMM.out))
    go_wp2_with fail
    go_loopw [4, 5] (fun ov i wr => ∃ k : Nat, k ≤ bn ∧ i = .int .i64 k ∧ MidAt B w3 wr ov (lineTo (busAt t.bs) k).length (lineTo (busAt t.bs) k)) (fun _ i _ => bn - (intOf i).toNat)
    case atStart => exact ⟨0, Nat.zero_le _, rfl, HM0.out⟩
    case round =>
      obtain ⟨k, hk, rfl, hmid⟩ := hrel
      obtain ⟨ov, rfl⟩ : ∃ v : Value, v = u4 := ⟨_, rfl⟩
      have HMD := Lib.hid hmid
      have d0 := HALL.out wr hmid.below _ _ D0.out
      clear hmid
      by_cases hlt : k < bn
      · have hkl : k < t.bs.length := by rw [HT.out.bl]; exact hlt
        have hlen := HLB.out k (by omega)
        have HSU := Lib.hid (lineTo_succ (busAt t.bs) k)
        rw [busAt_some hkl] at HSU
        have HBU := Lib.hid (may_bus HMM.out k hkl)
        obtain ⟨gb, go_, rfl, x0, x1⟩ := HT3.out.bs k hkl
        generalize t.bs[k] = bus at *
        obtain ⟨nm, x⟩ := bus
        simp only at x0 x1 HBU
        obtain ⟨xn, hxn⟩ : ∃ xn : Nat, x = (xn : Int) := ⟨x.toNat, by have := HBU.out; omega⟩
        subst hxn
        have hx64 : xn ≤ 64 := by have := HBU.out; omega
        have hnm : nm.size ≤ 33 := HBU.out.1
        have X01 := Lib.hid (And.intro x0 x1)
        generalize lineTo (busAt t.bs) k = LL at *
        obtain ⟨ln, hln⟩ : ∃ n, n = LL.length := ⟨_, rfl⟩
        have HLN := Lib.hid hln
        rw [← hln] at HMD hlen
        clear x0 x1 hln
        go_upto_if 19 with (fail)
        go_cut [4] (fun v wx => MidAt B w3 wx v (LL ++ sep k).length (LL ++ sep k))
        case first =>
          by_cases hk0 : k = 0
          · subst hk0
            go_wp2_with fail
            go_meet
            exact HMD.out.re (by simp [sep]) (by rw [HLN.out]; simp [sep])
          · have hs := Lib.hid (show sep k = [32] from by simp [sep, hk0])
            go_wp2_with (at_builtin; go_loud (refine wpList_mid_one (b := 32) rfl rfl rfl rfl rfl HMD.out (by omega) rfl ?_; intro v5 w5 m5; have M5 := Lib.hid m5; clear m5))
            go_meet
            rw [hs.out]
            exact M5.out.sized
        case rest =>
          have hlen2 : (LL ++ sep k).length ≤ 40000 := by
            have h3 : (sep k).length ≤ 1 := by unfold sep; split <;> simp
            rw [List.length_append]
            have := HLN.out
            omega
          obtain ⟨L1, hL1⟩ : ∃ l, l = LL ++ sep k := ⟨_, rfl⟩
          rw [← hL1] at hcut hlen2
          have HL1 := Lib.hid hL1
          clear hL1
          obtain ⟨n1, hn1⟩ : ∃ n, n = L1.length := ⟨_, rfl⟩
          rw [← hn1] at hcut hlen2
          clear hn1
          obtain ⟨w4, rfl⟩ : ∃ v : World, v = wc := ⟨_, rfl⟩
          have M4 := Lib.hid hcut
          have e0 := HALL.out w4 hcut.below _ _ D0.out
          have y0 := HALL.out w4 hcut.below _ _ X01.out.1
          clear hcut d0
          go_upto_region 10 with (at_builtin; go_loud (refine wpList_mid_str rfl rfl rfl rfl M4.out (by omega) ?_; intro v5 w5 m5; have M5 := Lib.hid m5; clear m5))
          clear e0 y0
          go_upto_region 11 with (at_builtin; go_loud (refine wpList_mid_one (b := 58) rfl rfl rfl rfl rfl M5.out (by omega) rfl ?_; intro v6 w6 m6; have M6 := Lib.hid m6; clear m6))
          have e0 := HALL.out w6 M6.out.below _ _ D0.out
          have y1 := HALL.out w6 M6.out.below _ _ X01.out.2
          have HDG := Lib.hid (fun (V : World) => rdigits_c 10 xn (by omega) (by omega) (by omega) V)
          go_wp2_with fail
          refine (HDG.out _).mono ?_
          rintro e w7 ⟨rfl, k7⟩
          have M7 := Lib.hid (M6.out.kept k7)
          have hd2 : (⟨(digB 10 xn).toArray⟩ : ByteArray).size ≤ 2 := by
            rw [digB_dec (by omega)]
            exact (by simpa [ByteArray.size] using dec_2 (show xn < 100 by omega))
          clear k7 e0 y1
          go_wp2_with (at_builtin; go_loud (refine wpList_mid_str rfl rfl rfl rfl M7.out (by omega) ?_; intro v8 w8 m8; have M8 := Lib.hid m8; clear m8))
          go_roundw
          case rel =>
            refine ⟨k + 1, by omega, by go_num, ?_⟩
            refine M8.out.sized.re ?_ ?_
            · rw [HSU.out, HL1.out, busTx, digB_dec (by omega)]
              simp
            · congr 1
              rw [HSU.out, HL1.out, busTx, digB_dec (by omega)]
              simp
          case measure => simp [intOf]; omega
      · obtain rfl : k = bn := by omega
        have hlen := HLB.out k (by rw [HT.out.bl]; exact Nat.le_refl _)
        have HP0 := Lib.hid (show lineTo (busAt t.bs) k ++ [10] = putTo t 0 from by
          have h1 := head_eq t.bs
          rw [HT.out.bl] at h1
          rw [putTo, h1]; simp)
        have HPL := Lib.hid (putTo_len HMM.out HOK.out)
        generalize lineTo (busAt t.bs) k = LL at *
        obtain ⟨ln, hln⟩ : ∃ n, n = LL.length := ⟨_, rfl⟩
        rw [← hln] at HMD hlen
        clear hln
        go_upto_region 13 with (at_builtin; go_loud (refine wpList_mid_one (b := 10) rfl rfl rfl rfl rfl HMD.out (by omega) rfl ?_; intro v5 w5 m5; have M5 := Lib.hid (HP0.out ▸ m5.sized); clear m5))
        clear d0 HMD hlen
        go_wp2_with fail
        go_loopw [4, 6] (fun ov i wr => ∃ k : Nat, k ≤ rn ∧ i = .int .i64 k ∧ MidAt B w3 wr ov (putTo t k).length (putTo t k)) (fun _ i _ => rn - (intOf i).toNat)
        case atStart => exact ⟨0, Nat.zero_le _, rfl, M5.out⟩
        case round =>
          obtain ⟨i, hi, rfl, hmid⟩ := hrel
          obtain ⟨ov, rfl⟩ : ∃ v : Value, v = u4 := ⟨_, rfl⟩
          have HMD := Lib.hid hmid
          have d1 := HALL.out wr hmid.below _ _ D1.out
          clear hmid
          by_cases hlt : i < rn
          · have hil : i < wl.length := by rw [HT.out.rl]; exact hlt
            have HRW := Lib.hid (HT.out.row i hil)
            have HSU := Lib.hid (putTo_succ t HRW.out)
            have HLR := Lib.hid (show wl[i].l.length = k ∧ Words wl[i].l from by
              have h1 := List.mem_of_getElem? HRW.out
              exact ⟨by rw [mayT_row HMM.out _ h1, HT.out.bl], (HOK.out.rw _ h1).1⟩)
            have hlen := HPL.out i (by rw [HT.out.rlen]; omega)
            obtain ⟨gr, gro, rfl, x0, x1⟩ := HT3.out.rs i hil
            have HX := Lib.hid (And.intro x0 x1)
            clear HRW x0 x1
            generalize wl[i] = u at *
            obtain ⟨l, la, lc⟩ := u
            simp only at HX HLR HSU
            rw [HLR.out.1] at HX
            have HHX := Lib.hid (lineTo_length (fun j => hexD (l.getD j 0)) l.length (hexAt_60 HLR.out.2))
            have HRX := Lib.hid (show rowTx l = lineTo (fun j => hexD (l.getD j 0)) k ++ [10] from by rw [rowTx, HLR.out.1])
            obtain ⟨wA, rfl⟩ : ∃ v : World, v = wr := ⟨_, rfl⟩
            go_wp2_with fail
            clear d1
            go_loopw [4, 7] (fun ov j wr => ∃ q : Nat, q ≤ k ∧ j = .int .i64 q ∧ MidAt B w3 wr ov (putTo t i ++ lineTo (fun j => hexD (l.getD j 0)) q).length (putTo t i ++ lineTo (fun j => hexD (l.getD j 0)) q)) (fun _ j _ => k - (intOf j).toNat)
            case atStart => exact ⟨0, Nat.zero_le _, rfl, HMD.out.re (by simp [lineTo]) (by simp [lineTo])⟩
            case round =>
              obtain ⟨q, hq, rfl, hmid⟩ := hrel
              obtain ⟨ov, rfl⟩ : ∃ v : Value, v = u4 := ⟨_, rfl⟩
              have HMQ := Lib.hid hmid
              have d0 := HALL.out wr hmid.below _ _ D0.out
              clear hmid
              have hlq := HHX.out q (by rw [HLR.out.1]; exact hq)
              have hlt2 : (putTo t i ++ lineTo (fun j => hexD (l.getD j 0)) q).length ≤ 180000000 := by
                rw [List.length_append]; omega
              by_cases hqk : q < k
              · have hql : q < l.length := by rw [HLR.out.1]; exact hqk
                have HSQ := Lib.hid (lineTo_succ (fun j => hexD (l.getD j 0)) q)
                have HGT := Lib.hid (show l.getD q 0 = l[q] from by simp [List.getD, List.getElem?_eq_getElem hql])
                obtain ⟨ad, rfl, y⟩ := HX.out.2 q hql
                have hy := HLR.out.2 _ (List.getElem_mem hql)
                have HY := Lib.hid y
                clear y
                generalize l[q] = z at *
                generalize hLL : putTo t i ++ lineTo (fun j => hexD (l.getD j 0)) q = LL2 at *
                have HLL := Lib.hid hLL
                clear hLL
                obtain ⟨ln, hln⟩ : ∃ n, n = LL2.length := ⟨_, rfl⟩
                have HLN := Lib.hid hln
                rw [← hln] at HMQ hlt2
                clear hln
                go_upto_if 62 with (fail)
                go_cut [4] (fun v wx => MidAt B w3 wx v (LL2 ++ sep q).length (LL2 ++ sep q))
                case first =>
                  by_cases hk0 : q = 0
                  · subst hk0
                    go_wp2_with fail
                    go_meet
                    exact HMQ.out.re (by simp [sep]) (by rw [HLN.out]; simp [sep])
                  · have hs := Lib.hid (show sep q = [32] from by simp [sep, hk0])
                    go_wp2_with (at_builtin; go_loud (refine wpList_mid_one (b := 32) rfl rfl rfl rfl rfl HMQ.out (by omega) rfl ?_; intro v5 w5 m5; have M5 := Lib.hid m5; clear m5))
                    go_meet
                    rw [hs.out]
                    exact M5.out.sized
                case rest =>
                  have hlen2 : (LL2 ++ sep q).length ≤ 180000001 := by
                    have h3 : (sep q).length ≤ 1 := by unfold sep; split <;> simp
                    rw [List.length_append]
                    have := HLN.out
                    omega
                  obtain ⟨L1, hL1⟩ : ∃ l, l = LL2 ++ sep q := ⟨_, rfl⟩
                  rw [← hL1] at hcut hlen2
                  have HL1 := Lib.hid hL1
                  clear hL1
                  obtain ⟨n1, hn1⟩ : ∃ n, n = L1.length := ⟨_, rfl⟩
                  rw [← hn1] at hcut hlen2
                  clear hn1
                  obtain ⟨w4, rfl⟩ : ∃ v : World, v = wc := ⟨_, rfl⟩
                  have M4 := Lib.hid hcut
                  have e1 := HALL.out w4 hcut.below _ _ D1.out
                  have y0 := HALL.out w4 hcut.below _ _ HX.out.1
                  have y1 := HALL.out w4 hcut.below _ _ HY.out
                  clear hcut d0
                  have HDG := Lib.hid (fun (V : World) => rdigits_c 16 z (by omega) (by omega) hy V)
                  go_wp2_with fail
                  refine (HDG.out _).mono ?_
                  rintro e w7 ⟨rfl, k7⟩
                  have M7 := Lib.hid (M4.out.kept k7)
                  have hd2 : (⟨(digB 16 z).toArray⟩ : ByteArray).size ≤ 16 := by
                    rw [digB_hex]
                    exact (by simpa [ByteArray.size] using hexD_16 hy)
                  clear k7 e1 y0 y1
                  go_wp2_with (at_builtin; go_loud (refine wpList_mid_str rfl rfl rfl rfl M7.out (by omega) ?_; intro v8 w8 m8; have M8 := Lib.hid m8; clear m8))
                  go_roundw
                  case rel =>
                    have hT : L1 ++ (⟨(digB 16 z).toArray⟩ : ByteArray).data.toList = putTo t i ++ lineTo (fun j => hexD (l.getD j 0)) (q + 1) := by
                      rw [HSQ.out, HL1.out, digB_hex, ← HLL.out]
                      simp only [HGT.out]
                      simp
                    refine ⟨q + 1, by omega, by go_num, ?_⟩
                    exact M8.out.sized.re hT (by rw [hT])
                  case measure => simp [intOf]; omega
              · obtain rfl : q = k := by omega
                generalize hLL : putTo t i ++ lineTo (fun j => hexD (l.getD j 0)) q = LL2 at *
                have HLL := Lib.hid hLL
                obtain ⟨ln, hln⟩ : ∃ n, n = LL2.length := ⟨_, rfl⟩
                rw [← hln] at HMQ hlt2
                clear hln hLL
                go_wp2_with (at_builtin; go_loud (refine wpList_mid_one (b := 10) rfl rfl rfl rfl rfl HMQ.out (by omega) rfl ?_; intro v5 w5 m5; have M5 := Lib.hid m5; clear m5))
                go_roundw
                case rel =>
                  have hT : LL2 ++ [10] = putTo t (i + 1) := by
                    rw [HSU.out, HRX.out, ← HLL.out, List.append_assoc]
                  refine ⟨i + 1, by omega, by go_num, ?_⟩
                  exact M5.out.sized.re hT (by rw [hT])
                case measure => simp [intOf]; omega
          · obtain rfl : i = rn := by omega
            go_wp2_with fail
            go_ret2
            refine .inr ⟨HMM.out, _, rfl, ?_, ?_⟩
            · have h := own_mono (B' := w.heap.size) HMD.out.row HB.out
              rw [putTx, HT.out.rlen]
              exact h
            · exact (below_of_kept K3.out).trans (below_mono HMD.out.below HB.out)
end Go.Proofs.YtjgcfncganleoaaDoor
