/-
  AdderSums: a sum, in each lane; both ways tell the same. For any options, width and numbers. No condition.
-/
import Derived.Test.YtfngfoabknbgdaaAddSumM
import Derived.Test.YtfngfoabknbgdaaAddDeepW
import Derived.Test.YtfngfoabknbgdaaGiven
import Derived.Laws.Externs
namespace Go.Proofs.Ytfngfoabknbgdaa
open Go.ChangeShapes Go.WideShapes Go.ChangeAt Go.RowKit
open Go.Maps (Keyed)
open Go.WideMaps
set_option linter.unusedVariables false
set_option linter.unusedSimpArgs false

theorem add64_run (x y c : Nat) (hc : c ≤ 1) (w : World) : (callFunc 34 #[.int .u64 x, .int .u64 y, .int .u64 c]).run Try.prog w = .ok (.value (.tuple #[.int .u64 (((x + y + c) % 18446744073709551616 : Nat) : Int), .int .u64 (((x + y + c) / 18446744073709551616 : Nat) : Int)])) w := by
  rw [run_callFunc_extern Try.func34 (by kernel_rfl) (by kernel_rfl) (by kernel_rfl) (e := add64Entry) (by kernel_rfl), run_add64 x y c (by omega) (by omega) (by omega) (by omega)]
  simp only [Result.andThen]
  rw [show (((x + y + c) % 18446744073709551616 : Nat) : Int) = ((x : Int) + (y : Int) + (c : Int)) % 18446744073709551616 by omega, show (((x + y + c) / 18446744073709551616 : Nat) : Int) = ((x : Int) + (y : Int) + (c : Int)) / 18446744073709551616 by omega]
set_option maxHeartbeats 6400000 in
set_option maxRecDepth 100000 in
theorem addsums_walk (o1 o2 : Bool) (k : Nat) (ax : Option Addr) (cx : Nat) (xs : List Nat) (ay : Option Addr) (cy : Nat) (ys : List Nat) (iw : Nat) (w : World) (hk : k < 256) (hcx : xs.length ≤ cx) (zx : cx * 8 ≤ 140737488351232) (sx : SlN w .u64 ax xs) (mx : ∀ n ∈ xs, n < 18446744073709551616)
    (hcy : ys.length ≤ cy) (zy : cy * 8 ≤ 140737488351232) (sy : SlN w .u64 ay ys) (my : ∀ n ∈ ys, n < 18446744073709551616) (hiw0 : iw < 18446744073709551616) :
    Calls Try.prog 9 #[.agg #[.bool o1, .bool o2], .int .u8 k, .slice ax xs.length cx, .slice ay ys.length cy, .int .u64 iw] w fun e w' => e = .returned (.bool true) ∧ Below w.heap.size w w' := by
  obtain ⟨n, hn⟩ : ∃ n, n = 1 + k % 64 := ⟨_, rfl⟩
  have hnb : 1 ≤ n ∧ n ≤ 64 := by omega
  have hni : (1 : Int) + (k : Int) % 64 = (n : Int) := by omega
  have HNI := Lib.hid hni
  obtain ⟨n1, n64⟩ := hnb
  have SX := Lib.hid sx
  have SY := Lib.hid sy
  have MX := Lib.hid mx
  have MY := Lib.hid my
  clear hn hni sx sy mx my
  obtain ⟨lx, hlx⟩ : ∃ lx, lx = xs.length := ⟨_, rfl⟩
  obtain ⟨ly, hly⟩ : ∃ ly, ly = ys.length := ⟨_, rfl⟩
  rw [← hlx, ← hly]
  have HLX := Lib.hid hlx.symm
  have HLY := Lib.hid hly.symm
  have blx : lx ≤ 17592186043904 := by omega
  have bly : ly ≤ 17592186043904 := by omega
  clear hlx hly hcx hcy zx zy
  have HB := Lib.hid (show (w.alloc (.cells #[.bool o1, .bool o2] 32)).heap[w.heap.size]? = some (.cells #[.bool o1, .bool o2] 32 (0, 0)) from heap_alloc_new w _)
  go_enter Try.func9, Try.ntmps9; (try simp only [List.append])
  go_wp2_with fail
  rw [HNI.out]
  clear HNI hk
  obtain ⟨w1, hw1⟩ : ∃ w1, w1 = w.alloc (.cells #[.bool o1, .bool o2] 32) := ⟨_, rfl⟩
  have HK1 := Lib.hid (show Kept [] w w1 from by rw [hw1]; exact (Kept.refl [] w).alloc _)
  rw [← hw1] at HB ⊢
  clear hw1
  refine (words12 ax cx lx xs n _ HLX.out (by omega) (SX.out.kept0 HK1.out) MX.out n1 n64).mono ?_
  rintro e w2 ⟨gx, l1', rfl, ll1, lw1, own1, k1, gx1⟩
  have K2 := Lib.hid k1
  have O1 := Lib.hid own1
  have LL1 := Lib.hid ll1
  have LW1 := Lib.hid lw1
  clear k1 own1 ll1 lw1
  go_wp2_with fail
  refine (words12 ay cy ly ys n _ HLY.out (by omega) ((SY.out.kept0 HK1.out).kept0 K2.out) MY.out n1 n64).mono ?_
  rintro e w3 ⟨gy, l2', rfl, ll2, lw2, own2, k2, gy1⟩
  have K3 := Lib.hid (K2.out.trans k2)
  have O12 := Lib.hid (O1.out.kept0 k2)
  have HNEWS := Lib.hid (own_news own2)
  have LL2 := Lib.hid ll2
  have LW2 := Lib.hid lw2
  clear k2 own2 ll2 lw2 O1 K2
  go_wp2_with (first
    | (at_builtin; refine wpList_cat (news := nats .u64 l2') rfl rfl Try.underlying48 u64_info2 rfl (by omega) rfl rfl O12.out (by rw [nats_length, LL2.out, Nat.mul_one]) HNEWS.out (nats_one _ _) (by unfold maxLen; omega) (by omega) ?_; intro a4 c4 w4 hown4 hst4)
    | (at_builtin; refine wpList_push rfl rfl Try.underlying48 u64_info2 rfl rfl rfl hown4 rfl (by unfold maxLen; omega) (by omega) ?_; intro a5 c5 w5 hown5 hst5))
  obtain ⟨inp, hinp⟩ : ∃ inp, inp = l1' ++ l2' ++ [iw] := ⟨_, rfl⟩
  have hgiven : Own w5 45 a5 (n + n + 1) c5 (nats .u64 inp) := by
    rw [hinp, ← nats_append, show nats .u64 (l1' ++ l2') = nats .u64 l1' ++ nats .u64 l2' from by simp [nats]]
    exact hown5
  have hil : inp.length = 2 * n + 1 := by rw [hinp]; simp [LL1.out, LL2.out]; omega
  have htop : inp.getD (2 * n) 0 = iw := by
    rw [hinp, List.getD_eq_getElem?_getD, List.getElem?_append_right (by simp [LL1.out, LL2.out]; omega)]
    rw [show 2 * n - (l1' ++ l2').length = 0 by simp [LL1.out, LL2.out]; omega]
    rfl
  have hiw : Words inp := by
    rw [hinp]
    intro x hx
    simp only [List.mem_append, List.mem_singleton] at hx
    rcases hx with (hx | hx) | hx
    · exact LW1.out x hx
    · exact LW2.out x hx
    · omega
  have hk5 : Kept [] w1 w5 := kept_up (S := [gx]) K3.out (show Kept [gx] w3 w5 from (hst4.trans hst5).kept) (fun b hb => by simp at hb; omega)
  obtain ⟨ga, rfl⟩ := hgiven.form (by omega)
  have hcap := hgiven.cap
  have GIV := Lib.hid hgiven
  have HIL := Lib.hid hil
  have HIW := Lib.hid hiw
  have HTOP := Lib.hid htop
  have HK5 := Lib.hid (HK1.out.trans hk5)
  have HB5 := Lib.hid (hk5.heap HB.out (by simp))
  clear hgiven hil hiw hk5 htop hinp hown4 hown5 hst4 hst5 HNEWS O12 K3 LL1 LL2 LW1 LW2 HK1 SX SY MX MY HLX HLY blx bly gx1 gy1 HB
  obtain ⟨R, hR⟩ : ∃ R, R = sumRow inp (addG 1 (freshG o1 o2 (2 * n + 1)) (rowL 1 n) (rowL (1 + n) n) (2 * (1 + 2 * n)) n) := ⟨_, rfl⟩
  obtain ⟨_, _, hd1⟩ := deepK o1 o2 1 (.inl rfl) n1 n64
  have LAW := Lib.hid (show SumLaw n inp R from by rw [hR]; exact sum_law hd1.ok HIW.out HIL.out)
  have SAME := Lib.hid (fun (how : Nat) (hh : how = 1 ∨ how = 2) => (by
    obtain ⟨_, _, hd2⟩ := deepK o1 o2 how hh n1 n64
    exact ⟨hd2.ok, by rw [hR]; exact sumRow_same HIW.out hd2.ok hd1.ok⟩ : AddOk (9 * n + 1152) (freshG o1 o2 (2 * n + 1)) (rowL 1 n) (rowL (1 + n) n) (2 * (1 + 2 * n)) n (addG how (freshG o1 o2 (2 * n + 1)) (rowL 1 n) (rowL (1 + n) n) (2 * (1 + 2 * n)) n) ∧ sumRow inp (addG how (freshG o1 o2 (2 * n + 1)) (rowL 1 n) (rowL (1 + n) n) (2 * (1 + 2 * n)) n) = R))
  clear hd1 hR
  have hRl : R.length = n + 1 := LAW.out.len
  have HRL := Lib.hid hRl
  clear hRl
  go_loopw [13, 14] (fun v i wr => ∃ (how ln : Nat) (l : List Nat) (al : Option Addr) (cl : Nat), i = .int .i64 how ∧ v = .slice al ln cl ∧ 1 ≤ how ∧ how ≤ 3 ∧ ln ≤ 65 ∧ Hid (l.length = ln ∧ (l = [] ∨ l = R)) ∧ Own wr 45 al ln cl (nats .u64 l) ∧ Kept [] w5 wr) (fun _ i _ => 3 - (intOf i).toNat)
  case atStart => exact ⟨1, 0, [], none, 0, rfl, rfl, by omega, by omega, by omega, Lib.hid ⟨rfl, .inl rfl⟩, Own.nil _ _, Kept.refl _ _⟩
  case round =>
    obtain ⟨how, ln, l, al, cl, rfl, rfl, hw1, hw3, hln, HLL, hol, hkr⟩ := hrel
    have HOL := Lib.hid hol
    have HKR := Lib.hid hkr
    have c0 : wr.cell? ⟨w.heap.size, 0, none⟩ = some (.bool o1) := blk_cell (hkr.heap HB5.out (by simp)) 0
    have c1 : wr.cell? ⟨w.heap.size, 1, none⟩ = some (.bool o2) := blk_cell (hkr.heap HB5.out (by simp)) 1
    have HGV := Lib.hid (GIV.out.kept0 hkr)
    clear hol hkr
    by_cases hw2 : how ≤ 2
    · obtain ⟨hok, hsame⟩ := SAME.out how (by omega)
      go_wp2_with fail
      refine (fresh_c o1 o2 n _ n1 n64).mono ?_
      rintro e v1 ⟨p, F, a, ca, b, cb, he, hg, ho1, ho2, hst⟩
      obtain ⟨c, hc⟩ : ∃ c : Nat, c = 2 * (1 + 2 * n) := ⟨_, rfl⟩
      rw [← hc] at he hok hsame
      subst he
      have H1 := Lib.hid (fresh_rows hg ho1 ho2)
      have S1 := Lib.hid hst
      have C1 := Lib.hid (rows_add (how := how) (c := c) H1.out (by omega) n1 n64 (by rw [freshG_length]; omega) (freshG_ok _ _ (by omega)))
      clear hg ho1 ho2 hst c0 c1
      obtain ⟨⟨gr, sm, ou⟩, hr⟩ : ∃ r, r = addG how (freshG o1 o2 (2 * n + 1)) (rowL 1 n) (rowL (1 + n) n) c n := ⟨_, rfl⟩
      rw [← hr] at hok hsame C1
      clear hr
      have x1 := hok.ext.le
      rw [freshG_length] at x1
      have HL := Lib.hid (show sm.length = n from hok.len)
      have HINS := Lib.hid (show (ins gr.nodes).length = 2 * n + 1 from by rw [hok.ext.ins]; exact (freshG_wf o1 o2 (2 * n + 1)).2)
      have HOK := Lib.hid (show ∀ x ∈ sm ++ [ou], gr.ok x from fun x hx => by
        rcases List.mem_append.1 hx with h | h
        · exact hok.os x h
        · rw [List.mem_singleton] at h; subst h; exact hok.oc)
      have HSM := Lib.hid (show (sm ++ [ou]).map (lw inp gr) = R from hsame)
      dsimp only at x1
      clear hok hsame hc
      go_wp2_with fail
      refine C1.out.mono ?_
      rintro e v2 ⟨F2, s, cs, rfl, h2, hos, hst2⟩
      obtain ⟨gs, rfl⟩ := hos.form (by omega)
      have HN := Lib.hid (own_news hos)
      have S2 := Lib.hid (S1.out.trans hst2)
      have G2 := Lib.hid h2.graph
      clear h2 hos hst2 C1 S1 H1
      go_wp2_with (first
        | (at_builtin; refine wpList_cat (news := nats .u32 sm) rfl rfl Try.underlying34 lit_info rfl (by omega) rfl rfl (Own.nil v2 24) (by rw [nats_length, HL.out, Nat.mul_one]) HN.out (nats_one _ _) (by unfold maxLen; omega) (by omega) ?_; intro a4 c4 w4 hown4 hst4; simp only [Nat.zero_add, List.nil_append] at hown4 ⊢)
        | (at_builtin; refine wpList_push rfl rfl Try.underlying34 lit_info rfl rfl rfl hown4 rfl (by unfold maxLen; omega) (by omega) ?_; intro a5 c5' v5 hown5 hst5))
      have K5 := Lib.hid ((hst4.trans hst5).kept)
      have O5 := Lib.hid (show Own v5 24 a5 (n + 1) c5' (nats .u32 (sm ++ [ou])) from by rw [← nats_append]; exact hown5)
      have G5 := Lib.hid (G2.out.kept0 K5.out)
      have KV5 := Lib.hid (S2.out.kept.trans K5.out)
      clear hown4 hst4 hown5 hst5 HN G2 S2 K5
      have C2 := Lib.hid (cone_words G5.out (by omega) (some ⟨ga, 0, none⟩) c5 (n + n + 1) inp (by rw [HIL.out]; omega) (by rw [HINS.out]; omega) (HGV.out.kept0 KV5.out).sln HIW.out a5 c5' (n + 1) (sm ++ [ou]) (by simp [HL.out]) (by omega) O5.out.sln HOK.out)
      rw [HSM.out] at C2
      refine C2.out.mono ?_
      rintro e v6 ⟨ar, cr, rfl, hor, hst6⟩
      obtain ⟨gr', rfl⟩ := hor.form (by omega)
      have HOR := Lib.hid hor
      have KV6 := Lib.hid (KV5.out.trans hst6.kept)
      have hcr := hor.cap
      clear hor hst6 C2 KV5 G5 O5 HSM HOK HL HINS x1
      have OLL := Lib.hid (HOL.out.kept0 KV6.out)
      have OGV := Lib.hid (HGV.out.kept0 KV6.out)
      have KR6 := Lib.hid (HKR.out.trans KV6.out)
      clear HOL HGV KV6 HKR
      go_wp2_with fail
      obtain ⟨wo, rfl⟩ : ∃ wo : World, wo = wr := ⟨_, rfl⟩
      go_loopw [24] (fun v wr => ∃ m : Nat, v = .int .i64 m ∧ m ≤ 64 ∧ Kept [] v6 wr) (fun v _ => 64 - (intOf v).toNat)
      case atStart => exact ⟨0, rfl, by omega, Kept.refl _ _⟩
      case round =>
        obtain ⟨m, rfl, hm, hkr⟩ := hrel
        have HKM := Lib.hid hkr
        have HRM := Lib.hid (HOR.out.kept0 hkr).sln
        have HGM := Lib.hid (OGV.out.kept0 hkr).sln
        clear hkr
        by_cases hm64 : m < 64
        · have law := LAW.out.law m hm64
          have L1 := Lib.hid (fun k => lane12 (some ⟨ga, 0, none⟩) c5 n m (inp.take n) (wr.drewN k) (by rw [List.length_take, HIL.out]; omega) n64 hm64 ((HGM.out.take n).drewN k) (words_take HIW.out n))
          have L2 := Lib.hid (fun k => lane12 (some ⟨ga, n, none⟩) (c5 - n) n m ((inp.drop n).take n) (wr.drewN k) (by rw [List.length_take, List.length_drop, HIL.out]; omega) n64 hm64 ((sln_mid HGM.out n).drewN k) (words_take (words_drop HIW.out n) n))
          have L3 := Lib.hid (fun k => lane12 (some ⟨gr', 0, none⟩) cr n m (R.take n) (wr.drewN k) (by rw [List.length_take, HRL.out]; omega) n64 hm64 ((HRM.out.take n).drewN k) (words_take LAW.out.words n))
          have u1 : (n : Int) ≤ (c5 : Int) := by omega
          have u2 : 2 * (n : Int) ≤ (c5 : Int) := by omega
          have u3 : IntKind.i64.wrap (2 * (n : Int)) = 2 * (n : Int) := IntWalk.i64_in _ (by omega)
          have u4 : (2 * (n : Int)).toNat = 2 * n := by omega
          have u5 : 2 * n - n = n := by omega
          have u6 : (n : Int) ≤ (cr : Int) := by omega
          have u7 : (n : Int) < (n : Int) + 1 := by omega
          have crn : ∀ k, (wr.drewN k).cell? ⟨gr', n, none⟩ = some (.int .u64 (R.getD n 0 : Nat)) := fun k => row_cell (HRM.out.drewN k) n (by rw [HRL.out]; omega)
          have b1 := bit_spell (R.getD n 0) m (words_getD LAW.out.words n)
          rw [HTOP.out] at law
          have b2 := bit_spell iw m hiw0
          have p1 := laneN_lt (inp.take n) m
          have p2 := laneN_lt ((inp.drop n).take n) m
          have p3 := laneN_lt (R.take n) m
          have p4 := toNat_le1 (iw.testBit m)
          have p5 := toNat_le1 ((R.getD n 0).testBit m)
          rw [show (inp.take n).length = n by rw [List.length_take, HIL.out]; omega] at p1
          rw [show ((inp.drop n).take n).length = n by rw [List.length_take, List.length_drop, HIL.out]; omega] at p2
          rw [show (R.take n).length = n by rw [List.length_take, HRL.out]; omega] at p3
          generalize laneN (inp.take n) m = P at *
          generalize laneN ((inp.drop n).take n) m = Q at *
          generalize laneN (R.take n) m = V at *
          generalize (iw.testBit m).toNat = C at *
          generalize ((R.getD n 0).testBit m).toNat = X at *
          generalize R.getD n 0 = rn at *
          have B1 := Lib.hid b1
          have CRN := Lib.hid crn
          have LW := Lib.hid law
          clear b1 crn law
          by_cases hn64 : n < 64
          · have hT : P + Q + C < 18446744073709551616 := by
              have : (2 : Nat) ^ n ≤ 2 ^ 63 := Nat.pow_le_pow_right (by omega) (by omega)
              omega
            obtain ⟨T, hT'⟩ : ∃ T, T = P + Q + C := ⟨_, rfl⟩
            have A := Lib.hid (fun w => add64_run P Q C p4 w)
            rw [← hT'] at A hT LW
            rw [Nat.mod_eq_of_lt hT, Nat.div_eq_of_lt hT] at A
            have LW2 := Lib.hid (sum_split p3 LW.out)
            have hadd := A.out
            have m1 := mask_spell hT hn64
            rw [← LW2.out.1] at m1
            have m2 := top_spell hT LW2.out.2 p5
            clear hT' p1 p2 p3 p4 p5 A
            go_wp2_with fail
            go_quiet (first
              | (go_at_call 35; with_reducible exact q_same (L1.out _))
              | (go_at_call 35; with_reducible exact q_same (L2.out _)))
            go_wp2_with fail
            go_quiet (fail)
            clear m1 m2 hadd b2
            go_wp2_with fail
            refine (L3.out _).mono ?_
            rintro e w' ⟨rfl, rfl⟩
            have crn := CRN.out
            have b1 := B1.out
            go_wp2_with fail
            go_roundw
            case rel => exact ⟨m + 1, by go_num, by omega, by repeat (first | with_reducible exact HKM.out | with_reducible apply Kept.drewN)⟩
            case measure => simp [intOf]; omega
          · have HN := Lib.hid (show n = 64 by omega)
            have A := Lib.hid (fun w => add64_run P Q C p4 w)
            have LW2 := Lib.hid (sum_split p3 LW.out)
            rw [HN.out, show (2 : Nat) ^ 64 = 18446744073709551616 from rfl] at LW2
            rw [← LW2.out.1, ← LW2.out.2] at A
            have hadd := A.out
            clear p1 p2 p3 p4 p5 A
            go_wp2_with fail
            go_quiet (first
              | (go_at_call 35; with_reducible exact q_same (L1.out _))
              | (go_at_call 35; with_reducible exact q_same (L2.out _)))
            clear hadd b2
            go_wp2_with fail
            refine (L3.out _).mono ?_
            rintro e w' ⟨rfl, rfl⟩
            have crn := CRN.out
            have b1 := B1.out
            go_wp2_with fail
            go_roundw
            case rel => exact ⟨m + 1, by go_num, by omega, by repeat (first | with_reducible exact HKM.out | with_reducible apply Kept.drewN)⟩
            case measure => simp [intOf]; omega
        · clear HGM HRM
          obtain ⟨wu, rfl⟩ : ∃ wu : World, wu = wr := ⟨_, rfl⟩
          go_wp2_with fail
          go_loopw [27] (fun v wr => ∃ i : Nat, v = .int .i64 i ∧ i ≤ ln ∧ Kept [] v6 wr) (fun v _ => ln - (intOf v).toNat)
          case atStart => exact ⟨0, rfl, by omega, HKM.out⟩
          case round =>
            obtain ⟨i, rfl, hi, hkr⟩ := hrel
            have HKI := Lib.hid hkr
            by_cases hil' : i < ln
            · have HLR := Lib.hid (show l = R from by
                rcases HLL.out.2 with h | h
                · exfalso; have := HLL.out.1; rw [h] at this; simp at this; omega
                · exact h)
              have OL := Lib.hid (OLL.out.kept0 hkr)
              rw [HLR.out] at OL
              have hlnn : ln = n + 1 := by have := HLL.out.1; rw [HLR.out, HRL.out] at this; exact this.symm
              obtain ⟨gl, hgl⟩ := OL.out.form (by omega)
              subst hgl
              have q1 := own_cells_i OL.out i (by rw [HRL.out]; omega)
              have q2 := own_cells_i (HOR.out.kept0 hkr) i (by rw [HRL.out]; omega)
              have i1 : (i : Int) < (n : Int) + 1 := by omega
              have i2 : (i : Int) < (ln : Int) := by omega
              clear hkr hlnn
              generalize R.getD i 0 = ri at *
              go_wp2_with fail
              go_quiet (fail)
              go_wp2_with fail
              go_roundw
              case rel => exact ⟨i + 1, by go_num, by omega, HKI.out.drewN _⟩
              case measure => simp [intOf]; omega
            · have OR := Lib.hid (HOR.out.kept0 hkr)
              clear hkr
              go_wp2_with fail
              go_roundw
              case rel => exact ⟨how + 1, n + 1, R, some ⟨gr', 0, none⟩, cr, by go_num, rfl, by omega, by omega, by omega, Lib.hid ⟨HRL.out, .inr rfl⟩, OR.out, KR6.out.trans HKI.out⟩
              case measure => simp [intOf]; omega
    · clear c0 c1
      go_wp2_with fail
      refine (add_tells _).mono ?_
      rintro e w' ⟨rfl, hk⟩
      have KZ := Lib.hid ((HK5.out.trans HKR.out).trans hk)
      clear hk
      go_wp2_with fail
      go_ret
      exact ⟨rfl, KZ.out.below⟩

set_option maxRecDepth 100000 in
theorem addsums_lifted (os : Os) (started : os.Started) (H : Type) (enc : TypeId × Value → H) :
    ReturnsInHanded {} Try.checked os 9 .any (Rows.adderSumsSpec.pre6 enc Try.prog Try.f9 Rows.adderSumsRow.domain false) (Rows.adderSumsSpec.post enc Try.prog Try.f9 false true false false) := by
  refine returnsInHanded_of_change_sized (C := Try.checked) own started (by kernel_rfl) Try.func9
    (ChangeSpec.witness6 (enc := enc) (C := Try.checked) false ⟨#[], #[.agg #[.bool false, .bool false], .int .u8 0, .slice none 0 0, .slice none 0 0, .int .u64 0], []⟩ 8 (by kernel_rfl) (by kernel_rfl) (by kernel_rfl) (by kernel_rfl)) ?_
  intro W base args ds gs before hval0 hW _ hsz0 _
  have hval : ∀ (j : Nat) t v, Try.f9.params[j]? = some t → args[j]? = some v → Value.okWide Try.prog W .any base t v := hval0
  have hend := fun W' (hb : Below W.heap.size W W') => law_post (s := Rows.adderSumsSpec) (fn := Try.f9) laidOut (by kernel_rfl) rfl ⟨4, rfl, Try.underlying4⟩ (fun l hl => by match l, hl with | [_, _, _, _, _], _ => rfl) hW hb
  obtain ⟨p, q, hA0, hV, rfl, hfz, hnd⟩ := hW
  have hA : DataW.TrodAll enc Try.prog W 0 (fun _ => true) true Try.f9.params.toList args.toList ds p := hA0
  have hsz : (DataW.weightsEach Try.prog (Try.f9.params.toList ++ Rows.adderSumsSpec.plain.varTypes Try.prog) (ds ++ gs)).all (· ≤ reachBytes) = true := hsz0
  rw [Try.params9] at hA hval hsz
  obtain ⟨v0, vs0, d0, ds0, p0, q0, hargs, rfl, rfl, h0, r0⟩ := trodAll_cons hA
  obtain ⟨v1, vs1, d1, ds1, p1, q1, rfl, rfl, rfl, h1, r1⟩ := trodAll_cons r0
  obtain ⟨v2, vs2, d2, ds2, p2, q2, rfl, rfl, rfl, h2, r2⟩ := trodAll_cons r1
  obtain ⟨v3, vs3, d3, ds3, p3, q3, rfl, rfl, rfl, h3, r3⟩ := trodAll_cons r2
  obtain ⟨v4, vs4, d4, ds4, p4, q4, rfl, rfl, rfl, h4, r4⟩ := trodAll_cons r3
  obtain ⟨rfl, rfl, rfl⟩ := trodAll_nil r4
  obtain rfl : args = #[v0, v1, v2, v3, v4] := by cases args; simp_all
  obtain ⟨rfl, rfl⟩ := trodVars_none hV
  obtain ⟨oa0, ob0, rfl⟩ := open_opts (hval 0 32 v0 rfl rfl) h0 (Sized.arg (j := 0) hsz rfl rfl)
  obtain ⟨a1, rfl, rfl, rfl, f1⟩ := open_int Try.underlying5 (hval 1 5 v1 rfl rfl) h1
  obtain ⟨a1, rfl, w1⟩ := wf_nat (m := 256) rfl rfl f1
  obtain ⟨a2, cap2, l2, rfl, hc2, hs2, hm2, hd2⟩ := open_nats (m := 18446744073709551616) Try.underlying48 Try.underlying45 (by kernel_rfl) rfl rfl (hval 2 48 v2 rfl rfl) h2
  have z2 := cap_reach (bytes := 8) (j := 2) hsz rfl rfl Try.underlying48 (by kernel_rfl) hd2
  obtain ⟨a3, cap3, l3, rfl, hc3, hs3, hm3, hd3⟩ := open_nats (m := 18446744073709551616) Try.underlying48 Try.underlying45 (by kernel_rfl) rfl rfl (hval 3 48 v3 rfl rfl) h3
  have z3 := cap_reach (bytes := 8) (j := 3) hsz rfl rfl Try.underlying48 (by kernel_rfl) hd3
  obtain ⟨a4, rfl, rfl, rfl, f4⟩ := open_int Try.underlying45 (hval 4 45 v4 rfl rfl) h4
  obtain ⟨a4, rfl, w4⟩ := wf_nat (m := 18446744073709551616) rfl rfl f4
  refine (addsums_walk oa0 ob0 a1 a2 cap2 l2 a3 cap3 l3 a4 W w1 hc2 z2 hs2 hm2 hc3 z3 hs3 hm3 w4).mono fun e W' ⟨he, hb⟩ => ?_
  subst he
  exact hend W' hb

theorem addsums_over : Rows.adderSumsRow.holds Try.pinned (OpenSpec.ofChange Rows.adderSumsSpec) :=
  OpenClaim.holds_of_wide 9 Try.f9 rfl rfl rfl rfl rfl rfl rfl ⟨rfl, rfl, rfl, rfl, rfl⟩ rfl rfl rfl rfl rfl (by kernel_rfl) Try.func9 (by kernel_rfl)
    (of_decide_eq_true (by kernel_rfl)) (by unfold Func.isWrapper; first | (rw [if_pos (by decide +kernel)]; kernel_rfl) | (rw [if_neg (by decide +kernel)]; exact ⟨rfl, rfl⟩))
    (fun os started H enc _ => addsums_lifted os started H enc)

theorem adderSums_holds : Rows.AdderSumsSaid := addsums_over
end Go.Proofs.Ytfngfoabknbgdaa
