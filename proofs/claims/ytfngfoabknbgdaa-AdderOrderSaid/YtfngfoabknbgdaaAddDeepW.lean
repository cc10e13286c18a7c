/-
  AdderDeep: how deep, and how many. For any options and width. No condition.
-/
import Derived.Test.YtfngfoabknbgdaaAddDeepM
import Derived.Test.YtfngfoabknbgdaaOptsOpen
namespace Go.Proofs.Ytfngfoabknbgdaa
open Go.ChangeShapes Go.WideShapes Go.ChangeAt Go.RowKit
open Go.Maps (Keyed)
open Go.WideMaps
set_option linter.unusedVariables false

theorem own_news {w : World} {e : TypeId} {g n cap : Nat} {xs : List Value} (h : Own w e (some ⟨g, 0, none⟩) n cap xs) : ∀ j u, xs[j]? = some u → w.cell? ((⟨g, 0, none⟩ : Addr).add j) = some u := fun j u hu => by
  obtain ⟨hj, rfl⟩ := List.getElem?_eq_some_iff.1 hu
  obtain ⟨ad', h1, h2⟩ := h.cell hj
  injection h1 with h1
  subst h1
  exact h2
set_option maxHeartbeats 3200000 in
set_option maxRecDepth 100000 in
theorem adddeep_walk (o1 o2 : Bool) (k : Nat) (w : World) (hk : k < 256) :
    Calls Try.prog 7 #[.agg #[.bool o1, .bool o2], .int .u8 k] w fun e w' => e = .returned (.bool true) ∧ Below w.heap.size w w' := by
  obtain ⟨n, hn⟩ : ∃ n, n = 1 + k % 64 := ⟨_, rfl⟩
  have hnb : 1 ≤ n ∧ n ≤ 64 := by omega
  have hni : (1 : Int) + (k : Int) % 64 = (n : Int) := by omega
  have HNI := Lib.hid hni
  obtain ⟨n1, n64⟩ := hnb
  clear hn hni
  have HB := Lib.hid (show (w.alloc (.cells #[.bool o1, .bool o2] 32)).heap[w.heap.size]? = some (.cells #[.bool o1, .bool o2] 32 (0, 0)) from heap_alloc_new w _)
  go_enter Try.func7, Try.ntmps7; (try simp only [List.append])
  go_wp2_with fail
  rw [HNI.out]
  clear HNI hk
  go_loop [6, 7, 8] (fun i v d => ∃ r e z : Nat, i = .int .i64 r ∧ v = .int .i64 z ∧ d = .int .i64 e ∧ Hid (e = 2 ^ r ∧ z = wideTo n r ∧ ∀ q, q < r → 2 ^ q < n) ∧ 1 ≤ e ∧ e < 128 ∧ r ≤ 7 ∧ z ≤ 64 * r) (fun _ _ d => 128 - (intOf d).toNat)
  case atStart => exact ⟨0, 1, 0, rfl, rfl, rfl, Lib.hid ⟨rfl, rfl, fun q hq => absurd hq (by omega)⟩, by omega, by omega, by omega, by omega⟩
  case round =>
    obtain ⟨r, e, z, rfl, rfl, rfl, HE, e1, e2, r7, z1⟩ := hrel
    by_cases hlt : e < n
    · have HR := Lib.hid (show r < 6 from by
        apply Classical.byContradiction; intro h
        have : 2 ^ 6 ≤ 2 ^ r := Nat.pow_le_pow_right (by omega) (by omega)
        have := HE.out.1
        omega)
      go_wp2_with fail
      go_round
      case rel =>
        have h6 := HR.out
        refine ⟨r + 1, 2 * e, z + (n - e), by go_num, by first | go_num | (congr 1; omega), by go_num, Lib.hid ⟨by rw [HE.out.1, Nat.pow_succ]; omega, by rw [HE.out.2.1, HE.out.1]; rfl, fun q hq => ?_⟩, by omega, by omega, by omega, by omega⟩
        rcases Nat.lt_succ_iff_lt_or_eq.1 hq with h | h
        · exact HE.out.2.2 q h
        · rw [h, ← HE.out.1]; exact hlt
      case measure => simp [intOf]; omega
    · have HR := Lib.hid (rnds_is n64 (show n ≤ 2 ^ r from by rw [← HE.out.1]; omega) HE.out.2.2)
      have HZ := Lib.hid HE.out.2.1
      have r6 := rnds_le n
      rw [HR.out] at r6
      clear HE
      go_wp2_with fail
      go_loopw [9] (fun v wr => ∃ how : Nat, v = .int .i64 how ∧ 1 ≤ how ∧ how ≤ 3 ∧ Kept [] (w.alloc (.cells #[.bool o1, .bool o2] 32)) wr) (fun v _ => 3 - (intOf v).toNat)
      case atStart => exact ⟨1, rfl, by omega, by omega, Kept.refl _ _⟩
      case round =>
        obtain ⟨how, rfl, hw1, hw3, hkr⟩ := hrel
        have HK := Lib.hid hkr
        have c0 : wr.cell? ⟨w.heap.size, 0, none⟩ = some (.bool o1) := blk_cell (hkr.heap HB.out (by simp)) 0
        have c1 : wr.cell? ⟨w.heap.size, 1, none⟩ = some (.bool o2) := blk_cell (hkr.heap HB.out (by simp)) 1
        clear hkr
        by_cases hw2 : how ≤ 2
        · obtain ⟨deep, gt, hd⟩ := deepK o1 o2 how (by omega) n1 n64
          go_wp2_with fail
          refine (fresh_c o1 o2 n _ n1 n64).mono ?_
          rintro e w1 ⟨p, F, a, ca, b, cb, he, hg, ho1, ho2, hst⟩
          obtain ⟨c, hc⟩ : ∃ c : Nat, c = 2 * (1 + 2 * n) := ⟨_, rfl⟩
          rw [← hc] at he hd
          subst he
          have H1 := Lib.hid (fresh_rows hg ho1 ho2)
          have S1 := Lib.hid hst
          have C1 := Lib.hid (rows_add (how := how) (c := c) H1.out (by omega) n1 n64 (by rw [freshG_length]; omega) (freshG_ok _ _ (by omega)))
          clear hg ho1 ho2 hst
          obtain ⟨⟨gr, sm, ou⟩, hr⟩ : ∃ r, r = addG how (freshG o1 o2 (2 * n + 1)) (rowL 1 n) (rowL (1 + n) n) c n := ⟨_, rfl⟩
          rw [← hr] at hd C1
          have HD := Lib.hid hd
          clear hr
          have x1 := hd.ok.ext.le
          rw [freshG_length] at x1
          have lsm : sm.length = n := hd.ok.len
          have HL := Lib.hid lsm
          have HDE := Lib.hid hd.dEq
          have HGE := Lib.hid hd.gEq
          have HOK := Lib.hid (show ∀ x ∈ sm ++ [ou], gr.ok x from fun x hx => by
            rcases List.mem_append.1 hx with h | h
            · exact hd.ok.os x h
            · rw [List.mem_singleton] at h; subst h; exact hd.ok.oc)
          have hmost := hd.most
          have hfew := hd.few
          have HJ := Lib.hid hd.just
          dsimp only at x1 HDE HGE
          clear hd HD lsm hc
          go_wp2_with fail
          refine C1.out.mono ?_
          rintro e w2 ⟨F2, s, cs, rfl, h2, hos, hst2⟩
          obtain ⟨gs, rfl⟩ := hos.form (by omega)
          have HN := Lib.hid (own_news hos)
          have S2 := Lib.hid (S1.out.trans hst2)
          have G2 := Lib.hid h2.graph
          clear h2 hos hst2 C1 S1 H1
          go_wp2_with (first
            | (at_builtin; refine wpList_cat (news := nats .u32 sm) rfl rfl Try.underlying34 lit_info rfl (by omega) rfl rfl (Own.nil w2 24) (by rw [nats_length, HL.out, Nat.mul_one]) HN.out (nats_one _ _) (by unfold maxLen; omega) (by omega) ?_; intro a4 c4 w4 hown4 hst4; simp only [Nat.zero_add, List.nil_append] at hown4 ⊢)
            | (at_builtin; refine wpList_push rfl rfl Try.underlying34 lit_info rfl rfl rfl hown4 rfl (by unfold maxLen; omega) (by omega) ?_; intro a5 c5 w5 hown5 hst5))
          have K5 := Lib.hid ((hst4.trans hst5).kept)
          have O5 := Lib.hid (show Own w5 24 a5 (n + 1) c5 (nats .u32 (sm ++ [ou])) from by rw [← nats_append]; exact hown5)
          have G5 := Lib.hid (G2.out.kept0 K5.out)
          clear hown4 hst4 hown5 hst5 HN G2
          have C2 := Lib.hid (cone_depth G5.out (by omega) a5 c5 (n + 1) (sm ++ [ou]) (by simp [HL.out]) (by omega) O5.out.sln HOK.out)
          rw [HDE.out] at C2
          refine C2.out.mono ?_
          rintro e w6 ⟨rfl, hk6⟩
          have KZ := Lib.hid (((HK.out.trans S2.out.kept).trans K5.out).trans hk6)
          have d0 : w6.cell? ⟨w.heap.size, 0, none⟩ = some (.bool o1) := blk_cell (KZ.out.heap HB.out (by simp)) 0
          have d1 : w6.cell? ⟨w.heap.size, 1, none⟩ = some (.bool o2) := blk_cell (KZ.out.heap HB.out (by simp)) 1
          have GA := Lib.hid (fun m => aig_gates (G5.out.kept0 (hk6.drewN m)) (by omega))
          rw [HGE.out] at GA
          clear hk6 C2 G5 O5 K5 S2 HOK HDE HGE HL c0 c1 HK
          by_cases h2 : how = 2
          · have t2 : ((how : Int) == 2) = true := by simp; omega
            have t3 : how = 2 := h2
            rw [show mostOf how n = 5 + 2 * r from by rw [h2]; simp [mostOf, HR.out]] at hmost
            rw [show gatesOf how n = 9 * n + 3 * z from by rw [h2, HZ.out]; simp [gatesOf, HR.out]] at hfew HJ
            have q1 : decide (5 + 2 * (r : Int) < (deep : Int)) = false := by simp; omega
            have q2 : decide (9 * (n : Int) + 3 * (z : Int) < (gt : Int)) = false := by simp; omega
            clear t3 h2
            cases o1 <;> cases o2
            all_goals
              (try have q3 : ((gt : Int) == 9 * (n : Int) + 3 * (z : Int)) = true := by have := HJ.out rfl rfl; simp; omega)
              clear HJ
              go_wp2_with fail
              refine (GA.out 0).mono ?_
              rintro e wg ⟨rfl, kg, rfl⟩
              go_wp2_with fail
              (try (refine (GA.out kg).mono ?_; rintro e wh ⟨rfl, kh, rfl⟩; go_wp2_with fail))
              go_roundw
              case rel => exact ⟨how + 1, by go_num, by omega, by omega, by repeat (first | with_reducible exact KZ.out | with_reducible apply Kept.drewN)⟩
              case measure => simp [intOf]; omega
          · have h1 : how = 1 := by omega
            have t2 : ((how : Int) == 2) = false := by simp; omega
            rw [show mostOf how n = 2 * n + 2 from by rw [h1]; simp [mostOf]] at hmost
            rw [show gatesOf how n = 9 * n from by rw [h1]; simp [gatesOf]] at hfew HJ
            have q1 : decide (2 * (n : Int) + 2 < (deep : Int)) = false := by simp; omega
            have q2 : decide (9 * (n : Int) < (gt : Int)) = false := by simp; omega
            clear h1 h2
            cases o1 <;> cases o2
            all_goals
              (try have q3 : ((gt : Int) == 9 * (n : Int)) = true := by have := HJ.out rfl rfl; simp; omega)
              clear HJ
              go_wp2_with fail
              refine (GA.out 0).mono ?_
              rintro e wg ⟨rfl, kg, rfl⟩
              go_wp2_with fail
              (try (refine (GA.out kg).mono ?_; rintro e wh ⟨rfl, kh, rfl⟩; go_wp2_with fail))
              go_roundw
              case rel => exact ⟨how + 1, by go_num, by omega, by omega, by repeat (first | with_reducible exact KZ.out | with_reducible apply Kept.drewN)⟩
              case measure => simp [intOf]; omega
        · clear c0 c1
          go_wp2_with fail
          refine (add_tells _).mono ?_
          rintro e w' ⟨rfl, hk⟩
          have KZ := Lib.hid (((((Kept.refl [] w).alloc _).trans HK.out).trans hk))
          clear hk HK
          go_wp2_with fail
          go_ret
          exact ⟨rfl, KZ.out.below⟩

set_option maxRecDepth 100000 in
theorem adddeep_lifted (os : Os) (started : os.Started) (H : Type) (enc : TypeId × Value → H) :
    ReturnsInHanded {} Try.checked os 7 .any (Rows.adderDeepSpec.pre6 enc Try.prog Try.f7 Rows.adderDeepRow.domain false) (Rows.adderDeepSpec.post enc Try.prog Try.f7 false true false false) := by
  refine returnsInHanded_of_change_sized (C := Try.checked) own started (by kernel_rfl) Try.func7
    (ChangeSpec.witness6 (enc := enc) (C := Try.checked) false ⟨#[], #[.agg #[.bool false, .bool false], .int .u8 0], []⟩ 8 (by kernel_rfl) (by kernel_rfl) (by kernel_rfl) (by kernel_rfl)) ?_
  intro W base args ds gs before hval0 hW _ hsz0 _
  have hval : ∀ (j : Nat) t v, Try.f7.params[j]? = some t → args[j]? = some v → Value.okWide Try.prog W .any base t v := hval0
  have hend := fun W' (hb : Below W.heap.size W W') => law_post (s := Rows.adderDeepSpec) (fn := Try.f7) laidOut (by kernel_rfl) rfl ⟨4, rfl, Try.underlying4⟩ (fun l hl => by match l, hl with | [_, _], _ => rfl) hW hb
  obtain ⟨p, q, hA0, hV, rfl, hfz, hnd⟩ := hW
  have hA : DataW.TrodAll enc Try.prog W 0 (fun _ => true) true Try.f7.params.toList args.toList ds p := hA0
  have hsz : (DataW.weightsEach Try.prog (Try.f7.params.toList ++ Rows.adderDeepSpec.plain.varTypes Try.prog) (ds ++ gs)).all (· ≤ reachBytes) = true := hsz0
  rw [Try.params7] at hA hval hsz
  obtain ⟨v0, vs0, d0, ds0, p0, q0, hargs, rfl, rfl, h0, r0⟩ := trodAll_cons hA
  obtain ⟨v1, vs1, d1, ds1, p1, q1, rfl, rfl, rfl, h1, r1⟩ := trodAll_cons r0
  obtain ⟨rfl, rfl, rfl⟩ := trodAll_nil r1
  obtain rfl : args = #[v0, v1] := by cases args; simp_all
  obtain ⟨rfl, rfl⟩ := trodVars_none hV
  obtain ⟨oa0, ob0, rfl⟩ := open_opts (hval 0 32 v0 rfl rfl) h0 (Sized.arg (j := 0) hsz rfl rfl)
  obtain ⟨a1, rfl, rfl, rfl, f1⟩ := open_int Try.underlying5 (hval 1 5 v1 rfl rfl) h1
  obtain ⟨a1, rfl, w1⟩ := wf_nat (m := 256) rfl rfl f1
  refine (adddeep_walk oa0 ob0 a1 W w1).mono fun e W' ⟨he, hb⟩ => ?_
  subst he
  exact hend W' hb

theorem adddeep_over : Rows.adderDeepRow.holds Try.pinned (OpenSpec.ofChange Rows.adderDeepSpec) :=
  OpenClaim.holds_of_wide 7 Try.f7 rfl rfl rfl rfl rfl rfl rfl ⟨rfl, rfl, rfl, rfl, rfl⟩ rfl rfl rfl rfl rfl (by kernel_rfl) Try.func7 (by kernel_rfl)
    (of_decide_eq_true (by kernel_rfl)) (by unfold Func.isWrapper; first | (rw [if_pos (by decide +kernel)]; kernel_rfl) | (rw [if_neg (by decide +kernel)]; exact ⟨rfl, rfl⟩))
    (fun os started H enc _ => adddeep_lifted os started H enc)

theorem adderDeep_holds : Rows.AdderDeepSaid := adddeep_over
end Go.Proofs.Ytfngfoabknbgdaa
