/-
  CompareDeep: how deep rows compared are. For any options and width. No condition.
-/
import Derived.Test.YtfngfoabknbgdaaCmpRows
import Derived.Test.YtfngfoabknbgdaaOptsOpen
namespace Go.Proofs.Ytfngfoabknbgdaa
open Go.ChangeShapes Go.WideShapes Go.ChangeAt Go.RowKit
open Go.Maps (Keyed)
open Go.WideMaps
set_option linter.unusedVariables false

set_option maxHeartbeats 3200000 in
set_option maxRecDepth 100000 in
theorem cmpdeep_walk (o1 o2 : Bool) (k : Nat) (w : World) (hk : k < 256) :
    Calls Try.prog 4 #[.agg #[.bool o1, .bool o2], .int .u8 k] w fun e w' => e = .returned (.bool true) ∧ Below w.heap.size w w' := by
  obtain ⟨n, hn⟩ : ∃ n, n = 1 + k % 64 := ⟨_, rfl⟩
  have hnb : 1 ≤ n ∧ n ≤ 64 := by omega
  have hni : (1 : Int) + (k : Int) % 64 = (n : Int) := by omega
  have HNI := Lib.hid hni
  obtain ⟨n1, n64⟩ := hnb
  clear hn hni
  go_enter Try.func4, Try.ntmps4; (try simp only [List.append])
  go_wp2_with fail
  rw [HNI.out]
  clear HNI hk
  go_loop [6, 7] (fun i d => ∃ r e : Nat, i = .int .i64 r ∧ d = .int .i64 e ∧ e = 2 ^ r ∧ 1 ≤ e ∧ e < 128 ∧ r ≤ 7) (fun _ d => 128 - (intOf d).toNat)
  case atStart => exact ⟨0, 1, rfl, rfl, rfl, by omega, by omega, by omega⟩
  case round =>
    obtain ⟨r, e, rfl, rfl, he, e1, e2, r7⟩ := hrel
    have HE := Lib.hid he; clear he
    by_cases hlt : e < n
    · go_wp2_with fail
      go_round
      case rel =>
        refine ⟨r + 1, 2 * e, by go_num, by go_num, by rw [HE.out, Nat.pow_succ]; omega, by omega, by omega, ?_⟩
        have h1 := HE.out
        have h2 : r < 6 := by
          apply Classical.byContradiction; intro h
          have : 2 ^ 6 ≤ 2 ^ r := Nat.pow_le_pow_right (by omega) (by omega)
          omega
        omega
      case measure => simp [intOf]; omega
    · have HR := Lib.hid (show n ≤ 2 ^ r from by rw [← HE.out]; omega)
      clear HE
      go_wp2_with fail
      refine (fresh_c o1 o2 n _ n1 n64).mono ?_
      rintro e w1 ⟨p, F, a, ca, b, cb, rfl, hg, ho1, ho2, hst⟩
      have h1 := fresh_rows hg ho1 ho2
      have hst : Stepped w w1 [] F := ((Stepped.refl w []).alloc _).trans hst
      obtain ⟨d1, d2⟩ := fresh_deep o1 o2 n
      have hw := h1.graph.wf
      have hs0 := freshG_length o1 o2 (2 * n + 1)
      have lA := h1.lenA
      have lB := h1.lenB
      generalize freshG o1 o2 (2 * n + 1) = g at *
      generalize rowL 1 n = la at *
      generalize rowL (1 + n) n = lb at *
      -- equal
      have s1 := eqG_good hw h1.ka h1.kb (by omega) (by omega)
      have t1 := eqG_deep (r := r) hw (Ext.refl g) d1 d2 (by omega) (by omega) (by rw [lA]; exact HR.out)
      have C1 := Lib.hid (rows_equal h1 n1 n64 (by omega))
      generalize eqG g la lb = r1 at *
      obtain ⟨g1, x1⟩ := r1
      have z1 := s1.2.1.le
      simp only at s1 t1 z1
      have k1a : ∀ x ∈ la, g1.ok x := fun x hx => s1.2.1.ok (h1.ka x hx)
      have k1b : ∀ x ∈ lb, g1.ok x := fun x hx => s1.2.1.ok (h1.kb x hx)
      -- less
      have s2 := lessG_good (sg := false) s1.1 k1a k1b (by omega) (by omega)
      have t2 := lessG_deep (sg := false) (r := r) s1.1 s1.2.1 d1 d2 (by omega) (by omega) (by rw [lA]; exact HR.out)
      have C2 := Lib.hid (fun (W : World) (F' : List Nat) (h : RowsAt W p F' g1 n a ca la b cb lb) => rows_less h false n1 n64 (by omega))
      generalize lessG false g1 la lb = r2 at *
      obtain ⟨g2, x2⟩ := r2
      have z2 := s2.2.1.le
      simp only at s2 t2 z2
      have e2' := s1.2.1.trans s2.2.1
      have k2a : ∀ x ∈ la, g2.ok x := fun x hx => s2.2.1.ok (k1a x hx)
      have k2b : ∀ x ∈ lb, g2.ok x := fun x hx => s2.2.1.ok (k1b x hx)
      -- less, signed
      have s3 := lessG_good (sg := true) s2.1 k2a k2b (by omega) (by omega)
      have t3 := lessG_deep (sg := true) (r := r) s2.1 e2' d1 d2 (by omega) (by omega) (by rw [lA]; exact HR.out)
      have C3 := Lib.hid (fun (W : World) (F' : List Nat) (h : RowsAt W p F' g2 n a ca la b cb lb) => rows_less h true n1 n64 (by omega))
      generalize lessG true g2 la lb = r3 at *
      obtain ⟨g3, x3⟩ := r3
      have z3 := s3.2.1.le
      simp only at s3 t3 z3
      -- depths
      have o1' : g3.ok x1 := s3.2.1.ok (s2.2.1.ok s1.2.2)
      have o2' : g3.ok x2 := s3.2.1.ok s2.2.2
      have o3' : g3.ok x3 := s3.2.2
      have q1 : dp g3 x1 ≤ 2 + r := by rw [dp_ext s3.2.1 (s2.2.1.ok s1.2.2), dp_ext s2.2.1 s1.2.2]; exact t1
      have q2 : dp g3 x2 ≤ 2 + 2 * r := by rw [dp_ext s3.2.1 s2.2.2]; exact t2
      have q3 : dp g3 x3 ≤ 2 + 2 * r := t3
      have D1 := Lib.hid (fun (W : World) (F' : List Nat) (h : GraphAt W p F' g3) => depth_one h o1' (by omega))
      have D2 := Lib.hid (fun (W : World) (F' : List Nat) (h : GraphAt W p F' g3) => depth_one h o2' (by omega))
      have D3 := Lib.hid (fun (W : World) (F' : List Nat) (h : GraphAt W p F' g3) => depth_one h o3' (by omega))
      generalize dp g3 x1 = y1 at *
      generalize dp g3 x2 = y2 at *
      generalize dp g3 x3 = y3 at *
      have HST := Lib.hid hst
      clear hg ho1 ho2 hst d1 d2 hw lA lB s1 t1 s2 t2 s3 t3 e2' k1a k1b k2a k2b o1' o2' o3' z1 z2 z3 hs0 h1
      go_wp2_with fail
      refine C1.out.mono ?_
      rintro e w2 ⟨F2, rfl, h2, hst2⟩
      have HST2 := Lib.hid (HST.out.trans hst2)
      have H2 := Lib.hid h2
      clear hst2 h2 C1 HST
      go_wp2_with fail
      refine (C2.out _ _ H2.out).mono ?_
      rintro e w3 ⟨F3, rfl, h3, hst3⟩
      have HST3 := Lib.hid (HST2.out.trans hst3)
      have H3 := Lib.hid h3
      clear hst3 h3 C2 HST2 H2
      go_wp2_with fail
      refine (C3.out _ _ H3.out).mono ?_
      rintro e w4 ⟨F4, rfl, h4, hst4⟩
      have HST4 := Lib.hid (HST3.out.trans hst4)
      have H4 := Lib.hid h4.graph
      clear hst4 h4 C3 HST3 H3
      go_wp2_with fail
      refine (D1.out _ _ H4.out).mono ?_
      rintro e w5 ⟨rfl, k5⟩
      have HK5 := Lib.hid k5
      have H5 := Lib.hid (H4.out.kept0 k5)
      clear k5
      go_wp2_with fail
      refine (D2.out _ _ H5.out).mono ?_
      rintro e w6 ⟨rfl, k6⟩
      have HK6 := Lib.hid k6
      have H6 := Lib.hid (H5.out.kept0 k6)
      clear k6
      go_wp2_with fail
      refine (D3.out _ _ H6.out).mono ?_
      rintro e w7 ⟨rfl, k7⟩
      have HK7 := Lib.hid k7
      clear k7
      go_wp2_with fail
      refine (cmp_tells _).mono ?_
      rintro e w8 ⟨rfl, k8⟩
      have HK8 := Lib.hid k8
      clear k8
      go_wp2_with fail
      go_ret
      exact ⟨rfl, ((((HST4.out.keep HK5.out).keep HK6.out).keep HK7.out).keep HK8.out).kept.below⟩

set_option maxRecDepth 100000 in
theorem cmpdeep_lifted (os : Os) (started : os.Started) (H : Type) (enc : TypeId × Value → H) :
    ReturnsInHanded {} Try.checked os 4 .any (Rows.compareDeepSpec.pre6 enc Try.prog Try.f4 Rows.compareDeepRow.domain false) (Rows.compareDeepSpec.post enc Try.prog Try.f4 false true false false) := by
  refine returnsInHanded_of_change_sized (C := Try.checked) own started (by kernel_rfl) Try.func4
    (ChangeSpec.witness6 (enc := enc) (C := Try.checked) false ⟨#[], #[.agg #[.bool false, .bool false], .int .u8 0], []⟩ 8 (by kernel_rfl) (by kernel_rfl) (by kernel_rfl) (by kernel_rfl)) ?_
  intro W base args ds gs before hval0 hW _ hsz0 _
  have hval : ∀ (j : Nat) t v, Try.f4.params[j]? = some t → args[j]? = some v → Value.okWide Try.prog W .any base t v := hval0
  have hend := fun W' (hb : Below W.heap.size W W') => law_post (s := Rows.compareDeepSpec) (fn := Try.f4) laidOut (by kernel_rfl) rfl ⟨4, rfl, Try.underlying4⟩ (fun l hl => by match l, hl with | [_, _], _ => rfl) hW hb
  obtain ⟨p, q, hA0, hV, rfl, hfz, hnd⟩ := hW
  have hA : DataW.TrodAll enc Try.prog W 0 (fun _ => true) true Try.f4.params.toList args.toList ds p := hA0
  have hsz : (DataW.weightsEach Try.prog (Try.f4.params.toList ++ Rows.compareDeepSpec.plain.varTypes Try.prog) (ds ++ gs)).all (· ≤ reachBytes) = true := hsz0
  rw [Try.params4] at hA hval hsz
  obtain ⟨v0, vs0, d0, ds0, p0, q0, hargs, rfl, rfl, h0, r0⟩ := trodAll_cons hA
  obtain ⟨v1, vs1, d1, ds1, p1, q1, rfl, rfl, rfl, h1, r1⟩ := trodAll_cons r0
  obtain ⟨rfl, rfl, rfl⟩ := trodAll_nil r1
  obtain rfl : args = #[v0, v1] := by cases args; simp_all
  obtain ⟨rfl, rfl⟩ := trodVars_none hV
  obtain ⟨oa0, ob0, rfl⟩ := open_opts (hval 0 32 v0 rfl rfl) h0 (Sized.arg (j := 0) hsz rfl rfl)
  obtain ⟨a1, rfl, rfl, rfl, f1⟩ := open_int Try.underlying5 (hval 1 5 v1 rfl rfl) h1
  obtain ⟨a1, rfl, w1⟩ := wf_nat (m := 256) rfl rfl f1
  refine (cmpdeep_walk oa0 ob0 a1 W w1).mono fun e W' ⟨he, hb⟩ => ?_
  subst he
  exact hend W' hb

theorem cmpdeep_over : Rows.compareDeepRow.holds Try.pinned (OpenSpec.ofChange Rows.compareDeepSpec) :=
  OpenClaim.holds_of_wide 4 Try.f4 rfl rfl rfl rfl rfl rfl rfl ⟨rfl, rfl, rfl, rfl, rfl⟩ rfl rfl rfl rfl rfl (by kernel_rfl) Try.func4 (by kernel_rfl)
    (of_decide_eq_true (by kernel_rfl)) (by unfold Func.isWrapper; first | (rw [if_pos (by decide +kernel)]; kernel_rfl) | (rw [if_neg (by decide +kernel)]; exact ⟨rfl, rfl⟩))
    (fun os started H enc _ => cmpdeep_lifted os started H enc)

theorem compareDeep_holds : Rows.CompareDeepSaid := cmpdeep_over
end Go.Proofs.Ytfngfoabknbgdaa
