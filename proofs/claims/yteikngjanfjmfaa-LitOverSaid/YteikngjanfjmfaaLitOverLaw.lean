/-
  LitOver: the law's statement. A row that is brought over has the words of its literals' literals, for every row (its first 60), every two rows of 8 literals and every valuation of 8 words. No condition.
-/
import Derived.Test.YteikngjanfjmfaaLitOver
namespace Go.Proofs.Yteikngjanfjmfaa
open Go.ChangeShapes Go.WideShapes Go.ChangeAt Go.RowKit

/-- An array of unsigned numbers that came in by value. -/
theorem open_natarr {H : Type} {enc : TypeId × Value → H} {P : Program} {W : World} {base : Nat} {t e : TypeId} {K : IntKind} {m n : Nat} {v : Value} {d : DataW H} {ps : List MemPlace} (ht : P.underlying t = some (.array n e)) (he : P.underlying e = some (.int K)) (hc : P.cellsOf e = 1) (hct : P.cellsOf t = n)
    (hK : K.signed = false) (hm : (2 : Int) ^ K.bits = m) (hv : Value.okWide P W .any base t v) (h : DataW.Trod enc P W 0 (fun _ => true) true t v d ps) :
    ∃ l : List Nat, v = .agg (nats K l).toArray ∧ l.length = n ∧ ∀ x ∈ l, x < m := by
  obtain ⟨cs, rfl, hsz, _⟩ : ∃ cs, v = .agg cs ∧ cs.size = P.cellsOf t ∧ Row.okWide P W .any base t cs := by simpa [Value.okWide, ht] using hv
  rw [hct] at hsz
  obtain ⟨fuel, hf⟩ := h
  obtain ⟨xs, mm, _, _, _, hxl, hx⟩ := DataW.trod_array ht hf
  rw [hc] at hx
  have key : ∀ i (hi : i < cs.size), ∃ k : Nat, cs[i] = .int K (k : Int) ∧ k < m := by
    intro i hi
    have h1 := hx i (by omega)
    rw [List.getElem?_eq_getElem (by omega)] at h1
    obtain ⟨a, e0, _, wa⟩ := DataW.trod_int he h1
    have e1 : ((Value.agg cs).cells.toList.drop (i * 1)).take 1 = [cs[i]] := by
      simp only [Value.cells, Nat.mul_one]
      rw [List.drop_eq_getElem_cons (by simpa using hi)]
      simp
    rw [e1] at e0
    simp at e0
    obtain ⟨k, rfl, hk⟩ := wf_nat hK hm wa
    exact ⟨k, e0, hk⟩
  have key2 : ∀ i, i < cs.size → ∃ k : Nat, cs[i]? = some (.int K (k : Int)) ∧ k < m := fun i hi => by
    obtain ⟨k, h1, h2⟩ := key i hi
    exact ⟨k, by rw [Array.getElem?_eq_getElem hi, h1], h2⟩
  have build : ∀ q, q ≤ cs.size → ∃ l : List Nat, l.length = q ∧ (∀ x ∈ l, x < m) ∧ cs.toList.take q = nats K l := by
    intro q
    induction q with
    | zero => intro _; exact ⟨[], rfl, by simp, by simp [nats]⟩
    | succ q ih =>
      intro hq
      obtain ⟨l, h1, h2, h3⟩ := ih (by omega)
      obtain ⟨k, h4, h5⟩ := key q (by omega)
      refine ⟨l ++ [k], by simp [h1], fun x hx => ?_, ?_⟩
      · rcases List.mem_append.1 hx with hx | hx
        · exact h2 x hx
        · simp at hx; omega
      · rw [take_snoc _ q (by simp; omega), h3, ← nats_append]
        congr 2
  obtain ⟨l, h1, h2, h3⟩ := build cs.size (Nat.le_refl _)
  refine ⟨l, ?_, by rw [h1, hsz], h2⟩
  rw [List.take_of_length_le (by simp)] at h3
  rw [← h3]
theorem over_walk (a : Option Addr) (c : Nat) (row l1 l2 ws : List Nat) (w : World) (hc : row.length ≤ c) (hz : c * 4 ≤ 140737488351232) (hs : SlN w .u32 a row) (hr : Lits row)
    (n1 : l1.length = 8) (r1 : Lits l1) (n2 : l2.length = 8) (r2 : Lits l2) (n3 : ws.length = 8) (r3 : Words ws) :
    Calls Try.prog 6 #[.slice a row.length c, .agg (nats .u32 l1).toArray, .agg (nats .u32 l2).toArray, .agg (nats .u64 ws).toArray] w fun e w' => e = .returned (.bool true) ∧ Below w.heap.size w w' :=
  over_walk1 a c row l1 l2 ws w (by omega) hc hz hs hr n1 r1 n2 r2 n3 r3

set_option maxRecDepth 100000 in
theorem over_lifted (os : Os) (started : os.Started) (H : Type) (enc : TypeId × Value → H) :
    ReturnsInHanded {} Try.checked os 6 .any (Rows.litOverSpec.pre6 enc Try.prog Try.f6 Rows.litOverRow.domain false) (Rows.litOverSpec.post enc Try.prog Try.f6 false true false false) := by
  refine returnsInHanded_of_change_sized (C := Try.checked) own started (by kernel_rfl) Try.func6
    (ChangeSpec.witness6 (enc := enc) (C := Try.checked) false ⟨#[], #[.slice none 0 0, .agg #[.int .u32 0, .int .u32 0, .int .u32 0, .int .u32 0, .int .u32 0, .int .u32 0, .int .u32 0, .int .u32 0], .agg #[.int .u32 0, .int .u32 0, .int .u32 0, .int .u32 0, .int .u32 0, .int .u32 0, .int .u32 0, .int .u32 0], .agg #[.int .u64 0, .int .u64 0, .int .u64 0, .int .u64 0, .int .u64 0, .int .u64 0, .int .u64 0, .int .u64 0]], []⟩ 8 (by kernel_rfl) (by kernel_rfl) (by kernel_rfl) (by kernel_rfl)) ?_
  intro W base args ds gs before hval0 hW _ hsz0 _
  have hval : ∀ (j : Nat) t v, Try.f6.params[j]? = some t → args[j]? = some v → Value.okWide Try.prog W .any base t v := hval0
  have hend := fun W' (hb : Below W.heap.size W W') => law_post (s := Rows.litOverSpec) (fn := Try.f6) laidOut (by kernel_rfl) rfl ⟨4, rfl, Try.underlying4⟩ (fun l hl => by match l, hl with | [_, _, _, _], _ => rfl) hW hb
  obtain ⟨p, q, hA0, hV, rfl, hfz, hnd⟩ := hW
  have hA : DataW.TrodAll enc Try.prog W 0 (fun _ => true) true Try.f6.params.toList args.toList ds p := hA0
  have hsz : (DataW.weightsEach Try.prog (Try.f6.params.toList ++ Rows.litOverSpec.plain.varTypes Try.prog) (ds ++ gs)).all (· ≤ reachBytes) = true := hsz0
  rw [Try.params6] at hA hval hsz
  obtain ⟨v0, vs0, d0, ds0, p0, q0, hargs, rfl, rfl, h0, r0⟩ := trodAll_cons hA
  obtain ⟨v1, vs1, d1, ds1, p1, q1, rfl, rfl, rfl, h1, r1⟩ := trodAll_cons r0
  obtain ⟨v2, vs2, d2, ds2, p2, q2, rfl, rfl, rfl, h2, r2⟩ := trodAll_cons r1
  obtain ⟨v3, vs3, d3, ds3, p3, q3, rfl, rfl, rfl, h3, r3⟩ := trodAll_cons r2
  obtain ⟨rfl, rfl, rfl⟩ := trodAll_nil r3
  obtain rfl : args = #[v0, v1, v2, v3] := by cases args; simp_all
  obtain ⟨rfl, rfl⟩ := trodVars_none hV
  obtain ⟨a0, cap0, l0, rfl, hc0, hs0, hm0, hd0⟩ := open_nats (m := 4294967296) Try.underlying52 Try.underlying22 (by kernel_rfl) rfl rfl (hval 0 52 v0 rfl rfl) h0
  have z0 := cap_reach (bytes := 4) (j := 0) hsz rfl rfl Try.underlying52 (by kernel_rfl) hd0
  obtain ⟨l1, rfl, n1, m1⟩ := open_natarr (m := 4294967296) Try.underlying53 Try.underlying22 (by kernel_rfl) (by kernel_rfl) rfl rfl (hval 1 53 v1 rfl rfl) h1
  obtain ⟨l2, rfl, n2, m2⟩ := open_natarr (m := 4294967296) Try.underlying53 Try.underlying22 (by kernel_rfl) (by kernel_rfl) rfl rfl (hval 2 53 v2 rfl rfl) h2
  obtain ⟨l3, rfl, n3, m3⟩ := open_natarr (m := 18446744073709551616) Try.underlying54 Try.underlying41 (by kernel_rfl) (by kernel_rfl) rfl rfl (hval 3 54 v3 rfl rfl) h3
  refine (over_walk a0 cap0 l0 l1 l2 l3 W hc0 z0 hs0 hm0 n1 m1 n2 m2 n3 m3).mono fun e W' ⟨he, hb⟩ => ?_
  subst he
  exact hend W' hb

theorem over_over : Rows.litOverRow.holds Try.pinned (OpenSpec.ofChange Rows.litOverSpec) :=
  OpenClaim.holds_of_wide 6 Try.f6 rfl rfl rfl rfl rfl rfl rfl ⟨rfl, rfl, rfl, rfl, rfl⟩ rfl rfl rfl rfl rfl (by kernel_rfl) Try.func6 (by kernel_rfl)
    (of_decide_eq_true (by kernel_rfl)) (by unfold Func.isWrapper; first | (rw [if_pos (by decide +kernel)]; kernel_rfl) | (rw [if_neg (by decide +kernel)]; exact ⟨rfl, rfl⟩))
    (fun os started H enc _ => over_lifted os started H enc)

theorem litOver_holds : Rows.LitOverSaid := over_over
end Go.Proofs.Yteikngjanfjmfaa
