/-
  Law 03's arguments, opened: options, rows of calls, questions.
-/
import Derived.Test.YteikngjanfjmfaaOpen
import Derived.Test.YteikngjanfjmfaaAigLaw
namespace Go.Proofs.Yteikngjanfjmfaa
open Go.ChangeShapes Go.WideShapes Go.ChangeAt Go.RowKit Go.Deep Go.Joins
set_option linter.unusedVariables false

section
variable {H : Type} {enc : TypeId × Value → H} {W : World} {base : Nat} {v : Value} {d : DataW H} {ps : List MemPlace}
set_option maxRecDepth 100000 in
theorem open_opts (hv : Value.okWide Try.prog W .any base 65 v) (h : DataW.Trod enc Try.prog W 0 (fun _ => true) true 65 v d ps) (hz : Sized Try.prog 65 d) : ∃ a b : Bool, v = .agg #[.bool a, .bool b] :=
  open_bools2 Try.underlying65 (by kernel_rfl) (by kernel_rfl) Try.underlying4 Try.underlying4 hv h
set_option maxRecDepth 100000 in
theorem open_acts (hv : Value.okWide Try.prog W .any base 58 v) (h : DataW.Trod enc Try.prog W 0 (fun _ => true) true 58 v d ps) (hz : Sized Try.prog 58 d) :
    ∃ (a : Option Addr) (acts : List (Int × List Nat)) (c : Nat), v = .slice a acts.length c ∧ acts.length ≤ 140737488351232 ∧ SlActs W a acts := by
  obtain ⟨a0, len0, cap0, rfl⟩ := okWide_slice Try.underlying58 hv
  obtain ⟨fuel, hf⟩ := h
  obtain ⟨a, len, cap, hvv, hlc, hcb, hnil, hat⟩ := open_recs (v := .slice a0 len0 cap0) Try.underlying58 Try.underlying60 (by kernel_rfl) (by kernel_rfl) hf hz
  injection hvv with h1 h2 h3
  subst h1 h2 h3
  have hb : Try.prog.bytesOf 60 = 32 := by kernel_rfl
  rw [hb] at hcb
  obtain ⟨acts, hl, hacts⟩ := choose_list (n := len0) (p := fun k (x : Int × List Nat) => ∃ b o al cl, a0 = some ⟨b, o, none⟩ ∧ W.cell? ⟨b, o + k * 2, none⟩ = some (.int .i64 x.1) ∧ W.cell? ⟨b, o + k * 2 + 1, none⟩ = some (.slice al x.2.length cl) ∧
      x.2.length ≤ cl ∧ cl ≤ 140737488351232 ∧ (al = none → x.2.length = 0 ∧ cl = 0) ∧ SlN W .u32 al x.2) fun i hi => by
    have h00 := hat 0 (by omega)
    obtain ⟨ad, m, rfl, hfields⟩ := hat i hi
    obtain ⟨u0, z0, hc0, ht0, _⟩ := hfields 0 _ rfl
    obtain ⟨u1, z1, hc1, ht1, hz1⟩ := hfields 1 _ rfl
    obtain ⟨x, e0, _, _⟩ := DataW.trod_int Try.underlying3 ht0
    simp at e0
    subst e0
    obtain ⟨al, cl, l, rfl, hlcl, hsl, _, hnl, hclb⟩ := open_natsT (m := 4294967296) (bytes := 4) Try.underlying52 Try.underlying22 (by kernel_rfl) (by kernel_rfl) rfl rfl ht1 hz1
    obtain ⟨ad2, m2, e2, hf2⟩ := h00
    injection e2 with e2
    subst e2
    obtain ⟨u2, z2, hc2, _, _⟩ := hf2 0 _ rfl
    obtain ⟨b, o, rfl⟩ := plain_spot (by simpa using hc2)
    rw [add_at] at hc0 hc1
    exact ⟨(x, l), b, o, al, cl, rfl, hc0, hc1, hlcl, by omega, hnl, hsl⟩
  refine ⟨a0, acts, cap0, by rw [hl], by omega, fun k hk => hacts k hk⟩
set_option maxRecDepth 100000 in
theorem open_ask (hv : Value.okWide Try.prog W .any base 80 v) (h : DataW.Trod enc Try.prog W 0 (fun _ => true) true 80 v d ps) (hz : Sized Try.prog 80 d) :
    ∃ (xa : Option Addr) (xc : Nat) (xl : List Nat) (wa : Option Addr) (wc : Nat) (ws : List Nat), v = .agg #[.slice xa xl.length xc, .slice wa ws.length wc] ∧ xl.length ≤ xc ∧ xc ≤ 140737488351232 ∧ (xa = none → xl.length = 0 ∧ xc = 0) ∧ SlN W .u32 xa xl ∧ SlN W .u64 wa ws ∧ Words ws ∧ ws.length ≤ 140737488351232 := by
  obtain ⟨c0, c1, y0, y1, m, rfl, rfl, _, hy0, hy1⟩ := open_agg2 Try.underlying80 (by kernel_rfl) (by kernel_rfl) hv h
  have z0 := hz.field (j := 0) Try.underlying80 rfl rfl
  have z1 := hz.field (j := 1) Try.underlying80 rfl rfl
  obtain ⟨xa, xc, xl, rfl, h1, h2, _, h4, h5⟩ := open_natsT (m := 4294967296) (bytes := 4) Try.underlying52 Try.underlying22 (by kernel_rfl) (by kernel_rfl) rfl rfl hy0 z0
  obtain ⟨wa, wc, ws, rfl, k1, k2, k3, _, k5⟩ := open_natsT (m := 18446744073709551616) (bytes := 8) Try.underlying23 Try.underlying41 (by kernel_rfl) (by kernel_rfl) rfl rfl hy1 z1
  exact ⟨xa, xc, xl, wa, wc, ws, rfl, h1, by omega, h4, h2, k2, k3, by omega⟩
end
end Go.Proofs.Yteikngjanfjmfaa
