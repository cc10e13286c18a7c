/-
  Law 04: the argument of two graphs, opened.
-/
import Derived.Test.YthjaihmjdnijnaaStepOpen
namespace Go.Proofs.Ythjaihmjdnijnaa
open Go.ChangeShapes Go.WideShapes Go.ChangeAt Go.RowKit Go.Deep Go.Joins
set_option linter.unusedVariables false

section
variable {H : Type} {enc : TypeId × Value → H} {W : World} {base : Nat} {v : Value} {d : DataW H} {ps : List MemPlace}
theorem array8 {cs : Array Value} (h : cs.size = 8) : ∃ a b c d e f g i, cs = #[a, b, c, d, e, f, g, i] := by
  obtain ⟨l⟩ := cs
  match l, h with
  | [a, b, c, d, e, f, g, i], _ => exact ⟨a, b, c, d, e, f, g, i, rfl⟩
set_option maxRecDepth 100000 in
theorem bools_cells {n : Nat} {c0 c1 : Value} {y : DataW H × List MemPlace} (h : DataW.trod enc Try.prog W 0 (fun _ => true) true n 23 [c0, c1] = some y) : ∃ a b : Bool, c0 = .bool a ∧ c1 = .bool b := by
  obtain ⟨xs, m, _, rfl, hl, hlen, hf⟩ := DataW.trod_struct Try.underlying23 h
  have hc : Try.prog.cellsOf 4 = 1 := by kernel_rfl
  match xs, hlen with
  | [y0, y1], _ =>
    have f0 : DataW.trod enc Try.prog W 0 (fun _ => true) true m 4 (([c0, c1].drop 0).take (Try.prog.cellsOf 4)) = some y0 := hf 0 _ rfl
    have f1 : DataW.trod enc Try.prog W 0 (fun _ => true) true m 4 (([c0, c1].drop 1).take (Try.prog.cellsOf 4)) = some y1 := hf 1 _ rfl
    rw [hc] at f0 f1
    obtain ⟨a, e0, _⟩ := DataW.trod_bool Try.underlying4 f0
    obtain ⟨b, e1, _⟩ := DataW.trod_bool Try.underlying4 f1
    simp at e0 e1
    exact ⟨a, b, e0, e1⟩
structure TwoIs (W : World) (v : Value) (o1 o2 o3 o4 : Bool) (la : Option Addr) (l : List Stp) (lc : Nat) (ka : Option Addr) (k : List Stp) (kc : Nat) (ba : Option Addr) (by_ : List Nat) (bc : Nat) (ia : Option Addr) (inp : List Nat) (ic : Nat) : Prop where
  is : v = .agg #[.bool o1, .bool o2, .bool o3, .bool o4, .slice la l.length lc, .slice ka k.length kc, .slice ba by_.length bc, .slice ia inp.length ic]
  ll : l.length ≤ 140737488351232
  ls : SlSteps W la l
  lo : ∀ s ∈ l, Stp.ok s
  kl : k.length ≤ 140737488351232
  ks : SlSteps W ka k
  ko : ∀ s ∈ k, Stp.ok s
  bl : by_.length ≤ 140737488351232
  bs : SlN W .u32 ba by_
  bo : ∀ x ∈ by_, x < 4294967296
  il : inp.length ≤ 140737488351232
  ius : SlN W .u64 ia inp
  iw : Words inp
set_option maxRecDepth 100000 in
theorem open_two (hv : Value.okWide Try.prog W .any base 64 v) (h : DataW.Trod enc Try.prog W 0 (fun _ => true) true 64 v d ps) (hz : Sized Try.prog 64 d) :
    ∃ o1 o2 o3 o4 la l lc ka k kc ba by_ bc ia inp ic, TwoIs W v o1 o2 o3 o4 la l lc ka k kc ba by_ bc ia inp ic := by
  obtain ⟨cs, rfl, hsz⟩ := okWide_struct Try.underlying64 hv
  have h8 : Try.prog.cellsOf 64 = 8 := by kernel_rfl
  have h2 : Try.prog.cellsOf 23 = 2 := by kernel_rfl
  have hl : Try.prog.cellsOf 24 = 1 := by kernel_rfl
  have hb : Try.prog.cellsOf 25 = 1 := by kernel_rfl
  have hi : Try.prog.cellsOf 54 = 1 := by kernel_rfl
  obtain ⟨c0, c1, c2, c3, c4, c5, c6, c7, rfl⟩ := array8 (hsz.trans h8)
  obtain ⟨fuel, hf⟩ := h
  obtain ⟨xs, m, _, hx, _, hlen, hg⟩ := DataW.trod_struct Try.underlying64 hf
  match xs, hlen with
  | [y0, y1, y2, y3, y4, y5], _ =>
    obtain ⟨rfl, -⟩ := Prod.mk.inj hx
    have z2 : Sized Try.prog 24 y2.1 := hz.field (j := 2) Try.underlying64 rfl rfl
    have z3 : Sized Try.prog 24 y3.1 := hz.field (j := 3) Try.underlying64 rfl rfl
    have z4 : Sized Try.prog 25 y4.1 := hz.field (j := 4) Try.underlying64 rfl rfl
    have z5 : Sized Try.prog 54 y5.1 := hz.field (j := 5) Try.underlying64 rfl rfl
    have f0 : DataW.trod enc Try.prog W 0 (fun _ => true) true m 23 (([c0, c1, c2, c3, c4, c5, c6, c7].drop 0).take (Try.prog.cellsOf 23)) = some y0 := hg 0 _ rfl
    have f1 : DataW.trod enc Try.prog W 0 (fun _ => true) true m 23 (([c0, c1, c2, c3, c4, c5, c6, c7].drop 2).take (Try.prog.cellsOf 23)) = some y1 := hg 1 _ rfl
    have f2 : DataW.trod enc Try.prog W 0 (fun _ => true) true m 24 (([c0, c1, c2, c3, c4, c5, c6, c7].drop 4).take (Try.prog.cellsOf 24)) = some y2 := hg 2 _ rfl
    have f3 : DataW.trod enc Try.prog W 0 (fun _ => true) true m 24 (([c0, c1, c2, c3, c4, c5, c6, c7].drop 5).take (Try.prog.cellsOf 24)) = some y3 := hg 3 _ rfl
    have f4 : DataW.trod enc Try.prog W 0 (fun _ => true) true m 25 (([c0, c1, c2, c3, c4, c5, c6, c7].drop 6).take (Try.prog.cellsOf 25)) = some y4 := hg 4 _ rfl
    have f5 : DataW.trod enc Try.prog W 0 (fun _ => true) true m 54 (([c0, c1, c2, c3, c4, c5, c6, c7].drop 7).take (Try.prog.cellsOf 54)) = some y5 := hg 5 _ rfl
    rw [h2] at f0 f1
    rw [hl] at f2 f3
    rw [hb] at f4
    rw [hi] at f5
    obtain ⟨o1, o2, e0, e1⟩ := bools_cells f0
    obtain ⟨o3, o4, e2, e3⟩ := bools_cells f1
    obtain ⟨la, l, lc, e4, p1, p2, p3⟩ := open_stepsT f2 z2
    obtain ⟨ka, k, kc, e5, q1, q2, q3⟩ := open_stepsT f3 z3
    obtain ⟨ba, bc, by_, e6, r1, r2, r3, _, r5⟩ := open_natsT (m := 4294967296) (bytes := 4) Try.underlying25 Try.underlying36 (by kernel_rfl) (by kernel_rfl) rfl rfl f4 z4
    obtain ⟨ia, ic, inp, e7, s1, s2, s3, _, s5⟩ := open_natsT (m := 18446744073709551616) (bytes := 8) Try.underlying54 Try.underlying57 (by kernel_rfl) (by kernel_rfl) rfl rfl f5 z5
    refine ⟨o1, o2, o3, o4, la, l, lc, ka, k, kc, ba, by_, bc, ia, inp, ic, ⟨?_, p1, p2, p3, q1, q2, q3, by omega, r2, r3, by omega, s2, s3⟩⟩
    rw [e0, e1, e2, e3, e4, e5, e6, e7]
end
end Go.Proofs.Ythjaihmjdnijnaa
