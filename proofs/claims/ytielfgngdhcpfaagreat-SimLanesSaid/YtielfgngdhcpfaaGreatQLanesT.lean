/-
  Law SimLanes, parts: a word turned; three simulations of one netlist side by side; rows that were told, one by one.
-/
import Derived.Test.YtielfgngdhcpfaaGreatQLanesM
namespace Go.Proofs.YtielfgngdhcpfaaGreat
open Go.ChangeShapes Go.WideShapes Go.ChangeAt Go.RowKit
open Go.Maps (Keyed)
open Go.WideMaps
set_option linter.unusedVariables false
set_option linter.unusedSimpArgs false

variable {w w' w1 : World} {s p n k : Nat} {F R F' R' S : List Nat} {g : Gr} {N : Nt}
theorem rot_spell {x r : Nat} (hr : r < 64) (hx : x < 18446744073709551616) : bits .or .u64 (IntKind.u64.wrap ((x : Int) * 2 ^ r)) ((x : Int) / 2 ^ (64 - r)) = ((rotW r x : Nat) : Int) := by
  have e1 : IntKind.u64.wrap ((x : Int) * 2 ^ r) = (((x * 2 ^ r) % 18446744073709551616 : Nat) : Int) := by
    have h : (x : Int) * 2 ^ r = ((x * 2 ^ r : Nat) : Int) := by push_cast; rfl
    rw [h]
    simp [IntKind.wrap, IntKind.signed, IntKind.bits]
  have e2 : (x : Int) / 2 ^ (64 - r) = ((x / 2 ^ (64 - r) : Nat) : Int) := by push_cast; rfl
  rw [e1, e2, u64_or_nat _ _ (Nat.mod_lt _ (by omega)) (Nat.lt_of_le_of_lt (Nat.div_le_self _ _) hx)]
  rfl
set_option maxRecDepth 100000 in
theorem rot_c (x r : Nat) (w : World) (hr : r < 64) (hx : x < 18446744073709551616) : Calls Tryz.prog 9 #[.int .u64 (x : Int), .int .i64 (r : Int)] w fun e w' => e = .returned (.int .u64 ((rotW r x : Nat) : Int)) ∧ w = w' := by
  have HR := Lib.hid (rot_spell hr hx)
  have h63 : bits .and .u64 (r : Int) 63 = (r : Int) := by
    have h := u64_and_nat r 63 (by omega) (by omega)
    rw [show ((63 : Nat) : Int) = 63 from rfl] at h
    rw [h]
    have : r &&& 63 = r := by
      have := Nat.and_two_pow_sub_one_eq_mod r 6
      simp at this
      rw [this]; omega
    rw [this]
  have h64 : IntKind.u64.wrap (64 - (r : Int)) = 64 - (r : Int) := IntWalk.u64_in _ (by omega)
  have ht : ((64 : Int) - (r : Int)).toNat = 64 - r := by omega
  have hn : ¬ ((64 : Int) - (r : Int) < 0) := by omega
  have hw : IntKind.u64.wrap (r : Int) = (r : Int) := IntWalk.u64_in _ (by omega)
  go_enter Tryz.func9, Tryz.ntmps9
  go_wp2_with fail
  go_ret
  exact ⟨by rw [← HR.out]; rfl, rfl⟩
structure TriAt (w0 w : World) (N : Nt) (n : Nat) (NF NR : List Nat) (a : Nat) (Fa Ra : List Nat) (σa : Sm) (b : Nat) (Fb Rb : List Nat) (σb : Sm) (c : Nat) (Fc Rc : List Nat) (σc : Sm) : Prop where
  net : NetAt w n NF NR N
  sa : SimAt w a Fa Ra σa
  sb : SimAt w b Fb Rb σb
  sc : SimAt w c Fc Rc σc
  xa : ∀ x ∈ Fa ++ Ra, x ∉ Fb ++ Fc
  xb : ∀ x ∈ Fb ++ Rb, x ∉ Fc ++ Fa
  xc : ∀ x ∈ Fc ++ Rc, x ∉ Fa ++ Fb
  xn : ∀ x ∈ NF ++ NR, x ∉ Fa ++ (Fb ++ Fc)
  lo : ∀ x ∈ Fa ++ (Fb ++ Fc), w0.heap.size ≤ x
  kp : Kept [] w0 w
section
variable {w0 w2 : World} {NF NR Fa Ra Fb Rb Fc Rc R2 : List Nat} {a b c : Nat} {σa σb σc σ' : Sm}
theorem TriAt.turn (h : TriAt w0 w N n NF NR a Fa Ra σa b Fb Rb σb c Fc Rc σc) : TriAt w0 w N n NF NR b Fb Rb σb c Fc Rc σc a Fa Ra σa :=
  ⟨h.net, h.sb, h.sc, h.sa, h.xb, h.xc, h.xa, fun x hx hy => h.xn x hx (by simp only [List.mem_append] at hy ⊢; rcases hy with h | h | h <;> simp [h]), fun x hy => h.lo x (by simp only [List.mem_append] at hy ⊢; rcases hy with h | h | h <;> simp [h]), h.kp⟩
theorem TriAt.keep (h : TriAt w0 w N n NF NR a Fa Ra σa b Fb Rb σb c Fc Rc σc) (hk : Kept [] w w2) : TriAt w0 w2 N n NF NR a Fa Ra σa b Fb Rb σb c Fc Rc σc :=
  ⟨h.net.kept0 hk, h.sa.kept0 hk, h.sb.kept0 hk, h.sc.kept0 hk, h.xa, h.xb, h.xc, h.xn, h.lo, h.kp.trans hk⟩
theorem TriAt.lt (h : TriAt w0 w N n NF NR a Fa Ra σa b Fb Rb σb c Fc Rc σc) : ∀ x ∈ Fa ++ (Fb ++ Fc), x < w.heap.size := by
  intro x hx
  simp only [List.mem_append] at hx
  rcases hx with hx | hx | hx
  · exact h.sa.lt.1 x hx
  · exact h.sb.lt.1 x hx
  · exact h.sc.lt.1 x hx
theorem TriAt.step (h : TriAt w0 w N n NF NR a Fa Ra σa b Fb Rb σb c Fc Rc σc) (hs : SimAt w2 a Fa R2 σ') (hst : NStep w w2 Fa Ra Fa R2) : TriAt w0 w2 N n NF NR a Fa R2 σ' b Fb Rb σb c Fc Rc σc := by
  have hk := hst.st.kept
  have lt := h.lt
  refine ⟨h.net.kept hk (fun x hx hy => h.xn x (by simp [hx]) (by simp [hy])) (fun x hx hy => h.xn x (by simp [hx]) (by simp [hy])), hs,
    h.sb.kept hk (fun x hx hy => h.xb x (by simp [hx]) (by simp [hy])) (fun x hx hy => h.xb x (by simp [hx]) (by simp [hy])),
    h.sc.kept hk (fun x hx hy => h.xc x (by simp [hx]) (by simp [hy])) (fun x hx hy => h.xc x (by simp [hx]) (by simp [hy])), fun x hx hy => ?_, h.xb, h.xc, h.xn, h.lo,
    kept_up h.kp hk (fun x hx => h.lo x (by simp [hx]))⟩
  rcases List.mem_append.1 hx with hx | hx
  · exact h.xa x (by simp [hx]) hy
  · rcases hst.rows x hx with h1 | h1
    · exact h.xa x (by simp [h1]) hy
    · have := lt x (List.mem_append_right _ hy); omega
end
/-- the buses that go out, where they lie -/
theorem net_out {NF NR : List Nat} (h : NetAt w n NF NR N) : ∃ oa oc ro, w.cell? ⟨n, 4, none⟩ = some (.slice oa N.outb.length oc) ∧ SlB w oa ro ∧ ro.map (·.b) = N.outb := by
  obtain ⟨p, G, ia, ic, xa, xc, oa, oc, ri, ro, rfl, rfl, hn⟩ := h
  exact ⟨oa, oc, ro, hn.c4, hn.ob.slb, hn.ob.is⟩
theorem told_len {c : List (List Nat)} {i q : Nat} {l : List (List Nat)} (hl : l = told N c i) (hq : q < l.length) (h2 : q < N.outb.length) : l[q].length = (N.outb[q]).lits.length := by
  subst hl
  simp [told, outN]
theorem rows_pick {Q : Nat → Nat → Prop} {xs ys : List WR} (h : All2 (All2 Q) (xs.map (·.l)) (ys.map (·.l))) {q : Nat} (h1 : q < xs.length) (h2 : q < ys.length) : All2 Q xs[q].l ys[q].l := by
  have := h.get q (by simpa using h1) (by simpa using h2)
  simpa using this
/-- a row of rows, where it lies -/
theorem WRows.at {a : Option Addr} {m c : Nat} {rs : List WR} (h : WRows w a m c rs) (q : Nat) (hq : q < rs.length) : ∃ b ra rc, a = some ⟨b, 0, none⟩ ∧ w.cell? ⟨b, q, none⟩ = some (.slice ra rs[q].l.length rc) ∧ SlN w .u64 ra rs[q].l := by
  obtain ⟨b, h1, h2⟩ := h.cell q hq
  exact ⟨b, _, _, h1, h2, (h.rows _ (List.getElem_mem hq)).1⟩
theorem turn_snoc (f : Nat → Nat) (l : List Nat) (j : Nat) (hj : j < l.length) : (l.take (j + 1)).map f = (l.take j).map f ++ [f l[j]] := by
  rw [List.take_succ_eq_append_getElem hj, List.map_append]; rfl
end Go.Proofs.YtielfgngdhcpfaaGreat
