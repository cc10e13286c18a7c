/-
  NetGives: what the law's loop holds: a netlist, two maps of rows by name, one of what registers take.
-/
import Derived.Test.YthiccfaldahmhaaGiveM
import Derived.RegionTactic
import Derived.Deep.RegionLaw
namespace Go.Proofs.Ythiccfaldahmhaa
open Go.ChangeShapes Go.WideShapes Go.ChangeAt Go.RowKit
open Go.Maps (Keyed)
open Go.WideMaps
set_option linter.unusedVariables false
set_option linter.unusedSimpArgs false

structure Gives (w wr : World) (n mi mo mt : Nat) (F R : List Nat) (N : Nt) (li lo : List BR) (lr : List Rg) : Prop where
  net : NetAt wr n F R N
  kept : Kept [] w wr
  fF : ∀ b ∈ F, w.heap.size ≤ b
  mm : w.heap.size ≤ mi ∧ w.heap.size ≤ mo ∧ w.heap.size ≤ mt ∧ mi ≠ mo ∧ mi ≠ mt ∧ mo ≠ mt
  mf : mi ∉ F ∧ mo ∉ F ∧ mt ∉ F ∧ mi ∉ R ∧ mo ∉ R ∧ mt ∉ R
  gi : MapG wr Try.prog 9 mi (rowF li) li.length
  go : MapG wr Try.prog 9 mo (rowF lo) lo.length
  gt : MapG wr Try.prog 44 mt (takeF lr) lr.length
  rows : ∀ r ∈ li ++ lo, SlN wr .u32 r.a r.b.lits ∧ ∀ b ∈ ft r.a, b < wr.heap.size ∧ w.heap.size ≤ b ∧ b ∉ F ∧ b ≠ mi ∧ b ≠ mo ∧ b ≠ mt
variable {w wr w1 : World} {n mi mo mt : Nat} {F R F' R' : List Nat} {N N' : Nt} {li lo : List BR} {lr lr' : List Rg}
theorem Gives.step (h : Gives w wr n mi mo mt F R N li lo lr) (hn : NetAt w1 n F' R' N') (hs : NStep wr w1 F R F' R') : Gives w w1 n mi mo mt F' R' N' li lo lr := by
  have hk := hs.st.kept
  have l1 := h.gi.lt
  have l2 := h.go.lt
  have l3 := h.gt.lt
  have nf : ∀ b, b < wr.heap.size → b ∉ F → b ∉ F' := fun b hb hF hx => (hs.st.fresh b hx).elim hF (fun h => by omega)
  have nr : ∀ b, b < wr.heap.size → b ∉ R → b ∉ R' := fun b hb hF hx => (hs.rows b hx).elim hF (fun h => by omega)
  obtain ⟨a1, a2, a3, a4, a5, a6⟩ := h.mf
  obtain ⟨k1, k2⟩ := NStep.up h.kept h.fF hs
  refine ⟨hn, k1, k2, h.mm, ⟨nf _ l1 a1, nf _ l2 a2, nf _ l3 a3, nr _ l1 a4, nr _ l2 a5, nr _ l3 a6⟩, h.gi.kept hk a1, h.go.kept hk a2, h.gt.kept hk a3, fun r hr => ?_⟩
  obtain ⟨r1, r2⟩ := h.rows r hr
  exact ⟨r1.kept hk (fun b hb => (r2 b hb).2.2.1), fun b hb => ⟨Nat.lt_of_lt_of_le (r2 b hb).1 hk.size, (r2 b hb).2.1, nf b (r2 b hb).1 (r2 b hb).2.2.1, (r2 b hb).2.2.2⟩⟩
theorem Gives.keep (h : Gives w wr n mi mo mt F R N li lo lr) (hk : Kept [] wr w1) : Gives w w1 n mi mo mt F R N li lo lr :=
  h.step (h.net.kept0 hk) ((NStep.refl wr F R).keep hk)
theorem Gives.setIn (h : Gives w wr n mi mo mt F R N li lo lr) {s : ByteArray} {row : List Nat} {a : Option Addr} {c : Nat} (hne : ∀ r ∈ li, r.b.name ≠ s)
    (hm : MapG w1 Try.prog 9 mi (upd (rowF li) (.string s) (.slice a row.length c)) (if (rowF li (.string s)).isSome then li.length else li.length + 1)) (hk : Kept [mi] wr w1)
    (hrow : SlN wr .u32 a row) (ha : ∀ b ∈ ft a, b < wr.heap.size ∧ w.heap.size ≤ b ∧ b ∉ F ∧ b ≠ mi ∧ b ≠ mo ∧ b ≠ mt) :
    Gives w w1 n mi mo mt F R N (li ++ [⟨⟨s, row⟩, a, c⟩]) lo lr := by
  obtain ⟨m1, m2, m3, m4, m5, m6⟩ := h.mm
  obtain ⟨a1, a2, a3, a4, a5, a6⟩ := h.mf
  have hnone : rowF li (.string s) = none := by
    have hn : li.find? (fun r => decide (r.b.name = s)) = none := by
      rw [List.find?_eq_none]
      intro r hr; simpa using hne r hr
    simp only [rowF, hn]
    rfl
  rw [hnone] at hm
  rw [rowF_snoc hne] at hm
  have hmf : ∀ b, b ≠ mi → b ∉ [mi] := by simp
  refine ⟨h.net.kept hk (fun b hb => by simp; rintro rfl; exact a1 hb) (fun b hb => by simp; rintro rfl; exact a4 hb), kept_up h.kept hk (fun b hb => by simp at hb; subst hb; exact m1), h.fF, h.mm, h.mf, by simpa using hm, h.go.kept hk (hmf _ (Ne.symm m4)), h.gt.kept hk (hmf _ (Ne.symm m5)), fun r hr => ?_⟩
  have hcase : (r ∈ li ++ lo) ∨ r = ⟨⟨s, row⟩, a, c⟩ := by simp at hr ⊢; rcases hr with hr | hr | hr <;> simp [hr]
  rcases hcase with hr | rfl
  · obtain ⟨r1, r2⟩ := h.rows r hr
    exact ⟨r1.kept hk (fun b hb => hmf _ (r2 b hb).2.2.2.1), fun b hb => ⟨Nat.lt_of_lt_of_le (r2 b hb).1 hk.size, (r2 b hb).2⟩⟩
  · exact ⟨hrow.kept hk (fun b hb => hmf _ (ha b hb).2.2.2.1), fun b hb => ⟨Nat.lt_of_lt_of_le (ha b hb).1 hk.size, (ha b hb).2⟩⟩
theorem Gives.setOut (h : Gives w wr n mi mo mt F R N li lo lr) {s : ByteArray} {row : List Nat} {a : Option Addr} {c : Nat} (hne : ∀ r ∈ lo, r.b.name ≠ s)
    (hm : MapG w1 Try.prog 9 mo (upd (rowF lo) (.string s) (.slice a row.length c)) (if (rowF lo (.string s)).isSome then lo.length else lo.length + 1)) (hk : Kept [mo] wr w1)
    (hrow : SlN wr .u32 a row) (ha : ∀ b ∈ ft a, b < wr.heap.size ∧ w.heap.size ≤ b ∧ b ∉ F ∧ b ≠ mi ∧ b ≠ mo ∧ b ≠ mt) :
    Gives w w1 n mi mo mt F R N li (lo ++ [⟨⟨s, row⟩, a, c⟩]) lr := by
  obtain ⟨m1, m2, m3, m4, m5, m6⟩ := h.mm
  obtain ⟨a1, a2, a3, a4, a5, a6⟩ := h.mf
  have hnone : rowF lo (.string s) = none := by
    have hn : lo.find? (fun r => decide (r.b.name = s)) = none := by
      rw [List.find?_eq_none]
      intro r hr; simpa using hne r hr
    simp only [rowF, hn]
    rfl
  rw [hnone] at hm
  rw [rowF_snoc hne] at hm
  have hmf : ∀ b, b ≠ mo → b ∉ [mo] := by simp
  refine ⟨h.net.kept hk (fun b hb => by simp; rintro rfl; exact a2 hb) (fun b hb => by simp; rintro rfl; exact a5 hb), kept_up h.kept hk (fun b hb => by simp at hb; subst hb; exact m2), h.fF, h.mm, h.mf, h.gi.kept hk (hmf _ m4), by simpa using hm, h.gt.kept hk (hmf _ (Ne.symm m6)), fun r hr => ?_⟩
  have hcase : (r ∈ li ++ lo) ∨ r = ⟨⟨s, row⟩, a, c⟩ := by simp at hr ⊢; rcases hr with hr | hr | hr <;> simp [hr]
  rcases hcase with hr | rfl
  · obtain ⟨r1, r2⟩ := h.rows r hr
    exact ⟨r1.kept hk (fun b hb => hmf _ (r2 b hb).2.2.2.2.1), fun b hb => ⟨Nat.lt_of_lt_of_le (r2 b hb).1 hk.size, (r2 b hb).2⟩⟩
  · exact ⟨hrow.kept hk (fun b hb => hmf _ (ha b hb).2.2.2.2.1), fun b hb => ⟨Nat.lt_of_lt_of_le (ha b hb).1 hk.size, (ha b hb).2⟩⟩
theorem Gives.setT (h : Gives w wr n mi mo mt F R N li lo lr) (hm : MapG w1 Try.prog 44 mt (takeF lr') lr'.length) (hk : Kept [mt] wr w1) : Gives w w1 n mi mo mt F R N li lo lr' := by
  obtain ⟨m1, m2, m3, m4, m5, m6⟩ := h.mm
  obtain ⟨a1, a2, a3, a4, a5, a6⟩ := h.mf
  have hmf : ∀ b, b ≠ mt → b ∉ [mt] := by simp
  refine ⟨h.net.kept hk (fun b hb => by simp; rintro rfl; exact a3 hb) (fun b hb => by simp; rintro rfl; exact a6 hb), kept_up h.kept hk (fun b hb => by simp at hb; subst hb; exact m3), h.fF, h.mm, h.mf, h.gi.kept hk (hmf _ m5), h.go.kept hk (hmf _ m6), hm, fun r hr => ?_⟩
  obtain ⟨r1, r2⟩ := h.rows r hr
  exact ⟨r1.kept hk (fun b hb => hmf _ (r2 b hb).2.2.2.2.2), fun b hb => ⟨Nat.lt_of_lt_of_le (r2 b hb).1 hk.size, (r2 b hb).2⟩⟩
set_option maxHeartbeats 800000 in
theorem same_c (a b : Option Addr) (c d n : Nat) (l : List Nat) (w : World) (hl : l.length = n) (hn : n ≤ 1000000) (ha : SlN w .u32 a l) (hb : SlN w .u32 b l) :
    Calls Try.prog 12 #[.slice a n c, .slice b n d] w fun e w' => e = .returned (.bool true) ∧ ∃ k, w' = w.drewN k := by
  have HL := Lib.hid hl
  have HA := Lib.hid ha
  have HB := Lib.hid hb
  clear hl ha hb
  go_enter Try.func12, Try.ntmps12
  go_wp2_with fail
  go_loopw [13] (fun i wr => ∃ k m : Nat, k ≤ n ∧ i = .int .i64 k ∧ wr = w.drewN m) (fun i _ => n - (intOf i).toNat)
  case atStart => exact ⟨0, 0, Nat.zero_le _, rfl, rfl⟩
  case round =>
    obtain ⟨k, m, hk, rfl, rfl⟩ := hrel
    by_cases hlt : k < n
    · have hkl : k < l.length := by rw [HL.out]; exact hlt
      obtain ⟨ad, rfl, hcx⟩ := HA.out k hkl
      obtain ⟨ad2, rfl, hcy⟩ := HB.out k hkl
      generalize l[k] = x at *
      go_wp2_with fail
      go_quiet (fail)
      go_wp2_with fail
      go_roundw
      case rel => exact ⟨k + 1, _, by omega, by go_num, rfl⟩
      case measure => simp [intOf]; omega
    · go_wp2_with fail
      go_ret
      exact ⟨rfl, m, rfl⟩
theorem NetAt.graphAt (h : NetAt w n F R N) : ∃ p G, w.cell? ⟨n, 0, none⟩ = some (.pointer (some ⟨p, 0, none⟩)) ∧ GraphAt w p G N.g := by
  obtain ⟨p, G, ia, ic, ra, rc, oa, oc, ri, ro, rfl, rfl, hc⟩ := h
  exact ⟨p, G, hc.c0, hc.gr⟩
def GiveRel (w wr : World) (n mi mo mt len : Nat) (v : Value) : Prop :=
  ∃ (k : Nat) (F R : List Nat) (N : Nt) (li lo : List BR), k ≤ 60 ∧ k ≤ len ∧ v = .int .i64 k ∧ Gives w wr n mi mo mt F R N li lo N.regs ∧ li.map (·.b) = N.inb ∧ lo.map (·.b) = N.outb ∧ NtFine k N
theorem Gives.start (w1 : World) {w : World} {n : Nat} {F : List Nat} {N : Nt} (hn : NetAt w1 n F [] N) (hk : Kept [] w w1) (hf : ∀ b ∈ F, w.heap.size ≤ b) :
    Gives w (((w1.alloc (.map #[] 0)).alloc (.map #[] 0)).alloc (.map #[] 0)) n w1.heap.size (w1.heap.size + 1) (w1.heap.size + 1 + 1) F [] N [] [] [] := by
  have k1 : Kept [] w1 (w1.alloc (.map #[] 0)) := (Kept.refl [] w1).alloc _
  have k2 : Kept [] (w1.alloc (.map #[] 0)) ((w1.alloc (.map #[] 0)).alloc (.map #[] 0)) := (Kept.refl [] _).alloc _
  have k3 : Kept [] ((w1.alloc (.map #[] 0)).alloc (.map #[] 0)) (((w1.alloc (.map #[] 0)).alloc (.map #[] 0)).alloc (.map #[] 0)) := (Kept.refl [] _).alloc _
  have e0 : rowF [] = fun _ => none := by funext key; cases key <;> rfl
  have e1 : takeF [] = fun _ => none := by funext key; cases key <;> try rfl
                                           rename_i k x; cases k <;> rfl
  have m1 := MapG.new w1 Try.prog 9
  have m2 := MapG.new (w1.alloc (.map #[] 0)) Try.prog 9
  have m3 := MapG.new ((w1.alloc (.map #[] 0)).alloc (.map #[] 0)) Try.prog 44
  rw [← e0] at m1 m2
  rw [← e1] at m3
  simp only [World.size_alloc] at m2 m3
  have lt := hn.lt
  have hs := hk.size
  refine ⟨((hn.kept0 k1).kept0 k2).kept0 k3, ((hk.trans k1).trans k2).trans k3, hf, ⟨hs, by omega, by omega, by omega, by omega, by omega⟩, ⟨fun h => ?_, fun h => ?_, fun h => ?_, by simp, by simp, by simp⟩, (m1.kept k2 (by simp)).kept k3 (by simp), m2.kept k3 (by simp), m3, by simp⟩
  all_goals (have := lt.1 _ h; omega)
theorem step_updG {P : Program} {w : World} {ops : Array Oper} {o : Oper} {act : Act} {K' : Act → World → Prop} {Q : Exit → Act → World → Prop} {E : Prop} {k : TypeId} {m c : Nat} {f : Value → Option Value} {mo x y : Operand} {t e : TypeId} {key val : Value}
    (hgd : o.guard = none) (hop : o.op = Op.mapUpdate t mo x y) (KK : Keyed P k) (ht : P.underlying t = some (.map k e)) (hm : act.eval mo = .map (some m)) (hx : act.eval x = key) (hy : act.eval y = val) (hown : MapG w P k m f c) (hkey : ∃ kl, keyOf P k key = some kl)
    (h : ∀ w', MapG w' P k m (upd f key val) (if (f key).isSome then c else c + 1) → Kept [m] w w' → K' (act.put o.dst undef) w') :
    if Region.wanted o (yielded ops act.tmps) = true then Oper.wp P o act w K' Q else E := by
  rw [if_pos (by simp [Region.wanted, hgd])]
  obtain ⟨kl, hkl⟩ := hkey
  obtain ⟨w', hrun, r1, r2⟩ := hown.update KK ht (val := val) hkl
  unfold Oper.wp
  simp [execOp, hop, hm, hx, hy, hrun, Result.andThen]
  exact h _ r1 r2
theorem string_key (s : ByteArray) (h : s.size ≤ 140737488351232) : ∃ kl, keyOf Try.prog 9 (.string s) = some kl :=
  ⟨_, keyOf_string_mk Try.underlying9 (by unfold maxLen; omega)⟩
end Go.Proofs.Ythiccfaldahmhaa
