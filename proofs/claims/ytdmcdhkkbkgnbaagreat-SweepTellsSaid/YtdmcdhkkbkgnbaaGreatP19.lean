/-
  Package orreryref03: the document's graph, its contracts: it makes the nodes that the program's graph has.
  The document's graph (orreryref03) as cells; a gate looked for one by one. Plain.
  Literals copied into another graph. Plain.
  Package sweep: which registers are stuck.
-/
import Derived.Test.YtdmcdhkkbkgnbaaGreatP14
import Derived.Test.YtdmcdhkkbkgnbaaGreatP17
import Derived.Test.YtdmcdhkkbkgnbaaGreatP18
import Derived.Test.YtdmcdhkkbkgnbaaGreatP08
import Derived.Test.YtdmcdhkkbkgnbaaGreatP03
import Derived.Test.YtdmcdhkkbkgnbaaGreatP04
import Derived.Test.YtdmcdhkkbkgnbaaGreatP06
namespace Go.Proofs.YtdmcdhkkbkgnbaaGreat
open Go.ChangeShapes Go.WideShapes Go.ChangeAt Go.RowKit
open Go.Maps (Keyed)
open Go.WideMaps
set_option linter.unusedVariables false
set_option linter.unusedSimpArgs false

variable {w w' W : World} {p n k : Nat} {F R S : List Nat} {g : Gr} {N : Nt}
/-- a new row of bools -/
def BoolsNew (l : List Bool) (w : World) (e : Ending) (w' : World) : Prop := ∃ gb, e = .returned (.tuple #[.slice (some ⟨gb, 0, none⟩) l.length l.length, .int .i64 0]) ∧ Own w' 4 (some ⟨gb, 0, none⟩) l.length l.length (bls l) ∧ Kept [] w w' ∧ w.heap.size ≤ gb
def BoolsNone (c : Nat) (w : World) (e : Ending) (w' : World) : Prop := e = .returned (.tuple #[.slice none 0 0, .int .i64 (c : Nat)]) ∧ Kept [] w w'
def stuckTo (N : Nt) (m : Nat) : List Bool := (N.regs.take m).map stuckR ++ List.replicate (N.regs.length - m) false
theorem stuckTo_length (N : Nt) (m : Nat) (h : m ≤ N.regs.length) : (stuckTo N m).length = N.regs.length := by simp [stuckTo]; omega
theorem stuckTo_succ (N : Nt) {m : Nat} {r : Rg} (h : N.regs[m]? = some r) : stuckTo N (m + 1) = (stuckTo N m).set m (stuckR r) := by
  obtain ⟨h1, h2⟩ := List.getElem?_eq_some_iff.1 h
  have e : List.replicate (N.regs.length - m) false = false :: List.replicate (N.regs.length - (m + 1)) false := by
    rw [show N.regs.length - m = (N.regs.length - (m + 1)) + 1 by omega, List.replicate_succ]
  unfold stuckTo
  rw [List.take_succ_eq_append_getElem h1, h2, List.map_append, e, List.set_append_right _ _ (by rw [List.length_map, List.length_take]; exact Nat.min_le_left _ _)]
  simp [Nat.min_eq_left (Nat.le_of_lt h1)]
set_option maxHeartbeats 1600000 in
set_option maxRecDepth 100000 in
theorem Stuck_c (h : NetAt w n F R N) (hf : NtFine k N) (hk : k ≤ 700) : Calls Tryz.prog 9 #[.pointer (some ⟨n, 0, none⟩)] w (if checkN N = 0 then BoolsNew (N.regs.map stuckR) w else BoolsNone (checkN N) w) := by
  have HCK := Lib.hid (check_c h hf hk)
  have HF := Lib.hid hf
  have HH := Lib.hid h
  obtain ⟨cn, hcn⟩ : ∃ c, c = checkN N := ⟨_, rfl⟩
  rw [← hcn] at HCK ⊢
  clear hcn h hf
  by_cases h0 : cn = 0
  · rw [if_pos h0]
    subst h0
    have HST := Lib.hid (fun r V => stuck_c r V)
    unfold rgV at HST
    go_enter Tryz.func9, Tryz.ntmps9
    go_wp2_with fail
    refine HCK.out.mono ?_
    rintro e w1 ⟨rfl, k1⟩
    have K1 := Lib.hid k1
    obtain ⟨p, G, ia, ic, ra, rc, oa, oc, ri, ro, hFe, hRe, hc⟩ := HH.out.kept0 k1
    have HC := Lib.hid hc
    obtain ⟨nR, hnR⟩ : ∃ m, m = N.regs.length := ⟨_, rfl⟩
    have HNR := Lib.hid hnR
    have c3 := hc.c3
    rw [← hnR] at c3
    have hnr : nR ≤ 700 := by rw [hnR]; have := HF.out.ok.rk; omega
    clear hc hnR k1 hFe hRe
    go_wp2_with (at_make; refine wpList_mk rfl rfl Tryz.underlying29 bool_info rfl rfl rfl (by omega) (by unfold maxLen; omega) ?_; intro w2 hown2 hst2; rw [bls_replicate] at hown2; have c3w := hst2.kept.cell c3 (by simp))
    obtain ⟨gb, hgb⟩ : ∃ gb, gb = w1.heap.size := ⟨_, rfl⟩
    rw [← hgb] at hown2 hst2 ⊢
    have hgw : w.heap.size ≤ gb := by rw [hgb]; exact K1.out.size
    have HO2 := Lib.hid hown2
    have HK2 := Lib.hid (show Kept [] w w2 from K1.out.trans hst2.kept)
    have HC2 := Lib.hid (HC.out.kept hst2.kept (by simp) (by simp))
    have HRS := Lib.hid (regs_sl (l := N.regs) rfl HC2.out.rb)
    have HGF := Lib.hid (show ∀ b ∈ ft ra, b ≠ gb from fun b hb e => by
      have h1 := owns_lt HC.out.rb b hb
      rw [hgb] at e
      omega)
    clear hgb hown2 hst2 c3 c3w
    go_loopw [24] (fun v wr => ∃ m : Nat, m ≤ nR ∧ v = .int .i64 m ∧ Own wr 4 (some ⟨gb, 0, none⟩) nR nR (bls (stuckTo N m)) ∧ Kept [] w wr ∧ Kept [gb] w2 wr) (fun v _ => nR - (intOf v).toNat)
    case atStart => exact ⟨0, Nat.zero_le _, rfl, by unfold stuckTo; rw [← HNR.out]; exact HO2.out, HK2.out, .refl _ _⟩
    case round =>
      obtain ⟨m, hm, rfl, hown, hkr, hkg⟩ := hrel
      have HOW := Lib.hid hown
      have KR := Lib.hid hkr
      have KG := Lib.hid hkg
      by_cases hlt : m < nR
      · have hml : m < N.regs.length := by rw [← HNR.out]; exact hlt
        obtain ⟨gr, rfl, e0, e1, e2, e3⟩ := (HRS.out.kept hkg (fun b hb h => by simp at h; exact HGF.out b hb h)) m hml
        have HT := Lib.hid (stuckTo_succ N (List.getElem?_eq_getElem hml))
        have HSR := Lib.hid (HST.out N.regs[m])
        obtain ⟨⟨v0, q3⟩, q4, q5⟩ := hown.store (j := m) hlt
        generalize N.regs[m] = r at *
        obtain ⟨q, d, en, init⟩ := r
        simp only at e0 e1 e2 e3 HSR
        obtain ⟨sb, hsb⟩ : ∃ sb, sb = stuckR ⟨q, d, en, init⟩ := ⟨_, rfl⟩
        rw [← hsb] at HSR HT
        have i0 : (0 : Int) ≤ (m : Int) := by omega
        have i1 : (m : Int) < (nR : Int) := by omega
        clear q5 hown hkr hkg hsb hml
        go_wp2_with fail
        refine (HSR.out _).mono ?_
        rintro e w5 ⟨rfl, k5⟩
        have KA := Lib.hid (show Kept [] wr w5 from ((Kept.refl [] wr).alloc _).trans k5)
        have HO5 := Lib.hid (HOW.out.kept0 KA.out)
        have HPUT := Lib.hid (own_put HO5.out (KR.out.trans KA.out) hgw hlt sb)
        obtain ⟨⟨v1, q6⟩, q7, _⟩ := HO5.out.store (j := m) hlt
        clear k5 q3 q4
        go_wp2_with fail
        go_roundw
        case rel => exact ⟨m + 1, by omega, by go_num, by rw [HT.out]; exact HPUT.out.1, HPUT.out.2, (KG.out.trans (KA.out.more (by simp))).setCell (p := ⟨gb, m, none⟩) (.inl (by simp)) _⟩
        case measure => simp [intOf]; omega
      · obtain rfl : m = nR := by omega
        have HE := Lib.hid (show stuckTo N m = N.regs.map stuckR from by unfold stuckTo; rw [HNR.out, List.take_length, Nat.sub_self]; simp)
        clear hown hkr hkg
        go_wp2_with fail
        go_ret2
        have ho := HOW.out
        rw [HE.out] at ho
        refine ⟨gb, by rw [List.length_map, ← HNR.out]; rfl, by rw [List.length_map, ← HNR.out]; exact ho, KR.out, hgw⟩
  · rw [if_neg h0]
    have h1 : ¬ (cn : Int) = 0 := by omega
    go_enter Tryz.func9, Tryz.ntmps9
    go_wp2_with fail
    refine HCK.out.mono ?_
    rintro e w1 ⟨rfl, k1⟩
    have K1 := Lib.hid k1
    clear k1
    go_wp2_with fail
    go_ret2
    exact ⟨rfl, K1.out⟩
end Go.Proofs.YtdmcdhkkbkgnbaaGreat

namespace Go.Proofs.YtdmcdhkkbkgnbaaGreat
set_option linter.unusedVariables false

theorem getN_set {l : List Nat} {i j v : Nat} (h : i < l.length) : (l.set i v).getD j 0 = if j = i then v else l.getD j 0 := by
  simp only [List.getD_eq_getElem?_getD]
  by_cases e : j = i
  · subst e
    rw [List.getElem?_set_self h, if_pos rfl]
    rfl
  · rw [List.getElem?_set_ne (fun h => e h.symm), if_neg e]
/-- inputs stand for the row's literals -/
def byTo (n : Nat) (is by_ : List Nat) : Nat → List Nat
  | 0 => List.replicate n 0
  | k + 1 => (byTo n is by_ k).set (is.getD k 0) (by_.getD k 0)
theorem byTo_length (n : Nat) (is by_ : List Nat) (k : Nat) : (byTo n is by_ k).length = n := by
  induction k with
  | zero => simp [byTo]
  | succ k ih => simp [byTo, ih]
def copyAt (ns : List (Nat × Nat)) (M : List Bool) (s : Gr × List Nat) (k : Nat) : Gr × List Nat :=
  if gAt ns k && M.getD k false then ((andG s.1 (overL s.2 (gA ns k)) (overL s.2 (gB ns k))).1, s.2.set k (andG s.1 (overL s.2 (gA ns k)) (overL s.2 (gB ns k))).2) else s
def copyTo (ns : List (Nat × Nat)) (M : List Bool) (s0 : Gr × List Nat) : Nat → Gr × List Nat
  | 0 => s0
  | k + 1 => copyAt ns M (copyTo ns M s0 k) k
theorem copyAt_length (ns : List (Nat × Nat)) (M : List Bool) (s : Gr × List Nat) (k : Nat) : (copyAt ns M s k).2.length = s.2.length := by unfold copyAt; split <;> simp
theorem copyTo_length (ns : List (Nat × Nat)) (M : List Bool) (s0 : Gr × List Nat) (k : Nat) : (copyTo ns M s0 k).2.length = s0.2.length := by
  induction k with
  | zero => rfl
  | succ k ih => rw [copyTo, copyAt_length, ih]
/-- the whole copy: the graph, and what stands for each node -/
def copyG (g from_ : Gr) (by_ l : List Nat) : Gr × List Nat :=
  copyTo from_.nodes (marksL from_.nodes l) (g, byTo from_.nodes.length (ins from_.nodes) by_ (ins from_.nodes).length) from_.nodes.length
/-- what is known of a copy half done -/
structure CpOk (c : Nat) (g0 : Gr) (n : Nat) (s : Gr × List Nat) : Prop where
  wf : WF s.1.nodes
  ext : Ext c g0 s.1
  len : s.2.length = n
  ok : ∀ x ∈ s.2, s.1.ok x
theorem overL_ok {g : Gr} (hw : WF g.nodes) {st : List Nat} (h : ∀ x ∈ st, g.ok x) (l : Nat) : g.ok (overL st l) := by
  have h0 : g.ok (st.getD (l / 2) 0) := by
    rw [List.getD_eq_getElem?_getD]
    cases hj : st[l / 2]? with
    | none => have := hw.pos; show 0 / 2 < _; simpa using this
    | some v => exact h v (List.mem_of_getElem? hj)
  unfold overL ifL
  split
  · exact ok_nt h0
  · exact h0
theorem CpOk.step {c n : Nat} {g0 : Gr} {s : Gr × List Nat} (h : CpOk c g0 n s) (ns : List (Nat × Nat)) (M : List Bool) (k : Nat) : CpOk (c + 1) g0 n (copyAt ns M s k) := by
  unfold copyAt
  split
  · have s1 := andG_spec h.wf (overL_ok h.wf h.ok (gA ns k)) (overL_ok h.wf h.ok (gB ns k))
    refine ⟨s1.1, h.ext.trans s1.2.1, by simp [h.len], fun x hx => ?_⟩
    rcases List.mem_or_eq_of_mem_set hx with h1 | h1
    · exact s1.2.1.ok (h.ok x h1)
    · rw [h1]; exact s1.2.2
  · exact ⟨h.wf, h.ext.mono (by omega), h.len, h.ok⟩
theorem copyTo_ok {c n : Nat} {g0 : Gr} {s0 : Gr × List Nat} (h : CpOk c g0 n s0) (ns : List (Nat × Nat)) (M : List Bool) (k : Nat) : CpOk (c + k) g0 n (copyTo ns M s0 k) := by
  induction k with
  | zero => exact h
  | succ k ih => exact ih.step ns M k
theorem byTo_ok {g : Gr} (hw : WF g.nodes) {by_ : List Nat} (h : ∀ x ∈ by_, g.ok x) (n : Nat) (is : List Nat) (k : Nat) : ∀ x ∈ byTo n is by_ k, g.ok x := by
  have z : g.ok 0 := by have := hw.pos; show 0 / 2 < _; simpa using this
  induction k with
  | zero => intro x hx; rw [(List.mem_replicate.1 hx).2]; exact z
  | succ k ih =>
    intro x hx
    rcases List.mem_or_eq_of_mem_set hx with h1 | h1
    · exact ih x h1
    · rw [h1, List.getD_eq_getElem?_getD]
      cases hj : by_[k]? with
      | none => exact z
      | some v => exact h v (List.mem_of_getElem? hj)
theorem start_ok {g : Gr} (hw : WF g.nodes) {by_ : List Nat} (h : ∀ x ∈ by_, g.ok x) (n : Nat) (is : List Nat) (k : Nat) : CpOk 0 g n (g, byTo n is by_ k) := ⟨hw, .refl g, byTo_length _ _ _ _, byTo_ok hw h n is k⟩
theorem copyG_ok {g from_ : Gr} (hw : WF g.nodes) {by_ l : List Nat} (h : ∀ x ∈ by_, g.ok x) : CpOk from_.nodes.length g from_.nodes.length (copyG g from_ by_ l) := by
  have := copyTo_ok (start_ok hw h from_.nodes.length (ins from_.nodes) (ins from_.nodes).length) from_.nodes (marksL from_.nodes l) from_.nodes.length
  rw [Nat.zero_add] at this
  exact this
theorem ins_pos (ns : List (Nat × Nat)) : ∀ x ∈ ins ns, 1 ≤ x := by
  suffices h : ∀ (l : List (Nat × Nat)) (i : Nat), ∀ x ∈ insFrom i l, x ≠ 0 from fun x hx => Nat.pos_of_ne_zero (h ns 0 x hx)
  intro l
  induction l with
  | nil => simp [insFrom]
  | cons p l ih =>
    intro i x hx
    simp only [insFrom] at hx
    split at hx
    · rename_i h
      rcases List.mem_cons.1 hx with h1 | h1
      · subst h1; simp at h; exact h.2
      · exact ih _ _ h1
    · exact ih _ _ hx
theorem byTo_zero {n : Nat} (hn : 0 < n) {is by_ : List Nat} (hi : ∀ x ∈ is, 1 ≤ x) {k : Nat} (hk : k ≤ is.length) : (byTo n is by_ k).getD 0 0 = 0 := by
  induction k with
  | zero => simp only [byTo, List.getD_eq_getElem?_getD, List.getElem?_replicate]; split <;> rfl
  | succ k ih =>
    have hm : 1 ≤ is.getD k 0 := by
      rw [List.getD_eq_getElem?_getD, List.getElem?_eq_getElem (by omega)]
      exact hi _ (List.getElem_mem _)
    have e : (byTo n is by_ (k + 1)).getD 0 0 = (byTo n is by_ k).getD 0 0 := by
      show ((byTo n is by_ k).set (is.getD k 0) (by_.getD k 0)).getD 0 0 = _
      generalize is.getD k 0 = m at *
      simp only [List.getD_eq_getElem?_getD]
      rw [List.getElem?_set_ne (by omega)]
    rw [e]; exact ih (by omega)
theorem copyAt_zero {ns : List (Nat × Nat)} {M : List Bool} {s : Gr × List Nat} {k : Nat} : (copyAt ns M s k).2.getD 0 0 = s.2.getD 0 0 := by
  unfold copyAt
  split
  · rename_i h
    have hk : 1 ≤ k := by
      simp only [Bool.and_eq_true] at h
      have := h.1
      unfold gAt at this
      simp at this
      exact this.1
    simp only [List.getD_eq_getElem?_getD]
    rw [List.getElem?_set_ne (by omega)]
  · rfl
theorem copyTo_zero {ns : List (Nat × Nat)} {M : List Bool} {s0 : Gr × List Nat} (k : Nat) : (copyTo ns M s0 k).2.getD 0 0 = s0.2.getD 0 0 := by
  induction k with
  | zero => rfl
  | succ k ih => rw [copyTo, copyAt_zero, ih]
theorem head_of {l : List Nat} (hl : 0 < l.length) (h : l.getD 0 0 = 0) : l.head? = some 0 := by
  cases l with
  | nil => simp at hl
  | cons x l => simp at h; simp [h]
end Go.Proofs.YtdmcdhkkbkgnbaaGreat

namespace Go.Proofs.YtdmcdhkkbkgnbaaGreat
open Go.ChangeShapes Go.WideShapes Go.ChangeAt Go.RowKit
set_option linter.unusedVariables false

theorem look_more (a b c : Nat) (l m : List (Nat × Nat)) (h : look l a b = some c) : look (l ++ m) a b = some c := by
  induction m generalizing l with
  | nil => simpa using h
  | cons p m ih =>
    rw [show l ++ p :: m = (l ++ [p]) ++ m by simp]
    exact ih _ (by rw [look_snoc, h]; rfl)
theorem look_hit {ns : List (Nat × Nat)} {i a b : Nat} (h0 : look (ns.take i) a b = none) (hi : ns[i]? = some (a, b)) (hne : a / 2 ≠ i) : look ns a b = some (2 * i) := by
  obtain ⟨hlt, he⟩ := List.getElem?_eq_some_iff.1 hi
  have hl : (ns.take i).length = i := by rw [List.length_take]; omega
  have e : ns = (ns.take i ++ [(a, b)]) ++ ns.drop (i + 1) := by
    rw [← he]
    simp
  rw [e]
  apply look_more
  rw [look_snoc, h0, hl, if_pos ⟨rfl, hne⟩]
  rfl
theorem look_miss {ns : List (Nat × Nat)} {i a b : Nat} {p : Nat × Nat} (h0 : look (ns.take i) a b = none) (hi : ns[i]? = some p) (hne : p ≠ (a, b) ∨ a / 2 = i) : look (ns.take (i + 1)) a b = none := by
  obtain ⟨hlt, he⟩ := List.getElem?_eq_some_iff.1 hi
  have hl : (ns.take i).length = i := by rw [List.length_take]; omega
  rw [List.take_succ_eq_append_getElem hlt, look_snoc, h0, hl, he, if_neg (fun h => by rcases hne with h1 | h1; exact h1 h.1; exact h.2 h1)]
  rfl
theorem ins_take {ns : List (Nat × Nat)} {i : Nat} {p : Nat × Nat} (hi : ns[i]? = some p) (h0 : i ≠ 0) : (ins (ns.take (i + 1))).length = (ins (ns.take i)).length + (if p.1 / 2 = i then 1 else 0) := by
  obtain ⟨hlt, he⟩ := List.getElem?_eq_some_iff.1 hi
  have hl : (ns.take i).length = i := by rw [List.length_take]; omega
  rw [List.take_succ_eq_append_getElem hlt, ins_snoc, hl, he]
  simp only [inAt, h0, ne_eq, not_false_eq_true, decide_true, Bool.and_true, decide_eq_true_eq]
  split <;> simp

/-! ### Nodes as the document's graph has them -/
def rnV (i : Nat) (p : Nat × Nat) : List Value := if p.1 / 2 = i then [.bool (decide (i ≠ 0)), .int .u32 0, .int .u32 0] else [.bool false, .int .u32 (p.1 : Int), .int .u32 (p.2 : Int)]
theorem rnV_length (i : Nat) (p : Nat × Nat) : (rnV i p).length = 3 := by unfold rnV; split <;> rfl
def rcellsFrom : Nat → List (Nat × Nat) → List Value
  | _, [] => []
  | i, p :: r => rnV i p ++ rcellsFrom (i + 1) r
def rcells (ns : List (Nat × Nat)) : List Value := rcellsFrom 0 ns
theorem rcellsFrom_length (i : Nat) (ns : List (Nat × Nat)) : (rcellsFrom i ns).length = 3 * ns.length := by
  induction ns generalizing i with
  | nil => rfl
  | cons p r ih => simp only [rcellsFrom, List.length_append, rnV_length, ih, List.length_cons]; omega
theorem rcells_length (ns : List (Nat × Nat)) : (rcells ns).length = 3 * ns.length := rcellsFrom_length 0 ns
theorem rcellsFrom_snoc (i : Nat) (ns : List (Nat × Nat)) (p : Nat × Nat) : rcellsFrom i (ns ++ [p]) = rcellsFrom i ns ++ rnV (i + ns.length) p := by
  induction ns generalizing i with
  | nil => simp [rcellsFrom]
  | cons q r ih =>
    simp only [List.cons_append, rcellsFrom, ih, List.append_assoc, List.length_cons]
    rw [show i + 1 + r.length = i + (r.length + 1) by omega]
theorem rcells_snoc (ns : List (Nat × Nat)) (p : Nat × Nat) : rcells ns ++ rnV ns.length p = rcells (ns ++ [p]) := by
  unfold rcells; rw [rcellsFrom_snoc]; simp
theorem rcellsFrom_get (j : Nat) (ns : List (Nat × Nat)) (i : Nat) (p : Nat × Nat) (h : ns[i]? = some p) (k : Nat) (hk : k < 3) : (rcellsFrom j ns)[3 * i + k]? = (rnV (j + i) p)[k]? := by
  induction ns generalizing i j with
  | nil => simp at h
  | cons q r ih =>
    cases i with
    | zero =>
      simp at h; subst h
      simp only [rcellsFrom]
      rw [List.getElem?_append_left (by rw [rnV_length]; omega)]
      simp
    | succ i =>
      simp only [rcellsFrom]
      rw [List.getElem?_append_right (by rw [rnV_length]; omega), rnV_length, show 3 * (i + 1) + k - 3 = 3 * i + k by omega, ih (j + 1) i (by simpa using h), show j + 1 + i = j + (i + 1) by omega]
theorem rcells_get {ns : List (Nat × Nat)} {i : Nat} {p : Nat × Nat} (h : ns[i]? = some p) (k : Nat) (hk : k < 3) : (rcells ns)[3 * i + k]? = (rnV i p)[k]? := by
  have := rcellsFrom_get 0 ns i p h k hk
  simpa [rcells] using this
theorem rcells_one (ns : List (Nat × Nat)) : ∀ u ∈ rcells ns, u.oneCell' = true := by
  have key : ∀ i p, ∀ u ∈ rnV i p, u.oneCell' = true := by
    intro i p u hu
    unfold rnV at hu
    split at hu <;> (simp only [List.mem_cons, List.not_mem_nil, or_false] at hu; rcases hu with rfl | rfl | rfl <;> rfl)
  suffices h : ∀ i, ∀ u ∈ rcellsFrom i ns, u.oneCell' = true from h 0
  induction ns with
  | nil => simp [rcellsFrom]
  | cons p r ih =>
    intro i u hu
    simp only [rcellsFrom, List.mem_append] at hu
    rcases hu with hu | hu
    · exact key _ _ u hu
    · exact ih _ u hu
/-- The document's graph behind the pointer to block q, its parts by name. -/
structure RefC (w : World) (q : Nat) (g : Gr) (an : Option Addr) (cn : Nat) : Prop where
  blk : w.heap[q]? = some (.cells #[.bool g.fold, .bool g.hash, .slice an g.nodes.length cn] 103 (0, 0))
  nodes : w.ownsRow 0 124 3 (.slice an g.nodes.length cn) g.nodes.length (rcells g.nodes)
  wf : WF g.nodes
def RefAt (w : World) (q : Nat) (R : List Nat) (g : Gr) : Prop := ∃ an cn, R = q :: ft an ∧ RefC w q g an cn
variable {w w' : World} {q : Nat} {R S : List Nat} {g : Gr}
theorem RefC.kept {an : Option Addr} {cn : Nat} (h : RefC w q g an cn) (hk : Kept S w w') (hd : ∀ b ∈ q :: ft an, b ∉ S) : RefC w' q g an cn :=
  ⟨hk.heap h.blk (hd _ (by simp)), own_kept h.nodes hk (fun b hb => hd b (by simp [hb])), h.wf⟩
theorem RefAt.kept (h : RefAt w q R g) (hk : Kept S w w') (hd : ∀ b ∈ R, b ∉ S) : RefAt w' q R g := by
  obtain ⟨an, cn, rfl, hc⟩ := h
  exact ⟨an, cn, rfl, hc.kept hk hd⟩
theorem RefAt.kept0 (h : RefAt w q R g) (hk : Kept [] w w') : RefAt w' q R g := h.kept hk (by simp)
theorem RefAt.wf (h : RefAt w q R g) : WF g.nodes := by obtain ⟨an, cn, rfl, hc⟩ := h; exact hc.wf
theorem RefAt.lt (h : RefAt w q R g) : ∀ b ∈ R, b < w.heap.size := by
  obtain ⟨an, cn, rfl, hc⟩ := h
  intro b hb
  rcases List.mem_cons.1 hb with h1 | h1
  · subst h1; exact blk_lt hc.blk
  · exact owns_lt hc.nodes b h1
/-- a row of structs of three cells: its address, its cells -/
theorem own3_form {e : TypeId} {a : Option Addr} {n c size : Nat} {xs : List Value} (h : w.ownsRow 0 e size (.slice a n c) n xs) (hn : 0 < n) : ∃ gb, a = some ⟨gb, 0, none⟩ ∧ ∀ j u, xs[j]? = some u → w.cell? ⟨gb, j, none⟩ = some u := by
  rcases h.2 with ⟨hv, h0⟩ | ⟨g, cap', cur, hv, hb, hg, rest⟩
  · omega
  · have hc := World.ownsRow.cells h (g := g) (by rw [hv]; rfl)
    injection hv with hv
    refine ⟨g, hv, fun j u hu => ?_⟩
    have := hc j u hu
    have e : (⟨g, 0, none⟩ : Addr).add j = ⟨g, j, none⟩ := by unfold Addr.add; split <;> simp_all
    rw [e] at this
    exact this
theorem rnode_info : (Tryz.prog.info? 124).map (fun i => (i.zero, i.size, i.bytes)) = some (some (.agg #[.bool false, .int .u32 0, .int .u32 0]), 3, 12) := by kernel_rfl
end Go.Proofs.YtdmcdhkkbkgnbaaGreat

namespace Go.Proofs.YtdmcdhkkbkgnbaaGreat
open Go.ChangeShapes Go.WideShapes Go.ChangeAt Go.RowKit
open Go.Maps (Keyed)
open Go.WideMaps
set_option linter.unusedVariables false

variable {w w' : World} {q : Nat} {R S : List Nat} {g : Gr}
theorem ref_new (o1 o2 : Bool) (w : World) : Calls Tryz.prog 89 #[.bool o1, .bool o2] w fun e w' => ∃ q R, e = .returned (.pointer (some ⟨q, 0, none⟩)) ∧ RefAt w' q R { fold := o1, hash := o2, nodes := [(0, 0)] } ∧ Stepped w w' [] R := by
  have hmk : ∀ w, (Instr.makeSlice 101 (.int .i64 1) (.int .i64 1)).run Tryz.prog w = .ok (.slice (some ⟨w.heap.size, 0, none⟩) 1 1) (w.alloc (.cells #[.bool false, .int .u32 0, .int .u32 0] 124)) := fun _ => by kernel_rfl
  go_enter Tryz.func89, Tryz.ntmps89
  go_wp2
  go_ret
  have h1 : (w.alloc (.cells #[.bool false, .int .u32 0, .int .u32 0] 124)).heap[w.heap.size]? = some (.cells #[.bool false, .int .u32 0, .int .u32 0] 124 (0, 0)) := heap_alloc_new w _
  have h2 := heap_alloc_new (w.alloc (.cells #[.bool false, .int .u32 0, .int .u32 0] 124)) (.cells #[.bool o1, .bool o2, .slice (some ⟨w.heap.size, 0, none⟩) 1 1] 103)
  refine ⟨w.heap.size + 1, (w.heap.size + 1) :: ft (some ⟨w.heap.size, 0, none⟩), by simp [go_sem], ⟨some ⟨w.heap.size, 0, none⟩, 1, rfl, ⟨by simpa using h2, ?_, ⟨rfl, fun i a b h => ?_⟩⟩⟩, ?_⟩
  · refine ⟨rfl, .inr ⟨w.heap.size, 1, #[.bool false, .int .u32 0, .int .u32 0], rfl, Nat.zero_le _, ?_, Nat.le_refl _, by decide, rfl, rfl⟩⟩
    exact (Below.heap_alloc _ _ _ (by simp)).trans h1
  · cases i with
    | zero => simp at h; omega
    | succ i => simp at h
  · have := ((Stepped.refl w []).allocOwn (.cells #[.bool false, .int .u32 0, .int .u32 0] 124)).allocOwn (.cells #[.bool o1, .bool o2, .slice (some ⟨w.heap.size, 0, none⟩) 1 1] 103)
    simpa [ft] using this
theorem RefC.c0 {an : Option Addr} {cn : Nat} (h : RefC w q g an cn) : w.cell? ⟨q, 0, none⟩ = some (.bool g.fold) := blk_cell h.blk 0
theorem RefC.c1 {an : Option Addr} {cn : Nat} (h : RefC w q g an cn) : w.cell? ⟨q, 1, none⟩ = some (.bool g.hash) := blk_cell h.blk 1
theorem RefC.c2 {an : Option Addr} {cn : Nat} (h : RefC w q g an cn) : w.cell? ⟨q, 2, none⟩ = some (.slice an g.nodes.length cn) := blk_cell h.blk 2
/-- a node's three cells -/
theorem rnode_cells {gb k : Nat} {ns : List (Nat × Nat)} {p : Nat × Nat} (h : ∀ j u, (rcells ns)[j]? = some u → w.cell? ⟨gb, j, none⟩ = some u) (hp : ns[k]? = some p) :
    w.cell? ⟨gb, k * 3, none⟩ = some (.bool (decide (p.1 / 2 = k) && decide (k ≠ 0))) ∧ (p.1 / 2 ≠ k → w.cell? ⟨gb, k * 3 + 1, none⟩ = some (.int .u32 (p.1 : Int)) ∧ w.cell? ⟨gb, k * 3 + 2, none⟩ = some (.int .u32 (p.2 : Int))) := by
  have h0 := rcells_get hp 0 (by omega)
  have h1 := rcells_get hp 1 (by omega)
  have h2 := rcells_get hp 2 (by omega)
  rw [show 3 * k = k * 3 by omega] at h0 h1 h2
  unfold rnV at h0 h1 h2
  refine ⟨?_, fun hne => ⟨?_, ?_⟩⟩
  · by_cases hp2 : p.1 / 2 = k
    · rw [if_pos hp2] at h0
      rw [show k * 3 = k * 3 + 0 from rfl, h _ _ h0]
      simp [hp2]
    · rw [if_neg hp2] at h0
      rw [show k * 3 = k * 3 + 0 from rfl, h _ _ h0]
      simp [hp2]
  · rw [if_neg hne] at h1
    exact h _ _ h1
  · rw [if_neg hne] at h2
    exact h _ _ h2
set_option maxHeartbeats 800000 in
theorem ref_inputs (hg : RefAt w q R g) (hm : g.nodes.length ≤ 100000) : Calls Tryz.prog 108 #[.pointer (some ⟨q, 0, none⟩)] w fun e w' => e = .returned (.int .i64 ((ins g.nodes).length : Nat)) ∧ w = w' := by
  have hp := hg.wf.pos
  obtain ⟨an, cn, rfl, hc⟩ := hg
  have c2 := hc.c2
  obtain ⟨gb, rfl, hcell⟩ := own3_form hc.nodes (by omega)
  have HC := Lib.hid hcell
  have hz := hc.wf.zero
  have HZ := Lib.hid (show (ins (g.nodes.take 1)).length = 0 by
    obtain ⟨p, r, hr⟩ : ∃ p r, g.nodes = p :: r := by cases h : g.nodes with | nil => rw [h] at hp; simp at hp | cons p r => exact ⟨p, r, rfl⟩
    rw [hr]; simp [ins, insFrom])
  clear hc hcell hz
  go_enter Tryz.func108, Tryz.ntmps108
  go_wp2
  go_loop [3, 4] (fun n i => ∃ k : Nat, 1 ≤ k ∧ k ≤ g.nodes.length ∧ i = .int .i64 k ∧ n = .int .i64 ((ins (g.nodes.take k)).length : Nat)) (fun _ i => g.nodes.length - (intOf i).toNat)
  case atStart => exact ⟨1, by omega, by omega, rfl, by rw [HZ.out]; rfl⟩
  case round =>
    obtain ⟨k, hk1, hk, rfl, rfl⟩ := hrel
    by_cases hlt : k < g.nodes.length
    · obtain ⟨p, hpk⟩ : ∃ p, g.nodes[k]? = some p := ⟨_, List.getElem?_eq_getElem hlt⟩
      have hcb := (rnode_cells HC.out hpk).1
      have hle := insFrom_length 0 (g.nodes.take k)
      have hle2 : (ins (g.nodes.take k)).length ≤ k := by unfold ins; rw [List.length_take] at hle; omega
      have HI := Lib.hid (ins_take hpk (by omega))
      clear hle
      by_cases hin : p.1 / 2 = k
      · have hb : (decide (p.1 / 2 = k) && decide (k ≠ 0)) = true := by simp [hin]; omega
        rw [hb] at hcb
        rw [if_pos hin] at HI
        clear hin hb hpk
        generalize (ins (g.nodes.take k)).length = m at *
        go_wp2
        go_round
        case rel => exact ⟨k + 1, by omega, by omega, by go_num, by rw [HI.out]; go_num⟩
        case measure => simp [intOf]; omega
      · have hb : (decide (p.1 / 2 = k) && decide (k ≠ 0)) = false := by simp [hin]
        rw [hb] at hcb
        rw [if_neg hin] at HI
        clear hin hb hpk
        generalize (ins (g.nodes.take k)).length = m at *
        go_wp2
        go_round
        case rel => exact ⟨k + 1, by omega, by omega, by go_num, by rw [HI.out]; rfl⟩
        case measure => simp [intOf]; omega
    · have HE := Lib.hid (show g.nodes.take k = g.nodes from List.take_of_length_le (by omega))
      rw [HE.out]
      go_wp2
      go_ret
      exact ⟨rfl, rfl⟩
theorem ref_gates (hg : RefAt w q R g) (hm : g.nodes.length ≤ 100000) : Calls Tryz.prog 55 #[.pointer (some ⟨q, 0, none⟩)] w fun e w' => e = .returned (.int .i64 (gatesN g)) ∧ ∃ k, w' = w.drewN k := by
  have hile : (ins g.nodes).length ≤ g.nodes.length := insFrom_length 0 g.nodes
  have hp := hg.wf.pos
  have HI := Lib.hid (fun n => ref_inputs (hg.kept0 ((Kept.refl [] w).drewN n)) hm)
  obtain ⟨an, cn, rfl, hc⟩ := hg
  have c2 := hc.c2
  have HD := Lib.hid (show gatesN g = (g.nodes.length : Int) - 1 - ((ins g.nodes).length : Nat) from rfl)
  clear hc
  generalize (ins g.nodes).length = m at *
  go_enter Tryz.func55, Tryz.ntmps55
  go_wp2
  go_quiet ((go_at_call 108; with_reducible exact q_same (HI.out _)))
  go_wp2
  go_ret
  exact ⟨by rw [HD.out]; rfl, _, rfl⟩
end Go.Proofs.YtdmcdhkkbkgnbaaGreat
