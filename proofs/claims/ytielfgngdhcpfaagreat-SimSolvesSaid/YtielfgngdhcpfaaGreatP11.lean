/-
  slices.Clone of ints; Graph.Inputs.
  Package sim, plain: what a cycle does.
  Eval answers each node's word.
-/
import Derived.Test.YtielfgngdhcpfaaGreatP04
import Derived.Test.YtielfgngdhcpfaaGreatP10
import Derived.Test.YtielfgngdhcpfaaGreatP03
import Derived.Outline
namespace Go.Proofs.YtielfgngdhcpfaaGreat

theorem insFrom_append (i : Nat) (l m : List (Nat × Nat)) : insFrom i (l ++ m) = insFrom i l ++ insFrom (i + l.length) m := by
  induction l generalizing i with
  | nil => simp [insFrom]
  | cons p l ih =>
    have h : i + 1 + l.length = i + (l.length + 1) := by omega
    simp only [List.cons_append, insFrom, ih, List.length_cons, h]
    split <;> simp
theorem insFrom_sorted (i : Nat) (l : List (Nat × Nat)) : (insFrom i l).Pairwise (· < ·) := by
  induction l generalizing i with
  | nil => exact List.Pairwise.nil
  | cons p l ih =>
    simp only [insFrom]
    split
    · exact List.pairwise_cons.2 ⟨fun x hx => by have := insFrom_lt _ _ x hx; omega, ih _⟩
    · exact ih _
theorem ins_at {ns : List (Nat × Nat)} {k a b : Nat} (h : ns[k]? = some (a, b)) (hg : a / 2 = k) (h0 : k ≠ 0) : (ins ns)[(ins (ns.take k)).length]? = some k := by
  have hk := (List.getElem?_eq_some_iff.1 h).1
  have e : ns = ns.take k ++ (a, b) :: ns.drop (k + 1) := by
    have h1 := List.take_append_drop k ns
    rw [List.drop_eq_getElem_cons hk] at h1
    rw [(List.getElem?_eq_some_iff.1 h).2] at h1
    exact h1.symm
  have hl : (ns.take k).length = k := by rw [List.length_take]; omega
  have e2 : ins ns = ins (ns.take k) ++ insFrom k ((a, b) :: ns.drop (k + 1)) := by
    conv => lhs; rw [e]
    unfold ins
    rw [insFrom_append, hl, Nat.zero_add]
  rw [e2, List.getElem?_append_right (Nat.le_refl _), Nat.sub_self]
  simp only [insFrom]
  rw [if_pos (by simp [inAt, hg, h0])]
  rfl
theorem ins_zero (ns : List (Nat × Nat)) : 0 ∉ ins ns := by
  suffices h : ∀ i, 0 ∉ insFrom i ns from h 0
  induction ns with
  | nil => intro i; simp [insFrom]
  | cons p l ih =>
    intro i
    simp only [insFrom]
    split
    · rename_i h
      simp only [Bool.and_eq_true, decide_eq_true_eq] at h
      simp only [List.mem_cons, not_or]
      exact ⟨fun e => h.2 e.symm, ih _⟩
    · exact ih _
theorem setTo_get (is vs ws : List Nat) (hs : is.Pairwise (· < ·)) (hlt : ∀ x ∈ is, x < ws.length) (k : Nat) (hk : k ≤ is.length) :
    (∀ j x, j < k → is[j]? = some x → (setTo is vs ws k)[x]? = some (vs.getD j 0)) ∧ ∀ x, (∀ j, j < k → is[j]? ≠ some x) → (setTo is vs ws k)[x]? = ws[x]? := by
  induction k with
  | zero => exact ⟨fun j x h => absurd h (by omega), fun x _ => rfl⟩
  | succ k ih =>
    obtain ⟨h1, h2⟩ := ih (by omega)
    have hkl : k < is.length := by omega
    have e : is.getD k 0 = is[k] := by simp [List.getD_eq_getElem?_getD, hkl]
    have hin := hlt _ (List.getElem_mem hkl)
    simp only [setTo]
    rw [e]
    refine ⟨fun j x hj hx => ?_, fun x hx => ?_⟩
    · by_cases hjk : j = k
      · subst hjk
        rw [List.getElem?_eq_getElem hkl] at hx
        injection hx with hx
        rw [← hx, List.getElem?_set_self (by rw [setTo_length]; exact hin)]
      · have hjl : j < is.length := by omega
        have hlt' : is[j] < is[k] := List.pairwise_iff_getElem.1 hs j k hjl hkl (by omega)
        have hx' := hx
        rw [List.getElem?_eq_getElem hjl] at hx
        injection hx with hx
        rw [List.getElem?_set_ne (by omega)]
        exact h1 j x (by omega) hx'
    · have hne : is[k] ≠ x := fun h => hx k (by omega) (by rw [List.getElem?_eq_getElem hkl, h])
      rw [List.getElem?_set_ne hne]
      exact h2 x fun j hj => hx j (by omega)
theorem nodeW_eq {A B : List Nat} {n : Nat} (h : n ≠ 0 → A[n]? = B[n]?) : nodeW A n = nodeW B n := by
  unfold nodeW
  split
  · rfl
  · rename_i h0
    rw [List.getD_eq_getElem?_getD, List.getD_eq_getElem?_getD, h h0]
theorem evalG_val {g : Gr} (hw : WF g.nodes) (inp : List Nat) : evalG g inp = valL inp g.nodes := by
  have hsort := insFrom_sorted 0 g.nodes
  have hset := setTo_get (ins g.nodes) inp (List.replicate g.nodes.length 0) hsort (fun x hx => by rw [List.length_replicate]; exact ins_lt _ x hx) (ins g.nodes).length (Nat.le_refl _)
  unfold evalG
  generalize hws : setTo (ins g.nodes) inp (List.replicate g.nodes.length 0) (ins g.nodes).length = ws0 at *
  have hlen : ws0.length = g.nodes.length := by rw [← hws, setTo_length, List.length_replicate]
  have main : ∀ k, k ≤ g.nodes.length → ∀ j, (evalTo g ws0 k)[j]? = if j < k then (valL inp g.nodes)[j]? else ws0[j]? := by
    intro k
    induction k with
    | zero => intro _ j; simp [evalTo]
    | succ k ih =>
      intro hk j
      have ih := ih (by omega)
      obtain ⟨⟨a, b⟩, hab⟩ : ∃ q, g.nodes[k]? = some q := ⟨_, List.getElem?_eq_getElem (by omega)⟩
      have stay : (gateA g k).2.2 = false → ws0[k]? = (valL inp g.nodes)[k]? → (evalTo g ws0 (k + 1))[j]? = if j < k + 1 then (valL inp g.nodes)[j]? else ws0[j]? := by
        intro hf hv
        simp only [evalTo]
        rw [if_neg (by rw [hf]; simp), ih j]
        by_cases hj : j = k
        · subst hj; rw [if_neg (by omega), if_pos (by omega)]; exact hv
        · by_cases hjk : j < k
          · rw [if_pos hjk, if_pos (by omega)]
          · rw [if_neg hjk, if_neg (by omega)]
      by_cases h0 : k = 0
      · subst h0
        refine stay (by unfold gateA; rw [if_neg (by omega)]) ?_
        rw [zero_val hw, hset.2 0 fun i _ h => ins_zero _ (List.mem_of_getElem? h)]
        simp [hw.pos]
      · have hga : gateA g k = if a / 2 = k then (0, 0, false) else (a, b, true) := by unfold gateA; rw [if_pos (by omega)]; simp [hab]
        by_cases hin : a / 2 = k
        · refine stay (by rw [hga, if_pos hin]) ?_
          have hat := ins_at hab hin h0
          rw [in_val hab hin h0, hset.1 _ _ (List.getElem?_eq_some_iff.1 hat).1 hat]
        · rw [if_neg hin] at hga
          simp only [evalTo]
          rw [hga]
          simp only [if_true]
          have hlt : a / 2 < k ∧ b / 2 < k := by
            rcases hw.each k a b hab with h1 | h1
            · omega
            · omega
          have ea : wd (evalTo g ws0 k) a = wd (valL inp g.nodes) a := by
            unfold wd
            rw [nodeW_eq (B := valL inp g.nodes) fun _ => by rw [ih, if_pos hlt.1]]
          have eb : wd (evalTo g ws0 k) b = wd (valL inp g.nodes) b := by
            unfold wd
            rw [nodeW_eq (B := valL inp g.nodes) fun _ => by rw [ih, if_pos hlt.2]]
          rw [ea, eb]
          by_cases hj : j = k
          · subst hj
            rw [List.getElem?_set_self (by rw [evalTo_length, hlen]; omega), if_pos (by omega), gate_val hw hab hin]
          · rw [List.getElem?_set_ne (by omega), ih]
            by_cases hjk : j < k
            · rw [if_pos hjk, if_pos (by omega)]
            · rw [if_neg hjk, if_neg (by omega)]
  apply List.ext_getElem?
  intro j
  rw [main _ (Nat.le_refl _)]
  split
  · rfl
  · rename_i hj
    rw [List.getElem?_eq_none (by omega), List.getElem?_eq_none (by rw [valL_length]; omega)]
end Go.Proofs.YtielfgngdhcpfaaGreat

namespace Go.Proofs.YtielfgngdhcpfaaGreat
set_option linter.unusedVariables false

/-- words for inputs, by the literals that they drive -/
def asg (is : List Nat) (ps : List (Nat × Nat)) : List Nat := is.map fun i => ((ps.find? fun p => decide (p.1 = 2 * i)).map (·.2)).getD 0
theorem asg_length (is : List Nat) (ps : List (Nat × Nat)) : (asg is ps).length = is.length := by simp [asg]
theorem asg_nil (is : List Nat) : asg is [] = List.replicate is.length 0 := by
  unfold asg
  induction is with
  | nil => rfl
  | cons i is ih => simp [List.replicate_succ] at ih ⊢; exact ih
theorem asg_snoc {is : List Nat} {ps : List (Nat × Nat)} {i v k : Nat} (hn : is.Nodup) (hk : is[k]? = some i) (hx : ∀ p ∈ ps, p.1 ≠ 2 * i) : asg is (ps ++ [(2 * i, v)]) = (asg is ps).set k v := by
  obtain ⟨hkl, hki⟩ := List.getElem?_eq_some_iff.1 hk
  apply List.ext_getElem (by simp [asg])
  intro j h1 h2
  have hj : j < is.length := by simpa [asg] using h1
  rw [List.getElem_set]
  simp only [asg, List.getElem_map, List.find?_append]
  by_cases hjk : k = j
  · subst hjk
    rw [if_pos rfl]
    have hno : ps.find? (fun p => decide (p.1 = 2 * is[k])) = none := by
      rw [List.find?_eq_none]
      intro p hp
      have := hx p hp
      simp; omega
    rw [hno, hki]
    simp
  · rw [if_neg hjk]
    have hne : is[j] ≠ i := fun e => by
      have := (List.nodup_iff_pairwise_ne.1 hn)
      rcases Nat.lt_or_gt_of_ne hjk with h | h
      · exact List.pairwise_iff_getElem.1 this k j hkl hj h (by rw [hki, e])
      · exact List.pairwise_iff_getElem.1 this j k hj hkl h (by rw [hki, e])
    cases hf : ps.find? (fun p => decide (p.1 = 2 * is[j])) with
    | some p => simp
    | none =>
      have : ¬ (2 * i = 2 * is[j]) := by omega
      simp [this]
theorem asg_words {is : List Nat} {ps : List (Nat × Nat)} (h : ∀ p ∈ ps, p.2 < 18446744073709551616) : Words (asg is ps) := by
  intro x hx
  unfold asg at hx
  obtain ⟨i, _, rfl⟩ := List.mem_map.1 hx
  cases hf : ps.find? (fun p => decide (p.1 = 2 * i)) with
  | none => simp
  | some p => simpa using h p (List.mem_of_find?_eq_some hf)
def pairsB (l : List Bus) (rows : List (List Nat)) : List (Nat × Nat) := (l.zip rows).flatMap fun p => p.1.lits.zip p.2
def pairsN (N : Nt) (inp : List (List Nat)) (regs : List Nat) : List (Nat × Nat) := pairsB N.inb inp ++ (N.regs.map (·.q)).zip regs
/-- words fit the buses -/
def fitsN (l : List Bus) (rows : List (List Nat)) : Prop := rows.length = l.length ∧ ∀ k (h1 : k < l.length) (h2 : k < rows.length), rows[k].length = l[k].lits.length
def inpN (N : Nt) (inp : List (List Nat)) (regs : List Nat) : List Nat := asg (ins N.g.nodes) (pairsN N inp regs)
def wordsN (N : Nt) (inp : List (List Nat)) (regs : List Nat) : List Nat := evalG N.g (inpN N inp regs)
def nextR (ws : List Nat) (r : Rg) (was : Nat) : Nat := (wd ws r.d &&& wd ws r.en) ||| (was &&& noW (wd ws r.en))
def nextN (N : Nt) (ws regs : List Nat) : List Nat := (N.regs.zip regs).map fun p => nextR ws p.1 p.2
def outN (N : Nt) (ws : List Nat) : List (List Nat) := N.outb.map fun b => b.lits.map (wd ws)
def resetN (N : Nt) : List Nat := N.regs.map fun r => if r.init then 18446744073709551615 else 0
theorem resetN_words (N : Nt) : Words (resetN N) := by
  intro x hx
  unfold resetN at hx
  obtain ⟨r, _, rfl⟩ := List.mem_map.1 hx
  split <;> omega
theorem pairs_words {N : Nt} {inp : List (List Nat)} {regs : List Nat} (h1 : ∀ r ∈ inp, Words r) (h2 : Words regs) : ∀ p ∈ pairsN N inp regs, p.2 < 18446744073709551616 := by
  intro p hp
  unfold pairsN pairsB at hp
  rcases List.mem_append.1 hp with hp | hp
  · obtain ⟨q, hq, hp⟩ := List.mem_flatMap.1 hp
    exact h1 _ (List.of_mem_zip hq).2 _ (List.of_mem_zip hp).2
  · exact h2 _ (List.of_mem_zip hp).2
theorem inpN_words {N : Nt} {inp : List (List Nat)} {regs : List Nat} (h1 : ∀ r ∈ inp, Words r) (h2 : Words regs) : Words (inpN N inp regs) := asg_words (pairs_words h1 h2)
theorem wordsN_words {N : Nt} {inp : List (List Nat)} {regs : List Nat} (h1 : ∀ r ∈ inp, Words r) (h2 : Words regs) : Words (wordsN N inp regs) := evalG_words _ (inpN_words h1 h2)
theorem nextR_lt {ws : List Nat} (hw : Words ws) (r : Rg) {was : Nat} (h : was < 18446744073709551616) : nextR ws r was < 18446744073709551616 := by
  unfold nextR
  exact Nat.or_lt_two_pow (n := 64) (and_lt (wd_lt hw _)) (and_lt h)
theorem nextN_words {N : Nt} {ws regs : List Nat} (hw : Words ws) (h : Words regs) : Words (nextN N ws regs) := by
  intro x hx
  unfold nextN at hx
  obtain ⟨p, hp, rfl⟩ := List.mem_map.1 hx
  exact nextR_lt hw _ (h _ (List.of_mem_zip hp).2)
theorem nextN_length {N : Nt} {ws regs : List Nat} (h : regs.length = N.regs.length) : (nextN N ws regs).length = N.regs.length := by simp [nextN, h]
theorem ins_nodup (ns : List (Nat × Nat)) : (ins ns).Nodup := by
  rw [List.nodup_iff_pairwise_ne]
  exact (insFrom_sorted 0 ns).imp fun h e => by omega
end Go.Proofs.YtielfgngdhcpfaaGreat

namespace Go.Proofs.YtielfgngdhcpfaaGreat
open Go.ChangeShapes Go.WideShapes Go.ChangeAt Go.RowKit
open Go.Maps (Keyed)
open Go.WideMaps
set_option linter.unusedVariables false

variable {w w' : World} {p : Nat} {F S : List Nat} {g : Gr}
/-- append(own, src...) -/
theorem wpList_cat {P : Program} {ops : Array Oper} {rest : List Oper} {o : Oper} {act : Act} {Q : Exit → Act → World → Prop} {s x : Operand} {t e : TypeId} {z : Value} {size bytes : Nat} {a : Option Addr} {n cap : Nat} {xs news : List Value} {ad : Addr} {m c : Nat}
    (hgd : o.guard = none) (ho : o.op = .call { callee := .builtin .append, args := #[s, x], argTypes := #[t, t] })
    (ht : P.underlying t = some (.slice e)) (hinfo : (P.info? e).map (fun i => (i.zero, i.size, i.bytes)) = some (some z, size, bytes)) (hz : z.cells.size = size) (hsz : 0 < size)
    (hs : act.eval s = .slice a n cap) (hx : act.eval x = .slice (some ad) m c)
    (hown : w.ownsRow 0 e size (.slice a n cap) n xs) (hl : news.length = m * size) (hnews : ∀ j u, news[j]? = some u → w.cell? (ad.add j) = some u) (hu : ∀ u ∈ news, u.oneCell' = true) (h63 : n + m ≤ maxLen) (hbytes : (n + m) * bytes ≤ 140737488355328)
    (h : ∀ a' cap' w', w'.ownsRow 0 e size (.slice a' (n + m) cap') (n + m) (xs ++ news) → Stepped w w' (ft a) (ft a') → wpList P ops Q rest (act.put o.dst (.slice a' (n + m) cap')) w') : wpList P ops Q (o :: rest) act w := by
  obtain ⟨i, hi, hiz, hisz, hib⟩ := info3 hinfo
  refine wpList_append_own_at w hgd s x t ho 0 e i z size bytes ht hi hiz hisz hib hz hsz (.slice a n cap) n xs hs hown ad m c news hx hl hnews hu h63 hbytes (Nat.zero_le _) ?_
  intro v' w' hown' hg _ hat
  have hform : ∃ a' cap', v' = .slice a' (n + m) cap' := by
    rcases hown'.2 with ⟨hv, h0⟩ | ⟨g, c, cur, hv, _⟩
    · exact ⟨none, 0, by rw [hv, h0]⟩
    · exact ⟨_, _, hv⟩
  obtain ⟨a', cap', rfl⟩ := hform
  refine h a' cap' w' hown' ⟨⟨hg.os, hg.tape, hg.output, hg.size, fun k hk hn => ?_⟩, fun b hb => ?_⟩
  · exact hg.block k hk fun e' => hn ((ownBlock_ft _ _ _ _).1 e'.symm)
  · have hb' := (ownBlock_ft a' (n + m) cap' b).2 hb
    rcases hat with h1 | h1
    · rw [h1] at hb'
      exact .inl ((ownBlock_ft _ _ _ _).1 hb')
    · rw [h1] at hb'
      simp at hb'
      exact .inr (by omega)
theorem own_empty (w : World) (e : TypeId) (size : Nat) : (w.alloc (.cells #[] e)).ownsRow 0 e size (.slice (some ⟨w.heap.size, 0, none⟩) 0 0) 0 [] :=
  ⟨by simp, .inr ⟨w.heap.size, 0, #[], rfl, Nat.zero_le _, heap_alloc_new w _, Nat.le_refl _, by decide, by simp, by simp⟩⟩
theorem nats_one (K : IntKind) (l : List Nat) : ∀ u ∈ nats K l, u.oneCell' = true := by
  intro u hu
  obtain ⟨n, _, rfl⟩ := List.mem_map.1 hu
  rfl
def NewInts (l : List Nat) (n : Nat) (w : World) (e : Ending) (w' : World) : Prop := ∃ a c, e = .returned (.slice a n c) ∧ Own w' 3 a n c (nats .i64 l) ∧ Stepped w w' [] (ft a)
theorem clone_ints (a : Option Addr) (c n : Nat) (l : List Nat) (w : World) (ho : Own w 3 a n c (nats .i64 l)) (hm : n ≤ 1000000) :
    Calls Tryz.prog 80 #[.slice a n c] w (NewInts l n w) := by
  have q := fun (w : World) (a : Option Addr) (n c : Nat) => Lib.run_eql_slice_nil (P := Tryz.prog) w 100 3 a n c 0 0 Tryz.underlying100
  have hl := ho.len
  rw [nats_length] at hl
  have HO := Lib.hid ho; clear ho
  have HL := Lib.hid hl; clear hl
  cases a with
  | none =>
    have h0 : n = 0 := by
      rcases HO.out.2 with ⟨hv, h0⟩ | ⟨g, cap', cur, hv, _⟩
      · exact h0
      · cases hv
    subst h0
    have hl0 : l = [] := List.eq_nil_of_length_eq_zero HL.out
    subst hl0
    go_enter Tryz.func80, Tryz.ntmps80
    go_wp2
    go_ret
    exact ⟨none, 0, rfl, Own.nil _ _, .refl _ _⟩
  | some ad =>
    have HC := Lib.hid (show ∀ j u, (nats .i64 l)[j]? = some u → (w.alloc (.cells #[] 3)).cell? (ad.add j) = some u from fun j u hu => by
      obtain ⟨hj, rfl⟩ := List.getElem?_eq_some_iff.1 hu
      obtain ⟨ad', h1, h2⟩ := HO.out.cell hj
      injection h1 with h1
      subst h1
      exact cell_alloc h2 _)
    go_enter Tryz.func80, Tryz.ntmps80
    go_wp2_with (at_builtin; refine wpList_cat (news := nats .i64 l) rfl rfl Tryz.underlying100 int_info rfl (by omega) rfl rfl (own_empty w 3 1) (by rw [nats_length, HL.out, Nat.mul_one]) HC.out (nats_one _ _) (by unfold maxLen; omega) (by omega) ?_; intro a' c' w1 hown1 hst1)
    go_ret
    refine ⟨a', c', by simp [go_sem], by simpa [Own] using hown1, ?_⟩
    have := (((Stepped.refl w []).allocOwn (.cells #[] 3))).trans (by simpa [ft] using hst1)
    exact this

theorem aig_inputs (hg : GraphAt w p F g) (hm : g.nodes.length ≤ 1000000) : Calls Tryz.prog 37 #[.pointer (some ⟨p, 0, none⟩)] w (NewInts (ins g.nodes) (ins g.nodes).length w) := by
  have hile : (ins g.nodes).length ≤ g.nodes.length := insFrom_length 0 g.nodes
  obtain ⟨an, cn, ai, ci, m, f, rfl, hc⟩ := hg
  have c3 := hc.c3
  have c4 := hc.c4
  have HI := Lib.hid hc.inputs
  clear hc
  go_enter Tryz.func37, Tryz.ntmps37
  go_wp2_with (first
    | (go_at_call 53; refine (aig_none p m _ (by assumption)).mono ?_; rintro e w' ⟨rfl, rfl⟩)
    | (go_at_call 80; refine (clone_ints _ _ _ _ _ HI.out (by omega)).mono ?_; rintro e w' ⟨a', c', rfl, ho, hst⟩))
  go_ret
  exact ⟨a', c', rfl, ho, hst⟩
end Go.Proofs.YtielfgngdhcpfaaGreat
