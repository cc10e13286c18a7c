/-
  NetWell, plain: steps keep all inputs driven; a step that fails leaves all; a key deleted from a map.
-/
import Derived.Test.YthiccfaldahmhaaNetSame2
import Derived.Test.YthiccfaldahmhaaAigSemEval
import Derived.Test.YthiccfaldahmhaaNetU
import Derived.Test.YthiccfaldahmhaaNetOpen
import Derived.Maps.OwnSet
namespace Go.Proofs.Ythiccfaldahmhaa
open Go.ChangeShapes Go.WideShapes Go.ChangeAt Go.RowKit
open Go.Maps (Keyed)
open Go.WideMaps
set_option linter.unusedVariables false
set_option linter.unusedSimpArgs false

def Full (N : Nt) : Prop := ∀ i ∈ ins N.g.nodes, 2 * i ∈ drivenN N
theorem fullB_of {N : Nt} (h : Full N) : fullB N = true := by
  unfold fullB
  rw [List.all_eq_true]
  intro i hi
  rw [List.contains_iff_mem]
  exact h i hi
theorem full_start (s : ByteArray) (a b : Bool) : Full (newN s a b) := by
  intro i hi
  simp [newN, ins, insFrom, inAt] at hi
theorem full_graph {N : Nt} {g' : Gr} (h : Full N) (hi : ins g'.nodes = ins N.g.nodes) : Full { N with g := g' } := fun i h1 => h i (by rw [← hi]; exact h1)
theorem full_does {k : Nat} {N : Nt} (hf : NtFine k N) (h : Full N) (s : NStp) (h8 : s.what ≠ 8) : Full (doesN N s).1 := by
  unfold doesN
  split
  · unfold addIn
    split
    · exact h
    · split
      · exact h
      · have hd : drivenN { N with g := inputsG N.g s.n.toNat, inb := N.inb ++ [⟨s.name, rowFrom N.g.nodes.length s.n.toNat⟩] } = N.inb.flatMap (·.lits) ++ rowFrom N.g.nodes.length s.n.toNat ++ N.regs.map (·.q) := by simp [drivenN]
        intro i hi
        rw [hd]
        have hi : i ∈ ins (inputsG N.g s.n.toNat).nodes := hi
        rw [inputsG_ins hf.ok.wf] at hi
        rcases List.mem_append.1 hi with hi | hi
        · have := h i hi
          unfold drivenN at this
          simp only [List.mem_append] at this ⊢
          rcases this with h1 | h1
          · exact .inl (.inl h1)
          · exact .inr h1
        · obtain ⟨j, hj, rfl⟩ := List.mem_map.1 hi
          exact List.mem_append_left _ (List.mem_append_right _ (rowFrom_mem.2 ⟨j, List.mem_range.1 hj, rfl⟩))
  · split
    · intro i hi
      have hd : drivenN (addReg N (decide (s.n % 2 ≠ 0))).1 = drivenN N ++ [2 * N.g.nodes.length] := by simp [drivenN, addReg]
      rw [hd]
      have hi : i ∈ ins (inputG N.g).1.nodes := hi
      rw [(inputG_spec hf.ok.wf).2.2] at hi
      rcases List.mem_append.1 hi with hi | hi
      · exact List.mem_append_left _ (h i hi)
      · simp at hi
        subst hi
        exact List.mem_append_right _ (by simp)
    · split
      · unfold setReg
        split
        · exact h
        · split
          · exact h
          · rename_i j hj hg
            have hd : drivenN { N with regs := putR N.regs j s.b s.c } = drivenN N := by simp [drivenN, putR_q]
            intro i hi
            show 2 * i ∈ drivenN { N with regs := putR N.regs j s.b s.c }
            rw [hd]
            exact h i hi
      · split
        · unfold addOut
          split
          · exact h
          · split
            · exact h
            · exact h
        · have hgate : ∀ two : Gr → Nat → Nat → Gr × Nat, (∀ g a b, WF g.nodes → g.ok a → g.ok b → WF (two g a b).1.nodes ∧ Ext 3 g (two g a b).1 ∧ (two g a b).1.ok (two g a b).2) → Full (gateN N two s.b s.c).1 := fun two h2 => by
            unfold gateN
            split
            · exact h
            · rename_i hg
              have hl := gone_false.1 (by simpa using hg)
              exact full_graph h (h2 N.g s.b s.c hf.ok.wf (hl _ (by simp)) (hl _ (by simp))).2.1.ins
          split
          · exact hgate _ two_and
          · split
            · exact hgate _ two_xor
            · exact h
theorem did_err {N : Nt} {s : NStp} (he : (doesN N s).2.2 ≠ 0) : (doesN N s).1 = N := by
  unfold doesN at *
  repeat' split at he
  all_goals first
    | exact absurd rfl he
    | skip
  all_goals (repeat (first | rw [if_pos (by assumption)] | rw [if_neg (by assumption)]))
  · unfold addIn at *
    repeat' split at he
    all_goals (repeat (first | rw [if_pos (by assumption)] | rw [if_neg (by assumption)]))
    all_goals first
      | rfl
      | exact absurd rfl he
  · unfold setReg at *
    cases hf : findR N.regs s.a with
    | none => rfl
    | some k =>
      rw [hf] at he
      simp only at he ⊢
      split at he
      · rename_i hg; rw [if_pos hg]
      · exact absurd rfl he
  · unfold addOut at *
    repeat' split at he
    all_goals (repeat (first | rw [if_pos (by assumption)] | rw [if_neg (by assumption)]))
    all_goals first
      | rfl
      | exact absurd rfl he
  all_goals (
    unfold gateN at *
    split at he
    · rw [if_pos (by assumption)]
    · exact absurd rfl he)
theorem find_before {rs : List BR} (hd : (rs.map fun r => r.b.name).Pairwise (· ≠ ·)) {j : Nat} (hj : j < rs.length) : findRow (rs.take j) rs[j].b.name = none := by
  have : findP (rs.take j) rs[j].b.name = none := by
    unfold findP
    rw [List.findIdx?_eq_none_iff]
    intro x hx
    obtain ⟨i, hi, rfl⟩ := List.getElem_of_mem hx
    have hi' : i < j := by rw [List.length_take] at hi; omega
    have := List.pairwise_iff_getElem.1 hd i j (by simp; omega) (by simpa using hj) hi'
    simpa using this
  unfold findRow
  rw [this]
  rfl
/-! ### A key deleted -/
section
variable {P : Program} {k : TypeId} {w w' : World} {m c : Nat} {f : Value → Option Value}
noncomputable def del (f : Value → Option Value) (k : Value) : Value → Option Value := fun x => @ite _ (x = k) (Classical.propDecidable _) none (f x)
theorem del_same (f : Value → Option Value) (k : Value) : del f k k = none := by simp [del]
theorem del_other (f : Value → Option Value) {k x : Value} (h : x ≠ k) : del f k x = f x := by simp [del, h]
theorem MapG.delete (h : MapG w P k m f c) (K : Keyed P k) {t e : TypeId} (ht : P.underlying t = some (.map k e)) {key : Value} {kl : Lit} (hkey : keyOf P k key = some kl) (ty : TypeId) :
    ∃ w' c', (Builtin.delete_ #[t, k] ty #[.map (some m), key]).run P w = .ok (.tuple #[]) w' ∧ MapG w' P k m (del f key) c' ∧ Kept [m] w w' := by
  have hlt := h.lt
  obtain ⟨es0, clock0, hb0, hks, hun, hf⟩ := h.v
  obtain ⟨es, clock, hb, h1, h2, h3⟩ := h.more
  rw [hb] at hb0
  injection hb0 with hb0
  injection hb0 with e1 e2
  subst e1 e2
  rcases K.find w hkey es.toList hks with ⟨g1, g2⟩ | ⟨j, e0, g1, g2, g3⟩
  · have hn : del f key = f := by
      funext x
      by_cases hx : x = key
      · subst hx
        rw [del_same]
        cases hfk : f x with
        | none => rfl
        | some v =>
          obtain ⟨e, he, hke, _⟩ := (hf x v).1 hfk
          exact absurd hke (g2 e he)
      · exact del_other f hx
    refine ⟨ChangeMaps.setBlock w m (.map es clock), c, ?_, ?_, setBlock_kept _ _ _⟩
    · simp [Builtin.delete_, run_underlying ht, MapKept.run_getObj_map hb, K.check w _ hkey, g1, MapKept.run_setObj_map _ hb, Result.andThen, ChangeMaps.setBlock]
    · rw [hn]
      exact ⟨⟨es, clock, setBlock_same _ _ _ hlt, hks, hun, hf⟩, es, clock, setBlock_same _ _ _ hlt, h1, h2, h3⟩
  · have hjl : j < es.toList.length := (List.getElem?_eq_some_iff.1 g2).1
    have hjs : j < es.size := by simpa using hjl
    have hsub : (es.eraseIdxIfInBounds j).toList = es.toList.eraseIdx j := by
      unfold Array.eraseIdxIfInBounds
      rw [dif_pos hjs]
      simp
    have hj : es.toList[j] = e0 := by rw [List.getElem?_eq_getElem hjl] at g2; injection g2
    have sub := List.eraseIdx_sublist es.toList j
    refine ⟨ChangeMaps.setBlock w m (.map (es.eraseIdxIfInBounds j) clock), (es.eraseIdxIfInBounds j).size, ?_, ⟨⟨es.eraseIdxIfInBounds j, clock, setBlock_same _ _ _ hlt, ?_, ?_, ?_⟩, es.eraseIdxIfInBounds j, clock, setBlock_same _ _ _ hlt, ?_, ?_, rfl⟩, setBlock_kept _ _ _⟩
    · simp [Builtin.delete_, run_underlying ht, MapKept.run_getObj_map hb, K.check w _ hkey, g1, MapKept.run_setObj_map _ hb, Result.andThen, ChangeMaps.setBlock]
    · intro x hx
      rw [hsub] at hx
      exact hks x (sub.subset hx)
    · rw [hsub]
      exact hun.sublist sub
    · intro key' v
      rw [hsub]
      have hmem : ∀ x, x ∈ es.toList.eraseIdx j ↔ x ∈ es.toList ∧ x.key ≠ key := by
        intro x
        rw [List.mem_eraseIdx_iff_getElem]
        constructor
        · rintro ⟨i, hi, hne, rfl⟩
          refine ⟨List.getElem_mem hi, fun hk => ?_⟩
          rcases Nat.lt_or_gt_of_ne hne with h4 | h4
          · exact List.pairwise_iff_getElem.1 hun i j hi hjl h4 (by rw [hk, hj, g3])
          · exact List.pairwise_iff_getElem.1 hun j i hjl hi h4 (by rw [hk, hj, g3])
        · rintro ⟨hx, hk⟩
          obtain ⟨i, hi, rfl⟩ := List.getElem_of_mem hx
          refine ⟨i, hi, ?_, rfl⟩
          rintro rfl
          exact hk (by rw [hj, g3])
      by_cases hx : key' = key
      · subst hx
        rw [del_same]
        constructor
        · intro h; cases h
        · rintro ⟨e, he, hk, _⟩
          exact absurd hk ((hmem e).1 he).2
      · rw [del_other f hx, hf]
        constructor
        · rintro ⟨e, he, hk, hv⟩
          exact ⟨e, (hmem e).2 ⟨he, by rw [hk]; exact hx⟩, hk, hv⟩
        · rintro ⟨e, he, hk, hv⟩
          exact ⟨e, ((hmem e).1 he).1, hk, hv⟩
    · intro x hx
      rw [hsub] at hx
      exact h1 x (sub.subset hx)
    · rw [hsub]
      exact h2.sublist (sub.map _)
theorem MapG.empty (h : MapG w P k m f c) (hf : ∀ x, f x = none) : c = 0 := by
  obtain ⟨es0, clock0, hb0, hks, hun, hg⟩ := h.v
  obtain ⟨es, clock, hb, h1, h2, h3⟩ := h.more
  rw [hb] at hb0
  injection hb0 with hb0
  injection hb0 with e1 e2
  subst e1 e2
  rw [← h3]
  rcases Nat.eq_zero_or_pos es.size with h | h
  · exact h
  · have he : es[0] ∈ es.toList := by simp
    have := (hg es[0].key es[0].val).2 ⟨_, he, rfl, rfl⟩
    rw [hf] at this
    cases this
variable {ops : Array Oper} {rest : List Oper} {o : Oper} {a : Act} {Q : Exit → Act → World → Prop}
theorem wpList_delG {mo x : Operand} {t e : TypeId} {key : Value} (hg : o.guard = none) (hop : o.op = Op.call { callee := Callee.builtin Builtin.delete, args := #[mo, x], argTypes := #[t, k] }) (K : Keyed P k) (ht : P.underlying t = some (.map k e))
    (hm : a.eval mo = .map (some m)) (hx : a.eval x = key) (hown : MapG w P k m f c) (hkey : ∃ kl, keyOf P k key = some kl)
    (hK : ∀ w' c', MapG w' P k m (del f key) c' → Kept [m] w w' → wpList P ops Q rest (a.put o.dst (.tuple #[])) w') : wpList P ops Q (o :: rest) a w := by
  refine wpList_plain hg fun K' hK' => ?_
  obtain ⟨kl, hkl⟩ := hkey
  obtain ⟨w', c', hrun, r1, r2⟩ := hown.delete K ht hkl o.type
  unfold Oper.wp
  simp [execOp, hop, resolve, invoke, builtin, hm, hx, hrun, Result.andThen]
  exact hK' _ _ (hK w' c' r1 r2)
end
theorem litF_del (φ : Nat → Option Int) (x : Nat) : del (litF φ) (.int .u32 (x : Int)) = litF (fun y => if y = x then none else φ y) := by
  funext v
  by_cases h : v = .int .u32 (x : Int)
  · subst h
    rw [del_same, litF_get]
    simp
  · rw [del_other _ h]
    unfold litF
    split
    · rename_i y
      split
      · rename_i hy
        show _ = Option.map (Value.int .i64) (if y.toNat = x then none else φ y.toNat)
        rw [if_neg]
        intro e
        apply h
        congr 1
        omega
      · rfl
    · rfl
def leftF (D l : List Nat) : Nat → Option Int := fun x => if x ∈ D ∧ x ∉ l then some 1 else none
theorem leftF_nil (D : List Nat) : openF D = leftF D [] := by funext x; simp [openF, leftF]
theorem leftF_snoc (D l : List Nat) (a : Nat) : (fun y => if y = a then none else leftF D l y) = leftF D (l ++ [a]) := by
  funext y
  unfold leftF
  by_cases h1 : y = a <;> by_cases h2 : y ∈ l <;> by_cases h3 : y ∈ D <;> simp [h1, h2, h3]
theorem ins_nodup2 (ns : List (Nat × Nat)) {i : Nat} (hi : i < (ins ns).length) : 2 * (ins ns)[i] ∉ ((ins ns).take i).map (2 * ·) := by
  intro h
  obtain ⟨y, hy, e⟩ := List.mem_map.1 h
  obtain ⟨j, hj, rfl⟩ := List.getElem_of_mem hy
  rw [List.length_take] at hj
  rw [List.getElem_take] at e
  have := List.pairwise_iff_getElem.1 (insFrom_sorted 0 ns) j i (by show j < (ins ns).length; omega) hi (by omega)
  have e2 : (ins ns)[j] < (ins ns)[i] := this
  omega
theorem leftF_all {N : Nt} {k : Nat} (h : NtFine k N) : ∀ x, litF (leftF (drivenN N) ((ins N.g.nodes).map (2 * ·))) x = none := by
  intro x
  cases hx : litF (leftF (drivenN N) ((ins N.g.nodes).map (2 * ·))) x with
  | none => rfl
  | some v =>
    obtain ⟨y, z, rfl, rfl, hy⟩ := litF_inv hx
    unfold leftF at hy
    split at hy
    · rename_i hh
      obtain ⟨i, h1, h2⟩ := h.di y hh.1
      exact absurd (List.mem_map.2 ⟨i, h1, h2.symm⟩) hh.2
    · cases hy
end Go.Proofs.Ythiccfaldahmhaa
