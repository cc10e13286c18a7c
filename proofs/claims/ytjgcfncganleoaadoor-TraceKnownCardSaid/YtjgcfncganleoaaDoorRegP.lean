/-
  A region that draws its order: what each operation yields, told by a property that new memory leaves alone: every order at once.
-/
import Derived.Test.YtjgcfncganleoaaDoorGen
import Derived.Orders
namespace Go.Proofs.YtjgcfncganleoaaDoor
open Go.ChangeShapes Go.WideShapes Go.ChangeAt Go.RowKit
set_option linter.unusedVariables false
set_option linter.unusedSimpArgs false

def left (n : Nat) (listed : Array Bool) : Nat := (List.range n).countP fun i => !listed.getD i true
theorem left_set {n i : Nat} {listed : Array Bool} (hi : i < n) (hs : listed.size = n) (h : listed.getD i true = false) : left n (listed.setIfInBounds i true) < left n listed := by
  unfold left
  have key : ∀ (l : List Nat), i ∈ l → (∀ j ∈ l, j < n) → l.countP (fun j => !(listed.setIfInBounds i true).getD j true) < l.countP (fun j => !listed.getD j true) := by
    intro l
    have le : ∀ l : List Nat, l.countP (fun j => !(listed.setIfInBounds i true).getD j true) ≤ l.countP (fun j => !listed.getD j true) := fun l => List.countP_mono_left fun j _ hj => by
      by_cases e : j = i
      · subst e
        rw [h]; rfl
      · simpa [Array.getD_eq_getD_getElem?, Array.getElem?_setIfInBounds, Ne.symm e] using hj
    induction l with
    | nil => simp
    | cons j l ih =>
      intro hm hl
      rw [List.countP_cons, List.countP_cons]
      by_cases e : j = i
      · subst e
        have h1 : (listed.setIfInBounds j true).getD j true = true := by
          simp [Array.getD_eq_getD_getElem?, Array.getElem?_setIfInBounds]
          split <;> rfl
        have := le l
        rw [h1, h]
        simp only [Bool.not_true, Bool.not_false, Bool.false_eq_true, if_false, if_true]
        omega
      · have hm2 : i ∈ l := by
          rcases List.mem_cons.1 hm with h | h
          · exact absurd h.symm e
          · exact h
        have h1 := ih hm2 (fun q hq => hl q (List.mem_cons_of_mem _ hq))
        have h2 : (listed.setIfInBounds i true).getD j true = listed.getD j true := by
          simp [Array.getD_eq_getD_getElem?, Array.getElem?_setIfInBounds, Ne.symm e]
        rw [h2]
        omega
  exact key _ (List.mem_range.2 hi) (fun j hj => List.mem_range.1 hj)
theorem mem_ready {md : Region.Mode} {ops : Array Oper} {listed : Array Bool} {i : Nat} (h : i ∈ Region.ready md ops listed) : ∃ o, ops[i]? = some o ∧ i < ops.size ∧ listed.getD i true = false ∧ ∀ e ∈ o.after, Region.binds md e = true → listed.getD e.on false = true := by
  unfold Region.ready at h
  rw [List.mem_filter, List.mem_range, Bool.and_eq_true] at h
  obtain ⟨h1, h2, h3⟩ := h
  cases ho : ops[i]? with
  | none => rw [ho] at h3; simp at h3
  | some o =>
    refine ⟨o, rfl, h1, by simpa using h2, fun e he hb => ?_⟩
    rw [ho] at h3
    simp only [Option.map_some, Option.getD_some] at h3
    rw [Array.all_eq_true_iff_forall_mem] at h3
    have := h3 e he
    rw [hb] at this
    simpa using this
/-- an invariant that every operation that may run keeps -/
theorem wpAny_inv {P : Program} {md : Region.Mode} {ops : Array Oper} {Q : Exit → Act → World → Prop} (I : Array Bool → Act → World → Prop) (hI : ∀ listed a w, I listed a w → listed.size = ops.size)
    (hstep : ∀ listed a w i, I listed a w → i ∈ Region.ready md ops listed → wpOp P ops Q i (fun a' w' => I (listed.setIfInBounds i true) a' w') a w)
    (hend : ∀ listed a w, I listed a w → Region.ready md ops listed = [] → Q .normal a w) : ∀ fuel listed a w, left ops.size listed ≤ fuel → I listed a w → wpAny P md ops Q fuel listed a w := by
  have mono : ∀ (i : Nat) (K K' : Act → World → Prop) (a : Act) (w : World), (∀ a w, K a w → K' a w) → wpOp P ops Q i K a w → wpOp P ops Q i K' a w := fun i K K' a w h => wpOp_mono h
  intro fuel
  induction fuel with
  | zero =>
    intro listed a w hf hi
    have hr : Region.ready md ops listed = [] := by
      rw [List.eq_nil_iff_forall_not_mem]
      intro i hm
      obtain ⟨o, _, h1, h2, _⟩ := mem_ready hm
      have := left_set h1 (hI _ _ _ hi) h2
      omega
    exact ⟨hr, hend _ _ _ hi hr⟩
  | succ fuel ih =>
    intro listed a w hf hi
    refine ⟨fun hr => hend _ _ _ hi hr, fun i hm => ?_⟩
    obtain ⟨o, _, h1, h2, _⟩ := mem_ready hm
    have hlt := left_set h1 (hI _ _ _ hi) h2
    exact mono i _ _ a w (fun a' w' h => ih _ _ _ (by omega) h) (hstep _ _ _ _ hi hm)
def dstOf (ops : Array Oper) (i : Nat) : Nat := ((ops[i]?).bind (·.dst)).getD 0
def wfOps (ops : Array Oper) (n : Nat) : Bool :=
  ((List.range ops.size).all fun i => match ops[i]? with | some o => o.guard.isNone && ((match o.dst with | some d => decide (d < n) | none => false) && o.after.all fun e => decide (e.on < i)) | none => true) && decide (((List.range ops.size).map (dstOf ops)).Nodup)
theorem put_eval {a : Act} {d s : Nat} {v : Value} (hd : d < a.tmps.size) : (a.put (some d) v).eval (.tmp s) = if s = d then v else a.eval (.tmp s) := by
  simp only [Act.put, Act.eval, Array.getD_eq_getD_getElem?, Array.getElem?_setIfInBounds]
  by_cases h : d = s
  · subst h; simp [hd]
  · simp [h, Ne.symm h]
theorem put_size (a : Act) (d : Option Nat) (v : Value) : (a.put d v).tmps.size = a.tmps.size := by
  cases d <;> simp [Act.put]
def putAll (ops : Array Oper) (vs : Nat → Value) (l : List Nat) (a : Act) : Act := l.foldl (fun a i => a.put (some (dstOf ops i)) (vs i)) a
theorem putAll_size (ops : Array Oper) (vs : Nat → Value) (l : List Nat) (a : Act) : (putAll ops vs l a).tmps.size = a.tmps.size ∧ (putAll ops vs l a).defers = a.defers := by
  induction l generalizing a with
  | nil => exact ⟨rfl, rfl⟩
  | cons i l ih =>
    have := ih (a.put (some (dstOf ops i)) (vs i))
    rw [put_size] at this
    exact ⟨this.1, this.2⟩
theorem putAll_eval (ops : Array Oper) (b : Act) (l : List Nat) (a : Act) (hd : ∀ i ∈ l, dstOf ops i < a.tmps.size) (s : Nat) : (putAll ops (fun i => b.eval (.tmp (dstOf ops i))) l a).eval (.tmp s) = if s ∈ l.map (dstOf ops) then b.eval (.tmp s) else a.eval (.tmp s) := by
  induction l generalizing a with
  | nil => simp [putAll]
  | cons i l ih =>
    have h1 := ih (a.put (some (dstOf ops i)) (b.eval (.tmp (dstOf ops i)))) (fun j hj => by rw [put_size]; exact hd j (List.mem_cons_of_mem _ hj))
    show (putAll ops _ l (a.put (some (dstOf ops i)) _)).eval (.tmp s) = _
    rw [h1, put_eval (hd i (by simp))]
    by_cases e : s = dstOf ops i
    · subst e; simp
    · simp [e]
theorem act_ext {a b : Act} (hs : a.tmps.size = b.tmps.size) (hd : a.defers = b.defers) (h : ∀ s, a.eval (.tmp s) = b.eval (.tmp s)) : a = b := by
  obtain ⟨t1, d1⟩ := a
  obtain ⟨t2, d2⟩ := b
  simp only at hs hd
  subst hd
  congr 1
  apply Array.ext hs
  intro i h1 h2
  have := h i
  simpa [Act.eval, h1, h2] using this
structure RegInv (ops : Array Oper) (a0 : Act) (w0 : World) (Pr : Nat → Value → World → Prop) (listed : Array Bool) (a : Act) (w : World) : Prop where
  kept : Kept [] w0 w
  size : listed.size = ops.size
  tmps : a.tmps.size = a0.tmps.size
  defers : a.defers = a0.defers
  other : ∀ s, s ∉ (List.range ops.size).map (dstOf ops) → a.eval (.tmp s) = a0.eval (.tmp s)
  done : ∀ i, i < ops.size → listed.getD i true = true → Pr i (a.eval (.tmp (dstOf ops i))) w
/-- EVERY ORDER AT ONCE: each operation yields what its property says, in whatever world the others left -/
theorem wp_region_props {id : Nat} {Q : Exit → Act → World → Prop} {a0 : Act} {w0 : World} {ops : Array Oper} (hwf : wfOps ops a0.tmps.size = true) (Pr : Nat → Value → World → Prop) (hstab : ∀ i v w w', Pr i v w → Kept [] w w' → Pr i v w')
    (hop : ∀ i o, ops[i]? = some o → ∀ (a : Act) (w : World), Kept [] w0 w → (∀ s, s ∉ (List.range ops.size).map (dstOf ops) → a.eval (.tmp s) = a0.eval (.tmp s)) → (∀ e ∈ o.after, Region.binds .any e = true → Pr e.on (a.eval (.tmp (dstOf ops e.on))) w) → ∀ K : Act → World → Prop, (∀ v w', Pr i v w' → Kept [] w w' → K (a.put o.dst v) w') → o.wp Tryd.prog a w K Q)
    (hend : ∀ (vs : Nat → Value) (w' : World), Kept [] w0 w' → (∀ i, i < ops.size → Pr i (vs i) w') → Q .normal (putAll ops vs (List.range ops.size) a0) w') :
    (Code.region id ops true).wp Tryd.prog Q a0 w0 := by
  unfold wfOps at hwf
  rw [Bool.and_eq_true, List.all_eq_true, decide_eq_true_eq] at hwf
  obtain ⟨hall, hnd⟩ := hwf
  have hwfi : ∀ i o, ops[i]? = some o → o.guard = none ∧ o.dst = some (dstOf ops i) ∧ dstOf ops i < a0.tmps.size ∧ ∀ e ∈ o.after, e.on < i := fun i o ho => by
    have hi : i < ops.size := (Array.getElem?_eq_some_iff.1 ho).1
    have h := hall i (List.mem_range.2 hi)
    rw [ho] at h
    simp only [Bool.and_eq_true] at h
    obtain ⟨h1, h2, h3⟩ := h
    have hd : dstOf ops i = o.dst.getD 0 := by unfold dstOf; rw [ho]; rfl
    cases hdst : o.dst with
    | none => rw [hdst] at h2; simp at h2
    | some d =>
      rw [hdst] at h2 hd
      simp only [Option.getD_some] at hd
      rw [Array.all_eq_true_iff_forall_mem] at h3
      exact ⟨by simpa using h1, by rw [hd], by rw [hd]; simpa using h2, fun e he => by simpa using h3 e he⟩
  refine wp_region_any (by kernel_rfl) (wpAny_inv (RegInv ops a0 w0 Pr) (fun _ _ _ h => h.size) (fun listed a w i hI hm => ?_) (fun listed a w hI hr => ?_) _ _ _ _ ?_ ?_)
  · obtain ⟨o, ho, hi, hli, haf⟩ := mem_ready hm
    obtain ⟨g1, g2, g3, g4⟩ := hwfi i o ho
    unfold wpOp
    rw [ho]
    simp only
    rw [if_pos (by simp [Region.wanted, g1])]
    refine .inl (hop i o ho a w hI.kept hI.other (fun e he hb => ?_) _ (fun v w' hv hk => ?_))
    · have h1 := haf e he hb
      have h2 : e.on < ops.size := Nat.lt_trans (g4 e he) hi
      refine hI.done e.on h2 ?_
      have h3 : e.on < listed.size := by rw [hI.size]; exact h2
      simpa [Array.getD_eq_getD_getElem?, h3] using h1
    · rw [g2]
      have hds : dstOf ops i < a.tmps.size := by rw [hI.tmps]; exact g3
      refine ⟨hI.kept.trans hk, by simp [hI.size], by rw [put_size, hI.tmps], hI.defers, fun s hs => ?_, fun j hj hjl => ?_⟩
      · rw [put_eval hds, if_neg (fun e => hs (by rw [e]; exact List.mem_map_of_mem (List.mem_range.2 hi))), hI.other s hs]
      · rw [put_eval hds]
        by_cases e : j = i
        · subst e; rw [if_pos rfl]; exact hv
        · have hne : dstOf ops j ≠ dstOf ops i := fun h => e (by
            have h5 := List.pairwise_iff_getElem.1 hnd
            rcases Nat.lt_or_gt_of_ne e with h6 | h6
            · have h7 := h5 j i (by rw [List.length_map, List.length_range]; exact hj) (by rw [List.length_map, List.length_range]; exact hi) h6
              rw [List.getElem_map, List.getElem_map, List.getElem_range, List.getElem_range] at h7
              exact absurd h h7
            · have h7 := h5 i j (by rw [List.length_map, List.length_range]; exact hi) (by rw [List.length_map, List.length_range]; exact hj) h6
              rw [List.getElem_map, List.getElem_map, List.getElem_range, List.getElem_range] at h7
              exact absurd h.symm h7)
          rw [if_neg hne]
          refine hstab _ _ _ _ (hI.done j hj ?_) hk
          simpa [Array.getD_eq_getD_getElem?, Array.getElem?_setIfInBounds, Ne.symm e] using hjl
  · have hdone : ∀ i, i < ops.size → listed.getD i true = true := by
      intro i
      induction i using Nat.strongRecOn with
      | _ i ih =>
        intro hi
        cases hl : listed.getD i true with
        | true => rfl
        | false =>
          exfalso
          have hm : i ∈ Region.ready .any ops listed := by
            unfold Region.ready
            rw [List.mem_filter, List.mem_range, Bool.and_eq_true]
            refine ⟨hi, by rw [hl]; rfl, ?_⟩
            obtain ⟨g1, g2, g3, g4⟩ := hwfi i _ (Array.getElem?_eq_getElem hi)
            rw [Array.getElem?_eq_getElem hi]
            simp only [Option.map_some, Option.getD_some]
            rw [Array.all_eq_true_iff_forall_mem]
            intro e he
            have h1 := g4 e he
            have h2 := ih e.on h1 (by omega)
            have h3 : e.on < listed.size := by rw [hI.size]; omega
            rw [Bool.or_eq_true]
            right
            simpa [Array.getD_eq_getD_getElem?, h3] using h2
          rw [hr] at hm
          simp at hm
    have h := hend (fun i => a.eval (.tmp (dstOf ops i))) w hI.kept (fun i hi => hI.done i hi (hdone i hi))
    have hps := putAll_size ops (fun i => a.eval (.tmp (dstOf ops i))) (List.range ops.size) a0
    have he : putAll ops (fun i => a.eval (.tmp (dstOf ops i))) (List.range ops.size) a0 = a := by
      refine act_ext (by rw [hps.1, hI.tmps]) (by rw [hps.2, hI.defers]) fun s => ?_
      rw [putAll_eval ops a _ a0 (fun i hi => (hwfi i _ (Array.getElem?_eq_getElem (List.mem_range.1 hi))).2.2.1)]
      split
      · rfl
      · rename_i hs; exact (hI.other s hs).symm
    rw [he] at h
    exact h
  · unfold left
    exact Nat.le_trans (List.countP_le_length ..) (by simp)
  · refine ⟨(Kept.refl [] w0).drew, by simp, rfl, rfl, fun s hs => rfl, fun i hi hl => ?_⟩
    exfalso
    simp [Array.getD_eq_getD_getElem?, hi] at hl
end Go.Proofs.YtjgcfncganleoaaDoor
