/-
  Package orreryref03: literals that are there; Raw. Two graphs side by side.
  Contracts of package cone: asks, Words, Depth.
  Contracts on known numbers; the chapter's rows (tells) of law 02.
  How deep nodes are. Plain mathematics.
  Eval answers each node's word.
-/
import Derived.Test.YtnjoklcddodfeaaGreatDoorP10
import Derived.Test.YtnjoklcddodfeaaGreatDoorP07
import Derived.Test.YtnjoklcddodfeaaGreatDoorP03
import Derived.Deep.RegionWith
import Derived.Deep.RegionHeld3
import Derived.Deep.RegionLaw
import Derived.Outline
import Derived.Test.YtnjoklcddodfeaaGreatDoorP09
namespace Go.Proofs.YtnjoklcddodfeaaGreatDoor

theorem insFrom_append (i : Nat) (l m : List (Nat × Nat)) : insFrom i (l ++ m) = insFrom i l ++ insFrom (i + l.length) m := by
  induction l generalizing i with
  | nil => simp [insFrom]
  | cons p l ih =>
    have h : i + 1 + l.length = i + (l.length + 1) := by omega
    simp only [List.cons_append, insFrom, ih, List.length_cons, h]
    split <;> simp
theorem insFrom_sorted (i : Nat) (l : List (Nat × Nat)) : (insFrom i l).Pairwise (· < ·) := by
  induction l generalizing i with
  | nil => exact List.Pairwise.nil
  | cons p l ih =>
    simp only [insFrom]
    split
    · exact List.pairwise_cons.2 ⟨fun x hx => by have := insFrom_lt _ _ x hx; omega, ih _⟩
    · exact ih _
theorem ins_at {ns : List (Nat × Nat)} {k a b : Nat} (h : ns[k]? = some (a, b)) (hg : a / 2 = k) (h0 : k ≠ 0) : (ins ns)[(ins (ns.take k)).length]? = some k := by
  have hk := (List.getElem?_eq_some_iff.1 h).1
  have e : ns = ns.take k ++ (a, b) :: ns.drop (k + 1) := by
    have h1 := List.take_append_drop k ns
    rw [List.drop_eq_getElem_cons hk] at h1
    rw [(List.getElem?_eq_some_iff.1 h).2] at h1
    exact h1.symm
  have hl : (ns.take k).length = k := by rw [List.length_take]; omega
  have e2 : ins ns = ins (ns.take k) ++ insFrom k ((a, b) :: ns.drop (k + 1)) := by
    conv => lhs; rw [e]
    unfold ins
    rw [insFrom_append, hl, Nat.zero_add]
  rw [e2, List.getElem?_append_right (Nat.le_refl _), Nat.sub_self]
  simp only [insFrom]
  rw [if_pos (by simp [inAt, hg, h0])]
  rfl
theorem ins_zero (ns : List (Nat × Nat)) : 0 ∉ ins ns := by
  suffices h : ∀ i, 0 ∉ insFrom i ns from h 0
  induction ns with
  | nil => intro i; simp [insFrom]
  | cons p l ih =>
    intro i
    simp only [insFrom]
    split
    · rename_i h
      simp only [Bool.and_eq_true, decide_eq_true_eq] at h
      simp only [List.mem_cons, not_or]
      exact ⟨fun e => h.2 e.symm, ih _⟩
    · exact ih _
theorem setTo_get (is vs ws : List Nat) (hs : is.Pairwise (· < ·)) (hlt : ∀ x ∈ is, x < ws.length) (k : Nat) (hk : k ≤ is.length) :
    (∀ j x, j < k → is[j]? = some x → (setTo is vs ws k)[x]? = some (vs.getD j 0)) ∧ ∀ x, (∀ j, j < k → is[j]? ≠ some x) → (setTo is vs ws k)[x]? = ws[x]? := by
  induction k with
  | zero => exact ⟨fun j x h => absurd h (by omega), fun x _ => rfl⟩
  | succ k ih =>
    obtain ⟨h1, h2⟩ := ih (by omega)
    have hkl : k < is.length := by omega
    have e : is.getD k 0 = is[k] := by simp [List.getD_eq_getElem?_getD, hkl]
    have hin := hlt _ (List.getElem_mem hkl)
    simp only [setTo]
    rw [e]
    refine ⟨fun j x hj hx => ?_, fun x hx => ?_⟩
    · by_cases hjk : j = k
      · subst hjk
        rw [List.getElem?_eq_getElem hkl] at hx
        injection hx with hx
        rw [← hx, List.getElem?_set_self (by rw [setTo_length]; exact hin)]
      · have hjl : j < is.length := by omega
        have hlt' : is[j] < is[k] := List.pairwise_iff_getElem.1 hs j k hjl hkl (by omega)
        have hx' := hx
        rw [List.getElem?_eq_getElem hjl] at hx
        injection hx with hx
        rw [List.getElem?_set_ne (by omega)]
        exact h1 j x (by omega) hx'
    · have hne : is[k] ≠ x := fun h => hx k (by omega) (by rw [List.getElem?_eq_getElem hkl, h])
      rw [List.getElem?_set_ne hne]
      exact h2 x fun j hj => hx j (by omega)
theorem nodeW_eq {A B : List Nat} {n : Nat} (h : n ≠ 0 → A[n]? = B[n]?) : nodeW A n = nodeW B n := by
  unfold nodeW
  split
  · rfl
  · rename_i h0
    rw [List.getD_eq_getElem?_getD, List.getD_eq_getElem?_getD, h h0]
theorem evalG_val {g : Gr} (hw : WF g.nodes) (inp : List Nat) : evalG g inp = valL inp g.nodes := by
  have hsort := insFrom_sorted 0 g.nodes
  have hset := setTo_get (ins g.nodes) inp (List.replicate g.nodes.length 0) hsort (fun x hx => by rw [List.length_replicate]; exact ins_lt _ x hx) (ins g.nodes).length (Nat.le_refl _)
  unfold evalG
  generalize hws : setTo (ins g.nodes) inp (List.replicate g.nodes.length 0) (ins g.nodes).length = ws0 at *
  have hlen : ws0.length = g.nodes.length := by rw [← hws, setTo_length, List.length_replicate]
  have main : ∀ k, k ≤ g.nodes.length → ∀ j, (evalTo g ws0 k)[j]? = if j < k then (valL inp g.nodes)[j]? else ws0[j]? := by
    intro k
    induction k with
    | zero => intro _ j; simp [evalTo]
    | succ k ih =>
      intro hk j
      have ih := ih (by omega)
      obtain ⟨⟨a, b⟩, hab⟩ : ∃ q, g.nodes[k]? = some q := ⟨_, List.getElem?_eq_getElem (by omega)⟩
      have stay : (gateA g k).2.2 = false → ws0[k]? = (valL inp g.nodes)[k]? → (evalTo g ws0 (k + 1))[j]? = if j < k + 1 then (valL inp g.nodes)[j]? else ws0[j]? := by
        intro hf hv
        simp only [evalTo]
        rw [if_neg (by rw [hf]; simp), ih j]
        by_cases hj : j = k
        · subst hj; rw [if_neg (by omega), if_pos (by omega)]; exact hv
        · by_cases hjk : j < k
          · rw [if_pos hjk, if_pos (by omega)]
          · rw [if_neg hjk, if_neg (by omega)]
      by_cases h0 : k = 0
      · subst h0
        refine stay (by unfold gateA; rw [if_neg (by omega)]) ?_
        rw [zero_val hw, hset.2 0 fun i _ h => ins_zero _ (List.mem_of_getElem? h)]
        simp [hw.pos]
      · have hga : gateA g k = if a / 2 = k then (0, 0, false) else (a, b, true) := by unfold gateA; rw [if_pos (by omega)]; simp [hab]
        by_cases hin : a / 2 = k
        · refine stay (by rw [hga, if_pos hin]) ?_
          have hat := ins_at hab hin h0
          rw [in_val hab hin h0, hset.1 _ _ (List.getElem?_eq_some_iff.1 hat).1 hat]
        · rw [if_neg hin] at hga
          simp only [evalTo]
          rw [hga]
          simp only [if_true]
          have hlt : a / 2 < k ∧ b / 2 < k := by
            rcases hw.each k a b hab with h1 | h1
            · omega
            · omega
          have ea : wd (evalTo g ws0 k) a = wd (valL inp g.nodes) a := by
            unfold wd
            rw [nodeW_eq (B := valL inp g.nodes) fun _ => by rw [ih, if_pos hlt.1]]
          have eb : wd (evalTo g ws0 k) b = wd (valL inp g.nodes) b := by
            unfold wd
            rw [nodeW_eq (B := valL inp g.nodes) fun _ => by rw [ih, if_pos hlt.2]]
          rw [ea, eb]
          by_cases hj : j = k
          · subst hj
            rw [List.getElem?_set_self (by rw [evalTo_length, hlen]; omega), if_pos (by omega), gate_val hw hab hin]
          · rw [List.getElem?_set_ne (by omega), ih]
            by_cases hjk : j < k
            · rw [if_pos hjk, if_pos (by omega)]
            · rw [if_neg hjk, if_neg (by omega)]
  apply List.ext_getElem?
  intro j
  rw [main _ (Nat.le_refl _)]
  split
  · rfl
  · rename_i hj
    rw [List.getElem?_eq_none (by omega), List.getElem?_eq_none (by rw [valL_length]; omega)]
end Go.Proofs.YtnjoklcddodfeaaGreatDoor

namespace Go.Proofs.YtnjoklcddodfeaaGreatDoor

/-- a literal's depth by its node's -/
def dl (D : List Nat) (l : Nat) : Nat := D.getD (l / 2) 0
def nodeD (ns : List (Nat × Nat)) (D : List Nat) (p : Nat × Nat) : Nat := if inAt ns.length p || decide (ns.length = 0) then 0 else 1 + max (dl D p.1) (dl D p.2)
def dpTo (ns : List (Nat × Nat)) : Nat → List Nat
  | 0 => []
  | k + 1 => dpTo ns k ++ [nodeD (ns.take k) (dpTo ns k) (ns.getD k (0, 0))]
def dpL (ns : List (Nat × Nat)) : List Nat := dpTo ns ns.length
theorem dpTo_length (ns : List (Nat × Nat)) (k : Nat) : (dpTo ns k).length = k := by
  induction k with
  | zero => rfl
  | succ k ih => simp [dpTo, ih]
theorem dpL_length (ns : List (Nat × Nat)) : (dpL ns).length = ns.length := dpTo_length _ _
theorem dpTo_pre (ns more : List (Nat × Nat)) (k : Nat) (h : k ≤ ns.length) : dpTo (ns ++ more) k = dpTo ns k := by
  induction k with
  | zero => rfl
  | succ k ih =>
    have e1 : (ns ++ more).take k = ns.take k := by rw [List.take_append_of_le_length (by omega)]
    have e2 : (ns ++ more).getD k (0, 0) = ns.getD k (0, 0) := by
      simp only [List.getD_eq_getElem?_getD]
      rw [List.getElem?_append_left (by omega)]
    simp only [dpTo]
    rw [ih (by omega), e1, e2]
theorem dpL_snoc (ns : List (Nat × Nat)) (p : Nat × Nat) : dpL (ns ++ [p]) = dpL ns ++ [nodeD ns (dpL ns) p] := by
  unfold dpL
  rw [List.length_append, List.length_singleton]
  simp only [dpTo]
  rw [dpTo_pre _ _ _ (Nat.le_refl _)]
  simp [List.getD_eq_getElem?_getD]
theorem dpTo_take (ns : List (Nat × Nat)) (k j : Nat) : ∃ t, dpTo ns (k + j) = dpTo ns k ++ t := by
  induction j with
  | zero => exact ⟨[], by simp⟩
  | succ j ih =>
    obtain ⟨t, ht⟩ := ih
    refine ⟨t ++ [nodeD (ns.take (k + j)) (dpTo ns (k + j)) (ns.getD (k + j) (0, 0))], ?_⟩
    show dpTo ns (k + j) ++ _ = _
    conv => lhs; rw [ht]
    rw [List.append_assoc]
    rfl
theorem dpL_append (ns more : List (Nat × Nat)) : ∃ t, dpL (ns ++ more) = dpL ns ++ t := by
  obtain ⟨t, ht⟩ := dpTo_take (ns ++ more) ns.length more.length
  refine ⟨t, ?_⟩
  unfold dpL
  rw [List.length_append, ht, dpTo_pre _ _ _ (Nat.le_refl _)]
theorem dl_append {D : List Nat} (t : List Nat) {l : Nat} (h : l / 2 < D.length) : dl (D ++ t) l = dl D l := by
  unfold dl
  simp only [List.getD_eq_getElem?_getD]
  rw [List.getElem?_append_left h]
theorem dpL_get (ns : List (Nat × Nat)) (k : Nat) (h : k < ns.length) : (dpL ns)[k]? = some (nodeD (ns.take k) (dpTo ns k) (ns.getD k (0, 0))) := by
  obtain ⟨t, ht⟩ := dpTo_take ns (k + 1) (ns.length - (k + 1))
  unfold dpL
  rw [show ns.length = k + 1 + (ns.length - (k + 1)) by omega, ht, List.getElem?_append_left (by rw [dpTo_length]; omega)]
  simp only [dpTo]
  rw [List.getElem?_append_right (by rw [dpTo_length]; omega), dpTo_length]
  simp
theorem dpL_pre (ns : List (Nat × Nat)) (k : Nat) (h : k ≤ ns.length) : ∃ t, dpL ns = dpTo ns k ++ t := by
  obtain ⟨t, ht⟩ := dpTo_take ns k (ns.length - k)
  refine ⟨t, ?_⟩
  unfold dpL
  rw [show ns.length = k + (ns.length - k) by omega, ht]
theorem dp_gate {ns : List (Nat × Nat)} (hw : WF ns) {k a b : Nat} (h : ns[k]? = some (a, b)) (hg : a / 2 ≠ k) (h0 : k ≠ 0) : (dpL ns)[k]? = some (1 + max (dl (dpL ns) a) (dl (dpL ns) b)) := by
  have hk := (List.getElem?_eq_some_iff.1 h).1
  rw [dpL_get _ _ hk]
  have e : ns.getD k (0, 0) = (a, b) := by rw [List.getD_eq_getElem?_getD, h]; rfl
  have hlt : a / 2 < k ∧ b / 2 < k := by
    rcases hw.each k a b h with h1 | h1
    · omega
    · omega
  obtain ⟨t, ht⟩ := dpL_pre ns k (by omega)
  have hl : (ns.take k).length = k := by rw [List.length_take]; omega
  rw [e, ht, dl_append t (by rw [dpTo_length]; exact hlt.1), dl_append t (by rw [dpTo_length]; exact hlt.2)]
  unfold nodeD
  rw [hl, if_neg (by simp [inAt, hg, h0])]
theorem dp_none {ns : List (Nat × Nat)} {k a b : Nat} (h : ns[k]? = some (a, b)) (hg : a / 2 = k ∨ k = 0) : (dpL ns)[k]? = some 0 := by
  have hk := (List.getElem?_eq_some_iff.1 h).1
  rw [dpL_get _ _ hk]
  have e : ns.getD k (0, 0) = (a, b) := by rw [List.getD_eq_getElem?_getD, h]; rfl
  have hl : (ns.take k).length = k := by rw [List.length_take]; omega
  rw [e]
  unfold nodeD
  rw [hl, if_pos (by rcases hg with hg | hg <;> simp [inAt, hg])]
theorem dp_le (ns : List (Nat × Nat)) (k : Nat) : ∀ x ∈ dpTo ns k, x ≤ k := by
  induction k with
  | zero => intro x hx; simp [dpTo] at hx
  | succ k ih =>
    intro x hx
    rcases List.mem_append.1 hx with h | h
    · have := ih x h; omega
    · simp only [List.mem_singleton] at h
      subst h
      have hd : ∀ l, dl (dpTo ns k) l ≤ k := fun l => by
        unfold dl
        rw [List.getD_eq_getElem?_getD]
        cases hj : (dpTo ns k)[l / 2]? with
        | none => simp
        | some v => simpa using ih v (List.mem_of_getElem? hj)
      unfold nodeD
      split
      · omega
      · have h1 := hd (ns.getD k (0, 0)).1
        have h2 := hd (ns.getD k (0, 0)).2
        omega
theorem dl_le (ns : List (Nat × Nat)) (l : Nat) : dl (dpL ns) l ≤ ns.length := by
  unfold dl
  rw [List.getD_eq_getElem?_getD]
  cases hj : (dpL ns)[l / 2]? with
  | none => simp
  | some v => simpa using dp_le ns ns.length v (List.mem_of_getElem? hj)

/-- as the code goes: a row of zeros, set from the lowest node on -/
def deepTo (g : Gr) : Nat → List Nat
  | 0 => List.replicate g.nodes.length 0
  | k + 1 => if (gateA g k).2.2 then (deepTo g k).set k (1 + max (dl (deepTo g k) (gateA g k).1) (dl (deepTo g k) (gateA g k).2.1)) else deepTo g k
theorem deepTo_length (g : Gr) (k : Nat) : (deepTo g k).length = g.nodes.length := by
  induction k with
  | zero => simp [deepTo]
  | succ k ih => unfold deepTo; split <;> simp [ih]
theorem dl_eq {A B : List Nat} {l : Nat} (h : A[l / 2]? = B[l / 2]?) : dl A l = dl B l := by
  unfold dl
  rw [List.getD_eq_getElem?_getD, List.getD_eq_getElem?_getD, h]
theorem gateA_is {g : Gr} {k a b : Nat} (h : g.nodes[k]? = some (a, b)) : gateA g k = if a / 2 = k ∨ k = 0 then (0, 0, false) else (a, b, true) := by
  have hk := (List.getElem?_eq_some_iff.1 h).1
  unfold gateA
  by_cases h0 : k = 0
  · subst h0; rw [if_neg (by omega), if_pos (.inr rfl)]
  · rw [if_pos (by omega)]
    simp only [Int.toNat_natCast, h]
    by_cases h1 : a / 2 = k
    · rw [if_pos h1, if_pos (.inl h1)]
    · rw [if_neg h1, if_neg (by omega)]
theorem deepTo_val {g : Gr} (hw : WF g.nodes) : deepTo g g.nodes.length = dpL g.nodes := by
  have main : ∀ k, k ≤ g.nodes.length → ∀ j, (deepTo g k)[j]? = if j < k then (dpL g.nodes)[j]? else (List.replicate g.nodes.length 0)[j]? := by
    intro k
    induction k with
    | zero => intro _ j; simp [deepTo]
    | succ k ih =>
      intro hk j
      have ih := ih (by omega)
      obtain ⟨⟨a, b⟩, hab⟩ : ∃ q, g.nodes[k]? = some q := ⟨_, List.getElem?_eq_getElem (by omega)⟩
      have hga := gateA_is hab
      simp only [deepTo]
      rw [hga]
      by_cases hin : a / 2 = k ∨ k = 0
      · rw [if_pos hin, if_neg (by simp), ih j]
        by_cases hj : j = k
        · subst hj
          rw [if_neg (by omega), if_pos (by omega), dp_none hab hin]
          rw [List.getElem?_replicate, if_pos (by omega)]
        · by_cases hjk : j < k
          · rw [if_pos hjk, if_pos (by omega)]
          · rw [if_neg hjk, if_neg (by omega)]
      · rw [if_neg hin, if_pos rfl]
        have hlt : a / 2 < k ∧ b / 2 < k := by
          rcases hw.each k a b hab with h1 | h1
          · omega
          · omega
        rw [dl_eq (A := deepTo g k) (B := dpL g.nodes) (by rw [ih, if_pos hlt.1]), dl_eq (A := deepTo g k) (B := dpL g.nodes) (by rw [ih, if_pos hlt.2])]
        by_cases hj : j = k
        · subst hj
          rw [List.getElem?_set_self (by rw [deepTo_length]; omega), if_pos (by omega), dp_gate hw hab (by omega) (by omega)]
        · rw [List.getElem?_set_ne (by omega), ih]
          by_cases hjk : j < k
          · rw [if_pos hjk, if_pos (by omega)]
          · rw [if_neg hjk, if_neg (by omega)]
  apply List.ext_getElem?
  intro j
  rw [main _ (Nat.le_refl _)]
  split
  · rfl
  · rename_i hj
    rw [List.getElem?_eq_none (by simp; omega), List.getElem?_eq_none (by rw [dpL_length]; omega)]
/-- the greatest depth of literals, from the left -/
def mostD (D : List Nat) (l : List Nat) : Nat := l.foldl (fun m x => max m (dl D x)) 0
theorem mostD_snoc (D l : List Nat) (x : Nat) : mostD D (l ++ [x]) = max (mostD D l) (dl D x) := by simp [mostD]
theorem mostD_le (ns : List (Nat × Nat)) (l : List Nat) : mostD (dpL ns) l ≤ ns.length := by
  suffices h : ∀ (l : List Nat) (m : Nat), m ≤ ns.length → l.foldl (fun m x => max m (dl (dpL ns) x)) m ≤ ns.length from h l 0 (by omega)
  intro l
  induction l with
  | nil => intro m h; exact h
  | cons x l ih => intro m h; exact ih _ (Nat.max_le.2 ⟨h, dl_le ns x⟩)
end Go.Proofs.YtnjoklcddodfeaaGreatDoor

namespace Go.Proofs.YtnjoklcddodfeaaGreatDoor
open Go.ChangeShapes Go.WideShapes Go.ChangeAt Go.RowKit
set_option linter.unusedVariables false

theorem c_of (n : Int) (t : Bool) (v : Nat) (x : Int) (e : Int) (hx : x = v) (hv : ofV n t = v) (he : ofE n = e) (w : World) : Calls Tryz.prog 35 #[.int .i64 n, .bool t] w fun e' w' => e' = .returned (.tuple #[.int .u32 x, .int .i64 e]) ∧ w = w' := by
  subst hx hv he; exact lit_of n t w
theorem c_fold (a b : Nat) (x y : Int) (hx : x = a) (hy : y = b) (v : Nat) (u : Int) (t : Bool) (hu : u = v) (ha : a < 4294967296) (hb : b < 4294967296) (hv : foldV a b = v) (ht : foldB a b = t) (w : World) : Calls Tryz.prog 128 #[.int .u32 x, .int .u32 y] w fun e' w' => e' = .returned (.tuple #[.int .u32 u, .bool t]) ∧ w = w' := by
  subst hx hy hu hv ht; exact lit_fold a b w ha hb
theorem c_node (l : Nat) (x : Int) (hx : x = l) (v : Nat) (u : Int) (hu : u = v) (hl : l < 4294967296) (hv : l / 2 = v) (w : World) : Calls Tryz.prog 32 #[.int .u32 x] w fun e' w' => e' = .returned (.int .i64 u) ∧ w = w' := by
  subst hx hu hv; exact lit_node l w hl
theorem c_not (l : Nat) (x : Int) (hx : x = l) (v : Nat) (u : Int) (hu : u = v) (hl : l < 4294967296) (hv : ntL l = v) (w : World) : Calls Tryz.prog 25 #[.int .u32 x] w fun e' w' => e' = .returned (.int .u32 u) ∧ w = w' := by
  subst hx hu hv; exact lit_not l w hl

def allW : Nat := 18446744073709551615
theorem allW_ne : ((allW : Int) != 18446744073709551615) = false := by decide
def nwI (n : Int) : Int := bits .xor .u64 IntKind.u64.max n
theorem nwI_nat (v : Nat) (h : v < 18446744073709551616) : nwI (v : Int) = ((noW v : Nat) : Int) := notw_spell v h
@[go_sem high] theorem unary_not_u64 (n : Int) : Op.unary .xor (.int .u64 n) = pure (.int .u64 (nwI n)) := rfl
theorem of_node (x : Nat) (h : x < 33554432) : ofV ((x : Int) / 2) (decide (x % 2 = 1)) = x := by
  unfold ofV ifL ntL
  rw [if_pos (by omega), show ((x : Int) / 2).toNat = x / 2 by omega]
  by_cases hx : x % 2 = 1
  · simp [hx]; omega
  · simp [hx]; omega

end Go.Proofs.YtnjoklcddodfeaaGreatDoor

namespace Go.Proofs.YtnjoklcddodfeaaGreatDoor
open Go.ChangeShapes Go.WideShapes Go.ChangeAt Go.RowKit
open Go.Maps (Keyed)
open Go.WideMaps
set_option linter.unusedVariables false

variable {w w' : World} {p : Nat} {F S : List Nat} {g : Gr}

theorem kept_up {w wr w2 : World} {S : List Nat} (h : Kept [] w wr) (hk : Kept S wr w2) (hS : ∀ b ∈ S, w.heap.size ≤ b) : Kept [] w w2 :=
  ⟨hk.os.trans h.os, hk.tape.trans h.tape, hk.output.trans h.output, Nat.le_trans h.size hk.size, fun b hb _ => (hk.block b (Nat.lt_of_lt_of_le hb h.size) (fun hm => by have := hS b hm; omega)).trans (h.block b hb (by simp))⟩
theorem cell_other {w : World} {b i k : Nat} {v u : Value} (hne : i ≠ k) (h : w.cell? ⟨b, i, none⟩ = some v) : (w.setCell ⟨b, k, none⟩ u).drew.cell? ⟨b, i, none⟩ = some v :=
  (World.cell?_setCell_other w ⟨b, k, none⟩ ⟨b, i, none⟩ u (fun e => hne (by injection e with _ e _; exact e.symm))).trans h
def FirstPost (b : Bool) (w : World) (e : Ending) (w' : World) : Prop := ∃ r : Int, e = .returned (.int .i64 r) ∧ decide (0 ≤ r) = b ∧ ∃ k, w' = w.drewN k
set_option maxHeartbeats 400000 in
set_option maxRecDepth 100000 in
/-- the first literal of which a closure with one captured value says yes -/
theorem index_any (fid : FuncId) (hF : ∀ xs w, (callFunc fid xs).run Tryz.prog w = .ok (Next.enter fid xs) w) (cap : Value) (P : Nat → Bool) (a : Option Addr) (c len : Nat) (l : List Nat) (w : World) (hl : l.length = len) (hlm : len ≤ 140737488351232) (hs : SlN w .u32 a l)
    (HC : ∀ x ∈ l, ∀ k, Calls Tryz.prog fid #[.int .u32 (x : Int), cap] (w.drewN k) fun e w' => e = .returned (.bool (P x)) ∧ ∃ m, w' = (w.drewN k).drewN m) :
    Calls Tryz.prog 114 #[.slice a len c, .func (.func fid) #[] #[cap]] w (FirstPost (l.any P) w) := by
  have HL := Lib.hid hl; clear hl
  have HF := Lib.hid HC; clear HC
  go_enter Tryz.func114, Tryz.ntmps114
  go_wp2
  go_loopw [8] (fun i wr => ∃ k m : Nat, k ≤ len ∧ i = .int .i64 k ∧ wr = w.drewN m ∧ (l.take k).any P = false) (fun i _ => len - (intOf i).toNat)
  case atStart => exact ⟨0, 0, Nat.zero_le _, rfl, rfl, by simp⟩
  case round =>
    obtain ⟨k, m, hk, rfl, rfl, hall⟩ := hrel
    have HA := Lib.hid hall; clear hall
    by_cases hlt : k < len
    · have hkl : k < l.length := by have := HL.out; omega
      obtain ⟨ad, rfl, hc⟩ := hs k hkl
      have HX := Lib.hid (HF.out _ (List.getElem_mem hkl) m)
      have HM := Lib.hid (List.getElem_mem hkl)
      have HT := Lib.hid (take_snoc l k hkl)
      generalize l[k] = x at *
      cases hp : P x with
      | true =>
        have HB := Lib.hid (show l.any P = true by rw [List.any_eq_true]; exact ⟨x, HM.out, hp⟩)
        have HP := Lib.hid hp; clear hp
        go_wp2_with fail
        refine HX.out.mono ?_
        rw [HP.out]
        rintro e w1 ⟨rfl, k1, rfl⟩
        go_wp2_with fail
        go_ret
        exact ⟨(k : Int), rfl, by rw [HB.out]; simp, _, rfl⟩
      | false =>
        have HP := Lib.hid hp; clear hp
        go_wp2_with fail
        refine HX.out.mono ?_
        rw [HP.out]
        rintro e w1 ⟨rfl, k1, rfl⟩
        go_wp2_with fail
        go_roundw
        case rel =>
          refine ⟨k + 1, m + k1, by omega, by go_num, by first | rfl | rw [World.drewN_drewN], ?_⟩
          rw [HT.out, List.any_append, HA.out]
          simp [HP.out]
        case measure => simp [intOf]; omega
    · obtain rfl : k = len := by omega
      have HB := Lib.hid (show l.any P = false by
        have h := HA.out
        rwa [List.take_of_length_le (by have := HL.out; omega)] at h)
      go_wp2_with fail
      go_ret
      exact ⟨-1, rfl, by rw [HB.out]; rfl, _, rfl⟩
theorem contains_any (fid : FuncId) (hF : ∀ xs w, (callFunc fid xs).run Tryz.prog w = .ok (Next.enter fid xs) w) (cap : Value) (P : Nat → Bool) (a : Option Addr) (c len : Nat) (l : List Nat) (w : World) (hl : l.length = len) (hlm : len ≤ 140737488351232) (hs : SlN w .u32 a l)
    (HC : ∀ x ∈ l, ∀ k, Calls Tryz.prog fid #[.int .u32 (x : Int), cap] (w.drewN k) fun e w' => e = .returned (.bool (P x)) ∧ ∃ m, w' = (w.drewN k).drewN m) :
    Calls Tryz.prog 77 #[.slice a len c, .func (.func fid) #[] #[cap]] w fun e w' => e = .returned (.bool (l.any P)) ∧ ∃ k, w' = w.drewN k := by
  have HX := Lib.hid (index_any fid hF cap P a c len l w hl hlm hs HC)
  clear hl HC hF
  go_enter Tryz.func77, Tryz.ntmps77
  go_wp2_with fail
  refine HX.out.mono ?_
  rintro e w1 ⟨r, rfl, hr1, k1, rfl⟩
  have HR1 := Lib.hid hr1; clear hr1
  go_wp2_with fail
  go_ret
  exact ⟨by rw [← HR1.out]; rfl, _, rfl⟩


theorem u64_info2 : (Tryz.prog.info? 66).map (fun i => (i.zero, i.size, i.bytes)) = some (some (.int .u64 0), 1, 8) := by kernel_rfl

def NewWords (l : List Nat) (n : Nat) (w : World) (e : Ending) (w' : World) : Prop := ∃ a c, e = .returned (.tuple #[.slice a n c, .int .i64 0]) ∧ Own w' 66 a n c (nats .u64 l) ∧ Stepped w w' [] (ft a)
end Go.Proofs.YtnjoklcddodfeaaGreatDoor

namespace Go.Proofs.YtnjoklcddodfeaaGreatDoor
open Go.ChangeShapes Go.WideShapes Go.ChangeAt Go.RowKit
open Go.Maps (Keyed)
open Go.WideMaps
set_option linter.unusedVariables false

variable {w w' : World} {q p : Nat} {R F S : List Nat} {g : Gr}
set_option maxHeartbeats 800000 in
theorem ref_there (hg : RefAt w q R g) (hm : g.nodes.length ≤ 90000) (a : Option Addr) (c n : Nat) (l : List Nat) (hl : l.length = n) (hn : n ≤ 1000000) (hs : SlN w .u32 a l) (hok : ∀ x ∈ l, g.ok x) :
    Calls Tryz.prog 86 #[.pointer (some ⟨q, 0, none⟩), .slice a n c] w fun e w' => e = .returned (.bool true) ∧ ∃ k, w' = w.drewN k := by
  obtain ⟨an, cn, rfl, hc⟩ := hg
  have c2 := hc.c2
  have HL := Lib.hid hl
  have HS := Lib.hid hs
  have HOK := Lib.hid hok
  clear hc hl hs hok
  go_enter Tryz.func86, Tryz.ntmps86
  go_wp2_with fail
  go_loopw [5] (fun i wr => ∃ k m : Nat, k ≤ n ∧ i = .int .i64 k ∧ wr = w.drewN m) (fun i _ => n - (intOf i).toNat)
  case atStart => exact ⟨0, 0, Nat.zero_le _, rfl, rfl⟩
  case round =>
    obtain ⟨k, m, hk, rfl, rfl⟩ := hrel
    by_cases hlt : k < n
    · have hkl : k < l.length := by rw [HL.out]; exact hlt
      obtain ⟨ad, rfl, hcx⟩ := HS.out k hkl
      have hx := HOK.out _ (List.getElem_mem hkl)
      unfold Gr.ok at hx
      generalize l[k] = x at *
      have b1 : (x : Int) / 2 < (g.nodes.length : Int) := by omega
      have t1 : decide ((g.nodes.length : Int) ≤ (x : Int) / 2) = false := by simp; omega
      have t2 : decide (g.nodes.length ≤ x / 2) = false := by simp; omega
      go_wp2_with fail
      go_quiet (fail)
      go_wp2_with fail
      go_roundw
      case rel => exact ⟨k + 1, _, by omega, by go_num, rfl⟩
      case measure => simp [intOf]; omega
    · go_wp2_with fail
      go_ret
      exact ⟨rfl, m, rfl⟩

/-! ### The program's graph and the document's, side by side -/
theorem ref_apart {w1 w2 : World} {G G' : List Nat} (hg : RefAt w1 q R g) (hd : ∀ x ∈ R, x ∉ G) (hst : Stepped w1 w2 G G') : RefAt w2 q R g ∧ ∀ x ∈ R, x ∉ G' :=
  ⟨hg.kept hst.kept hd, fun x hx hf => by
    rcases hst.fresh x hf with h | h
    · exact hd x hx h
    · have := hg.lt x hx; omega⟩
theorem graph_apart {w1 w2 : World} {G G' : List Nat} (hg : GraphAt w1 p F g) (hd : ∀ x ∈ F, x ∉ G) (hst : Stepped w1 w2 G G') : GraphAt w2 p F g ∧ ∀ x ∈ F, x ∉ G' :=
  ⟨hg.kept hst.kept hd, fun x hx hf => by
    rcases hst.fresh x hf with h | h
    · exact hd x hx h
    · have := hg.lt x hx; omega⟩
structure Both (w0 w : World) (p : Nat) (F : List Nat) (q : Nat) (R : List Nat) (g : Gr) : Prop where
  graph : GraphAt w p F g
  ref : RefAt w q R g
  apart : ∀ x ∈ F, x ∉ R
  kept : Kept [] w0 w
  newF : ∀ x ∈ F, w0.heap.size ≤ x
  newR : ∀ x ∈ R, w0.heap.size ≤ x
theorem Both.kept0 {w0 w w' : World} {F R : List Nat} (h : Both w0 w p F q R g) (hk : Kept [] w w') : Both w0 w' p F q R g := ⟨h.graph.kept0 hk, h.ref.kept0 hk, h.apart, h.kept.trans hk, h.newF, h.newR⟩
/-- one step of each -/
theorem Both.step {w0 w w1 w2 : World} {F F' R R' : List Nat} {g' : Gr} (h : Both w0 w p F q R g) (h1 : GraphAt w1 p F' g') (s1 : Stepped w w1 F F') (h2 : RefAt w2 q R' g') (s2 : Stepped w1 w2 R R') : Both w0 w2 p F' q R' g' := by
  have a1 := ref_apart h.ref (fun x hx hf => h.apart x hf hx) s1
  have a2 := graph_apart h1 (fun x hx hf => a1.2 x hf hx) s2
  refine ⟨a2.1, h2, a2.2, ?_, ?_, ?_⟩
  · exact kept_up (kept_up h.kept s1.kept h.newF) s2.kept h.newR
  · intro x hx
    rcases s1.fresh x hx with h3 | h3
    · exact h.newF x h3
    · exact Nat.le_trans h.kept.size h3
  · intro x hx
    rcases s2.fresh x hx with h3 | h3
    · exact h.newR x h3
    · exact Nat.le_trans (Nat.le_trans h.kept.size s1.kept.size) h3
end Go.Proofs.YtnjoklcddodfeaaGreatDoor
