/-
  ConeSupport, parts: a map as a set of numbers; what the law leans on.
-/
import Derived.Test.YthjaihmjdnijnaaConeSupM
import Derived.Maps.Keyed
namespace Go.Proofs.Ythjaihmjdnijnaa
open Go.ChangeShapes Go.WideShapes Go.ChangeAt Go.RowKit
open Go.Maps (Keyed)
open Go.WideMaps
set_option linter.unusedVariables false
set_option linter.unusedSimpArgs false

theorem int_law : Keyed Try.prog 3 := Go.Maps.int_keyed Try.underlying3
theorem int_key (n : Nat) (h : n ≤ 1000000) : ∃ kl, keyOf Try.prog 3 (.int .i64 (n : Int)) = some kl :=
  ⟨_, Go.Maps.keyOf_int_mk Try.underlying3 (by simp [Lit.wf, IntKind.min, IntKind.max, IntKind.signed, IntKind.bits]; omega)⟩
theorem int_zero (w : World) : (zeroValue 3).run Try.prog w = .ok (.int .i64 0) w := by kernel_rfl
/-- block m is a map that is the set l -/
def SetAt (w : World) (m : Nat) (l : List Nat) : Prop := MapV w Try.prog 3 m (setF l)
variable {w w' : World} {m : Nat} {l : List Nat}
theorem SetAt.kept {F : List Nat} (h : SetAt w m l) (hk : Kept F w w') (hn : m ∉ F) : SetAt w' m l := MapV.kept h hk hn
theorem SetAt.new (w : World) : SetAt (w.alloc (.map #[] 0)) w.heap.size [] := by
  unfold SetAt
  rw [setF_nil]
  exact MapV.new w _ _
theorem SetAt.lt (h : SetAt w m l) : m < w.heap.size := MapV.lt h
theorem SetAt.look (h : SetAt w m l) (n : Nat) (hn : n ≤ 1000000) : (Instr.lookup 55 (.map (some m)) (.int .i64 (n : Int)) false).run Try.prog w = .ok (.int .i64 (if n ∈ l then 1 else 0)) w := by
  obtain ⟨kl, hkl⟩ := int_key n hn
  have h2 := MapV.look h false int_law Try.underlying55 (int_zero _) hkl
  rw [setF_val] at h2
  exact h2
theorem SetAt.same {l' : List Nat} (h : SetAt w m l) (hs : ∀ n, n ∈ l ↔ n ∈ l') : SetAt w m l' := by
  unfold SetAt at *
  rw [← setF_same hs]
  exact h
theorem SetAt.push {n : Nat} (h : MapV w Try.prog 3 m (upd (setF l) (.int .i64 (n : Int)) (.int .i64 1))) : SetAt w m (l ++ [n]) := by
  unfold SetAt
  rw [← setF_upd]
  exact h
/-- the words as they are where the law leans on them, else the others -/
def difTo (is L ws ds : List Nat) : Nat → List Nat
  | 0 => ds
  | k + 1 => if is.getD k 0 ∈ L then (difTo is L ws ds k).set k (ws.getD k 0) else difTo is L ws ds k
theorem difTo_length (is L ws ds : List Nat) (k : Nat) : (difTo is L ws ds k).length = ds.length := by
  induction k with
  | zero => rfl
  | succ k ih => unfold difTo; split <;> simp [ih]
theorem difTo_words {is L ws ds : List Nat} (hw : Words ws) (hd : Words ds) (k : Nat) : Words (difTo is L ws ds k) := by
  induction k with
  | zero => exact hd
  | succ k ih =>
    unfold difTo
    split
    · exact words_set ih k (words_getD hw k)
    · exact ih
theorem difTo_same {is L ws ds : List Nat} (k : Nat) (hk : k ≤ ds.length) : ∀ i, i < k → is.getD i 0 ∈ L → (difTo is L ws ds k).getD i 0 = ws.getD i 0 := by
  induction k with
  | zero => intro i hi; omega
  | succ k ih =>
    intro i hi hL
    unfold difTo
    by_cases hik : i = k
    · subst hik
      rw [if_pos hL, List.getD_eq_getElem?_getD, List.getElem?_set_self (by rw [difTo_length]; omega)]
      rfl
    · have h := ih (by omega) i (by omega) hL
      split
      · rw [List.getD_eq_getElem?_getD, List.getElem?_set_ne (by omega), ← List.getD_eq_getElem?_getD]
        exact h
      · exact h
section
variable {P : Program} {k : TypeId} {f : Value → Option Value} {ops : Array Oper} {rest : List Oper} {o : Oper} {a : Act} {Q : Exit → Act → World → Prop}
/-- an entry of a map written out -/
theorem wpList_ins {mo x y : Operand} {t e : TypeId} {key val : Value} (hg : o.guard = none) (hop : o.op = Op.insert t mo x y) (K : Keyed P k) (ht : P.underlying t = some (.map k e))
    (hm : a.eval mo = .map (some m)) (hx : a.eval x = key) (hy : a.eval y = val) (hown : MapV w P k m f) (hkey : ∃ kl, keyOf P k key = some kl)
    (hK : ∀ w', MapV w' P k m (upd f key val) → Kept [m] w w' → wpList P ops Q rest (a.put o.dst undef) w') : wpList P ops Q (o :: rest) a w := by
  refine wpList_plain hg fun K' hK' => ?_
  obtain ⟨kl, hkl⟩ := hkey
  obtain ⟨w', hrun, r1, r2⟩ := hown.update K ht (val := val) hkl
  unfold Oper.wp
  simp [execOp, hop, hm, hx, hy, hrun, Result.andThen]
  exact hK' _ _ (hK w' r1 r2)
end
end Go.Proofs.Ythjaihmjdnijnaa
