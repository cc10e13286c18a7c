/-
  Contracts of package aig: Eval, Inputs. What Eval answers, as a plain function, and that it is the gates' solution.
-/
import Derived.Test.YtenhbhckhncamaaP10
namespace Go.Proofs.Ytenhbhckhncamaa
open Go.ChangeShapes Go.WideShapes Go.ChangeAt Go.RowKit
open Go.Maps (Keyed)
open Go.WideMaps
set_option linter.unusedVariables false

variable {w w' : World} {p : Nat} {F S : List Nat} {g : Gr}

def setTo (is vs ws : List Nat) : Nat → List Nat
  | 0 => ws
  | k + 1 => (setTo is vs ws k).set (is.getD k 0) (vs.getD k 0)
def evalTo (g : Gr) (ws : List Nat) : Nat → List Nat
  | 0 => ws
  | k + 1 => if (gateA g k).2.2 then (evalTo g ws k).set k (wd (evalTo g ws k) (gateA g k).1 &&& wd (evalTo g ws k) (gateA g k).2.1) else evalTo g ws k
def evalG (g : Gr) (inp : List Nat) : List Nat := evalTo g (setTo (ins g.nodes) inp (List.replicate g.nodes.length 0) (ins g.nodes).length) g.nodes.length
theorem setTo_length (is vs ws : List Nat) (k : Nat) : (setTo is vs ws k).length = ws.length := by
  induction k with
  | zero => rfl
  | succ k ih => simp [setTo, ih]
theorem evalTo_length (g : Gr) (ws : List Nat) (k : Nat) : (evalTo g ws k).length = ws.length := by
  induction k with
  | zero => rfl
  | succ k ih => unfold evalTo; split <;> simp [ih]
theorem evalG_length (g : Gr) (inp : List Nat) : (evalG g inp).length = g.nodes.length := by simp [evalG, evalTo_length, setTo_length]
theorem words_set {ws : List Nat} (h : Words ws) (k : Nat) {v : Nat} (hv : v < 18446744073709551616) : Words (ws.set k v) := by
  intro x hx
  rcases List.mem_or_eq_of_mem_set hx with h1 | h1
  · exact h x h1
  · exact h1 ▸ hv
theorem words_getD {ws : List Nat} (h : Words ws) (k : Nat) : ws.getD k 0 < 18446744073709551616 := by
  rw [List.getD_eq_getElem?_getD]
  cases hk : ws[k]? with
  | none => simp
  | some v => simpa using h v (List.mem_of_getElem? hk)
theorem setTo_words {vs ws : List Nat} (is : List Nat) (hv : Words vs) (hw : Words ws) (k : Nat) : Words (setTo is vs ws k) := by
  induction k with
  | zero => exact hw
  | succ k ih => exact words_set ih _ (words_getD hv k)
theorem and_lt {a b : Nat} (ha : a < 18446744073709551616) : a &&& b < 18446744073709551616 := Nat.lt_of_le_of_lt Nat.and_le_left ha
theorem evalTo_words {ws : List Nat} (g : Gr) (hw : Words ws) (k : Nat) : Words (evalTo g ws k) := by
  induction k with
  | zero => exact hw
  | succ k ih => unfold evalTo; split; exact words_set ih _ (and_lt (wd_lt ih _)); exact ih
theorem zeros_words (n : Nat) : Words (List.replicate n 0) := fun x hx => by rw [(List.mem_replicate.1 hx).2]; omega
theorem evalG_words (g : Gr) {inp : List Nat} (h : Words inp) : Words (evalG g inp) := evalTo_words g (setTo_words _ h (zeros_words _) _) _

theorem gateA_lt (g : Gr) (k : Nat) (hw : WF g.nodes) (hm : g.nodes.length ≤ 1000000) : (gateA g k).1 < 4294967296 ∧ (gateA g k).2.1 < 4294967296 := by
  unfold gateA
  split
  · simp only [Int.toNat_natCast]
    cases hk : g.nodes[k]? with
    | none => simp
    | some q =>
      obtain ⟨a, b⟩ := q
      have h1 := hw.lit hk
      have h2 := (List.getElem?_eq_some_iff.1 hk).1
      simp only
      split <;> simp <;> omega
  · simp

theorem u64_info : (Try.prog.info? 37).map (fun i => (i.zero, i.size, i.bytes)) = some (some (.int .u64 0), 1, 8) := by kernel_rfl
/-- 'make([]T, n)', elements of one cell. -/
theorem wpList_mk {P : Program} {ops : Array Oper} {rest : List Oper} {o : Oper} {act : Act} {Q : Exit → Act → World → Prop} {l c : Operand} {t e : TypeId} {z : Value} {bytes n : Nat}
    (hg : o.guard = none) (hop : o.op = Op.makeSlice t l c) (ht : P.underlying t = some (.slice e)) (hinfo : (P.info? e).map (fun i => (i.zero, i.size, i.bytes)) = some (some z, 1, bytes)) (hz : z.cells = #[z])
    (hl : act.eval l = .int .i64 (n : Int)) (hc : act.eval c = .int .i64 (n : Int)) (hb : bytes * n ≤ 281474976710656) (hn : n ≤ maxLen)
    (h : ∀ w', Own w' e (some ⟨w.heap.size, 0, none⟩) n n (List.replicate n z) → Stepped w w' [] [w.heap.size] → wpList P ops Q rest (act.put o.dst (.slice (some ⟨w.heap.size, 0, none⟩) n n)) w') :
    wpList P ops Q (o :: rest) act w := by
  obtain ⟨i, hi, hiz, hisz, hib⟩ := info3 hinfo
  subst hib
  refine wpList_make_full w hg l c t hop 0 e i z 1 ht hi hiz hisz .i64 .i64 n n n hl hc rfl rfl hb hn (Nat.zero_le _) fun w' h1 h2 => h w' ?_ ?_
  · have : (madeCells z.cells (n * 1)).toList = List.replicate n z := by rw [hz]; simp [madeCells, Nat.mod_one, List.map_const']
    rw [this] at h1
    exact h1
  · exact ⟨⟨h2.os, h2.tape, h2.output, h2.size, fun k hk _ => h2.block k hk (by simp)⟩, fun b hb => by simp at hb; exact .inr (by omega)⟩
theorem nats_replicate (K : IntKind) (n : Nat) : List.replicate n (Value.int K 0) = nats K (List.replicate n 0) := by simp [nats]

def EvalPost (ws : List Nat) (n : Nat) (w : World) (e : Ending) (w' : World) : Prop :=
  ∃ a c, e = .returned (.tuple #[.slice a n c, .int .i64 0]) ∧ Own w' 37 a n c (nats .u64 ws) ∧ Stepped w w' [] (ft a)
end Go.Proofs.Ytenhbhckhncamaa
