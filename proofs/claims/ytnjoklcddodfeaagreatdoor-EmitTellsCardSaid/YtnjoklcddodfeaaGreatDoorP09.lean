/-
  slices.Clone of ints; Graph.Inputs.
  Contracts of package aig: Eval, Inputs. What Eval answers, as a plain function, and that it is the gates' solution.
-/
import Derived.Test.YtnjoklcddodfeaaGreatDoorP08
import Derived.Outline
namespace Go.Proofs.YtnjoklcddodfeaaGreatDoor
open Go.ChangeShapes Go.WideShapes Go.ChangeAt Go.RowKit
open Go.Maps (Keyed)
open Go.WideMaps
set_option linter.unusedVariables false

variable {w w' : World} {p : Nat} {F S : List Nat} {g : Gr}

def setTo (is vs ws : List Nat) : Nat → List Nat
  | 0 => ws
  | k + 1 => (setTo is vs ws k).set (is.getD k 0) (vs.getD k 0)
def evalTo (g : Gr) (ws : List Nat) : Nat → List Nat
  | 0 => ws
  | k + 1 => if (gateA g k).2.2 then (evalTo g ws k).set k (wd (evalTo g ws k) (gateA g k).1 &&& wd (evalTo g ws k) (gateA g k).2.1) else evalTo g ws k
def evalG (g : Gr) (inp : List Nat) : List Nat := evalTo g (setTo (ins g.nodes) inp (List.replicate g.nodes.length 0) (ins g.nodes).length) g.nodes.length
theorem setTo_length (is vs ws : List Nat) (k : Nat) : (setTo is vs ws k).length = ws.length := by
  induction k with
  | zero => rfl
  | succ k ih => simp [setTo, ih]
theorem evalTo_length (g : Gr) (ws : List Nat) (k : Nat) : (evalTo g ws k).length = ws.length := by
  induction k with
  | zero => rfl
  | succ k ih => unfold evalTo; split <;> simp [ih]
theorem evalG_length (g : Gr) (inp : List Nat) : (evalG g inp).length = g.nodes.length := by simp [evalG, evalTo_length, setTo_length]
theorem words_set {ws : List Nat} (h : Words ws) (k : Nat) {v : Nat} (hv : v < 18446744073709551616) : Words (ws.set k v) := by
  intro x hx
  rcases List.mem_or_eq_of_mem_set hx with h1 | h1
  · exact h x h1
  · exact h1 ▸ hv
theorem words_getD {ws : List Nat} (h : Words ws) (k : Nat) : ws.getD k 0 < 18446744073709551616 := by
  rw [List.getD_eq_getElem?_getD]
  cases hk : ws[k]? with
  | none => simp
  | some v => simpa using h v (List.mem_of_getElem? hk)
theorem setTo_words {vs ws : List Nat} (is : List Nat) (hv : Words vs) (hw : Words ws) (k : Nat) : Words (setTo is vs ws k) := by
  induction k with
  | zero => exact hw
  | succ k ih => exact words_set ih _ (words_getD hv k)
theorem and_lt {a b : Nat} (ha : a < 18446744073709551616) : a &&& b < 18446744073709551616 := Nat.lt_of_le_of_lt Nat.and_le_left ha
theorem evalTo_words {ws : List Nat} (g : Gr) (hw : Words ws) (k : Nat) : Words (evalTo g ws k) := by
  induction k with
  | zero => exact hw
  | succ k ih => unfold evalTo; split; exact words_set ih _ (and_lt (wd_lt ih _)); exact ih
theorem zeros_words (n : Nat) : Words (List.replicate n 0) := fun x hx => by rw [(List.mem_replicate.1 hx).2]; omega
theorem evalG_words (g : Gr) {inp : List Nat} (h : Words inp) : Words (evalG g inp) := evalTo_words g (setTo_words _ h (zeros_words _) _) _

theorem gateA_lt (g : Gr) (k : Nat) (hw : WF g.nodes) (hm : g.nodes.length ≤ 1000000) : (gateA g k).1 < 4294967296 ∧ (gateA g k).2.1 < 4294967296 := by
  unfold gateA
  split
  · simp only [Int.toNat_natCast]
    cases hk : g.nodes[k]? with
    | none => simp
    | some q =>
      obtain ⟨a, b⟩ := q
      have h1 := hw.lit hk
      have h2 := (List.getElem?_eq_some_iff.1 hk).1
      simp only
      split <;> simp <;> omega
  · simp

theorem u64_info : (Tryz.prog.info? 66).map (fun i => (i.zero, i.size, i.bytes)) = some (some (.int .u64 0), 1, 8) := by kernel_rfl
/-- 'make([]T, n)', elements of one cell. -/
theorem wpList_mk {P : Program} {ops : Array Oper} {rest : List Oper} {o : Oper} {act : Act} {Q : Exit → Act → World → Prop} {l c : Operand} {t e : TypeId} {z : Value} {bytes n : Nat}
    (hg : o.guard = none) (hop : o.op = Op.makeSlice t l c) (ht : P.underlying t = some (.slice e)) (hinfo : (P.info? e).map (fun i => (i.zero, i.size, i.bytes)) = some (some z, 1, bytes)) (hz : z.cells = #[z])
    (hl : act.eval l = .int .i64 (n : Int)) (hc : act.eval c = .int .i64 (n : Int)) (hb : bytes * n ≤ 281474976710656) (hn : n ≤ maxLen)
    (h : ∀ w', Own w' e (some ⟨w.heap.size, 0, none⟩) n n (List.replicate n z) → Stepped w w' [] [w.heap.size] → wpList P ops Q rest (act.put o.dst (.slice (some ⟨w.heap.size, 0, none⟩) n n)) w') :
    wpList P ops Q (o :: rest) act w := by
  obtain ⟨i, hi, hiz, hisz, hib⟩ := info3 hinfo
  subst hib
  refine wpList_make_full w hg l c t hop 0 e i z 1 ht hi hiz hisz .i64 .i64 n n n hl hc rfl rfl hb hn (Nat.zero_le _) fun w' h1 h2 => h w' ?_ ?_
  · have : (madeCells z.cells (n * 1)).toList = List.replicate n z := by rw [hz]; simp [madeCells, Nat.mod_one, List.map_const']
    rw [this] at h1
    exact h1
  · exact ⟨⟨h2.os, h2.tape, h2.output, h2.size, fun k hk _ => h2.block k hk (by simp)⟩, fun b hb => by simp at hb; exact .inr (by omega)⟩
theorem nats_replicate (K : IntKind) (n : Nat) : List.replicate n (Value.int K 0) = nats K (List.replicate n 0) := by simp [nats]

def EvalPost (ws : List Nat) (n : Nat) (w : World) (e : Ending) (w' : World) : Prop :=
  ∃ a c, e = .returned (.tuple #[.slice a n c, .int .i64 0]) ∧ Own w' 66 a n c (nats .u64 ws) ∧ Stepped w w' [] (ft a)
end Go.Proofs.YtnjoklcddodfeaaGreatDoor

namespace Go.Proofs.YtnjoklcddodfeaaGreatDoor
open Go.ChangeShapes Go.WideShapes Go.ChangeAt Go.RowKit
open Go.Maps (Keyed)
open Go.WideMaps
set_option linter.unusedVariables false

variable {w w' : World} {p : Nat} {F S : List Nat} {g : Gr}
/-- append(own, src...) -/
theorem wpList_cat {P : Program} {ops : Array Oper} {rest : List Oper} {o : Oper} {act : Act} {Q : Exit → Act → World → Prop} {s x : Operand} {t e : TypeId} {z : Value} {size bytes : Nat} {a : Option Addr} {n cap : Nat} {xs news : List Value} {ad : Addr} {m c : Nat}
    (hgd : o.guard = none) (ho : o.op = .call { callee := .builtin .append, args := #[s, x], argTypes := #[t, t] })
    (ht : P.underlying t = some (.slice e)) (hinfo : (P.info? e).map (fun i => (i.zero, i.size, i.bytes)) = some (some z, size, bytes)) (hz : z.cells.size = size) (hsz : 0 < size)
    (hs : act.eval s = .slice a n cap) (hx : act.eval x = .slice (some ad) m c)
    (hown : w.ownsRow 0 e size (.slice a n cap) n xs) (hl : news.length = m * size) (hnews : ∀ j u, news[j]? = some u → w.cell? (ad.add j) = some u) (hu : ∀ u ∈ news, u.oneCell' = true) (h63 : n + m ≤ maxLen) (hbytes : (n + m) * bytes ≤ 140737488355328)
    (h : ∀ a' cap' w', w'.ownsRow 0 e size (.slice a' (n + m) cap') (n + m) (xs ++ news) → Stepped w w' (ft a) (ft a') → wpList P ops Q rest (act.put o.dst (.slice a' (n + m) cap')) w') : wpList P ops Q (o :: rest) act w := by
  obtain ⟨i, hi, hiz, hisz, hib⟩ := info3 hinfo
  refine wpList_append_own_at w hgd s x t ho 0 e i z size bytes ht hi hiz hisz hib hz hsz (.slice a n cap) n xs hs hown ad m c news hx hl hnews hu h63 hbytes (Nat.zero_le _) ?_
  intro v' w' hown' hg _ hat
  have hform : ∃ a' cap', v' = .slice a' (n + m) cap' := by
    rcases hown'.2 with ⟨hv, h0⟩ | ⟨g, c, cur, hv, _⟩
    · exact ⟨none, 0, by rw [hv, h0]⟩
    · exact ⟨_, _, hv⟩
  obtain ⟨a', cap', rfl⟩ := hform
  refine h a' cap' w' hown' ⟨⟨hg.os, hg.tape, hg.output, hg.size, fun k hk hn => ?_⟩, fun b hb => ?_⟩
  · exact hg.block k hk fun e' => hn ((ownBlock_ft _ _ _ _).1 e'.symm)
  · have hb' := (ownBlock_ft a' (n + m) cap' b).2 hb
    rcases hat with h1 | h1
    · rw [h1] at hb'
      exact .inl ((ownBlock_ft _ _ _ _).1 hb')
    · rw [h1] at hb'
      simp at hb'
      exact .inr (by omega)
theorem own_empty (w : World) (e : TypeId) (size : Nat) : (w.alloc (.cells #[] e)).ownsRow 0 e size (.slice (some ⟨w.heap.size, 0, none⟩) 0 0) 0 [] :=
  ⟨by simp, .inr ⟨w.heap.size, 0, #[], rfl, Nat.zero_le _, heap_alloc_new w _, Nat.le_refl _, by decide, by simp, by simp⟩⟩
theorem nats_one (K : IntKind) (l : List Nat) : ∀ u ∈ nats K l, u.oneCell' = true := by
  intro u hu
  obtain ⟨n, _, rfl⟩ := List.mem_map.1 hu
  rfl
def NewInts (l : List Nat) (n : Nat) (w : World) (e : Ending) (w' : World) : Prop := ∃ a c, e = .returned (.slice a n c) ∧ Own w' 3 a n c (nats .i64 l) ∧ Stepped w w' [] (ft a)
theorem clone_ints (a : Option Addr) (c n : Nat) (l : List Nat) (w : World) (ho : Own w 3 a n c (nats .i64 l)) (hm : n ≤ 1000000) :
    Calls Tryz.prog 82 #[.slice a n c] w (NewInts l n w) := by
  have q := fun (w : World) (a : Option Addr) (n c : Nat) => Lib.run_eql_slice_nil (P := Tryz.prog) w 92 3 a n c 0 0 Tryz.underlying92
  have hl := ho.len
  rw [nats_length] at hl
  have HO := Lib.hid ho; clear ho
  have HL := Lib.hid hl; clear hl
  cases a with
  | none =>
    have h0 : n = 0 := by
      rcases HO.out.2 with ⟨hv, h0⟩ | ⟨g, cap', cur, hv, _⟩
      · exact h0
      · cases hv
    subst h0
    have hl0 : l = [] := List.eq_nil_of_length_eq_zero HL.out
    subst hl0
    go_enter Tryz.func82, Tryz.ntmps82
    go_wp2
    go_ret
    exact ⟨none, 0, rfl, Own.nil _ _, .refl _ _⟩
  | some ad =>
    have HC := Lib.hid (show ∀ j u, (nats .i64 l)[j]? = some u → (w.alloc (.cells #[] 3)).cell? (ad.add j) = some u from fun j u hu => by
      obtain ⟨hj, rfl⟩ := List.getElem?_eq_some_iff.1 hu
      obtain ⟨ad', h1, h2⟩ := HO.out.cell hj
      injection h1 with h1
      subst h1
      exact cell_alloc h2 _)
    go_enter Tryz.func82, Tryz.ntmps82
    go_wp2_with (at_builtin; refine wpList_cat (news := nats .i64 l) rfl rfl Tryz.underlying92 int_info rfl (by omega) rfl rfl (own_empty w 3 1) (by rw [nats_length, HL.out, Nat.mul_one]) HC.out (nats_one _ _) (by unfold maxLen; omega) (by omega) ?_; intro a' c' w1 hown1 hst1)
    go_ret
    refine ⟨a', c', by simp [go_sem], by simpa [Own] using hown1, ?_⟩
    have := (((Stepped.refl w []).allocOwn (.cells #[] 3))).trans (by simpa [ft] using hst1)
    exact this

theorem aig_inputs (hg : GraphAt w p F g) (hm : g.nodes.length ≤ 1000000) : Calls Tryz.prog 52 #[.pointer (some ⟨p, 0, none⟩)] w (NewInts (ins g.nodes) (ins g.nodes).length w) := by
  have hile : (ins g.nodes).length ≤ g.nodes.length := insFrom_length 0 g.nodes
  obtain ⟨an, cn, ai, ci, m, f, rfl, hc⟩ := hg
  have c3 := hc.c3
  have c4 := hc.c4
  have HI := Lib.hid hc.inputs
  clear hc
  go_enter Tryz.func52, Tryz.ntmps52
  go_wp2_with (first
    | (go_at_call 31; refine (aig_none p m _ (by assumption)).mono ?_; rintro e w' ⟨rfl, rfl⟩)
    | (go_at_call 82; refine (clone_ints _ _ _ _ _ HI.out (by omega)).mono ?_; rintro e w' ⟨a', c', rfl, ho, hst⟩))
  go_ret
  exact ⟨a', c', rfl, ho, hst⟩
end Go.Proofs.YtnjoklcddodfeaaGreatDoor
