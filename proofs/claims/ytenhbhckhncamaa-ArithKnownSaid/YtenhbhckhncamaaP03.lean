/-
  Base words for all proofs of this seat: reading a slice of numbers, frames by lists of blocks, one append, and how a walk of a law becomes its statement.
-/
import Derived.Test.YtenhbhckhncamaaRows
import Derived.WalkKit
import Derived.ProofKit
import Derived.OpenShut
import Derived.Handy
import Derived.Below
import Derived.WalkLawsBesides
import Derived.WalkSpells
import Derived.SizedLaws
import Derived.Maps.AppendAt
import Derived.Laws.OwnMore
import Derived.Lib.Hide
import Derived.Deep.QuietTactic
import Derived.BigQuiet
namespace Go.Proofs.Ytenhbhckhncamaa
open Go.ChangeShapes Go.WideShapes Go.ChangeAt Go.RowKit

/-! ### Frames: which blocks may have turned -/

/-- Of the blocks that were there, only those of F may have turned. -/
structure Kept (F : List Nat) (w w' : World) : Prop where
  os : w'.os = w.os
  tape : w'.tape = w.tape
  output : w'.output = w.output
  size : w.heap.size ≤ w'.heap.size
  block : ∀ k, k < w.heap.size → k ∉ F → w'.heap[k]? = w.heap[k]?

/-- What was owned were the blocks F; what is owned now are the blocks F': of F, or new ones. -/
structure Stepped (w w' : World) (F F' : List Nat) : Prop where
  kept : Kept F w w'
  fresh : ∀ b ∈ F', b ∈ F ∨ w.heap.size ≤ b

theorem Kept.refl (F : List Nat) (w : World) : Kept F w w := ⟨rfl, rfl, rfl, Nat.le_refl _, fun _ _ _ => rfl⟩
theorem Kept.more {F F' : List Nat} {w w' : World} (h : Kept F w w') (hs : ∀ b ∈ F, b ∈ F') : Kept F' w w' :=
  ⟨h.os, h.tape, h.output, h.size, fun k hk hn => h.block k hk fun hm => hn (hs k hm)⟩
theorem Kept.trans {F : List Nat} {a b c : World} (h : Kept F a b) (k : Kept F b c) : Kept F a c :=
  ⟨k.os.trans h.os, k.tape.trans h.tape, k.output.trans h.output, Nat.le_trans h.size k.size, fun i hi hn => (k.block i (Nat.lt_of_lt_of_le hi h.size) hn).trans (h.block i hi hn)⟩
theorem Kept.drew {F : List Nat} {a w : World} (h : Kept F a w) : Kept F a w.drew := ⟨h.os, h.tape, h.output, h.size, h.block⟩
theorem Kept.drewN {F : List Nat} {a w : World} (h : Kept F a w) (n : Nat) : Kept F a (w.drewN n) := ⟨h.os, h.tape, h.output, h.size, h.block⟩
theorem Kept.alloc {F : List Nat} {a w : World} (h : Kept F a w) (o : Obj) : Kept F a (w.alloc o) :=
  h.trans ⟨rfl, rfl, rfl, by simp, fun k hk _ => Below.heap_alloc _ _ _ hk⟩
theorem Kept.setCell {F : List Nat} {a w : World} (h : Kept F a w) {p : Addr} (hp : p.block ∈ F ∨ a.heap.size ≤ p.block) (u : Value) : Kept F a (w.setCell p u) :=
  ⟨h.os, h.tape, h.output, by simpa [World.setCell] using h.size, fun k hk hn => (Below.heap_setCell _ _ _ _ (by rintro rfl; rcases hp with h | h; exact hn h; omega)).trans (h.block k hk hn)⟩
theorem Kept.grown {F : List Nat} {a w w' : World} {row : Option Nat} (h : Kept F a w) (hg : w.grownBy w' row) (hr : ∀ k, row = some k → k ∈ F ∨ a.heap.size ≤ k) : Kept F a w' :=
  ⟨hg.os.trans h.os, hg.tape.trans h.tape, hg.output.trans h.output, Nat.le_trans h.size hg.size, fun k hk hn =>
    (hg.block k (Nat.lt_of_lt_of_le hk h.size) (fun e => by rcases hr k e.symm with h | h; exact hn h; omega)).trans (h.block k hk hn)⟩
theorem Kept.below {w w' : World} (h : Kept [] w w') : Below w.heap.size w w' := ⟨h.os, h.tape, h.output, h.size, fun k hk => h.block k hk (by simp)⟩
theorem Kept.of_below {w w' : World} (h : Below w.heap.size w w') : Kept [] w w' := ⟨h.os, h.tape, h.output, h.size, fun k hk _ => h.block k hk⟩

theorem Kept.heap {F : List Nat} {w w' : World} (h : Kept F w w') {b : Nat} {o : Obj} (hb : w.heap[b]? = some o) (hn : b ∉ F) : w'.heap[b]? = some o :=
  (h.block b (Array.getElem?_eq_some_iff.1 hb).1 hn).trans hb
theorem Kept.cell {F : List Nat} {w w' : World} (h : Kept F w w') {p : Addr} {v : Value} (hc : w.cell? p = some v) (hn : p.block ∉ F) : w'.cell? p = some v :=
  (World.cell?_of_block (h.block _ (World.block_lt_of_cell? w p hc) hn)).trans hc
theorem Kept.frozen {F : List Nat} {w w' : World} (h : Kept F w w') {p : Addr} (hb : p.block < w.heap.size) (hn : p.block ∉ F) : w'.frozen? p = w.frozen? p :=
  World.frozen?_of_block (h.block _ hb hn)

theorem Stepped.refl (w : World) (F : List Nat) : Stepped w w F F := ⟨.refl _ _, fun _ h => .inl h⟩
/-- One step behind another. -/
theorem Stepped.trans {a b c : World} {F F' F'' : List Nat} (h : Stepped a b F F') (k : Stepped b c F' F'') : Stepped a c F F'' := by
  refine ⟨⟨k.kept.os.trans h.kept.os, k.kept.tape.trans h.kept.tape, k.kept.output.trans h.kept.output, Nat.le_trans h.kept.size k.kept.size, fun i hi hn => ?_⟩, fun x hx => ?_⟩
  · refine (k.kept.block i (Nat.lt_of_lt_of_le hi h.kept.size) fun hm => ?_).trans (h.kept.block i hi hn)
    rcases h.fresh i hm with h1 | h1
    · exact hn h1
    · omega
  · rcases k.fresh x hx with h1 | h1
    · exact h.fresh x h1
    · exact .inr (Nat.le_trans h.kept.size h1)
/-- What is owned besides stays owned. -/
theorem Stepped.beside {a b : World} {F F' : List Nat} (h : Stepped a b F F') (G : List Nat) : Stepped a b (F ++ G) (F' ++ G) :=
  ⟨h.kept.more fun _ hb => List.mem_append_left _ hb, fun x hx => by
    rcases List.mem_append.1 hx with h1 | h1
    · exact (h.fresh x h1).imp (List.mem_append_left _) id
    · exact .inl (List.mem_append_right _ h1)⟩
theorem Stepped.behind {a b : World} {F F' : List Nat} (h : Stepped a b F F') (G : List Nat) : Stepped a b (G ++ F) (G ++ F') :=
  ⟨h.kept.more fun _ hb => List.mem_append_right _ hb, fun x hx => by
    rcases List.mem_append.1 hx with h1 | h1
    · exact .inl (List.mem_append_left _ h1)
    · exact (h.fresh x h1).imp (List.mem_append_right _) id⟩
theorem Stepped.weak {a b : World} {F F' G G' : List Nat} (h : Stepped a b F F') (h1 : ∀ x ∈ F, x ∈ G) (h2 : ∀ x ∈ G', x ∈ F') : Stepped a b G G' :=
  ⟨h.kept.more h1, fun x hx => (h.fresh x (h2 x hx)).imp (h1 x) id⟩
theorem Stepped.below {w w' : World} {F' : List Nat} (h : Stepped w w' [] F') : Below w.heap.size w w' := h.kept.below
theorem Stepped.drop {w w' : World} {F F' : List Nat} (h : Stepped w w' F F') : Stepped w w' F [] := ⟨h.kept, by simp⟩
theorem Stepped.drew {a w : World} {F F' : List Nat} (h : Stepped a w F F') : Stepped a w.drew F F' := ⟨h.kept.drew, h.fresh⟩
theorem Stepped.drewN {a w : World} {F F' : List Nat} (h : Stepped a w F F') (n : Nat) : Stepped a (w.drewN n) F F' := ⟨h.kept.drewN n, h.fresh⟩
/-- A new block that nobody asks for again. -/
theorem Stepped.alloc {a w : World} {F F' : List Nat} (h : Stepped a w F F') (o : Obj) : Stepped a (w.alloc o) F F' := ⟨h.kept.alloc o, h.fresh⟩
/-- A new block that is owned from here on. -/
theorem Stepped.allocOwn {a w : World} {F F' : List Nat} (h : Stepped a w F F') (o : Obj) : Stepped a (w.alloc o) F (w.heap.size :: F') :=
  ⟨h.kept.alloc o, fun x hx => by
    rcases List.mem_cons.1 hx with h1 | h1
    · subst h1; exact .inr h.kept.size
    · exact h.fresh x h1⟩
theorem Stepped.setCell {a w : World} {F F' : List Nat} (h : Stepped a w F F') {p : Addr} (hp : p.block ∈ F') (u : Value) : Stepped a (w.setCell p u) F F' :=
  ⟨h.kept.setCell (h.fresh _ hp) u, h.fresh⟩

/-! ### Slices of numbers -/

/-- The slice at a holds the numbers l, each of kind K. -/
def SlN (w : World) (K : IntKind) (a : Option Addr) (l : List Nat) : Prop := ∀ k (h : k < l.length), ∃ ad, a = some ad ∧ w.cell? (ad.add k) = some (.int K (l[k] : Int))
def ft (a : Option Addr) : List Nat := (a.map (·.block)).toList
theorem block_add (a : Addr) (n : Nat) : (a.add n).block = a.block := by unfold Addr.add; split <;> rfl
theorem mem_ft {a : Addr} {b : Nat} : b ∈ ft (some a) ↔ b = a.block := by simp [ft]
theorem ft_none : ft none = [] := rfl
theorem SlN.nil (w : World) (K : IntKind) (a : Option Addr) : SlN w K a [] := fun k h => absurd h (by simp)
theorem SlN.kept {w w' : World} {K : IntKind} {a : Option Addr} {l : List Nat} {F : List Nat} (h : SlN w K a l) (hk : Kept F w w') (hd : ∀ b ∈ ft a, b ∉ F) : SlN w' K a l := fun k hl => by
  obtain ⟨ad, rfl, hc⟩ := h k hl
  exact ⟨ad, rfl, hk.cell hc (by rw [block_add]; exact hd _ (mem_ft.2 rfl))⟩
theorem SlN.kept0 {w w' : World} {K : IntKind} {a : Option Addr} {l : List Nat} (h : SlN w K a l) (hk : Kept [] w w') : SlN w' K a l := h.kept hk (by simp)
theorem SlN.drewN {w : World} {K : IntKind} {a : Option Addr} {l : List Nat} (h : SlN w K a l) (n : Nat) : SlN (w.drewN n) K a l := h
theorem SlN.take {w : World} {K : IntKind} {a : Option Addr} {l : List Nat} (h : SlN w K a l) (n : Nat) : SlN w K a (l.take n) := fun k hl => by
  obtain ⟨ad, rfl, hc⟩ := h k (by rw [List.length_take] at hl; omega)
  exact ⟨ad, rfl, by rw [hc]; simp⟩

/-- The call's own slice of one-cell elements: its address, length, capacity; what it holds. -/
def Own (w : World) (e : TypeId) (a : Option Addr) (n cap : Nat) (xs : List Value) : Prop := w.ownsRow 0 e 1 (.slice a n cap) n xs
def Own2 (w : World) (e : TypeId) (a : Option Addr) (n cap : Nat) (xs : List Value) : Prop := w.ownsRow 0 e 2 (.slice a n cap) n xs
def nats (K : IntKind) (l : List Nat) : List Value := l.map fun n : Nat => .int K (n : Int)
theorem nats_length (K : IntKind) (l : List Nat) : (nats K l).length = l.length := by simp [nats]
theorem nats_append (K : IntKind) (l : List Nat) (n : Nat) : nats K l ++ [.int K (n : Int)] = nats K (l ++ [n]) := by simp [nats]

theorem nats_set (K : IntKind) (l : List Nat) (j n : Nat) : (nats K l).set j (.int K (n : Int)) = nats K (l.set j n) := by simp [nats, List.map_set]
theorem own_block (a : Option Addr) (n cap : Nat) (h : a ≠ none) : (Value.slice a n cap).ownBlock = a.map (·.block) := by
  cases a <;> simp [Value.ownBlock] at h ⊢
theorem ownBlock_ft (a : Option Addr) (n cap k : Nat) : (Value.slice a n cap).ownBlock = some k ↔ k ∈ ft a := by
  cases a <;> simp [Value.ownBlock, ft, eq_comm]
theorem Own.nil (w : World) (e : TypeId) : Own w e none 0 0 [] := World.ownsRow_nil _ _ _ _
theorem Own.len {w : World} {e : TypeId} {a : Option Addr} {n cap : Nat} {xs : List Value} (h : Own w e a n cap xs) : xs.length = n := by simpa using h.1
theorem Own.lt {w : World} {e : TypeId} {a : Option Addr} {n cap : Nat} {xs : List Value} (h : Own w e a n cap xs) : ∀ b ∈ ft a, b < w.heap.size := fun b hb =>
  (World.ownsRow.lt h b ((ownBlock_ft _ _ _ _).2 hb)).2
theorem own_kept {w w' : World} {e : TypeId} {size : Nat} {a : Option Addr} {n cap : Nat} {xs : List Value} {F : List Nat} (h : w.ownsRow 0 e size (.slice a n cap) n xs) (hk : Kept F w w') (hd : ∀ b ∈ ft a, b ∉ F) : w'.ownsRow 0 e size (.slice a n cap) n xs := by
  refine ⟨h.1, ?_⟩
  rcases h.2 with hn | ⟨g, cap', cur, hv, hb, hg, rest⟩
  · exact .inl hn
  · refine .inr ⟨g, cap', cur, hv, hb, hk.heap hg (hd _ ?_), rest⟩
    injection hv with hv
    subst hv
    exact mem_ft.2 rfl
theorem Own.kept {w w' : World} {e : TypeId} {a : Option Addr} {n cap : Nat} {xs : List Value} {F : List Nat} (h : Own w e a n cap xs) (hk : Kept F w w') (hd : ∀ b ∈ ft a, b ∉ F) : Own w' e a n cap xs := own_kept h hk hd
theorem Own2.kept {w w' : World} {e : TypeId} {a : Option Addr} {n cap : Nat} {xs : List Value} {F : List Nat} (h : Own2 w e a n cap xs) (hk : Kept F w w') (hd : ∀ b ∈ ft a, b ∉ F) : Own2 w' e a n cap xs := own_kept h hk hd
theorem Own.kept0 {w w' : World} {e : TypeId} {a : Option Addr} {n cap : Nat} {xs : List Value} (h : Own w e a n cap xs) (hk : Kept [] w w') : Own w' e a n cap xs := h.kept hk (by simp)
theorem Own.cell {w : World} {e : TypeId} {a : Option Addr} {n cap : Nat} {xs : List Value} (h : Own w e a n cap xs) {k : Nat} (hk : k < xs.length) : ∃ ad, a = some ad ∧ w.cell? (ad.add k) = some xs[k] := by
  rcases h.2 with ⟨hv, hn⟩ | ⟨g, cap', cur, hv, hb, hg, rest⟩
  · have := h.1; omega
  · have hc := World.ownsRow.cells h (g := g) (by rw [hv]; rfl) k _ (List.getElem?_eq_getElem hk)
    injection hv with hv
    exact ⟨_, hv, hc⟩
theorem Own.sln {w : World} {e : TypeId} {a : Option Addr} {n cap : Nat} {K : IntKind} {l : List Nat} (h : Own w e a n cap (nats K l)) : SlN w K a l := fun k hk => by
  obtain ⟨ad, ha, hc⟩ := Own.cell h (k := k) (by rw [nats_length]; exact hk)
  exact ⟨ad, ha, by rw [hc]; simp [nats]⟩
theorem Own.alloc {w : World} {e : TypeId} {a : Option Addr} {n cap : Nat} {xs : List Value} (h : Own w e a n cap xs) (o : Obj) : Own (w.alloc o) e a n cap xs := World.ownsRow.alloc h o
theorem Own.drew {w : World} {e : TypeId} {a : Option Addr} {n cap : Nat} {xs : List Value} (h : Own w e a n cap xs) : Own w.drew e a n cap xs := h
theorem Own.drewN {w : World} {e : TypeId} {a : Option Addr} {n cap : Nat} {xs : List Value} (h : Own w e a n cap xs) (m : Nat) : Own (w.drewN m) e a n cap xs := h
theorem Own.form {w : World} {e : TypeId} {a : Option Addr} {n cap : Nat} {xs : List Value} (h : Own w e a n cap xs) (hn : 0 < n) : ∃ g, a = some ⟨g, 0, none⟩ := by
  rcases h.2 with ⟨hv, h0⟩ | ⟨g, cap', cur, hv, _⟩
  · omega
  · injection hv with hv; exact ⟨g, hv⟩
/-- What a store into an own slice wants, and what it leaves. -/
theorem Own.store {w : World} {e : TypeId} {g n cap j : Nat} {xs : List Value} (h : Own w e (some ⟨g, 0, none⟩) n cap xs) (hj : j < n) :
    (∃ v, w.cell? ⟨g, j, none⟩ = some v) ∧ w.frozen? ⟨g, j, none⟩ = false ∧ ∀ u, Own (w.setCell ⟨g, j, none⟩ u) e (some ⟨g, 0, none⟩) n cap (xs.set j u) := by
  have hc := World.ownsRow.cellAt h j (by omega)
  have hx : xs[j]? = some (xs[j]'(by rw [h.len]; exact hj)) := List.getElem?_eq_getElem _
  exact ⟨⟨_, hc.trans hx⟩, World.ownsRow.frozenAt h j, fun u => (World.ownsRow.stored h j u).1⟩
/-- Whatever has another element type is another block. -/
theorem Own.apart {w : World} {e : TypeId} {a : Option Addr} {n cap : Nat} {xs : List Value} (h : Own w e a n cap xs) {b : Nat} (hb : b ∈ ft a) : ∃ cur, w.heap[b]? = some (.cells cur e (0, 0)) := by
  rcases h.2 with ⟨hv, hn⟩ | ⟨g, cap', cur, hv, _, hg, rest⟩
  · injection hv with hv; subst hv; simp [ft] at hb
  · injection hv with hv; subst hv; rw [mem_ft] at hb; subst hb; exact ⟨cur, hg⟩

section
variable {P : Program}

theorem info3 {P : Program} {e : TypeId} {z : Value} {size bytes : Nat} (h : (P.info? e).map (fun i => (i.zero, i.size, i.bytes)) = some (some z, size, bytes)) :
    ∃ i, P.info? e = some i ∧ i.zero = some z ∧ i.size = size ∧ i.bytes = bytes := by
  cases hi : P.info? e with
  | none => rw [hi] at h; simp at h
  | some i =>
    rw [hi] at h
    simp at h
    exact ⟨i, rfl, h.1, h.2.1, h.2.2⟩

/-- APPEND OF ONE ELEMENT OF ONE CELL to a slice of the call's own. -/
theorem wpList_push {w : World} {ops : Array Oper} {rest : List Oper} {o : Oper} {act : Act} {Q : Exit → Act → World → Prop} {s x : Operand} {t e : TypeId} {z : Value} {bytes : Nat} {a : Option Addr} {n cap : Nat} {xs : List Value} {u : Value}
    (hgd : o.guard = none) (ho : o.op = .call { callee := .builtin .append, args := #[s, x], argTypes := #[t, t] })
    (ht : P.underlying t = some (.slice e)) (hinfo : (P.info? e).map (fun i => (i.zero, i.size, i.bytes)) = some (some z, 1, bytes)) (hz : z.cells.size = 1)
    (hs : act.eval s = .slice a n cap) (hx : act.eval x = .slice (some ⟨w.heap.size, 0, none⟩) 1 1)
    (hown : Own w e a n cap xs) (hu : u.oneCell' = true) (h63 : n + 1 ≤ maxLen) (hbytes : (n + 1) * bytes ≤ 140737488355328)
    (h : ∀ a' cap' w', Own w' e a' (n + 1) cap' (xs ++ [u]) → Stepped w w' (ft a) (ft a') → wpList P ops Q rest (act.put o.dst (.slice a' (n + 1) cap')) w') :
    wpList P ops Q (o :: rest) act (w.alloc (.cells #[u] e)) := by
  obtain ⟨i, hi, hiz, hisz, hib⟩ := info3 hinfo
  refine wpList_append_own_at _ hgd s x t ho 0 e i z 1 bytes ht hi hiz hisz hib hz (by omega) (.slice a n cap) n xs hs (World.ownsRow.alloc hown _)
    ⟨w.heap.size, 0, none⟩ 1 1 [u] hx rfl (cell_one_new _ _ _) (by simpa using hu) h63 hbytes (Nat.zero_le _) ?_
  intro v' w' hown' hg _ hat
  have hform : ∃ a' cap', v' = .slice a' (n + 1) cap' := by
    rcases hown'.2 with ⟨_, h0⟩ | ⟨g, c, cur, hv, _⟩
    · omega
    · exact ⟨_, _, hv⟩
  obtain ⟨a', cap', rfl⟩ := hform
  refine h a' cap' w' hown' ⟨⟨hg.os, hg.tape, hg.output, Nat.le_trans (by simp) hg.size, fun k hk hn => ?_⟩, fun b hb => ?_⟩
  · refine (hg.block k (by simp; omega) fun e' => hn ((ownBlock_ft _ _ _ _).1 e'.symm)).trans (Below.heap_alloc _ _ _ hk)
  · have hb' := (ownBlock_ft a' (n + 1) cap' b).2 hb
    rcases hat with h1 | h1
    · rw [h1] at hb'
      exact .inl ((ownBlock_ft _ _ _ _).1 hb')
    · rw [h1] at hb'
      simp at hb'
      exact .inr (by omega)
end

/-! ### Calls inside a region that draws its order -/
section
variable {P : Program} {f : FuncId} {args : Array Value} {w : World} {v : Value}
/-- a callee that leaves the world alone -/
theorem q_same {n : Nat} (h : Calls P f args (w.drewN n) fun e w' => e = .returned v ∧ w.drewN n = w') :
    Calls P f args (w.drewN n) fun e w' => e = .returned v ∧ ∃ m, w' = w.drewN m := h.mono fun _ _ ⟨he, hm⟩ => ⟨he, n, hm.symm⟩
theorem q_same2 {a n : Nat} (h : Calls P f args (w.drewN (a + n)) fun e w' => e = .returned v ∧ w.drewN (a + n) = w') :
    Calls P f args (w.drewN (a + n)) fun e w' => e = .returned v ∧ ∃ m, w' = w.drewN (a + m) := h.mono fun _ _ ⟨he, hm⟩ => ⟨he, n, hm.symm⟩
/-- a callee that draws -/
theorem q_drew {n : Nat} (h : Calls P f args (w.drewN n) fun e w' => e = .returned v ∧ ∃ m, w' = (w.drewN n).drewN m) :
    Calls P f args (w.drewN n) fun e w' => e = .returned v ∧ ∃ m, w' = w.drewN m := h.mono fun _ _ ⟨he, m, hm⟩ => ⟨he, n + m, by rw [hm, World.drewN_drewN]⟩
theorem q_drew2 {a n : Nat} (h : Calls P f args (w.drewN (a + n)) fun e w' => e = .returned v ∧ ∃ m, w' = (w.drewN (a + n)).drewN m) :
    Calls P f args (w.drewN (a + n)) fun e w' => e = .returned v ∧ ∃ m, w' = w.drewN (a + m) := h.mono fun _ _ ⟨he, m, hm⟩ => ⟨he, n + m, by rw [hm, World.drewN_drewN, Nat.add_assoc]⟩
theorem drew1 (w : World) : w.drew = w.drewN 1 := rfl
end

/-! ### From a walk to a law's statement -/
section
variable {H : Type} {enc : TypeId × Value → H}

theorem trodAll_below {P : Program} (hl : laidOutB P = true) {W W' : World} (hb : Below W.heap.size W W') : ∀ (ts : List TypeId) (vs : List Value) (ds : List (DataW H)) (ps : List MemPlace),
    (ts.all fun t => P.readableRec t && decide (t < P.types.size)) = true → DataW.TrodAll enc P W 0 (fun _ => true) true ts vs ds ps → DataW.TrodAll enc P W' 0 (fun b => decide (b < W.heap.size)) true ts vs ds ps
  | [], vs, ds, ps, _, h => by
    obtain ⟨rfl, rfl, rfl⟩ := trodAll_nil h
    exact trodAll_mk0
  | t :: ts, vs, ds, ps, hr, h => by
    obtain ⟨v, vs', d, ds', p, q, rfl, rfl, rfl, h0, h1⟩ := trodAll_cons h
    simp only [List.all_cons, Bool.and_eq_true, decide_eq_true_eq] at hr
    have hlt : ∀ x ∈ p, x.block < W.heap.size := by
      obtain ⟨m, hm⟩ := h0
      exact DataW.trod_lt m _ _ _ hm
    exact trodAll_cons_mk (Below.trod hl hr.1.1 hr.1.2 h0 hb hlt) (trodAll_below hl hb ts vs' ds' q hr.2 h1)

/-- THE LAW's END: it returned true, and nothing that was there has turned. -/
theorem law_post {P : Program} (hl : laidOutB P = true) {fn : Func} {s : ChangeSpec} {W W' : World} {args : Array Value} {ds gs : List (DataW H)} {before : List MemPlace}
    (hr : (fn.params.toList.all fun t => P.readableRec t && decide (t < P.types.size)) = true) (hv : s.vars = []) (hb4 : ∃ tb, fn.resultTypes = #[tb] ∧ P.underlying tb = some .bool)
    (hs : ∀ l : List (DataW H), l.length = fn.params.toList.length → s.fn H l = { results := [.lit (.bool true)], args := l })
    (hW : DataW.Whole enc P fn.params.toList s.vars false W args.toList ds gs before) (hb : Below W.heap.size W W') :
    ∃ v, Ending.returned (.bool true) = .returned v ∧ s.post enc P fn false true false false W args v W' := by
  have hW' := hW
  obtain ⟨p, q, hA, hV, rfl, _, _⟩ := hW
  rw [hv] at hV
  obtain ⟨rfl, rfl⟩ := trodVars_none hV
  have hlen : ∀ (ts : List TypeId) (vs : List Value) (ds : List (DataW H)) (ps : List MemPlace), DataW.TrodAll enc P W 0 (fun _ => true) true ts vs ds ps → ds.length = ts.length := by
    intro ts
    induction ts with
    | nil => intro vs ds ps h; obtain ⟨rfl, rfl, rfl⟩ := trodAll_nil h; rfl
    | cons t ts ih =>
      intro vs ds ps h
      obtain ⟨v, vs', d, ds', p, q, rfl, rfl, rfl, h0, h1⟩ := trodAll_cons h
      simp [ih _ _ _ h1]
  obtain ⟨tb, hrt, htb⟩ := hb4
  refine ⟨_, rfl, ds, [], _, [], p, [], hW', ?_, ?_, ?_, hb.frame _, fun h => by cases h⟩
  · rw [hrt, List.append_nil, hs _ (hlen _ _ _ _ hA)]
    exact trodAll_mk1 (shut_bool htb _)
  · rw [List.append_nil, hs _ (hlen _ _ _ _ hA)]
    exact trodAll_below hl hb _ _ _ _ hr hA
  · rw [hv, List.append_nil, hs _ (hlen _ _ _ _ hA)]
    rfl

/-! ### Opening arguments -/

variable {P : Program} {W : World} {base : Nat}

theorem wf_nat {K : IntKind} {n : Int} {m : Nat} (hK : K.signed = false) (hm : (2 : Int) ^ K.bits = m) (h : (Lit.int K n).wf = true) : ∃ k : Nat, n = (k : Int) ∧ k < m := by
  have h1 : 0 ≤ n ∧ n < (m : Int) := by
    rw [← hm]
    cases K <;> simp [IntKind.signed] at hK <;> simp [Lit.wf, IntKind.min, IntKind.max, IntKind.signed, IntKind.bits] at h ⊢ <;> omega
  refine ⟨n.toNat, by omega, by omega⟩

/-- A slice of unsigned numbers that came in. -/
theorem open_nats {t e : TypeId} {K : IntKind} {m : Nat} {v : Value} {d : DataW H} {ps : List MemPlace} (ht : P.underlying t = some (.slice e)) (he : P.underlying e = some (.int K)) (hc : P.cellsOf e = 1)
    (hK : K.signed = false) (hm : (2 : Int) ^ K.bits = m) (hv : Value.okWide P W .any base t v) (h : DataW.Trod enc P W 0 (fun _ => true) true t v d ps) :
    ∃ (a : Option Addr) (cap : Nat) (l : List Nat), v = .slice a l.length cap ∧ l.length ≤ cap ∧ SlN W K a l ∧ (∀ n ∈ l, n < m) ∧
      (d = .nil ∧ cap = 0 ∨ ∃ es sp, d = .slice es sp ∧ es.length + sp.length = cap) := by
  obtain ⟨a0, len, cap, rfl⟩ := okWide_slice ht hv
  obtain ⟨fuel, hf⟩ := h
  rcases open_ints ht he hc hf with ⟨hcs, hx⟩ | ⟨a, len', cap', zs, hcs, _, hl, hmx, hz, hx, hcell, hwz⟩
  · simp [Value.cells] at hcs hx
    obtain ⟨rfl, rfl, rfl⟩ := hcs
    exact ⟨none, 0, [], rfl, Nat.le_refl _, SlN.nil _ _ _, by simp, .inl ⟨hx.1, rfl⟩⟩
  · simp [Value.cells] at hcs hx
    obtain ⟨rfl, rfl, rfl⟩ := hcs
    simp at hz
    have hnat : ∀ i (hi : i < zs.length), ((zs[i].toNat : Nat) : Int) = zs[i] ∧ zs[i].toNat < m := by
      intro i hi
      obtain ⟨k, hk, hkm⟩ := wf_nat hK hm (hwz zs[i] (List.getElem_mem hi))
      rw [hk]
      simp [hkm]
    have hlen : ((zs.take len).map Int.toNat).length = len := by simp; omega
    refine ⟨some a, cap, (zs.take len).map Int.toNat, by rw [hlen], by rw [hlen]; exact hl, fun k hk => ⟨a, rfl, ?_⟩, ?_, .inr ⟨_, _, hx.1, ?_⟩⟩
    · rw [hlen] at hk
      rw [hcell k (by omega)]
      simp [List.getD_eq_getElem?_getD, (hnat k (by omega)).1, List.getElem?_eq_getElem (show k < zs.length by omega)]
    · intro n hn
      obtain ⟨y, hy, rfl⟩ := List.mem_map.1 hn
      obtain ⟨i, hi, rfl⟩ := List.getElem_of_mem (List.mem_of_mem_take hy)
      exact (hnat i hi).2
    · simp [lits]
      omega
end

/-- What the reach says of a slice's capacity. -/
theorem cap_reach {H : Type} {P : Program} {ts : List TypeId} {ds : List (DataW H)} {d : DataW H} {cap j : Nat} {t e : TypeId} {bytes : Nat} (hsz : (DataW.weightsEach P ts ds).all (· ≤ reachBytes) = true)
    (ht : ts[j]? = some t) (hd : ds[j]? = some d) (hu : P.underlying t = some (.slice e)) (hb : P.bytesOf e = bytes) (h : d = .nil ∧ cap = 0 ∨ ∃ es sp, d = .slice es sp ∧ es.length + sp.length = cap) : cap * bytes ≤ 140737488351232 := by
  rcases h with ⟨_, rfl⟩ | ⟨es, sp, rfl, rfl⟩
  · simp
  · have := sized_slice hsz ht hd hu
    rw [hb] at this
    simpa [reachBytes] using this

theorem laidOut : laidOutB Try.prog = true := by kernel_rfl
theorem own : ownKnob Try.prog.godebug = none := by kernel_rfl
end Go.Proofs.Ytenhbhckhncamaa
