/-
  Contracts of package aig: Eval, Inputs. What Eval answers, as a plain function, and that it is the gates' solution.
-/
import Derived.Test.YtielfgngdhcpfaaGreatP09
namespace Go.Proofs.YtielfgngdhcpfaaGreat
open Go.ChangeShapes Go.WideShapes Go.ChangeAt Go.RowKit
open Go.Maps (Keyed)
open Go.WideMaps
set_option linter.unusedVariables false

variable {w w' : World} {p : Nat} {F S : List Nat} {g : Gr}

def setTo (is vs ws : List Nat) : Nat → List Nat
  | 0 => ws
  | k + 1 => (setTo is vs ws k).set (is.getD k 0) (vs.getD k 0)
def evalTo (g : Gr) (ws : List Nat) : Nat → List Nat
  | 0 => ws
  | k + 1 => if (gateA g k).2.2 then (evalTo g ws k).set k (wd (evalTo g ws k) (gateA g k).1 &&& wd (evalTo g ws k) (gateA g k).2.1) else evalTo g ws k
def evalG (g : Gr) (inp : List Nat) : List Nat := evalTo g (setTo (ins g.nodes) inp (List.replicate g.nodes.length 0) (ins g.nodes).length) g.nodes.length
theorem setTo_length (is vs ws : List Nat) (k : Nat) : (setTo is vs ws k).length = ws.length := by
  induction k with
  | zero => rfl
  | succ k ih => simp [setTo, ih]
theorem evalTo_length (g : Gr) (ws : List Nat) (k : Nat) : (evalTo g ws k).length = ws.length := by
  induction k with
  | zero => rfl
  | succ k ih => unfold evalTo; split <;> simp [ih]
theorem evalG_length (g : Gr) (inp : List Nat) : (evalG g inp).length = g.nodes.length := by simp [evalG, evalTo_length, setTo_length]
theorem words_set {ws : List Nat} (h : Words ws) (k : Nat) {v : Nat} (hv : v < 18446744073709551616) : Words (ws.set k v) := by
  intro x hx
  rcases List.mem_or_eq_of_mem_set hx with h1 | h1
  · exact h x h1
  · exact h1 ▸ hv
theorem words_getD {ws : List Nat} (h : Words ws) (k : Nat) : ws.getD k 0 < 18446744073709551616 := by
  rw [List.getD_eq_getElem?_getD]
  cases hk : ws[k]? with
  | none => simp
  | some v => simpa using h v (List.mem_of_getElem? hk)
theorem setTo_words {vs ws : List Nat} (is : List Nat) (hv : Words vs) (hw : Words ws) (k : Nat) : Words (setTo is vs ws k) := by
  induction k with
  | zero => exact hw
  | succ k ih => exact words_set ih _ (words_getD hv k)
theorem and_lt {a b : Nat} (ha : a < 18446744073709551616) : a &&& b < 18446744073709551616 := Nat.lt_of_le_of_lt Nat.and_le_left ha
theorem evalTo_words {ws : List Nat} (g : Gr) (hw : Words ws) (k : Nat) : Words (evalTo g ws k) := by
  induction k with
  | zero => exact hw
  | succ k ih => unfold evalTo; split; exact words_set ih _ (and_lt (wd_lt ih _)); exact ih
theorem zeros_words (n : Nat) : Words (List.replicate n 0) := fun x hx => by rw [(List.mem_replicate.1 hx).2]; omega
theorem evalG_words (g : Gr) {inp : List Nat} (h : Words inp) : Words (evalG g inp) := evalTo_words g (setTo_words _ h (zeros_words _) _) _

theorem gateA_lt (g : Gr) (k : Nat) (hw : WF g.nodes) (hm : g.nodes.length ≤ 1000000) : (gateA g k).1 < 4294967296 ∧ (gateA g k).2.1 < 4294967296 := by
  unfold gateA
  split
  · simp only [Int.toNat_natCast]
    cases hk : g.nodes[k]? with
    | none => simp
    | some q =>
      obtain ⟨a, b⟩ := q
      have h1 := hw.lit hk
      have h2 := (List.getElem?_eq_some_iff.1 hk).1
      simp only
      split <;> simp <;> omega
  · simp

theorem u64_info : (Tryz.prog.info? 34).map (fun i => (i.zero, i.size, i.bytes)) = some (some (.int .u64 0), 1, 8) := by kernel_rfl
/-- 'make([]T, n)', elements of one cell. -/
theorem wpList_mk {P : Program} {ops : Array Oper} {rest : List Oper} {o : Oper} {act : Act} {Q : Exit → Act → World → Prop} {l c : Operand} {t e : TypeId} {z : Value} {bytes n : Nat}
    (hg : o.guard = none) (hop : o.op = Op.makeSlice t l c) (ht : P.underlying t = some (.slice e)) (hinfo : (P.info? e).map (fun i => (i.zero, i.size, i.bytes)) = some (some z, 1, bytes)) (hz : z.cells = #[z])
    (hl : act.eval l = .int .i64 (n : Int)) (hc : act.eval c = .int .i64 (n : Int)) (hb : bytes * n ≤ 281474976710656) (hn : n ≤ maxLen)
    (h : ∀ w', Own w' e (some ⟨w.heap.size, 0, none⟩) n n (List.replicate n z) → Stepped w w' [] [w.heap.size] → wpList P ops Q rest (act.put o.dst (.slice (some ⟨w.heap.size, 0, none⟩) n n)) w') :
    wpList P ops Q (o :: rest) act w := by
  obtain ⟨i, hi, hiz, hisz, hib⟩ := info3 hinfo
  subst hib
  refine wpList_make_full w hg l c t hop 0 e i z 1 ht hi hiz hisz .i64 .i64 n n n hl hc rfl rfl hb hn (Nat.zero_le _) fun w' h1 h2 => h w' ?_ ?_
  · have : (madeCells z.cells (n * 1)).toList = List.replicate n z := by rw [hz]; simp [madeCells, Nat.mod_one, List.map_const']
    rw [this] at h1
    exact h1
  · exact ⟨⟨h2.os, h2.tape, h2.output, h2.size, fun k hk _ => h2.block k hk (by simp)⟩, fun b hb => by simp at hb; exact .inr (by omega)⟩
theorem nats_replicate (K : IntKind) (n : Nat) : List.replicate n (Value.int K 0) = nats K (List.replicate n 0) := by simp [nats]

def EvalPost (ws : List Nat) (n : Nat) (w : World) (e : Ending) (w' : World) : Prop :=
  ∃ a c, e = .returned (.tuple #[.slice a n c, .int .i64 0]) ∧ Own w' 34 a n c (nats .u64 ws) ∧ Stepped w w' [] (ft a)
set_option maxHeartbeats 1600000 in
theorem aig_eval (hg : GraphAt w p F g) (hm : g.nodes.length ≤ 1000000) (a : Option Addr) (c len : Nat) (inp : List Nat) (hl : inp.length = len) (hlen : len = (ins g.nodes).length) (hs : SlN w .u64 a inp) (hw : Words inp) :
    Calls Tryz.prog 41 #[.pointer (some ⟨p, 0, none⟩), .slice a len c] w (EvalPost (evalG g inp) g.nodes.length w) := by
  have hile : (ins g.nodes).length ≤ g.nodes.length := insFrom_length 0 g.nodes
  have HGA := Lib.hid hg
  obtain ⟨an, cn, ai, ci, m, f, rfl, hc⟩ := hg
  have c2 := hc.c2
  have c3 := hc.c3
  have c4 := hc.c4
  have hkl : ((len : Int) != ((ins g.nodes).length : Int)) = false := by simp; omega
  have HC := Lib.hid hc; clear hc
  have HLEN := Lib.hid hlen; clear hlen
  have HL := Lib.hid hl; clear hl
  have HS := Lib.hid hs; clear hs
  have HW := Lib.hid hw; clear hw
  have HEV := Lib.hid (show evalG g inp = evalTo g (setTo (ins g.nodes) inp (List.replicate g.nodes.length 0) (ins g.nodes).length) g.nodes.length from rfl)
  have HILT := Lib.hid (ins_lt g.nodes)
  go_enter Tryz.func41, Tryz.ntmps41
  go_wp2_with (first
    | (go_at_call 53; refine (aig_none p m _ (by assumption)).mono ?_; rintro e w' ⟨rfl, rfl⟩)
    | (at_make; refine wpList_mk rfl rfl Tryz.underlying35 u64_info rfl rfl rfl (by omega) (by unfold maxLen; omega) ?_; intro w1 hown1 hst1; rw [nats_replicate] at hown1; have c31 := hst1.kept.cell c3 (by simp)))
  go_loopw [36] (fun i wr => ∃ k : Nat, k ≤ (ins g.nodes).length ∧ i = .int .i64 k ∧ Own wr 34 (some ⟨w.heap.size, 0, none⟩) g.nodes.length g.nodes.length (nats .u64 (setTo (ins g.nodes) inp (List.replicate g.nodes.length 0) k)) ∧ Stepped w wr [] [w.heap.size]) (fun i _ => (ins g.nodes).length - (intOf i).toNat)
  case atStart => exact ⟨0, Nat.zero_le _, rfl, hown1, hst1⟩
  case round =>
    obtain ⟨k, hk, rfl, hown, hst⟩ := hrel
    by_cases hlt : k < (ins g.nodes).length
    · have hki : k < inp.length := by have := HL.out; have := HLEN.out; omega
      have hi := (HC.out.inputs.kept0 hst.kept).sln
      obtain ⟨ad, rfl, hc1⟩ := hi k hlt
      obtain ⟨ad2, rfl, hc2⟩ := (HS.out.kept0 hst.kept) k hki
      have hin := HILT.out _ (List.getElem_mem hlt)
      have HST := Lib.hid (show setTo (ins g.nodes) inp (List.replicate g.nodes.length 0) (k + 1) = (setTo (ins g.nodes) inp (List.replicate g.nodes.length 0) k).set (ins g.nodes)[k] inp[k] by simp [setTo, hlt, hki])
      obtain ⟨⟨x0, hx0⟩, hfz, hown2⟩ := hown.store hin
      have HOW := Lib.hid hown2; clear hown2 hi
      have hkl2 : (k : Int) < (len : Int) := by have := HLEN.out; omega
      generalize (ins g.nodes)[k] = i at *
      generalize inp[k] = v at *
      go_wp2
      go_roundw
      case rel => exact ⟨k + 1, by omega, by go_num, by rw [HST.out, ← nats_set]; exact HOW.out _, hst.setCell (p := ⟨_, i, none⟩) (by simp) _⟩
      case measure => simp [intOf]; omega
    · obtain rfl : k = (ins g.nodes).length := by omega
      have HE1 := Lib.hid (show evalTo g (setTo (ins g.nodes) inp (List.replicate g.nodes.length 0) (ins g.nodes).length) g.nodes.length = evalG g inp from rfl)
      have HWS := Lib.hid (fun k => evalTo_words g (setTo_words (ins g.nodes) HW.out (zeros_words g.nodes.length) (ins g.nodes).length) k)
      have HWL := Lib.hid (fun k => (evalTo_length g (setTo (ins g.nodes) inp (List.replicate g.nodes.length 0) (ins g.nodes).length) k).trans ((setTo_length _ _ _ _).trans (List.length_replicate ..)))
      clear HEV
      generalize setTo (ins g.nodes) inp (List.replicate g.nodes.length 0) (ins g.nodes).length = ws0 at *
      go_wp2
      go_loopw [51] (fun i wr => ∃ k : Nat, k ≤ g.nodes.length ∧ i = .int .i64 k ∧ Own wr 34 (some ⟨w.heap.size, 0, none⟩) g.nodes.length g.nodes.length (nats .u64 (evalTo g ws0 k)) ∧ Stepped w wr [] [w.heap.size]) (fun i _ => g.nodes.length - (intOf i).toNat)
      case atStart => exact ⟨0, Nat.zero_le _, rfl, hown, hst⟩
      case round =>
        obtain ⟨k, hk, rfl, hown, hst⟩ := hrel
        by_cases hlt : k < g.nodes.length
        · have HGT := Lib.hid (aig_gateOf (HGA.out.kept0 hst.kept) hm k (by omega) (by omega))
          have HST := Lib.hid (show evalTo g ws0 (k + 1) = if (gateA g k).2.2 then (evalTo g ws0 k).set k (wd (evalTo g ws0 k) (gateA g k).1 &&& wd (evalTo g ws0 k) (gateA g k).2.1) else evalTo g ws0 k from rfl)
          have HLT := Lib.hid (gateA_lt g k HGA.out.wf hm)
          have hwk := HWS.out k
          have hlk := HWL.out k
          have HWK := Lib.hid (And.intro hwk hlk); clear hwk hlk
          generalize gateA g k = r at *
          obtain ⟨ga, gb, gt⟩ := r
          generalize evalTo g ws0 k = ws at *
          have HAND := Lib.hid (u64_and_nat _ _ (wd_lt HWK.out.1 ga) (wd_lt HWK.out.1 gb))
          cases gt
          · go_wp2_with (go_at_call 24; refine HGT.out.mono ?_; rintro e w2 ⟨rfl, hk2⟩)
            go_roundw
            case rel => exact ⟨k + 1, by omega, by go_num, by rw [HST.out]; exact hown.kept0 hk2, ⟨hst.kept.trans hk2, hst.fresh⟩⟩
            case measure => simp [intOf]; omega
          · have F2 : bits .and .u64 (wd ws ga : Int) (wd ws gb : Int) = ((wd ws ga &&& wd ws gb : Nat) : Int) := HAND.out
            have tok1 : True := trivial
            go_wp2_with (first
              | (go_at_call 24; refine HGT.out.mono ?_; rintro e w2 ⟨rfl, hk2⟩; have hown1 := hown.kept0 hk2; obtain ⟨⟨x0, hx0⟩, hfz, hown2⟩ := hown1.store hlt; have HOW := Lib.hid hown2; clear hown2)
              | (go_at_call 43; have tk := tok1; refine (lit_word ga _ _ _ ws _ HWK.out.2 HLT.out.1 hown1.sln HWK.out.1).mono ?_; rintro e w' ⟨rfl, rfl⟩; clear tok1 tk)
              | (go_at_call 43; refine (lit_word gb _ _ _ ws _ HWK.out.2 HLT.out.2 hown1.sln HWK.out.1).mono ?_; rintro e w' ⟨rfl, rfl⟩))
            go_roundw
            case rel => exact ⟨k + 1, by omega, by go_num, by rw [HST.out]; simp only [if_true]; rw [← nats_set]; exact HOW.out _, (⟨hst.kept.trans hk2, hst.fresh⟩ : Stepped w w2 [] [w.heap.size]).setCell (p := ⟨_, k, none⟩) (by simp) _⟩
            case measure => simp [intOf]; omega
        · obtain rfl : k = g.nodes.length := by omega
          go_wp2
          go_ret2
          exact ⟨_, _, rfl, by rw [← HE1.out]; exact hown, by simpa [ft] using hst⟩
end Go.Proofs.YtielfgngdhcpfaaGreat
