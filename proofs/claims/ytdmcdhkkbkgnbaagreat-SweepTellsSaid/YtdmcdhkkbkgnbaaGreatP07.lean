/-
  How deep nodes are. Plain mathematics.
  Eval answers each node's word.
  Contracts of package aig: Eval, Inputs. What Eval answers, as a plain function, and that it is the gates' solution.
-/
import Derived.Test.YtdmcdhkkbkgnbaaGreatP06
import Derived.Test.YtdmcdhkkbkgnbaaGreatP02
namespace Go.Proofs.YtdmcdhkkbkgnbaaGreat
open Go.ChangeShapes Go.WideShapes Go.ChangeAt Go.RowKit
open Go.Maps (Keyed)
open Go.WideMaps
set_option linter.unusedVariables false

variable {w w' : World} {p : Nat} {F S : List Nat} {g : Gr}

def setTo (is vs ws : List Nat) : Nat → List Nat
  | 0 => ws
  | k + 1 => (setTo is vs ws k).set (is.getD k 0) (vs.getD k 0)
def evalTo (g : Gr) (ws : List Nat) : Nat → List Nat
  | 0 => ws
  | k + 1 => if (gateA g k).2.2 then (evalTo g ws k).set k (wd (evalTo g ws k) (gateA g k).1 &&& wd (evalTo g ws k) (gateA g k).2.1) else evalTo g ws k
def evalG (g : Gr) (inp : List Nat) : List Nat := evalTo g (setTo (ins g.nodes) inp (List.replicate g.nodes.length 0) (ins g.nodes).length) g.nodes.length
theorem setTo_length (is vs ws : List Nat) (k : Nat) : (setTo is vs ws k).length = ws.length := by
  induction k with
  | zero => rfl
  | succ k ih => simp [setTo, ih]
theorem evalTo_length (g : Gr) (ws : List Nat) (k : Nat) : (evalTo g ws k).length = ws.length := by
  induction k with
  | zero => rfl
  | succ k ih => unfold evalTo; split <;> simp [ih]
theorem evalG_length (g : Gr) (inp : List Nat) : (evalG g inp).length = g.nodes.length := by simp [evalG, evalTo_length, setTo_length]
theorem words_set {ws : List Nat} (h : Words ws) (k : Nat) {v : Nat} (hv : v < 18446744073709551616) : Words (ws.set k v) := by
  intro x hx
  rcases List.mem_or_eq_of_mem_set hx with h1 | h1
  · exact h x h1
  · exact h1 ▸ hv
theorem words_getD {ws : List Nat} (h : Words ws) (k : Nat) : ws.getD k 0 < 18446744073709551616 := by
  rw [List.getD_eq_getElem?_getD]
  cases hk : ws[k]? with
  | none => simp
  | some v => simpa using h v (List.mem_of_getElem? hk)
theorem setTo_words {vs ws : List Nat} (is : List Nat) (hv : Words vs) (hw : Words ws) (k : Nat) : Words (setTo is vs ws k) := by
  induction k with
  | zero => exact hw
  | succ k ih => exact words_set ih _ (words_getD hv k)
theorem and_lt {a b : Nat} (ha : a < 18446744073709551616) : a &&& b < 18446744073709551616 := Nat.lt_of_le_of_lt Nat.and_le_left ha
theorem evalTo_words {ws : List Nat} (g : Gr) (hw : Words ws) (k : Nat) : Words (evalTo g ws k) := by
  induction k with
  | zero => exact hw
  | succ k ih => unfold evalTo; split; exact words_set ih _ (and_lt (wd_lt ih _)); exact ih
theorem zeros_words (n : Nat) : Words (List.replicate n 0) := fun x hx => by rw [(List.mem_replicate.1 hx).2]; omega
theorem evalG_words (g : Gr) {inp : List Nat} (h : Words inp) : Words (evalG g inp) := evalTo_words g (setTo_words _ h (zeros_words _) _) _

theorem gateA_lt (g : Gr) (k : Nat) (hw : WF g.nodes) (hm : g.nodes.length ≤ 1000000) : (gateA g k).1 < 4294967296 ∧ (gateA g k).2.1 < 4294967296 := by
  unfold gateA
  split
  · simp only [Int.toNat_natCast]
    cases hk : g.nodes[k]? with
    | none => simp
    | some q =>
      obtain ⟨a, b⟩ := q
      have h1 := hw.lit hk
      have h2 := (List.getElem?_eq_some_iff.1 hk).1
      simp only
      split <;> simp <;> omega
  · simp

theorem u64_info : (Tryz.prog.info? 79).map (fun i => (i.zero, i.size, i.bytes)) = some (some (.int .u64 0), 1, 8) := by kernel_rfl
/-- 'make([]T, n)', elements of one cell. -/
theorem wpList_mk {P : Program} {ops : Array Oper} {rest : List Oper} {o : Oper} {act : Act} {Q : Exit → Act → World → Prop} {l c : Operand} {t e : TypeId} {z : Value} {bytes n : Nat}
    (hg : o.guard = none) (hop : o.op = Op.makeSlice t l c) (ht : P.underlying t = some (.slice e)) (hinfo : (P.info? e).map (fun i => (i.zero, i.size, i.bytes)) = some (some z, 1, bytes)) (hz : z.cells = #[z])
    (hl : act.eval l = .int .i64 (n : Int)) (hc : act.eval c = .int .i64 (n : Int)) (hb : bytes * n ≤ 281474976710656) (hn : n ≤ maxLen)
    (h : ∀ w', Own w' e (some ⟨w.heap.size, 0, none⟩) n n (List.replicate n z) → Stepped w w' [] [w.heap.size] → wpList P ops Q rest (act.put o.dst (.slice (some ⟨w.heap.size, 0, none⟩) n n)) w') :
    wpList P ops Q (o :: rest) act w := by
  obtain ⟨i, hi, hiz, hisz, hib⟩ := info3 hinfo
  subst hib
  refine wpList_make_full w hg l c t hop 0 e i z 1 ht hi hiz hisz .i64 .i64 n n n hl hc rfl rfl hb hn (Nat.zero_le _) fun w' h1 h2 => h w' ?_ ?_
  · have : (madeCells z.cells (n * 1)).toList = List.replicate n z := by rw [hz]; simp [madeCells, Nat.mod_one, List.map_const']
    rw [this] at h1
    exact h1
  · exact ⟨⟨h2.os, h2.tape, h2.output, h2.size, fun k hk _ => h2.block k hk (by simp)⟩, fun b hb => by simp at hb; exact .inr (by omega)⟩
theorem nats_replicate (K : IntKind) (n : Nat) : List.replicate n (Value.int K 0) = nats K (List.replicate n 0) := by simp [nats]

def EvalPost (ws : List Nat) (n : Nat) (w : World) (e : Ending) (w' : World) : Prop :=
  ∃ a c, e = .returned (.tuple #[.slice a n c, .int .i64 0]) ∧ Own w' 79 a n c (nats .u64 ws) ∧ Stepped w w' [] (ft a)
set_option maxHeartbeats 1600000 in
theorem aig_eval (hg : GraphAt w p F g) (hm : g.nodes.length ≤ 1000000) (a : Option Addr) (c len : Nat) (inp : List Nat) (hl : inp.length = len) (hlen : len = (ins g.nodes).length) (hs : SlN w .u64 a inp) (hw : Words inp) :
    Calls Tryz.prog 84 #[.pointer (some ⟨p, 0, none⟩), .slice a len c] w (EvalPost (evalG g inp) g.nodes.length w) := by
  have hile : (ins g.nodes).length ≤ g.nodes.length := insFrom_length 0 g.nodes
  have HGA := Lib.hid hg
  obtain ⟨an, cn, ai, ci, m, f, rfl, hc⟩ := hg
  have c2 := hc.c2
  have c3 := hc.c3
  have c4 := hc.c4
  have hkl : ((len : Int) != ((ins g.nodes).length : Int)) = false := by simp; omega
  have HC := Lib.hid hc; clear hc
  have HLEN := Lib.hid hlen; clear hlen
  have HL := Lib.hid hl; clear hl
  have HS := Lib.hid hs; clear hs
  have HW := Lib.hid hw; clear hw
  have HEV := Lib.hid (show evalG g inp = evalTo g (setTo (ins g.nodes) inp (List.replicate g.nodes.length 0) (ins g.nodes).length) g.nodes.length from rfl)
  have HILT := Lib.hid (ins_lt g.nodes)
  go_enter Tryz.func84, Tryz.ntmps84
  go_wp2_with (first
    | (go_at_call 70; refine (aig_none p m _ (by assumption)).mono ?_; rintro e w' ⟨rfl, rfl⟩)
    | (at_make; refine wpList_mk rfl rfl Tryz.underlying78 u64_info rfl rfl rfl (by omega) (by unfold maxLen; omega) ?_; intro w1 hown1 hst1; rw [nats_replicate] at hown1; have c31 := hst1.kept.cell c3 (by simp)))
  go_loopw [36] (fun i wr => ∃ k : Nat, k ≤ (ins g.nodes).length ∧ i = .int .i64 k ∧ Own wr 79 (some ⟨w.heap.size, 0, none⟩) g.nodes.length g.nodes.length (nats .u64 (setTo (ins g.nodes) inp (List.replicate g.nodes.length 0) k)) ∧ Stepped w wr [] [w.heap.size]) (fun i _ => (ins g.nodes).length - (intOf i).toNat)
  case atStart => exact ⟨0, Nat.zero_le _, rfl, hown1, hst1⟩
  case round =>
    obtain ⟨k, hk, rfl, hown, hst⟩ := hrel
    by_cases hlt : k < (ins g.nodes).length
    · have hki : k < inp.length := by have := HL.out; have := HLEN.out; omega
      have hi := (HC.out.inputs.kept0 hst.kept).sln
      obtain ⟨ad, rfl, hc1⟩ := hi k hlt
      obtain ⟨ad2, rfl, hc2⟩ := (HS.out.kept0 hst.kept) k hki
      have hin := HILT.out _ (List.getElem_mem hlt)
      have HST := Lib.hid (show setTo (ins g.nodes) inp (List.replicate g.nodes.length 0) (k + 1) = (setTo (ins g.nodes) inp (List.replicate g.nodes.length 0) k).set (ins g.nodes)[k] inp[k] by simp [setTo, hlt, hki])
      obtain ⟨⟨x0, hx0⟩, hfz, hown2⟩ := hown.store hin
      have HOW := Lib.hid hown2; clear hown2 hi
      have hkl2 : (k : Int) < (len : Int) := by have := HLEN.out; omega
      generalize (ins g.nodes)[k] = i at *
      generalize inp[k] = v at *
      go_wp2
      go_roundw
      case rel => exact ⟨k + 1, by omega, by go_num, by rw [HST.out, ← nats_set]; exact HOW.out _, hst.setCell (p := ⟨_, i, none⟩) (by simp) _⟩
      case measure => simp [intOf]; omega
    · obtain rfl : k = (ins g.nodes).length := by omega
      have HE1 := Lib.hid (show evalTo g (setTo (ins g.nodes) inp (List.replicate g.nodes.length 0) (ins g.nodes).length) g.nodes.length = evalG g inp from rfl)
      have HWS := Lib.hid (fun k => evalTo_words g (setTo_words (ins g.nodes) HW.out (zeros_words g.nodes.length) (ins g.nodes).length) k)
      have HWL := Lib.hid (fun k => (evalTo_length g (setTo (ins g.nodes) inp (List.replicate g.nodes.length 0) (ins g.nodes).length) k).trans ((setTo_length _ _ _ _).trans (List.length_replicate ..)))
      clear HEV
      generalize setTo (ins g.nodes) inp (List.replicate g.nodes.length 0) (ins g.nodes).length = ws0 at *
      go_wp2
      go_loopw [51] (fun i wr => ∃ k : Nat, k ≤ g.nodes.length ∧ i = .int .i64 k ∧ Own wr 79 (some ⟨w.heap.size, 0, none⟩) g.nodes.length g.nodes.length (nats .u64 (evalTo g ws0 k)) ∧ Stepped w wr [] [w.heap.size]) (fun i _ => g.nodes.length - (intOf i).toNat)
      case atStart => exact ⟨0, Nat.zero_le _, rfl, hown, hst⟩
      case round =>
        obtain ⟨k, hk, rfl, hown, hst⟩ := hrel
        by_cases hlt : k < g.nodes.length
        · have HGT := Lib.hid (aig_gateOf (HGA.out.kept0 hst.kept) hm k (by omega) (by omega))
          have HST := Lib.hid (show evalTo g ws0 (k + 1) = if (gateA g k).2.2 then (evalTo g ws0 k).set k (wd (evalTo g ws0 k) (gateA g k).1 &&& wd (evalTo g ws0 k) (gateA g k).2.1) else evalTo g ws0 k from rfl)
          have HLT := Lib.hid (gateA_lt g k HGA.out.wf hm)
          have hwk := HWS.out k
          have hlk := HWL.out k
          have HWK := Lib.hid (And.intro hwk hlk); clear hwk hlk
          generalize gateA g k = r at *
          obtain ⟨ga, gb, gt⟩ := r
          generalize evalTo g ws0 k = ws at *
          have HAND := Lib.hid (u64_and_nat _ _ (wd_lt HWK.out.1 ga) (wd_lt HWK.out.1 gb))
          cases gt
          · go_wp2_with (go_at_call 25; refine HGT.out.mono ?_; rintro e w2 ⟨rfl, hk2⟩)
            go_roundw
            case rel => exact ⟨k + 1, by omega, by go_num, by rw [HST.out]; exact hown.kept0 hk2, ⟨hst.kept.trans hk2, hst.fresh⟩⟩
            case measure => simp [intOf]; omega
          · have F2 : bits .and .u64 (wd ws ga : Int) (wd ws gb : Int) = ((wd ws ga &&& wd ws gb : Nat) : Int) := HAND.out
            have tok1 : True := trivial
            go_wp2_with (first
              | (go_at_call 25; refine HGT.out.mono ?_; rintro e w2 ⟨rfl, hk2⟩; have hown1 := hown.kept0 hk2; obtain ⟨⟨x0, hx0⟩, hfz, hown2⟩ := hown1.store hlt; have HOW := Lib.hid hown2; clear hown2)
              | (go_at_call 86; have tk := tok1; refine (lit_word ga _ _ _ ws _ HWK.out.2 HLT.out.1 hown1.sln HWK.out.1).mono ?_; rintro e w' ⟨rfl, rfl⟩; clear tok1 tk)
              | (go_at_call 86; refine (lit_word gb _ _ _ ws _ HWK.out.2 HLT.out.2 hown1.sln HWK.out.1).mono ?_; rintro e w' ⟨rfl, rfl⟩))
            go_roundw
            case rel => exact ⟨k + 1, by omega, by go_num, by rw [HST.out]; simp only [if_true]; rw [← nats_set]; exact HOW.out _, (⟨hst.kept.trans hk2, hst.fresh⟩ : Stepped w w2 [] [w.heap.size]).setCell (p := ⟨_, k, none⟩) (by simp) _⟩
            case measure => simp [intOf]; omega
        · obtain rfl : k = g.nodes.length := by omega
          go_wp2
          go_ret2
          exact ⟨_, _, rfl, by rw [← HE1.out]; exact hown, by simpa [ft] using hst⟩
end Go.Proofs.YtdmcdhkkbkgnbaaGreat

namespace Go.Proofs.YtdmcdhkkbkgnbaaGreat

theorem insFrom_append (i : Nat) (l m : List (Nat × Nat)) : insFrom i (l ++ m) = insFrom i l ++ insFrom (i + l.length) m := by
  induction l generalizing i with
  | nil => simp [insFrom]
  | cons p l ih =>
    have h : i + 1 + l.length = i + (l.length + 1) := by omega
    simp only [List.cons_append, insFrom, ih, List.length_cons, h]
    split <;> simp
theorem insFrom_sorted (i : Nat) (l : List (Nat × Nat)) : (insFrom i l).Pairwise (· < ·) := by
  induction l generalizing i with
  | nil => exact List.Pairwise.nil
  | cons p l ih =>
    simp only [insFrom]
    split
    · exact List.pairwise_cons.2 ⟨fun x hx => by have := insFrom_lt _ _ x hx; omega, ih _⟩
    · exact ih _
theorem ins_at {ns : List (Nat × Nat)} {k a b : Nat} (h : ns[k]? = some (a, b)) (hg : a / 2 = k) (h0 : k ≠ 0) : (ins ns)[(ins (ns.take k)).length]? = some k := by
  have hk := (List.getElem?_eq_some_iff.1 h).1
  have e : ns = ns.take k ++ (a, b) :: ns.drop (k + 1) := by
    have h1 := List.take_append_drop k ns
    rw [List.drop_eq_getElem_cons hk] at h1
    rw [(List.getElem?_eq_some_iff.1 h).2] at h1
    exact h1.symm
  have hl : (ns.take k).length = k := by rw [List.length_take]; omega
  have e2 : ins ns = ins (ns.take k) ++ insFrom k ((a, b) :: ns.drop (k + 1)) := by
    conv => lhs; rw [e]
    unfold ins
    rw [insFrom_append, hl, Nat.zero_add]
  rw [e2, List.getElem?_append_right (Nat.le_refl _), Nat.sub_self]
  simp only [insFrom]
  rw [if_pos (by simp [inAt, hg, h0])]
  rfl
theorem ins_zero (ns : List (Nat × Nat)) : 0 ∉ ins ns := by
  suffices h : ∀ i, 0 ∉ insFrom i ns from h 0
  induction ns with
  | nil => intro i; simp [insFrom]
  | cons p l ih =>
    intro i
    simp only [insFrom]
    split
    · rename_i h
      simp only [Bool.and_eq_true, decide_eq_true_eq] at h
      simp only [List.mem_cons, not_or]
      exact ⟨fun e => h.2 e.symm, ih _⟩
    · exact ih _
theorem setTo_get (is vs ws : List Nat) (hs : is.Pairwise (· < ·)) (hlt : ∀ x ∈ is, x < ws.length) (k : Nat) (hk : k ≤ is.length) :
    (∀ j x, j < k → is[j]? = some x → (setTo is vs ws k)[x]? = some (vs.getD j 0)) ∧ ∀ x, (∀ j, j < k → is[j]? ≠ some x) → (setTo is vs ws k)[x]? = ws[x]? := by
  induction k with
  | zero => exact ⟨fun j x h => absurd h (by omega), fun x _ => rfl⟩
  | succ k ih =>
    obtain ⟨h1, h2⟩ := ih (by omega)
    have hkl : k < is.length := by omega
    have e : is.getD k 0 = is[k] := by simp [List.getD_eq_getElem?_getD, hkl]
    have hin := hlt _ (List.getElem_mem hkl)
    simp only [setTo]
    rw [e]
    refine ⟨fun j x hj hx => ?_, fun x hx => ?_⟩
    · by_cases hjk : j = k
      · subst hjk
        rw [List.getElem?_eq_getElem hkl] at hx
        injection hx with hx
        rw [← hx, List.getElem?_set_self (by rw [setTo_length]; exact hin)]
      · have hjl : j < is.length := by omega
        have hlt' : is[j] < is[k] := List.pairwise_iff_getElem.1 hs j k hjl hkl (by omega)
        have hx' := hx
        rw [List.getElem?_eq_getElem hjl] at hx
        injection hx with hx
        rw [List.getElem?_set_ne (by omega)]
        exact h1 j x (by omega) hx'
    · have hne : is[k] ≠ x := fun h => hx k (by omega) (by rw [List.getElem?_eq_getElem hkl, h])
      rw [List.getElem?_set_ne hne]
      exact h2 x fun j hj => hx j (by omega)
theorem nodeW_eq {A B : List Nat} {n : Nat} (h : n ≠ 0 → A[n]? = B[n]?) : nodeW A n = nodeW B n := by
  unfold nodeW
  split
  · rfl
  · rename_i h0
    rw [List.getD_eq_getElem?_getD, List.getD_eq_getElem?_getD, h h0]
theorem evalG_val {g : Gr} (hw : WF g.nodes) (inp : List Nat) : evalG g inp = valL inp g.nodes := by
  have hsort := insFrom_sorted 0 g.nodes
  have hset := setTo_get (ins g.nodes) inp (List.replicate g.nodes.length 0) hsort (fun x hx => by rw [List.length_replicate]; exact ins_lt _ x hx) (ins g.nodes).length (Nat.le_refl _)
  unfold evalG
  generalize hws : setTo (ins g.nodes) inp (List.replicate g.nodes.length 0) (ins g.nodes).length = ws0 at *
  have hlen : ws0.length = g.nodes.length := by rw [← hws, setTo_length, List.length_replicate]
  have main : ∀ k, k ≤ g.nodes.length → ∀ j, (evalTo g ws0 k)[j]? = if j < k then (valL inp g.nodes)[j]? else ws0[j]? := by
    intro k
    induction k with
    | zero => intro _ j; simp [evalTo]
    | succ k ih =>
      intro hk j
      have ih := ih (by omega)
      obtain ⟨⟨a, b⟩, hab⟩ : ∃ q, g.nodes[k]? = some q := ⟨_, List.getElem?_eq_getElem (by omega)⟩
      have stay : (gateA g k).2.2 = false → ws0[k]? = (valL inp g.nodes)[k]? → (evalTo g ws0 (k + 1))[j]? = if j < k + 1 then (valL inp g.nodes)[j]? else ws0[j]? := by
        intro hf hv
        simp only [evalTo]
        rw [if_neg (by rw [hf]; simp), ih j]
        by_cases hj : j = k
        · subst hj; rw [if_neg (by omega), if_pos (by omega)]; exact hv
        · by_cases hjk : j < k
          · rw [if_pos hjk, if_pos (by omega)]
          · rw [if_neg hjk, if_neg (by omega)]
      by_cases h0 : k = 0
      · subst h0
        refine stay (by unfold gateA; rw [if_neg (by omega)]) ?_
        rw [zero_val hw, hset.2 0 fun i _ h => ins_zero _ (List.mem_of_getElem? h)]
        simp [hw.pos]
      · have hga : gateA g k = if a / 2 = k then (0, 0, false) else (a, b, true) := by unfold gateA; rw [if_pos (by omega)]; simp [hab]
        by_cases hin : a / 2 = k
        · refine stay (by rw [hga, if_pos hin]) ?_
          have hat := ins_at hab hin h0
          rw [in_val hab hin h0, hset.1 _ _ (List.getElem?_eq_some_iff.1 hat).1 hat]
        · rw [if_neg hin] at hga
          simp only [evalTo]
          rw [hga]
          simp only [if_true]
          have hlt : a / 2 < k ∧ b / 2 < k := by
            rcases hw.each k a b hab with h1 | h1
            · omega
            · omega
          have ea : wd (evalTo g ws0 k) a = wd (valL inp g.nodes) a := by
            unfold wd
            rw [nodeW_eq (B := valL inp g.nodes) fun _ => by rw [ih, if_pos hlt.1]]
          have eb : wd (evalTo g ws0 k) b = wd (valL inp g.nodes) b := by
            unfold wd
            rw [nodeW_eq (B := valL inp g.nodes) fun _ => by rw [ih, if_pos hlt.2]]
          rw [ea, eb]
          by_cases hj : j = k
          · subst hj
            rw [List.getElem?_set_self (by rw [evalTo_length, hlen]; omega), if_pos (by omega), gate_val hw hab hin]
          · rw [List.getElem?_set_ne (by omega), ih]
            by_cases hjk : j < k
            · rw [if_pos hjk, if_pos (by omega)]
            · rw [if_neg hjk, if_neg (by omega)]
  apply List.ext_getElem?
  intro j
  rw [main _ (Nat.le_refl _)]
  split
  · rfl
  · rename_i hj
    rw [List.getElem?_eq_none (by omega), List.getElem?_eq_none (by rw [valL_length]; omega)]
end Go.Proofs.YtdmcdhkkbkgnbaaGreat

namespace Go.Proofs.YtdmcdhkkbkgnbaaGreat

/-- a literal's depth by its node's -/
def dl (D : List Nat) (l : Nat) : Nat := D.getD (l / 2) 0
def nodeD (ns : List (Nat × Nat)) (D : List Nat) (p : Nat × Nat) : Nat := if inAt ns.length p || decide (ns.length = 0) then 0 else 1 + max (dl D p.1) (dl D p.2)
def dpTo (ns : List (Nat × Nat)) : Nat → List Nat
  | 0 => []
  | k + 1 => dpTo ns k ++ [nodeD (ns.take k) (dpTo ns k) (ns.getD k (0, 0))]
def dpL (ns : List (Nat × Nat)) : List Nat := dpTo ns ns.length
theorem dpTo_length (ns : List (Nat × Nat)) (k : Nat) : (dpTo ns k).length = k := by
  induction k with
  | zero => rfl
  | succ k ih => simp [dpTo, ih]
theorem dpL_length (ns : List (Nat × Nat)) : (dpL ns).length = ns.length := dpTo_length _ _
theorem dpTo_pre (ns more : List (Nat × Nat)) (k : Nat) (h : k ≤ ns.length) : dpTo (ns ++ more) k = dpTo ns k := by
  induction k with
  | zero => rfl
  | succ k ih =>
    have e1 : (ns ++ more).take k = ns.take k := by rw [List.take_append_of_le_length (by omega)]
    have e2 : (ns ++ more).getD k (0, 0) = ns.getD k (0, 0) := by
      simp only [List.getD_eq_getElem?_getD]
      rw [List.getElem?_append_left (by omega)]
    simp only [dpTo]
    rw [ih (by omega), e1, e2]
theorem dpL_snoc (ns : List (Nat × Nat)) (p : Nat × Nat) : dpL (ns ++ [p]) = dpL ns ++ [nodeD ns (dpL ns) p] := by
  unfold dpL
  rw [List.length_append, List.length_singleton]
  simp only [dpTo]
  rw [dpTo_pre _ _ _ (Nat.le_refl _)]
  simp [List.getD_eq_getElem?_getD]
theorem dpTo_take (ns : List (Nat × Nat)) (k j : Nat) : ∃ t, dpTo ns (k + j) = dpTo ns k ++ t := by
  induction j with
  | zero => exact ⟨[], by simp⟩
  | succ j ih =>
    obtain ⟨t, ht⟩ := ih
    refine ⟨t ++ [nodeD (ns.take (k + j)) (dpTo ns (k + j)) (ns.getD (k + j) (0, 0))], ?_⟩
    show dpTo ns (k + j) ++ _ = _
    conv => lhs; rw [ht]
    rw [List.append_assoc]
    rfl
theorem dpL_append (ns more : List (Nat × Nat)) : ∃ t, dpL (ns ++ more) = dpL ns ++ t := by
  obtain ⟨t, ht⟩ := dpTo_take (ns ++ more) ns.length more.length
  refine ⟨t, ?_⟩
  unfold dpL
  rw [List.length_append, ht, dpTo_pre _ _ _ (Nat.le_refl _)]
theorem dl_append {D : List Nat} (t : List Nat) {l : Nat} (h : l / 2 < D.length) : dl (D ++ t) l = dl D l := by
  unfold dl
  simp only [List.getD_eq_getElem?_getD]
  rw [List.getElem?_append_left h]
theorem dpL_get (ns : List (Nat × Nat)) (k : Nat) (h : k < ns.length) : (dpL ns)[k]? = some (nodeD (ns.take k) (dpTo ns k) (ns.getD k (0, 0))) := by
  obtain ⟨t, ht⟩ := dpTo_take ns (k + 1) (ns.length - (k + 1))
  unfold dpL
  rw [show ns.length = k + 1 + (ns.length - (k + 1)) by omega, ht, List.getElem?_append_left (by rw [dpTo_length]; omega)]
  simp only [dpTo]
  rw [List.getElem?_append_right (by rw [dpTo_length]; omega), dpTo_length]
  simp
theorem dpL_pre (ns : List (Nat × Nat)) (k : Nat) (h : k ≤ ns.length) : ∃ t, dpL ns = dpTo ns k ++ t := by
  obtain ⟨t, ht⟩ := dpTo_take ns k (ns.length - k)
  refine ⟨t, ?_⟩
  unfold dpL
  rw [show ns.length = k + (ns.length - k) by omega, ht]
theorem dp_gate {ns : List (Nat × Nat)} (hw : WF ns) {k a b : Nat} (h : ns[k]? = some (a, b)) (hg : a / 2 ≠ k) (h0 : k ≠ 0) : (dpL ns)[k]? = some (1 + max (dl (dpL ns) a) (dl (dpL ns) b)) := by
  have hk := (List.getElem?_eq_some_iff.1 h).1
  rw [dpL_get _ _ hk]
  have e : ns.getD k (0, 0) = (a, b) := by rw [List.getD_eq_getElem?_getD, h]; rfl
  have hlt : a / 2 < k ∧ b / 2 < k := by
    rcases hw.each k a b h with h1 | h1
    · omega
    · omega
  obtain ⟨t, ht⟩ := dpL_pre ns k (by omega)
  have hl : (ns.take k).length = k := by rw [List.length_take]; omega
  rw [e, ht, dl_append t (by rw [dpTo_length]; exact hlt.1), dl_append t (by rw [dpTo_length]; exact hlt.2)]
  unfold nodeD
  rw [hl, if_neg (by simp [inAt, hg, h0])]
theorem dp_none {ns : List (Nat × Nat)} {k a b : Nat} (h : ns[k]? = some (a, b)) (hg : a / 2 = k ∨ k = 0) : (dpL ns)[k]? = some 0 := by
  have hk := (List.getElem?_eq_some_iff.1 h).1
  rw [dpL_get _ _ hk]
  have e : ns.getD k (0, 0) = (a, b) := by rw [List.getD_eq_getElem?_getD, h]; rfl
  have hl : (ns.take k).length = k := by rw [List.length_take]; omega
  rw [e]
  unfold nodeD
  rw [hl, if_pos (by rcases hg with hg | hg <;> simp [inAt, hg])]
theorem dp_le (ns : List (Nat × Nat)) (k : Nat) : ∀ x ∈ dpTo ns k, x ≤ k := by
  induction k with
  | zero => intro x hx; simp [dpTo] at hx
  | succ k ih =>
    intro x hx
    rcases List.mem_append.1 hx with h | h
    · have := ih x h; omega
    · simp only [List.mem_singleton] at h
      subst h
      have hd : ∀ l, dl (dpTo ns k) l ≤ k := fun l => by
        unfold dl
        rw [List.getD_eq_getElem?_getD]
        cases hj : (dpTo ns k)[l / 2]? with
        | none => simp
        | some v => simpa using ih v (List.mem_of_getElem? hj)
      unfold nodeD
      split
      · omega
      · have h1 := hd (ns.getD k (0, 0)).1
        have h2 := hd (ns.getD k (0, 0)).2
        omega
theorem dl_le (ns : List (Nat × Nat)) (l : Nat) : dl (dpL ns) l ≤ ns.length := by
  unfold dl
  rw [List.getD_eq_getElem?_getD]
  cases hj : (dpL ns)[l / 2]? with
  | none => simp
  | some v => simpa using dp_le ns ns.length v (List.mem_of_getElem? hj)

/-- as the code goes: a row of zeros, set from the lowest node on -/
def deepTo (g : Gr) : Nat → List Nat
  | 0 => List.replicate g.nodes.length 0
  | k + 1 => if (gateA g k).2.2 then (deepTo g k).set k (1 + max (dl (deepTo g k) (gateA g k).1) (dl (deepTo g k) (gateA g k).2.1)) else deepTo g k
theorem deepTo_length (g : Gr) (k : Nat) : (deepTo g k).length = g.nodes.length := by
  induction k with
  | zero => simp [deepTo]
  | succ k ih => unfold deepTo; split <;> simp [ih]
theorem dl_eq {A B : List Nat} {l : Nat} (h : A[l / 2]? = B[l / 2]?) : dl A l = dl B l := by
  unfold dl
  rw [List.getD_eq_getElem?_getD, List.getD_eq_getElem?_getD, h]
theorem gateA_is {g : Gr} {k a b : Nat} (h : g.nodes[k]? = some (a, b)) : gateA g k = if a / 2 = k ∨ k = 0 then (0, 0, false) else (a, b, true) := by
  have hk := (List.getElem?_eq_some_iff.1 h).1
  unfold gateA
  by_cases h0 : k = 0
  · subst h0; rw [if_neg (by omega), if_pos (.inr rfl)]
  · rw [if_pos (by omega)]
    simp only [Int.toNat_natCast, h]
    by_cases h1 : a / 2 = k
    · rw [if_pos h1, if_pos (.inl h1)]
    · rw [if_neg h1, if_neg (by omega)]
theorem deepTo_val {g : Gr} (hw : WF g.nodes) : deepTo g g.nodes.length = dpL g.nodes := by
  have main : ∀ k, k ≤ g.nodes.length → ∀ j, (deepTo g k)[j]? = if j < k then (dpL g.nodes)[j]? else (List.replicate g.nodes.length 0)[j]? := by
    intro k
    induction k with
    | zero => intro _ j; simp [deepTo]
    | succ k ih =>
      intro hk j
      have ih := ih (by omega)
      obtain ⟨⟨a, b⟩, hab⟩ : ∃ q, g.nodes[k]? = some q := ⟨_, List.getElem?_eq_getElem (by omega)⟩
      have hga := gateA_is hab
      simp only [deepTo]
      rw [hga]
      by_cases hin : a / 2 = k ∨ k = 0
      · rw [if_pos hin, if_neg (by simp), ih j]
        by_cases hj : j = k
        · subst hj
          rw [if_neg (by omega), if_pos (by omega), dp_none hab hin]
          rw [List.getElem?_replicate, if_pos (by omega)]
        · by_cases hjk : j < k
          · rw [if_pos hjk, if_pos (by omega)]
          · rw [if_neg hjk, if_neg (by omega)]
      · rw [if_neg hin, if_pos rfl]
        have hlt : a / 2 < k ∧ b / 2 < k := by
          rcases hw.each k a b hab with h1 | h1
          · omega
          · omega
        rw [dl_eq (A := deepTo g k) (B := dpL g.nodes) (by rw [ih, if_pos hlt.1]), dl_eq (A := deepTo g k) (B := dpL g.nodes) (by rw [ih, if_pos hlt.2])]
        by_cases hj : j = k
        · subst hj
          rw [List.getElem?_set_self (by rw [deepTo_length]; omega), if_pos (by omega), dp_gate hw hab (by omega) (by omega)]
        · rw [List.getElem?_set_ne (by omega), ih]
          by_cases hjk : j < k
          · rw [if_pos hjk, if_pos (by omega)]
          · rw [if_neg hjk, if_neg (by omega)]
  apply List.ext_getElem?
  intro j
  rw [main _ (Nat.le_refl _)]
  split
  · rfl
  · rename_i hj
    rw [List.getElem?_eq_none (by simp; omega), List.getElem?_eq_none (by rw [dpL_length]; omega)]
/-- the greatest depth of literals, from the left -/
def mostD (D : List Nat) (l : List Nat) : Nat := l.foldl (fun m x => max m (dl D x)) 0
theorem mostD_snoc (D l : List Nat) (x : Nat) : mostD D (l ++ [x]) = max (mostD D l) (dl D x) := by simp [mostD]
theorem mostD_le (ns : List (Nat × Nat)) (l : List Nat) : mostD (dpL ns) l ≤ ns.length := by
  suffices h : ∀ (l : List Nat) (m : Nat), m ≤ ns.length → l.foldl (fun m x => max m (dl (dpL ns) x)) m ≤ ns.length from h l 0 (by omega)
  intro l
  induction l with
  | nil => intro m h; exact h
  | cons x l ih => intro m h; exact ih _ (Nat.max_le.2 ⟨h, dl_le ns x⟩)
end Go.Proofs.YtdmcdhkkbkgnbaaGreat
