/-
  Law 03: the law's own functions: brought, grown (rows of calls).
-/
import Derived.Test.YteikngjanfjmfaaAigIns
namespace Go.Proofs.Yteikngjanfjmfaa
open Go.ChangeShapes Go.WideShapes Go.ChangeAt Go.RowKit
open Go.Maps (Keyed)
open Go.WideMaps
set_option linter.unusedVariables false

variable {w w' : World} {p : Nat} {F S : List Nat} {g : Gr}

/-- literals brought to nodes that are there -/
def bring (g : Gr) (l : List Nat) : List Nat := (l.take 8).map fun x => x % (2 * g.nodes.length)
theorem bring_ok (hw : WF g.nodes) (l : List Nat) : ∀ x ∈ bring g l, g.ok x := by
  intro x hx
  obtain ⟨y, _, rfl⟩ := List.mem_map.1 hx
  have h0 := hw.pos
  have := Nat.mod_lt y (show 0 < 2 * g.nodes.length by omega)
  unfold Gr.ok
  omega
theorem bring_length (g : Gr) (l : List Nat) : (bring g l).length = min l.length 8 := by simp [bring, Nat.min_comm]

theorem take_min {α : Type} (l : List α) (n k : Nat) (h : l.length = n) : l.take (min n k) = l.take k := by
  subst h
  rcases Nat.le_total l.length k with h | h
  · rw [Nat.min_eq_left h, List.take_length, List.take_of_length_le h]
  · rw [Nat.min_eq_right h]
def NewLits (l : List Nat) (n : Nat) (w : World) (e : Ending) (w' : World) : Prop := ∃ a c, e = .returned (.slice a n c) ∧ Own w' 24 a n c (nats .u32 l) ∧ Stepped w w' [] (ft a)
set_option maxHeartbeats 400000 in
theorem brought_c (hg : GraphAt w p F g) (hm : g.nodes.length ≤ 200000) (a : Option Addr) (c n : Nat) (l : List Nat) (hl : l.length = n) (hn : n ≤ 140737488351232) (hnc : n ≤ c) (hs : SlN w .u32 a l) :
    Calls Try.prog 44 #[.pointer (some ⟨p, 0, none⟩), .slice a n c] w (NewLits (bring g l) (bring g l).length w) := by
  have hpos := hg.wf.pos
  have HBL := Lib.hid (show (bring g l).length = min n 8 by rw [bring_length, hl])
  have HB := Lib.hid (show bring g l = (l.take 8).map fun x => x % (2 * g.nodes.length) from rfl)
  have HL := Lib.hid hl; clear hl
  have HG := Lib.hid hg; clear hg
  have hmax : ¬ g.nodes.length < 1 := by omega
  by_cases h8 : n ≤ 8
  all_goals
    obtain ⟨m, hm8⟩ : ∃ m, m = min n 8 := ⟨_, rfl⟩
    have HM := Lib.hid hm8; clear hm8
    go_enter Try.func44, Try.ntmps44
    go_wp2
    go_loopw [5, 14] (fun v i wr => ∃ (k : Nat) (a' : Option Addr) (c' : Nat), k ≤ m ∧ i = .int .i64 k ∧ v = .slice a' k c' ∧ Own wr 24 a' k c' (nats .u32 ((l.take k).map fun x => x % (2 * g.nodes.length))) ∧ Stepped w wr [] (ft a')) (fun _ i _ => m - (intOf i).toNat)
    case atStart => exact ⟨0, none, 0, Nat.zero_le _, rfl, rfl, Own.nil _ _, .refl _ _⟩
    case round =>
      obtain ⟨k, a', c', hk, rfl, rfl, hown, hst⟩ := hrel
      by_cases hlt : k < m
      · have hkl : k < l.length := by have := HL.out; have := HM.out; omega
        have hk8 : k < 8 ∧ k < n := by have := HM.out; omega
        obtain ⟨hk8, hkn⟩ := hk8
        obtain ⟨ad, rfl, hc⟩ := (hs.kept0 hst.kept) k hkl
        have HT := Lib.hid (take_snoc l k hkl)
        generalize l[k] = x at *
        have HR := Lib.hid (show (x : Int) % (2 * (g.nodes.length : Int)) = ((x % (2 * g.nodes.length) : Nat) : Int) by push_cast; rfl)
        go_wp2_with (first
          | (go_at_call 33; refine (aig_nodes (HG.out.kept0 hst.kept) (by omega)).mono ?_; rintro e w' ⟨rfl, rfl⟩)
          | (at_builtin; refine wpList_push rfl rfl Try.underlying46 lit_info rfl rfl rfl hown rfl (by unfold maxLen; omega) (by omega) ?_; intro a1 c1 w1 hown1 hst1))
        go_roundw
        case rel => exact ⟨k + 1, a1, c1, by omega, by go_num, rfl, by rw [HT.out, List.map_append, List.map_cons, List.map_nil, ← nats_append, ← HR.out]; exact hown1, hst.trans hst1⟩
        case measure => simp [intOf]; omega
      · obtain rfl : k = m := by omega
        have HT := Lib.hid (show (l.take k).map (fun x => x % (2 * g.nodes.length)) = bring g l by
          rw [HB.out]
          rw [HM.out, take_min _ _ _ HL.out])
        have hkk : ¬ (k < 8 ∧ k < n) := by have := HM.out; omega
        have hk' : k = n ∨ k = 8 := by have := HM.out; omega
        go_wp2
        go_ret
        exact ⟨a', c', by rw [HBL.out, ← HM.out]; rfl, by rw [HBL.out, ← HM.out, ← HT.out]; exact hown, hst⟩

theorem owns_base {w : World} {b e size n : Nat} {v : Value} {xs : List Value} (h : w.ownsRow b e size v n xs) : w.ownsRow 0 e size v n xs := by
  refine ⟨h.1, ?_⟩
  rcases h.2 with hn | ⟨g, c, cur, hv, hb, rest⟩
  · exact .inl hn
  · exact .inr ⟨g, c, cur, hv, Nat.zero_le _, rest⟩
/-- append to a slice of numbers that came in, where it must grow -/
theorem wpList_grow {P : Program} {w : World} {ops : Array Oper} {rest : List Oper} {o : Oper} {act : Act} {Q : Exit → Act → World → Prop} {s x : Operand} {t e : TypeId} {z : Value} {bytes : Nat} {K : IntKind} {a : Option Addr} {n cap : Nat} {l news : List Nat} {b : Option Addr} {m c : Nat}
    (hgd : o.guard = none) (ho : o.op = .call { callee := .builtin .append, args := #[s, x], argTypes := #[t, t] })
    (ht : P.underlying t = some (.slice e)) (hinfo : (P.info? e).map (fun i => (i.zero, i.size, i.bytes)) = some (some z, 1, bytes)) (hz : z.cells.size = 1)
    (hs : act.eval s = .slice a n cap) (hx : act.eval x = .slice b m c) (hl : l.length = n) (hm : news.length = m) (hm0 : 0 < m) (hnone : a = none → n = 0 ∧ cap = 0) (hsl : SlN w K a l) (hsn : SlN w K b news)
    (hfull : cap < n + m) (h63 : n + m ≤ maxLen) (hbytes : (n + m) * bytes ≤ 140737488355328)
    (h : ∀ a' cap' w', Own w' e a' (n + m) cap' (nats K (l ++ news)) → Stepped w w' [] (ft a') → wpList P ops Q rest (act.put o.dst (.slice a' (n + m) cap')) w') : wpList P ops Q (o :: rest) act w := by
  obtain ⟨i, hi, hiz, hisz, hib⟩ := info3 hinfo
  obtain ⟨ad, hb, _⟩ := hsn 0 (by omega)
  subst hb
  refine wpList_append_grows w hgd s x t ho e i z 1 bytes ht hi hiz hisz hib hz (by omega) a n cap (nats K l) hs hnone (by rw [nats_length, hl, Nat.mul_one]) (fun b hb j u hu => ?_) ad m c (nats K news) hx (by rw [nats_length, hm, Nat.mul_one]) (fun j u hu => ?_) (nats_one _ _) hfull h63 hbytes ?_
  · obtain ⟨hj, rfl⟩ := List.getElem?_eq_some_iff.1 hu
    obtain ⟨ad', h1, h2⟩ := hsl j (by rw [nats_length] at hj; exact hj)
    rw [hb] at h1
    injection h1 with h1
    subst h1
    rw [h2]; simp [nats]
  · obtain ⟨hj, rfl⟩ := List.getElem?_eq_some_iff.1 hu
    obtain ⟨ad', h1, h2⟩ := hsn j (by rw [nats_length] at hj; exact hj)
    injection h1 with h1
    subst h1
    rw [h2]; simp [nats]
  · intro v' w' hown hg
    have hform : ∃ a' cap', v' = .slice a' (n + m) cap' := by
      rcases hown.2 with ⟨_, h0⟩ | ⟨g, c, cur, hv, _⟩
      · omega
      · exact ⟨_, _, hv⟩
    obtain ⟨a', cap', rfl⟩ := hform
    refine h a' cap' w' (by have := owns_base hown; rw [show nats K l ++ nats K news = nats K (l ++ news) by simp [nats]] at this; exact this) ⟨⟨hg.os, hg.tape, hg.output, hg.size, fun k hk _ => hg.block k hk (by simp)⟩, fun b hb => ?_⟩
    exact .inr (World.ownsRow.lt hown b ((ownBlock_ft _ _ _ _).2 hb)).1

/-- The law's rows of calls: what, and the literals. -/
def SlActs (w : World) (a : Option Addr) (acts : List (Int × List Nat)) : Prop := ∀ k (h : k < acts.length), ∃ b o al cl, a = some ⟨b, o, none⟩ ∧ w.cell? ⟨b, o + k * 2, none⟩ = some (.int .i64 acts[k].1) ∧ w.cell? ⟨b, o + k * 2 + 1, none⟩ = some (.slice al acts[k].2.length cl) ∧
  acts[k].2.length ≤ cl ∧ cl ≤ 140737488351232 ∧ (al = none → acts[k].2.length = 0 ∧ cl = 0) ∧ SlN w .u32 al acts[k].2
theorem SlActs.kept0 {a : Option Addr} {acts : List (Int × List Nat)} (h : SlActs w a acts) (hk : Kept [] w w') : SlActs w' a acts := fun k hl => by
  obtain ⟨b, o, al, cl, h1, h2, h3, h4, h5, h6, h7⟩ := h k hl
  exact ⟨b, o, al, cl, h1, hk.cell h2 (by simp), hk.cell h3 (by simp), h4, h5, h6, h7.kept0 hk⟩

/-- what one call does: none: nothing at all -/
def actG (g : Gr) (raw : Bool) (act : Int × List Nat) : Option (Gr × Nat) :=
  if act.1 = 0 then some (inputG g)
  else if act.1 = 1 then some (manyG andG g 1 (bring g (act.2.take 8 ++ [0, 0, 0])))
  else if act.1 = 2 then some (manyG orG g 0 (bring g (act.2.take 8 ++ [0, 0, 0])))
  else if act.1 = 3 then some (manyG xorG g 0 (bring g (act.2.take 8 ++ [0, 0, 0])))
  else if act.1 = 4 then some (muxG g ((bring g (act.2.take 8 ++ [0, 0, 0])).getD 0 0) ((bring g (act.2.take 8 ++ [0, 0, 0])).getD 1 0) ((bring g (act.2.take 8 ++ [0, 0, 0])).getD 2 0))
  else if act.1 = 5 ∧ raw = true then some (gateG g ((bring g (act.2.take 8 ++ [0, 0, 0])).getD 0 0) ((bring g (act.2.take 8 ++ [0, 0, 0])).getD 1 0))
  else none
def actS (raw : Bool) (s : Gr × List Nat) (act : Int × List Nat) : Gr × List Nat := match actG s.1 raw act with
  | some r => (r.1, s.2 ++ [r.2])
  | none => s
def grownTo (raw : Bool) (s : Gr × List Nat) (acts : List (Int × List Nat)) (k : Nat) : Gr × List Nat := (acts.take k).foldl (actS raw) s
theorem grownTo_succ (raw : Bool) (s : Gr × List Nat) (acts : List (Int × List Nat)) (k : Nat) (h : k < acts.length) : grownTo raw s acts (k + 1) = actS raw (grownTo raw s acts k) acts[k] := by
  unfold grownTo
  rw [take_snoc _ _ h, List.foldl_append]
  rfl
theorem bring3 (g : Gr) (l : List Nat) : 3 ≤ (bring g (l.take 8 ++ [0, 0, 0])).length := by rw [bring_length]; simp; omega
theorem getD_mem {l : List Nat} {k : Nat} (h : k < l.length) : l.getD k 0 ∈ l := by rw [List.getD_eq_getElem?_getD, List.getElem?_eq_getElem h]; exact List.getElem_mem h
theorem actG_spec {g : Gr} (hw : WF g.nodes) {raw : Bool} {act : Int × List Nat} {r : Gr × Nat} (h : actG g raw act = some r) :
    WF r.1.nodes ∧ r.1.ok r.2 ∧ g.nodes.length ≤ r.1.nodes.length ∧ r.1.nodes.length ≤ g.nodes.length + 24 ∧ r.1.fold = g.fold ∧ r.1.hash = g.hash := by
  have hb := bring_ok hw (act.2.take 8 ++ [0, 0, 0])
  have h3 := bring3 g act.2
  have h8 : (bring g (act.2.take 8 ++ [0, 0, 0])).length ≤ 8 := by rw [bring_length]; omega
  unfold actG at h
  have ext : ∀ {k : Nat} {r : Gr × Nat}, WF r.1.nodes ∧ Ext k g r.1 ∧ r.1.ok r.2 → k ≤ 24 → WF r.1.nodes ∧ r.1.ok r.2 ∧ g.nodes.length ≤ r.1.nodes.length ∧ r.1.nodes.length ≤ g.nodes.length + 24 ∧ r.1.fold = g.fold ∧ r.1.hash = g.hash := by
    intro k r h hk
    have := h.2.1.le
    exact ⟨h.1, h.2.2, this.1, by omega, h.2.1.fold, h.2.1.hash⟩
  split at h
  · injection h with h; subst h
    have := inputG_spec hw
    exact ⟨this.1, this.2.1, by simp [inputG], by simp [inputG], rfl, rfl⟩
  split at h
  · injection h with h; subst h
    exact ext (manyG_spec andG two_and hw (by omega) _ hb) (by omega)
  split at h
  · injection h with h; subst h
    exact ext (manyG_spec orG two_or hw (by omega) _ hb) (by omega)
  split at h
  · injection h with h; subst h
    exact ext (manyG_spec xorG two_xor hw (by omega) _ hb) (by omega)
  split at h
  · injection h with h; subst h
    exact ext (muxG_spec hw (hb _ (getD_mem (by omega))) (hb _ (getD_mem (by omega))) (hb _ (getD_mem (by omega)))) (by omega)
  split at h
  · injection h with h; subst h
    exact ext (gateG_spec hw (hb _ (getD_mem (by omega))) (hb _ (getD_mem (by omega)))) (by omega)
  · cases h
structure GrownOk (k : Nat) (o1 o2 : Bool) (s : Gr × List Nat) : Prop where
  wf : WF s.1.nodes
  told : ∀ x ∈ s.2, s.1.ok x
  size : s.1.nodes.length ≤ 1 + 24 * k
  many : s.2.length ≤ k
  fold : s.1.fold = o1
  hash : s.1.hash = o2
theorem actS_ok {k : Nat} {o1 o2 raw : Bool} {s : Gr × List Nat} (h : GrownOk k o1 o2 s) (act : Int × List Nat) : GrownOk (k + 1) o1 o2 (actS raw s act) := by
  unfold actS
  cases hr : actG s.1 raw act with
  | none => exact ⟨h.wf, h.told, by have := h.size; simp only; omega, by have := h.many; simp only; omega, h.fold, h.hash⟩
  | some r =>
    obtain ⟨h1, h2, h3, h4, h5, h6⟩ := actG_spec h.wf hr
    refine ⟨h1, fun x hx => ?_, by have := h.size; simp only; omega, by have := h.many; simp; omega, h5.trans h.fold, h6.trans h.hash⟩
    rcases List.mem_append.1 hx with hx | hx
    · have := h.told x hx; unfold Gr.ok at *; simp only; omega
    · simp at hx; subst hx; exact h2
def startG (o1 o2 : Bool) : Gr × List Nat := ({ fold := o1, hash := o2, nodes := [(0, 0)] }, [])
theorem start_ok (o1 o2 : Bool) : GrownOk 0 o1 o2 (startG o1 o2) := ⟨⟨rfl, fun i a b hi => by
  cases i with
  | zero => simp [startG] at hi; omega
  | succ i => simp [startG] at hi⟩, by simp [startG], by simp [startG], by simp [startG], rfl, rfl⟩
theorem grownTo_ok (o1 o2 raw : Bool) (acts : List (Int × List Nat)) (k : Nat) : GrownOk (acts.take k).length o1 o2 (grownTo raw (startG o1 o2) acts k) := by
  unfold grownTo
  generalize acts.take k = l
  have : ∀ (l : List (Int × List Nat)) (n : Nat) (s : Gr × List Nat), GrownOk n o1 o2 s → GrownOk (n + l.length) o1 o2 (l.foldl (actS raw) s) := by
    intro l
    induction l with
    | nil => intro n s h; exact h
    | cons x l ih =>
      intro n s h
      have := ih (n + 1) _ (actS_ok (raw := raw) h x)
      rw [show n + 1 + l.length = n + (x :: l).length by simp; omega] at this
      exact this
  simpa using this l 0 _ (start_ok o1 o2)
end Go.Proofs.Yteikngjanfjmfaa
