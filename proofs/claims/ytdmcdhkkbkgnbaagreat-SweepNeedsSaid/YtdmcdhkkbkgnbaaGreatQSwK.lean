/-
  A row of literals of the call's own that is cut at its front and gone on with.
-/
import Derived.Test.YtdmcdhkkbkgnbaaGreatP32
import Derived.Laws.IdiomCopy
import Derived.Deep.AppendSrc
namespace Go.Proofs.YtdmcdhkkbkgnbaaGreat
open Go.ChangeShapes Go.WideShapes Go.ChangeAt Go.RowKit
open Go.Maps (Keyed)
open Go.WideMaps
set_option linter.unusedVariables false
set_option linter.unusedSimpArgs false

variable {w w' W : World} {n c m k : Nat} {a a' : Option Addr} {l : List Nat} {F S : List Nat}
/-- the slice lies at an offset in a row of the call's own; what is behind it, as far as it may grow, is there -/
structure OwnO (w : World) (a : Option Addr) (n c : Nat) (l : List Nat) : Prop where
  len : l.length = n
  le : n ≤ c
  cm : c ≤ maxLen
  at_ : (a = none ∧ c = 0) ∨ ∃ g o, a = some ⟨g, o, none⟩ ∧ (∀ j (h : j < l.length), w.cell? ⟨g, o + j, none⟩ = some (.int .u32 (l[j] : Nat))) ∧ (∀ j, j < c → (w.cell? ⟨g, o + j, none⟩).isSome = true ∧ w.frozen? ⟨g, o + j, none⟩ = false) ∧ g < w.heap.size
theorem OwnO.kept (h : OwnO w a n c l) (hk : Kept S w w') (hd : ∀ b ∈ ft a, b ∉ S) : OwnO w' a n c l := by
  refine ⟨h.len, h.le, h.cm, ?_⟩
  rcases h.at_ with h1 | ⟨g, o, rfl, h2, h3, h4⟩
  · exact .inl h1
  · have hg := hd g (by simp [ft])
    refine .inr ⟨g, o, rfl, fun j hj => hk.cell (h2 j hj) hg, fun j hj => ⟨?_, ?_⟩, Nat.lt_of_lt_of_le h4 hk.size⟩
    · obtain ⟨u, hu⟩ := Option.isSome_iff_exists.1 (h3 j hj).1
      rw [hk.cell hu hg]; rfl
    · rw [hk.frozen (p := ⟨g, o + j, none⟩) h4 hg]
      exact (h3 j hj).2
theorem OwnO.kept0 (h : OwnO w a n c l) (hk : Kept [] w w') : OwnO w' a n c l := h.kept hk (by simp)
theorem OwnO.lt (h : OwnO w a n c l) : ∀ b ∈ ft a, b < w.heap.size := fun b hb => by
  rcases h.at_ with ⟨rfl, _⟩ | ⟨g, o, rfl, _, _, h4⟩
  · simp [ft] at hb
  · simp [ft] at hb; subst hb; exact h4
theorem add_at0 (g j : Nat) : (⟨g, 0, none⟩ : Addr).add j = ⟨g, j, none⟩ := by unfold Addr.add; split <;> simp_all
theorem add_atO (g o j : Nat) : (⟨g, o, none⟩ : Addr).add j = ⟨g, o + j, none⟩ := by unfold Addr.add; split <;> simp_all
theorem Own.toO (h : Own w 61 a n c (nats .u32 l)) : OwnO w a n c l := by
  have hl : l.length = n := by have := h.len; rwa [nats_length] at this
  rcases h.2 with ⟨hv, h0⟩ | ⟨g, cap, cur, hv, hb, hg, hle, hcm, hcs, htk⟩
  · injection hv with h1 h2 h3
    subst h1 h2 h3
    exact ⟨hl, Nat.le_refl _, by unfold maxLen; omega, .inl ⟨rfl, rfl⟩⟩
  · injection hv with h1 h2 h3
    subst h1 h3
    refine ⟨hl, hle, hcm, .inr ⟨g, 0, rfl, fun j hj => ?_, fun j hj => ?_, (Array.getElem?_eq_some_iff.1 hg).1⟩⟩
    · have h2 := h.sln j hj
      obtain ⟨ad, e1, e2⟩ := h2
      injection e1 with e1
      subst e1
      rw [add_at0] at e2
      rw [Nat.zero_add]
      exact e2
    · rw [Nat.zero_add]
      refine ⟨?_, blk_free hg j⟩
      rw [blk_cell hg, Array.getElem?_eq_getElem (by rw [hcs]; omega : j < cur.size)]
      rfl
theorem OwnO.sln (h : OwnO w a n c l) : SlN w .u32 a l := fun j hj => by
  rcases h.at_ with ⟨rfl, h0⟩ | ⟨g, o, rfl, h2, _⟩
  · have := h.len; have := h.le; omega
  · exact ⟨_, rfl, by rw [add_atO]; exact h2 j hj⟩
theorem OwnO.nil (w : World) : OwnO w none 0 0 [] := ⟨rfl, Nat.le_refl _, by unfold maxLen; omega, .inl ⟨rfl, rfl⟩⟩
/-- cut at the front -/
theorem OwnO.tail {x : Nat} (h : OwnO w a (n + 1) c (x :: l)) : ∃ a' c', (∀ V : World, (Instr.sliceAt 58 (.slice a (n + 1) c) (some (.int .i64 1)) none none).run Tryz.prog V = .ok (.slice a' n c') V) ∧ OwnO w a' n c' l ∧ ft a' = ft a := by
  have hc := h.le
  have hz : ∀ V, (Instr.sliceAt 58 (.slice a (n + 1) c) (some (.int .i64 1)) none none).run Tryz.prog V = .ok (sliced a 1 (n + 1) c 1) V := fun V => by
    rw [run_sliceAt_slice (P := Tryz.prog) V _ _ _ _ _ (by rw [elem_lits]; exact Tryz.underlying58), run_slice_l (P := Tryz.prog) V _ a (n + 1) c (by rw [elem_lits]; exact Tryz.underlying58) .i64 1 (by omega) (by omega), elem_lits, size_lit]
    simp only [Result.andThen_ok]
    rfl
  unfold sliced at hz
  have hl : l.length = n := by have := h.len; simpa using this
  rcases h.at_ with ⟨rfl, h0⟩ | ⟨g, o, rfl, h2, h3, h4⟩
  · omega
  · by_cases h1 : c = 1
    · subst h1
      rw [if_pos rfl] at hz
      refine ⟨_, _, hz, ⟨hl, by omega, by unfold maxLen; omega, .inr ⟨g, o, rfl, fun j hj => ?_, fun j hj => h3 j (by omega), h4⟩⟩, rfl⟩
      omega
    · rw [if_neg h1] at hz
      simp only [Option.map_some, Nat.one_mul, add_atO] at hz
      refine ⟨_, _, hz, ⟨hl, by omega, by have := h.cm; omega, .inr ⟨g, o + 1, rfl, fun j hj => ?_, fun j hj => ?_, h4⟩⟩, rfl⟩
      · have := h2 (j + 1) (by simpa using hj)
        rw [show o + 1 + j = o + (j + 1) by omega]
        simpa using this
      · rw [show o + 1 + j = o + (j + 1) by omega]
        exact h3 (j + 1) (by omega)
theorem setCells_kept (b : Nat) : ∀ (vs : List Value) (o : Nat) (w : World), Kept [b] w (w.setCells b o vs)
  | [], _, w => .refl _ _
  | v :: r, o, w => ((Kept.refl [b] w).setCell (p := ⟨b, o, none⟩) (.inl (by simp)) v).trans (setCells_kept b r (o + 1) _)
/-- gone on with -/
theorem OwnO.append {nl : List Nat} {ad : Addr} {mc : Nat} {ty : TypeId} (h : OwnO w a n c l) (hm : nl.length = m) (hnews : ∀ j u, (nats .u32 nl)[j]? = some u → w.cell? (ad.add j) = some u) (hb : n + m ≤ 10000000) :
    ∃ a' c' w', (Builtin.append_ #[58, 58] ty #[.slice a n c, .slice (some ad) m mc]).run Tryz.prog w = .ok (.slice a' (n + m) c') w' ∧ OwnO w' a' (n + m) c' (l ++ nl) ∧ Stepped w w' (ft a) (ft a') := by
  obtain ⟨i, hi, hiz, hisz, hib⟩ := info3 lit_info
  have hnl : (nats .u32 nl).length = m * i.size := by rw [nats_length, hm, hisz, Nat.mul_one]
  have hone : ∀ u ∈ nats .u32 nl, u.oneCell' = true := by intro u hu; simp [nats] at hu; obtain ⟨_, _, rfl⟩ := hu; rfl
  rcases h.at_ with ⟨rfl, h0⟩ | ⟨g, o, rfl, h2, h3, h4⟩
  · have hn : n = 0 := by have := h.le; omega
    subst hn h0
    have hl : l = [] := List.eq_nil_of_length_eq_zero h.len
    subst hl
    obtain ⟨v', w', hr, hown', hg, _, hat⟩ := run_append_own_at (P := Tryz.prog) w 0 58 ty 61 i (.int .u32 0) 1 4 Tryz.underlying58 hi hiz hisz hib rfl (by omega) (.slice none 0 0) 0 [] (World.ownsRow_nil _ _ _ _) ad m mc (nats .u32 nl) (by rw [nats_length, hm, Nat.mul_one]) hnews hone (by unfold maxLen; omega) (by omega) (Nat.zero_le _)
    have hform : ∃ a' cap', v' = .slice a' (0 + m) cap' := by
      rcases hown'.2 with ⟨hv, h0⟩ | ⟨g, c, cur, hv, _⟩
      · exact ⟨none, 0, by rw [hv, h0]⟩
      · exact ⟨_, _, hv⟩
    obtain ⟨a', cap', rfl⟩ := hform
    refine ⟨a', cap', w', hr, ?_, ⟨⟨hg.os, hg.tape, hg.output, hg.size, fun k hk hn => hg.block k hk (by simp [Value.ownBlock])⟩, fun b hb => ?_⟩⟩
    · exact Own.toO (l := [] ++ nl) (by unfold Own; simpa using hown')
    · have hb' := (ownBlock_ft a' (0 + m) cap' b).2 hb
      rcases hat with h1 | h1
      · rw [h1] at hb'
        exact .inl ((ownBlock_ft _ _ _ _).1 hb')
      · rw [h1] at hb'
        simp at hb'
        exact .inr (by omega)
  · have hln := h.len
    by_cases hroom : n + m ≤ c
    · have hs := Src.ofSlice (P := Tryz.prog) w (size := i.size) (tx := 58) Tryz.underlying58 ad m mc (nats .u32 nl) hnl hnews hone
      have hcs : ∀ j, j < (nats .u32 nl).length → (w.cell? ⟨g, o + n * i.size + j, none⟩).isSome = true := fun j hj => by
        rw [nats_length, hm] at hj
        rw [hisz, Nat.mul_one, Nat.add_assoc]
        exact (h3 (n + j) (by omega)).1
      have hfs : ∀ j, j < (nats .u32 nl).length → w.frozen? ⟨g, o + n * i.size + j, none⟩ = false := fun j hj => by
        rw [nats_length, hm] at hj
        rw [hisz, Nat.mul_one, Nat.add_assoc]
        exact (h3 (n + j) (by omega)).2
      have hr := run_append_room_src (P := Tryz.prog) w 58 58 ty 61 i Tryz.underlying58 hi g o n c _ m (nats .u32 nl) hs hroom hcs hfs
      have hk := setCells_kept g (nats .u32 nl) (o + n * i.size) w
      refine ⟨_, _, _, hr, ⟨by rw [List.length_append, hln, hm], hroom, h.cm, .inr ⟨g, o, rfl, fun j hj => ?_, fun j hj => ⟨?_, ?_⟩, Nat.lt_of_lt_of_le h4 hk.size⟩⟩, ⟨hk.more (by simp [ft]), fun b hb => .inl hb⟩⟩
      · rw [List.length_append] at hj
        by_cases hjl : j < l.length
        · rw [World.cell?_setCells_out _ _ _ _ _ (fun _ _ => .inl (by show o + j < _; rw [hisz]; omega)), List.getElem_append_left hjl]
          exact h2 j hjl
        · have hin := World.cell?_setCells_in g (nats .u32 nl) (o + n * i.size) w hcs (j - l.length) (by rw [nats_length]; omega)
          rw [show o + n * i.size + (j - l.length) = o + j by rw [hisz, ← hln]; omega] at hin
          rw [hin, List.getElem_append_right (by omega)]
          simp [nats]
      · by_cases hjn : j < n ∨ n + m ≤ j
        · rw [World.cell?_setCells_out _ _ _ _ _ (fun _ _ => by rw [nats_length, hm, hisz]; show o + j < _ ∨ _ ≤ o + j; omega)]
          exact (h3 j hj).1
        · have hin := World.cell?_setCells_in g (nats .u32 nl) (o + n * i.size) w hcs (j - n) (by rw [nats_length]; omega)
          rw [show o + n * i.size + (j - n) = o + j by rw [hisz]; omega] at hin
          rw [hin]; rfl
      · rw [World.frozen?_setCells]
        exact (h3 j hj).2
    · have hr := run_append_grow (P := Tryz.prog) w 58 ty 61 i (.int .u32 0) Tryz.underlying58 hi hiz ⟨g, o, none⟩ n c (nats .u32 l) (by rw [nats_length, hln, hisz, Nat.mul_one]) (fun j v hv => by
          have hj : j < l.length := by have := (List.getElem?_eq_some_iff.1 hv).1; rwa [nats_length] at this
          rw [add_atO, h2 j hj, ← hv]
          simp [nats, hj]) ad m mc (nats .u32 nl) hnl hnews (by omega) (by omega) (growslice_fits (by omega) (by rw [hib]; omega))
      have hge := grownCap_ge w (n + m) c 61
      have hcm : grownCap w (n + m) c 61 ≤ maxLen := grownCap_le_maxLen w (n + m) c _ (by unfold maxLen; omega)
      generalize grownCap w (n + m) c 61 = gc at *
      have hnew := show (w.drew.alloc (.cells ((nats .u32 l).toArray ++ (nats .u32 nl).toArray ++ Builtin.zeroCells (Value.int .u32 0).cells (gc - (n + m))) 61)).heap[w.heap.size]? = _ from heap_alloc_new w.drew (.cells ((nats .u32 l).toArray ++ (nats .u32 nl).toArray ++ Builtin.zeroCells (Value.int .u32 0).cells (gc - (n + m))) 61)
      have hzc : (Builtin.zeroCells (Value.int .u32 0).cells (gc - (n + m))).size = gc - (n + m) := by rw [size_zeroCells]; exact Nat.mul_one _
      refine ⟨_, _, _, hr, ⟨by rw [List.length_append, hln, hm], hge, hcm, .inr ⟨w.heap.size, 0, rfl, fun j hj => ?_, fun j hj => ⟨?_, ?_⟩, by simp⟩⟩, ⟨((Kept.refl _ w).drew).alloc _, fun b hb => .inr (by simp [ft] at hb; omega)⟩⟩
      · rw [List.length_append] at hj
        rw [Nat.zero_add, blk_cell hnew]
        rw [Array.getElem?_append_left (by simp [nats_length]; omega)]
        simp only [List.append_toArray, List.getElem?_toArray]
        rw [← nats_app, nats, List.getElem?_map, List.getElem?_eq_getElem (by rw [List.length_append]; exact hj)]
        rfl
      · rw [Nat.zero_add, blk_cell hnew]
        rw [Array.getElem?_eq_getElem (by simp only [Array.size_append, List.size_toArray, nats_length, hzc]; omega)]
        rfl
      · rw [Nat.zero_add]
        exact blk_free hnew j
/-- append in a walk -/
theorem wpList_catO {ops : Array Oper} {rest : List Oper} {o : Oper} {act : Act} {Q : Exit → Act → World → Prop} {s x : Operand} {nl : List Nat} {ad : Addr} {mc : Nat}
    (hgd : o.guard = none) (ho : o.op = .call { callee := .builtin .append, args := #[s, x], argTypes := #[58, 58] })
    (hs : act.eval s = .slice a n c) (hx : act.eval x = .slice (some ad) m mc) (h : OwnO w a n c l) (hm : nl.length = m) (hnews : ∀ j u, (nats .u32 nl)[j]? = some u → w.cell? (ad.add j) = some u) (hb : n + m ≤ 10000000)
    (hK : ∀ a' c' w', OwnO w' a' (n + m) c' (l ++ nl) → Stepped w w' (ft a) (ft a') → wpList Tryz.prog ops Q rest (act.put o.dst (.slice a' (n + m) c')) w') : wpList Tryz.prog ops Q (o :: rest) act w := by
  refine wpList_plain hgd fun K hK' => ?_
  obtain ⟨a', c', w', hr, h1, h2⟩ := h.append (ty := o.type) (mc := mc) hm hnews hb
  unfold Oper.wp execOp
  simp only [ho, resolve, invoke, builtin, Sem.run_bind, Sem.run_pure, Result.andThen_ok, List.map_toArray, List.map_cons, List.map_nil, hs, hx, hr]
  exact hK' _ _ (hK a' c' w' h1 h2)
end Go.Proofs.YtdmcdhkkbkgnbaaGreat
