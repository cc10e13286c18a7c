/-
  Law 15: a sign.
-/
import Derived.Test.YtjnjldbegngooaaDoorTokD
namespace Go.Proofs.YtjnjldbegngooaaDoor
open Go.ChangeShapes Go.WideShapes Go.ChangeAt Go.RowKit
set_option linter.unusedVariables false
set_option linter.unusedSimpArgs false

variable {w w' w1 W : World}
def tkV (x : Tk) : Value := .agg #[.int .i64 (x.kind : Int), .string ⟨x.text.toArray⟩, .int .i64 (x.at_ : Int), .int .u64 (x.n : Int), .bool x.ty.b, .bool x.ty.sg, .int .i64 x.ty.w]
/-- a token read, or none -/
def OnePost (r : Option Tk) (w : World) (e : Ending) (w' : World) : Prop := (∃ x, (e = .returned (.tuple #[tkV x, .bool r.isSome]) ∧ ∀ y, r = some y → x = y)) ∧ Kept [] w w'
theorem find_at {α : Type} {p : α → Bool} (L : List α) (j : Nat) (h : j < L.length) (hp : p L[j] = true) (hn : ∀ m (hm : m < j), p (L[m]'(by omega)) = false) : L.find? p = some L[j] := by
  rw [List.find?_eq_some_iff_getElem]
  exact ⟨hp, j, h, rfl, fun m hm => by simp [hn m hm]⟩
theorem find_no {α : Type} {p : α → Bool} (L : List α) (hn : ∀ m (hm : m < L.length), p L[m] = false) : L.find? p = none := by
  rw [List.find?_eq_none]
  intro x hx
  obtain ⟨m, hm, rfl⟩ := List.getElem_of_mem hx
  simp [hn m hm]
theorem extract_rest (S : ByteArray) (k : Nat) : (S.extract k S.size).data.toList = S.data.toList.drop k := by
  rw [ext_list]
  have h : (S.data.toList.drop k).length ≤ S.size - k := by rw [List.length_drop]; exact Nat.le_refl _
  simp [List.take_of_length_le h]
theorem kept_mix {T S : List Nat} {w wr w2 : World} (h : Kept T w wr) (hk : Kept S wr w2) (hS : ∀ b ∈ S, b ∈ T ∨ w.heap.size ≤ b) : Kept T w w2 :=
  ⟨hk.os.trans h.os, hk.tape.trans h.tape, hk.output.trans h.output, Nat.le_trans h.size hk.size, fun k hk1 hk2 => by
    rw [← h.block k hk1 hk2]
    exact hk.block k (Nat.lt_of_lt_of_le hk1 h.size) (fun hm => by
      rcases hS k hm with h1 | h1
      · exact hk2 h1
      · omega)⟩
/-- a whole struct stored into a block of its own -/
theorem wpList_box {P : Program} {ops : Array Oper} {rest : List Oper} {o : Oper} {a : Act} {w : World} {Q : Exit → Act → World → Prop} {ty T : TypeId} {x y : Operand} {cells old : Array Value} (hgd : o.guard = none) (ho : o.op = .store ty x y) (g : Nat)
    (hx : a.eval x = .pointer (some ⟨g, 0, none⟩)) (hy : a.eval y = .agg cells) (hg : w.heap[g]? = some (.cells old T (0, 0))) (hi : (P.info? ty).map (·.size) = some cells.size) (hold : old.size = cells.size) (h1 : cells.all (·.oneCell') = true)
    (h : ∀ w', w'.heap[g]? = some (.cells cells T (0, 0)) → Kept [g] w w' → wpList P ops Q rest (a.put o.dst undef) w') : wpList P ops Q (o :: rest) a w := by
  refine wpList_store_row hgd ty x y ho g cells hx hy T old hg hi hold h1 (h _ (setRow_heap _ _ _ _ _ _ hg) ?_)
  exact ⟨rfl, rfl, rfl, by simp [World.setRow], fun k _ hn => setRow_other _ _ _ _ (fun e => hn (by simp [e]))⟩
/-- a token stored whole -/
theorem wpList_tk {ops : Array Oper} {rest : List Oper} {o : Oper} {a : Act} {w : World} {Q : Exit → Act → World → Prop} {x y : Operand} {v0 v1 v2 v3 v4 v5 v6 u0 u1 u2 u3 u4 u5 u6 : Value} (hgd : o.guard = none) (ho : o.op = .store 37 x y) (g : Nat)
    (hx : a.eval x = .pointer (some ⟨g, 0, none⟩)) (hy : a.eval y = .agg #[v0, v1, v2, v3, v4, v5, v6]) (hg : w.heap[g]? = some (.cells #[u0, u1, u2, u3, u4, u5, u6] 37 (0, 0))) (h1 : v0.oneCell' = true ∧ v1.oneCell' = true ∧ v2.oneCell' = true ∧ v3.oneCell' = true ∧ v4.oneCell' = true ∧ v5.oneCell' = true ∧ v6.oneCell' = true)
    (h : ∀ w', w'.heap[g]? = some (.cells #[v0, v1, v2, v3, v4, v5, v6] 37 (0, 0)) → Kept [g] w w' → wpList Tryd.prog ops Q rest (a.put o.dst undef) w') : wpList Tryd.prog ops Q (o :: rest) a w := by
  obtain ⟨h0, h1, h2, h3, h4, h5, h6⟩ := h1
  exact wpList_box hgd ho g hx hy hg (by kernel_rfl) rfl (by simp [h0, h1, h2, h3, h4, h5, h6]) h
def zTk : Obj := .cells #[.int .i64 0, .string ⟨#[]⟩, .int .i64 0, .int .u64 0, .bool false, .bool false, .int .i64 0] 37 (0, 0)
set_option maxHeartbeats 3200000 in
set_option maxRecDepth 100000 in
theorem sign_c (rb : Nat) (S : ByteArray) (k : Nat) (w : World) (hL : Laid w) (hr : RdS w rb S k) (hk : k ≤ S.size) (hS : S.size ≤ 140737488351232) :
    Calls Tryd.prog 23 #[.pointer (some ⟨rb, 0, none⟩)] w (OnePost (signB (S.data.toList.drop k)) w) := by
  have HR := Lib.hid hr
  have HL := Lib.hid hL
  have HX := Lib.hid (extract_rest S k)
  clear hr hL
  go_enter Tryd.func23, Tryd.ntmps23
  obtain ⟨t, fr, hsg⟩ := HL.out.signs
  have HSG := Lib.hid hsg
  clear hsg
  have hlt := blk_lt HSG.out
  go_wp2_with (refine wpList_load_row rfl 80 _ rfl 1 rfl _ _ _ _ (((Kept.refl [] w).alloc _).heap HSG.out List.not_mem_nil) Tryd.underlying80 rfl (by kernel_rfl) ?_)
  have KA := Lib.hid ((Kept.refl [] w).alloc zTk)
  have HB := Lib.hid (heap_alloc_new w zTk)
  obtain ⟨L, hL⟩ : ∃ L, L = S.data.toList.drop k := ⟨_, rfl⟩
  rw [← hL] at HX ⊢
  clear hL
  go_loopw [7] (fun i wr => ∃ j : Nat, j ≤ 17 ∧ i = .int .i64 j ∧ Kept [] (w.alloc zTk) wr ∧ ∀ m (h : m < 17), m < j → (signsL[m]'h).isPrefixOf L = false) (fun i _ => 17 - (intOf i).toNat)
  case atStart => exact ⟨0, by omega, rfl, .refl _ _, fun m h h1 => absurd h1 (by omega)⟩
  case round =>
    obtain ⟨j, hj, rfl, kr, hall⟩ := hrel
    have KR := Lib.hid kr
    have HA := Lib.hid hall
    have hrr := (HR.out.kept KA.out (by simp)).kept kr (by simp)
    have c0 : wr.cell? ⟨rb, 0, none⟩ = some (.string S) := blk_cell hrr 0
    have c1 : wr.cell? ⟨rb, 1, none⟩ = some (.int .i64 (k : Int)) := blk_cell hrr 1
    have hzb : wr.heap[w.heap.size]? = some (.cells #[.int .i64 0, .string ⟨#[]⟩, .int .i64 0, .int .u64 0, .bool false, .bool false, .int .i64 0] 37 (0, 0)) := kr.heap HB.out (by simp)
    have HZB := Lib.hid hzb
    clear kr hall hrr hzb
    by_cases hlt2 : j < 17
    · have hix := signs_ix j hlt2
      have HP := Lib.hid (fun W => strings_hp (S.extract k S.size) ⟨(signsL[j]'hlt2).toArray⟩ W)
      have HPE := Lib.hid (show hpB (S.extract k S.size) ⟨(signsL[j]'hlt2).toArray⟩ = (signsL[j]'hlt2).isPrefixOf L from by
        unfold hpB
        rw [HX.out])
      obtain ⟨b, hb⟩ : ∃ b, b = hpB (S.extract k S.size) ⟨(signsL[j]'hlt2).toArray⟩ := ⟨_, rfl⟩
      rw [← hb] at HP HPE
      clear hb
      obtain ⟨sj, hsj⟩ : ∃ sj, sj = signsL[j]'hlt2 := ⟨_, rfl⟩
      have HSJ := Lib.hid hsj
      rw [← hsj] at HP HPE hix
      clear hsj
      cases b with
      | true =>
        have HF := Lib.hid (show signB L = some ⟨6, sj, 0, 0, noTy⟩ from by
          unfold signB
          rw [find_at signsL j hlt2 (by rw [← HSJ.out]; exact HPE.out.symm) (fun m hm => HA.out m (by omega) hm), ← HSJ.out]
          rfl)
        go_wp2_with fail
        go_quiet ((go_at_call 35; exact q_same (HP.out _)))
        go_wp2_with (refine wpList_tk rfl rfl w.heap.size rfl rfl (((Kept.refl [] wr).drewN _).heap HZB.out List.not_mem_nil) ⟨rfl, rfl, rfl, rfl, rfl, rfl, rfl⟩ ?_)
        intro w5 hw5 k5
        have K5 := Lib.hid k5
        have e0 := blk_cell hw5 0; have e1 := blk_cell hw5 1; have e2 := blk_cell hw5 2; have e3 := blk_cell hw5 3; have e4 := blk_cell hw5 4; have e5 := blk_cell hw5 5; have e6 := blk_cell hw5 6; simp only [List.getElem?_toArray, List.getElem?_cons_zero, List.getElem?_cons_succ] at e0 e1 e2 e3 e4 e5 e6
        clear hw5 k5
        go_wp2_with fail
        refine bodyPost_ret (v := .tuple #[tkV ⟨6, sj, 0, 0, noTy⟩, .bool true]) (by simp [results, Tryd.results23, go_sem, tkV, noTy, e0, e1, e2, e3, e4, e5, e6]) rfl ?_
        rw [HF.out]
        exact ⟨⟨_, rfl, fun y hy => by injection hy⟩, kept_mix ((KA.out.trans KR.out).drewN _) K5.out (by simp)⟩
      | false =>
        have HA2 := Lib.hid (show ∀ m (h : m < 17), m < j + 1 → (signsL[m]'h).isPrefixOf L = false from fun m h h1 => by
          by_cases h2 : m < j
          · exact HA.out m h h2
          · obtain rfl : m = j := by omega
            rw [← HSJ.out]
            exact HPE.out.symm)
        go_wp2_with fail
        go_quiet ((go_at_call 35; exact q_same (HP.out _)))
        go_wp2_with fail
        go_roundw
        case rel => exact ⟨j + 1, by omega, by go_num, KR.out.drewN _, HA2.out⟩
        case measure => simp [intOf]; omega
    · obtain rfl : j = 17 := by omega
      have HF := Lib.hid (show signB L = none from by
        unfold signB
        rw [find_no signsL (fun m hm => HA.out m hm hm)]
        rfl)
      go_wp2_with (refine wpList_tk rfl rfl w.heap.size rfl rfl HZB.out ⟨rfl, rfl, rfl, rfl, rfl, rfl, rfl⟩ ?_)
      intro w5 hw5 k5
      have K5 := Lib.hid k5
      have e0 := blk_cell hw5 0; have e1 := blk_cell hw5 1; have e2 := blk_cell hw5 2; have e3 := blk_cell hw5 3; have e4 := blk_cell hw5 4; have e5 := blk_cell hw5 5; have e6 := blk_cell hw5 6; simp only [List.getElem?_toArray, List.getElem?_cons_zero, List.getElem?_cons_succ] at e0 e1 e2 e3 e4 e5 e6
      clear hw5 k5
      go_wp2_with fail
      refine bodyPost_ret (v := .tuple #[tkV ⟨0, [], 0, 0, noTy⟩, .bool false]) (by simp [results, Tryd.results23, go_sem, tkV, noTy, e0, e1, e2, e3, e4, e5, e6]) rfl ?_
      rw [show signB (S.data.toList.drop k) = none from by rw [← extract_rest S k, HX.out]; exact HF.out]
      exact ⟨⟨_, rfl, fun y hy => by cases hy⟩, kept_mix (KA.out.trans KR.out) K5.out (by simp)⟩
end Go.Proofs.YtjnjldbegngooaaDoor
