/-
  TokParts: two rows of tokens, the same but for where they stand.
-/
import Derived.Test.YtjnjldbegngooaaDoorTokY
import Derived.Test.YtjnjldbegngooaaDoorTokPaM
import Derived.Test.YtjnjldbegngooaaDoorMine
import Derived.Deep.RegionHeld3
namespace Go.Proofs.YtjnjldbegngooaaDoor
open Go.ChangeShapes Go.WideShapes Go.ChangeAt Go.RowKit
set_option linter.unusedVariables false
set_option linter.unusedSimpArgs false

variable {w w' w1 W : World}
/-- tokens where they can be read -/
def TkAt (w : World) (a : Option Addr) (xs : List Tk) : Prop := ∀ k (h : k < xs.length), ∃ g, a = some ⟨g, 0, none⟩ ∧ ∀ j, j < 7 → w.cell? ⟨g, k * 7 + j, none⟩ = (tkCells (xs[k]'h))[j]?
theorem TkOwn.at {a : Option Addr} {c : Nat} {xs : List Tk} (h : TkOwn w a c xs) : TkAt w a xs := fun k hk => by
  obtain ⟨g, rfl, _, _⟩ := tk_cell h k 0 hk (by omega)
  refine ⟨g, rfl, fun j hj => ?_⟩
  obtain ⟨g', h1, h2, _⟩ := tk_cell h k j hk hj
  injection h1 with h1
  injection h1 with h1
  subst h1
  exact h2
theorem TkAt.kept0 {a : Option Addr} {xs : List Tk} (h : TkAt w a xs) (hk : Kept [] w w') : TkAt w' a xs := fun k hk' => by
  obtain ⟨g, rfl, h1⟩ := h k hk'
  refine ⟨g, rfl, fun j hj => ?_⟩
  have h2 := h1 j hj
  have hs : ∃ v, (tkCells (xs[k]'hk'))[j]? = some v := ⟨_, List.getElem?_eq_getElem (show j < (tkCells (xs[k]'hk')).length from hj)⟩
  obtain ⟨v, hv⟩ := hs
  rw [hv] at h2 ⊢
  exact hk.cell h2 (by simp)
/-- a token's seven cells in a row -/
def Tk7 (w : World) (g o : Nat) (x : Tk) : Prop := w.cell? ⟨g, o, none⟩ = some (.int .i64 (x.kind : Int)) ∧ w.cell? ⟨g, o + 1, none⟩ = some (.string ⟨x.text.toArray⟩) ∧ w.cell? ⟨g, o + 2, none⟩ = some (.int .i64 (x.at_ : Int)) ∧ w.cell? ⟨g, o + 3, none⟩ = some (.int .u64 (x.n : Int)) ∧ w.cell? ⟨g, o + 4, none⟩ = some (.bool x.ty.b) ∧ w.cell? ⟨g, o + 5, none⟩ = some (.bool x.ty.sg) ∧ w.cell? ⟨g, o + 6, none⟩ = some (.int .i64 x.ty.w)
theorem TkAt.seven {a : Option Addr} {xs : List Tk} (h : TkAt w a xs) (k : Nat) (hk : k < xs.length) : ∃ g, a = some ⟨g, 0, none⟩ ∧ ∀ V, Kept [] w V → Tk7 V g (k * 7) (xs[k]'hk) := by
  obtain ⟨g, rfl, _⟩ := h k hk
  refine ⟨g, rfl, fun V hV => ?_⟩
  obtain ⟨g', h1, h2⟩ := h.kept0 hV k hk
  injection h1 with h1
  injection h1 with h1
  subst h1
  exact ⟨h2 0 (by omega), h2 1 (by omega), h2 2 (by omega), h2 3 (by omega), h2 4 (by omega), h2 5 (by omega), h2 6 (by omega)⟩
def cellsT (x : Tk) : Array Value := #[.int .i64 (x.kind : Int), .string ⟨x.text.toArray⟩, .int .i64 (x.at_ : Int), .int .u64 (x.n : Int), .bool x.ty.b, .bool x.ty.sg, .int .i64 x.ty.w]
/-- two tokens in blocks of their own -/
def TwoTk (x y : Tk) (wr : World) (s6 s7 : Value) (wc : World) : Prop := ∃ p6 p7, s6 = .pointer (some ⟨p6, 0, none⟩) ∧ s7 = .pointer (some ⟨p7, 0, none⟩) ∧ wc.heap[p6]? = some (.cells (cellsT x) 37 (0, 0)) ∧ wc.heap[p7]? = some (.cells (cellsT y) 37 (0, 0)) ∧ p6 ≠ p7 ∧ wr.heap.size ≤ p6 ∧ wr.heap.size ≤ p7 ∧ Kept [] wr wc
theorem tk_size : (Tryd.prog.info? 37).map (·.size) = some 7 := by kernel_rfl
theorem two_tk {x y : Tk} {wr wy : World} {p6 p7 : Nat} (h6 : wy.heap[p6]? = some (.cells #[.int .i64 0, .string ⟨#[]⟩, .int .i64 0, .int .u64 0, .bool false, .bool false, .int .i64 0] 37 (0, 0))) (h7 : wy.heap[p7]? = some (.cells #[.int .i64 0, .string ⟨#[]⟩, .int .i64 0, .int .u64 0, .bool false, .bool false, .int .i64 0] 37 (0, 0))) (hk : Kept [] wr wy) (hne : p6 ≠ p7) (b6 : wr.heap.size ≤ p6) (b7 : wr.heap.size ≤ p7) :
    TwoTk x y wr (.pointer (some ⟨p6, 0, none⟩)) (.pointer (some ⟨p7, 0, none⟩)) ((wy.setRow p6 (cellsT x)).setRow p7 (cellsT y)) := by
  refine ⟨p6, p7, rfl, rfl, ?_, ?_, hne, b6, b7, (hk.setRow (.inr b6) _).setRow (.inr b7) _⟩
  · rw [setRow_other _ _ _ _ hne]
    exact setRow_heap _ _ _ _ _ _ h6
  · exact setRow_heap _ _ _ _ _ _ (by rw [setRow_other _ _ _ _ (Ne.symm hne)]; exact h7)
theorem noAt_eq {x y : Tk} (h : noAt x = noAt y) : y = { x with at_ := y.at_ } := by
  obtain ⟨k, t, a, n, ty⟩ := x
  obtain ⟨k', t', a', n', ty'⟩ := y
  simp [noAt] at h
  obtain ⟨rfl, rfl, rfl, rfl⟩ := h
  rfl
set_option maxHeartbeats 3200000 in
set_option maxRecDepth 100000 in
theorem alike_c (a b : Option Addr) (c d : Nat) (xs ys : List Tk) (w : World) (hA : TkAt w a xs) (hB : TkAt w b ys) (he : xs.map noAt = ys.map noAt) (hl : xs.length ≤ 1000000) :
    Calls Tryd.prog 20 #[.slice a xs.length c, .slice b ys.length d] w (BoolIs true w) := by
  have hn : ys.length = xs.length := by have := congrArg List.length he; simpa using this.symm
  have HA := Lib.hid hA
  have HB := Lib.hid hB
  have HE := Lib.hid (fun k (h1 : k < xs.length) (h2 : k < ys.length) => (show noAt (xs[k]'h1) = noAt (ys[k]'h2) from by
    have h3 := congrArg (fun l => l[k]?) he
    simpa [h1, h2] using h3))
  rw [hn]
  have HN := Lib.hid hn
  obtain ⟨n, hnn⟩ : ∃ n, n = xs.length := ⟨_, rfl⟩
  have HNN := Lib.hid hnn
  rw [← hnn] at hl ⊢
  clear hA hB he hn hnn
  go_enter Tryd.func20, Tryd.ntmps20
  go_wp2_with fail
  go_loopw [15] (fun kv wr => ∃ k : Nat, k ≤ n ∧ kv = .int .i64 k ∧ Kept [] w wr) (fun kv _ => n - (intOf kv).toNat)
  case atStart => exact ⟨0, Nat.zero_le _, rfl, .refl _ _⟩
  case round =>
    obtain ⟨k, hk, rfl, kr⟩ := hrel
    have KR := Lib.hid kr
    clear kr
    by_cases hlt : k < n
    · have h1 : k < xs.length := by rw [← HNN.out]; exact hlt
      have h2 : k < ys.length := by rw [HN.out]; exact h1
      obtain ⟨g, rfl, hca⟩ := (HA.out.kept0 KR.out).seven k h1
      obtain ⟨g', rfl, hcb⟩ := (HB.out.kept0 KR.out).seven k h2
      have hxy := noAt_eq (HE.out k h1 h2)
      obtain ⟨x, hx⟩ : ∃ x, x = xs[k]'h1 := ⟨_, rfl⟩
      obtain ⟨y, hy⟩ : ∃ y, y = ys[k]'h2 := ⟨_, rfl⟩
      rw [← hx, ← hy] at hxy
      rw [← hx] at hca
      rw [← hy] at hcb
      obtain ⟨ya, hya⟩ : ∃ ya, ya = y.at_ := ⟨_, rfl⟩
      rw [← hya] at hxy
      subst hxy
      have HCA := Lib.hid hca
      have HCB := Lib.hid hcb
      unfold Tk7 at HCA HCB
      have q0 : (0 : Int) ≤ (k : Int) := by omega
      have q1 : (k : Int) < (n : Int) := by omega
      clear hx hy hca hcb h1 h2 hya
      go_wp2_with fail
      go_cut [6, 7] (fun s6 s7 wc => TwoTk x { x with at_ := ya } wr s6 s7 wc)
      · as_aux_lemma =>
        refine wp_region_held_drew (S := fun V => Kept [] wr V) (by kernel_rfl) ?_ (fun hHeld => ?_)
        · exact (Kept.refl [] wr).drew
        refine wpAnyH_take (i := 0) (v := ?_) rfl (by kernel_rfl) (by kernel_rfl) (by kernel_rfl) (fun _ _ _ h => h) (Or.inl ⟨by rfl, ?_⟩) (by assumption) ?_
        rotate_left
        · intro V hV; (try dsimp only at hV)
          go_simp
          all_goals with_reducible rfl
        try simp only [Act.put, List.setIfInBounds_toArray, List.set_cons_zero, List.set_cons_succ]
        refine wpAnyH_take (i := 1) (v := ?_) rfl (by kernel_rfl) (by kernel_rfl) (by kernel_rfl) (fun _ _ _ h => h) (Or.inl ⟨by rfl, ?_⟩) (by assumption) ?_
        rotate_left
        · intro V hV; (try dsimp only at hV)
          go_simp
          all_goals with_reducible rfl
        try simp only [Act.put, List.setIfInBounds_toArray, List.set_cons_zero, List.set_cons_succ]
        refine wpAnyH_take (i := 2) (v := ?_) rfl (by kernel_rfl) (by kernel_rfl) (by kernel_rfl) (fun _ _ _ h => h) (Or.inl ⟨by rfl, ?_⟩) (by assumption) ?_
        rotate_left
        · intro V hV; (try dsimp only at hV)
          go_simp
          all_goals with_reducible rfl
        try simp only [Act.put, List.setIfInBounds_toArray, List.set_cons_zero, List.set_cons_succ]
        refine wpAnyH_take (i := 3) (v := ?_) rfl (by kernel_rfl) (by kernel_rfl) (by kernel_rfl) (fun _ _ _ h => h) (Or.inl ⟨by rfl, ?_⟩) (by assumption) ?_
        rotate_left
        · intro V hV; (try dsimp only at hV)
          obtain ⟨q0, q1, q2, q3, q4, q5, q6⟩ := HCA.out V hV
          go_simp
          all_goals with_reducible rfl
        try simp only [Act.put, List.setIfInBounds_toArray, List.set_cons_zero, List.set_cons_succ]
        refine wpAnyH_take (i := 4) (v := ?_) rfl (by kernel_rfl) (by kernel_rfl) (by kernel_rfl) (fun _ _ _ h => h) (Or.inl ⟨by rfl, ?_⟩) (by assumption) ?_
        rotate_left
        · intro V hV; (try dsimp only at hV)
          go_simp
          all_goals with_reducible rfl
        try simp only [Act.put, List.setIfInBounds_toArray, List.set_cons_zero, List.set_cons_succ]
        refine wpAnyH_take (i := 5) (v := ?_) rfl (by kernel_rfl) (by kernel_rfl) (by kernel_rfl) (fun _ _ _ h => h) (Or.inl ⟨by rfl, ?_⟩) (by assumption) ?_
        rotate_left
        · intro V hV; (try dsimp only at hV)
          go_simp
          all_goals with_reducible rfl
        try simp only [Act.put, List.setIfInBounds_toArray, List.set_cons_zero, List.set_cons_succ]
        refine wpAnyH_take (i := 6) (v := ?_) rfl (by kernel_rfl) (by kernel_rfl) (by kernel_rfl) (fun _ _ _ h => h) (Or.inl ⟨by rfl, ?_⟩) (by assumption) ?_
        rotate_left
        · intro V hV; (try dsimp only at hV)
          go_simp
          all_goals with_reducible rfl
        try simp only [Act.put, List.setIfInBounds_toArray, List.set_cons_zero, List.set_cons_succ]
        refine wpAnyH_take (i := 7) (v := ?_) rfl (by kernel_rfl) (by kernel_rfl) (by kernel_rfl) (fun _ _ _ h => h) (Or.inl ⟨by rfl, ?_⟩) (by assumption) ?_
        rotate_left
        · intro V hV; (try dsimp only at hV)
          obtain ⟨q0, q1, q2, q3, q4, q5, q6⟩ := HCB.out V hV
          go_simp
          all_goals with_reducible rfl
        try simp only [Act.put, List.setIfInBounds_toArray, List.set_cons_zero, List.set_cons_succ]
        obtain ⟨v0, hv0⟩ : ∃ v, v = wr.drew := ⟨_, rfl⟩
        rw [← hv0] at hHeld ⊢
        have kv : Kept [] wr v0 := hv0 ▸ (Kept.refl [] wr).drew
        clear hv0
        refine wpAnyH_ready (rs := [8, 9]) (by kernel_rfl) (by simp) ?_
        refine AllReadyH.cons rfl (fun K hK => ?_) ?_
        · go_simp
          refine hK.out _ _ ?_ (fun hHeld => ?_)
          · exact hHeld.alloc _
          clear hK K
          try simp only [Act.put, List.setIfInBounds_toArray, List.set_cons_zero, List.set_cons_succ]
          obtain ⟨v1, hv⟩ : ∃ v, v = v0.alloc (.cells #[.int .i64 0, .string ⟨#[]⟩, .int .i64 0, .int .u64 0, .bool false, .bool false, .int .i64 0] 37) := ⟨_, rfl⟩
          obtain ⟨p6, hp6⟩ : ∃ p, p = v0.heap.size := ⟨_, rfl⟩
          rw [← hv, ← hp6]
          have hk9 : Kept [] v0 v1 := hv ▸ (Kept.refl [] v0).alloc _
          have h6 : v1.heap[p6]? = some (.cells #[.int .i64 0, .string ⟨#[]⟩, .int .i64 0, .int .u64 0, .bool false, .bool false, .int .i64 0] 37 (0, 0)) := by rw [hv, hp6]; exact heap_alloc_new _ _
          have b6 : wr.heap.size ≤ p6 := hp6 ▸ kv.size
          rw [← hv] at hHeld
          have kv := kv.trans hk9
          clear hv hp6 hk9
          refine wpAnyH_ready (rs := [9]) (by kernel_rfl) (by simp) ?_
          refine AllReadyH.cons rfl (fun K hK => ?_) ?_
          · go_simp
            refine hK.out _ _ ?_ (fun hHeld => ?_)
            · exact hHeld.alloc _
            clear hK K
            try simp only [Act.put, List.setIfInBounds_toArray, List.set_cons_zero, List.set_cons_succ]
            obtain ⟨v2, hv⟩ : ∃ v, v = v1.alloc (.cells #[.int .i64 0, .string ⟨#[]⟩, .int .i64 0, .int .u64 0, .bool false, .bool false, .int .i64 0] 37) := ⟨_, rfl⟩
            obtain ⟨p7, hp7⟩ : ∃ p, p = v1.heap.size := ⟨_, rfl⟩
            rw [← hv, ← hp7]
            have hk9 : Kept [] v1 v2 := hv ▸ (Kept.refl [] v1).alloc _
            have h7 : v2.heap[p7]? = some (.cells #[.int .i64 0, .string ⟨#[]⟩, .int .i64 0, .int .u64 0, .bool false, .bool false, .int .i64 0] 37 (0, 0)) := by rw [hv, hp7]; exact heap_alloc_new _ _
            have b7 : wr.heap.size ≤ p7 := hp7 ▸ kv.size
            have h67 : p6 ≠ p7 := by have := blk_lt h6; omega
            rw [← hv] at hHeld
            have kv := kv.trans hk9
            have h6 := hk9.heap h6 (by simp)
            clear hv hp7 hk9
            have h76 : ¬ p7 = p6 := Ne.symm h67
            have h67' : ¬ p6 = p7 := h67
            have H6 := Lib.hid h6
            have H7 := Lib.hid h7
            have KVV := Lib.hid kv
            have hlt6 := blk_lt h6
            have hlt7 := blk_lt h7
            obtain ⟨wy, hwy⟩ : ∃ v, v = v2 := ⟨_, rfl⟩
            subst hwy
            clear h6 h7 kv hHeld h67
            refine wpAnyH_ready (rs := [10]) (by kernel_rfl) (by simp) ?_
            refine AllReadyH.cons rfl (fun K hK => ?_) ?_
            · as_aux_lemma =>
              refine step_row (b := p6) (cells := cellsT x) (old := #[.int .i64 0, .string ⟨#[]⟩, .int .i64 0, .int .u64 0, .bool false, .bool false, .int .i64 0]) rfl rfl (by rfl) (by rfl) tk_size rfl (by simp [cellsT, Value.oneCell']) H6.out ?_
              refine hK.out _ _ ?_ (fun hHeld => ?_)
              · exact KVV.out.setRow (.inr b6) _
              clear hK K
              try simp only [Act.put, List.setIfInBounds_toArray, List.set_cons_zero, List.set_cons_succ]
              refine wpAnyH_ready (rs := [11]) (by kernel_rfl) (by simp) ?_
              refine AllReadyH.cons rfl (fun K hK => ?_) ?_
              · refine step_row (b := p7) (cells := cellsT { x with at_ := ya }) (old := #[.int .i64 0, .string ⟨#[]⟩, .int .i64 0, .int .u64 0, .bool false, .bool false, .int .i64 0]) rfl rfl (by rfl) (by rfl) tk_size rfl (by simp [cellsT, Value.oneCell']) (by rw [setRow_other _ _ _ _ h76]; exact H7.out) ?_
                refine hK.out _ _ ?_ (fun hHeld => ?_)
                · exact (KVV.out.setRow (.inr b6) _).setRow (.inr b7) _
                clear hK K
                try simp only [Act.put, List.setIfInBounds_toArray, List.set_cons_zero, List.set_cons_succ]
                refine wpAnyH_done (by kernel_rfl) ?_ _
                go_wp2_with fail
                go_meet
                exact two_tk H6.out H7.out KVV.out (by omega) b6 b7
              exact AllReadyH.nil
            exact AllReadyH.nil
          exact AllReadyH.nil
        refine AllReadyH.cons rfl (fun K hK => ?_) ?_
        · go_simp
          refine hK.out _ _ ?_ (fun hHeld => ?_)
          · exact hHeld.alloc _
          clear hK K
          try simp only [Act.put, List.setIfInBounds_toArray, List.set_cons_zero, List.set_cons_succ]
          obtain ⟨v1, hv⟩ : ∃ v, v = v0.alloc (.cells #[.int .i64 0, .string ⟨#[]⟩, .int .i64 0, .int .u64 0, .bool false, .bool false, .int .i64 0] 37) := ⟨_, rfl⟩
          obtain ⟨p7, hp7⟩ : ∃ p, p = v0.heap.size := ⟨_, rfl⟩
          rw [← hv, ← hp7]
          have hk9 : Kept [] v0 v1 := hv ▸ (Kept.refl [] v0).alloc _
          have h7 : v1.heap[p7]? = some (.cells #[.int .i64 0, .string ⟨#[]⟩, .int .i64 0, .int .u64 0, .bool false, .bool false, .int .i64 0] 37 (0, 0)) := by rw [hv, hp7]; exact heap_alloc_new _ _
          have b7 : wr.heap.size ≤ p7 := hp7 ▸ kv.size
          rw [← hv] at hHeld
          have kv := kv.trans hk9
          clear hv hp7 hk9
          refine wpAnyH_ready (rs := [8]) (by kernel_rfl) (by simp) ?_
          refine AllReadyH.cons rfl (fun K hK => ?_) ?_
          · go_simp
            refine hK.out _ _ ?_ (fun hHeld => ?_)
            · exact hHeld.alloc _
            clear hK K
            try simp only [Act.put, List.setIfInBounds_toArray, List.set_cons_zero, List.set_cons_succ]
            obtain ⟨v2, hv⟩ : ∃ v, v = v1.alloc (.cells #[.int .i64 0, .string ⟨#[]⟩, .int .i64 0, .int .u64 0, .bool false, .bool false, .int .i64 0] 37) := ⟨_, rfl⟩
            obtain ⟨p6, hp6⟩ : ∃ p, p = v1.heap.size := ⟨_, rfl⟩
            rw [← hv, ← hp6]
            have hk9 : Kept [] v1 v2 := hv ▸ (Kept.refl [] v1).alloc _
            have h6 : v2.heap[p6]? = some (.cells #[.int .i64 0, .string ⟨#[]⟩, .int .i64 0, .int .u64 0, .bool false, .bool false, .int .i64 0] 37 (0, 0)) := by rw [hv, hp6]; exact heap_alloc_new _ _
            have b6 : wr.heap.size ≤ p6 := hp6 ▸ kv.size
            have h67 : p6 ≠ p7 := by have := blk_lt h7; omega
            rw [← hv] at hHeld
            have kv := kv.trans hk9
            have h7 := hk9.heap h7 (by simp)
            clear hv hp6 hk9
            have h76 : ¬ p7 = p6 := Ne.symm h67
            have h67' : ¬ p6 = p7 := h67
            have H6 := Lib.hid h6
            have H7 := Lib.hid h7
            have KVV := Lib.hid kv
            have hlt6 := blk_lt h6
            have hlt7 := blk_lt h7
            obtain ⟨wy, hwy⟩ : ∃ v, v = v2 := ⟨_, rfl⟩
            subst hwy
            clear h6 h7 kv hHeld h67
            refine wpAnyH_ready (rs := [10]) (by kernel_rfl) (by simp) ?_
            refine AllReadyH.cons rfl (fun K hK => ?_) ?_
            · as_aux_lemma =>
              refine step_row (b := p6) (cells := cellsT x) (old := #[.int .i64 0, .string ⟨#[]⟩, .int .i64 0, .int .u64 0, .bool false, .bool false, .int .i64 0]) rfl rfl (by rfl) (by rfl) tk_size rfl (by simp [cellsT, Value.oneCell']) H6.out ?_
              refine hK.out _ _ ?_ (fun hHeld => ?_)
              · exact KVV.out.setRow (.inr b6) _
              clear hK K
              try simp only [Act.put, List.setIfInBounds_toArray, List.set_cons_zero, List.set_cons_succ]
              refine wpAnyH_ready (rs := [11]) (by kernel_rfl) (by simp) ?_
              refine AllReadyH.cons rfl (fun K hK => ?_) ?_
              · refine step_row (b := p7) (cells := cellsT { x with at_ := ya }) (old := #[.int .i64 0, .string ⟨#[]⟩, .int .i64 0, .int .u64 0, .bool false, .bool false, .int .i64 0]) rfl rfl (by rfl) (by rfl) tk_size rfl (by simp [cellsT, Value.oneCell']) (by rw [setRow_other _ _ _ _ h76]; exact H7.out) ?_
                refine hK.out _ _ ?_ (fun hHeld => ?_)
                · exact (KVV.out.setRow (.inr b6) _).setRow (.inr b7) _
                clear hK K
                try simp only [Act.put, List.setIfInBounds_toArray, List.set_cons_zero, List.set_cons_succ]
                refine wpAnyH_done (by kernel_rfl) ?_ _
                go_wp2_with fail
                go_meet
                exact two_tk H6.out H7.out KVV.out (by omega) b6 b7
              exact AllReadyH.nil
            exact AllReadyH.nil
          exact AllReadyH.nil
        exact AllReadyH.nil
      obtain ⟨p6, p7, rfl, rfl, h6, h7, hne, b6, b7, kc⟩ := hcut
      have KC := Lib.hid kc
      have H6 := Lib.hid h6
      have H7 := Lib.hid h7
      have c72 : wc.cell? ⟨p7, 2, none⟩ = some (.int .i64 (ya : Int)) := blk_cell h7 2
      have c62 : wc.cell? ⟨p6, 2, none⟩ = some (.int .i64 (x.at_ : Int)) := blk_cell h6 2
      have f62 := blk_free h6 2
      have hl6 := blk_lt h6
      clear h6 h7 kc
      go_upto_region 8 with (fail)
      obtain ⟨wd, hwd⟩ : ∃ V, V = wc.setCell ⟨p6, 2, none⟩ (.int .i64 (ya : Int)) := ⟨_, rfl⟩
      rw [← hwd]
      have h6 : wd.heap[p6]? = some (.cells (cellsT { x with at_ := ya }) 37 (0, 0)) := by rw [hwd]; exact blk_set H6.out 2 _
      have h7 : wd.heap[p7]? = some (.cells (cellsT { x with at_ := ya }) 37 (0, 0)) := by rw [hwd]; exact ((Kept.refl [p6] wc).setCell (.inl (by simp)) _).heap H7.out (by simpa using Ne.symm hne)
      have KD := Lib.hid (show Kept [] wr wd from by rw [hwd]; exact KC.out.setCell (.inr b6) _)
      clear hwd c72 c62 f62 hl6
      have d60 := blk_cell h6 0
      have d61 := blk_cell h6 1
      have d62 := blk_cell h6 2
      have d63 := blk_cell h6 3
      have d64 := blk_cell h6 4
      have d65 := blk_cell h6 5
      have d66 := blk_cell h6 6
      have d70 := blk_cell h7 0
      have d71 := blk_cell h7 1
      have d72 := blk_cell h7 2
      have d73 := blk_cell h7 3
      have d74 := blk_cell h7 4
      have d75 := blk_cell h7 5
      have d76 := blk_cell h7 6
      simp only [cellsT, List.getElem?_toArray, List.getElem?_cons_zero, List.getElem?_cons_succ] at d60 d61 d62 d63 d64 d65 d66 d70 d71 d72 d73 d74 d75 d76
      clear h6 h7
      go_wp2_with fail
      go_roundw
      case rel => exact ⟨k + 1, by omega, by go_num, KR.out.trans KD.out⟩
      case measure => simp [intOf]; omega
    · obtain rfl : k = n := by omega
      go_wp2_with fail
      go_ret
      exact ⟨rfl, KR.out⟩
end Go.Proofs.YtjnjldbegngooaaDoor
