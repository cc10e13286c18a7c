/-
  Law 02, LitOver: rows brought over.
-/
import Derived.Test.YteikngjanfjmfaaLitTells
import Derived.Test.YteikngjanfjmfaaAig
import Derived.Deep.RegionHeld3
import Derived.Deep.RegionLaw
import Derived.Deep.DrawnRows
import Derived.Outline
namespace Go.Proofs.Yteikngjanfjmfaa
open Go.ChangeShapes Go.WideShapes Go.ChangeAt Go.RowKit
set_option linter.unusedVariables false


/-! ### The plain law -/
theorem ifL_lt16 {y : Nat} (h : y < 16) (t : Bool) : ifL y t < 16 := by unfold ifL ntL; split <;> (try split) <;> omega
theorem getD_lt16 {F : List Nat} (hF : ∀ x ∈ F, x < 16) (n : Nat) : F.getD n 0 < 16 := by
  rw [List.getD_eq_getElem?_getD]
  by_cases h : n < F.length
  · rw [List.getElem?_eq_getElem h]; exact hF _ (List.getElem_mem h)
  · rw [List.getElem?_eq_none (by omega)]; simp
theorem overL_lt16 {F : List Nat} (hF : ∀ x ∈ F, x < 16) (l : Nat) : overL F l < 16 := ifL_lt16 (getD_lt16 hF _) _
theorem map_over_lt16 {F : List Nat} (hF : ∀ x ∈ F, x < 16) (X : List Nat) : ∀ x ∈ X.map (overL F), x < 16 := fun x hx => by
  obtain ⟨y, _, rfl⟩ := List.mem_map.1 hx
  exact overL_lt16 hF y
theorem overL_nt (F : List Nat) (l : Nat) : overL F (ntL l) = ntL (overL F l) := by
  unfold overL
  rw [ntL_half]
  have := ntL_mod l
  rcases Nat.mod_two_eq_zero_or_one l with h | h
  · rw [h, this, h]; simp [ifL]
  · rw [h, this, h]; simp [ifL, ntL_ntL]
theorem overL_ifL (G : List Nat) (y : Nat) (t : Bool) : overL G (ifL y t) = ifL (overL G y) t := by
  cases t
  · rfl
  · exact overL_nt G y
theorem overL_twice (F G : List Nat) (l : Nat) (h : l / 2 < F.length) : overL G (overL F l) = overL (F.map (overL G)) l := by
  have e : overL F l = ifL (F.getD (l / 2) 0) (decide (l % 2 = 1)) := rfl
  rw [e, overL_ifL]
  show _ = ifL _ _
  congr 1
  simp [List.getD_eq_getElem?_getD, List.getElem?_eq_getElem h]
theorem wd_ifL {ws : List Nat} (hw : Words ws) (y : Nat) (t : Bool) : wd ws (ifL y t) = if t then noW (wd ws y) else wd ws y := by
  cases t
  · rfl
  · exact wd_ntL hw y
theorem over_word {F ws : List Nat} (hw : Words ws) (l : Nat) (h : l / 2 < F.length) (h0 : F.head? = some 0) : wd ws (overL F l) = wd (F.map (wd ws)) l := by
  unfold overL
  rw [wd_ifL hw]
  have hn : nodeW (F.map (wd ws)) (l / 2) = wd ws (F.getD (l / 2) 0) := by
    unfold nodeW
    split
    · rename_i hz
      rw [hz]
      cases F with
      | nil => simp at h0
      | cons x r => simp at h0; subst h0; simp [wd_zero]
    · simp [List.getD_eq_getElem?_getD, List.getElem?_eq_getElem h]
  rw [← hn]
  show _ = (if l % 2 = 1 then noW (nodeW (F.map (wd ws)) (l / 2)) else nodeW (F.map (wd ws)) (l / 2))
  by_cases hm : l % 2 = 1 <;> simp [hm]
theorem head_set {l : List Nat} {x : Nat} (h : 0 < l.length) : (l.set 0 x).head? = some x := by
  cases l with
  | nil => simp at h
  | cons y r => rfl
theorem lt16_set {F : List Nat} (hF : ∀ x ∈ F, x < 16) : ∀ x ∈ F.set 0 0, x < 16 := fun x hx => by
  rcases List.mem_or_eq_of_mem_set hx with h | h
  · exact hF x h
  · omega
theorem mod16_lt (l : List Nat) : ∀ x ∈ l.map (· % 16), x < 16 := fun x hx => by
  obtain ⟨y, _, rfl⟩ := List.mem_map.1 hx; omega
theorem half16 {l : List Nat} (h : ∀ x ∈ l, x < 16) : ∀ x ∈ l, x / 2 < 8 := fun x hx => by have := h x hx; omega
theorem lits16 {F : List Nat} (hF : ∀ x ∈ F, x < 16) : Lits F := fun x hx => by have := hF x hx; omega

/-- A block that holds the numbers l. -/
theorem box_cell {w : World} {b : Nat} {K : IntKind} {l : List Nat} {t : TypeId} {fr : Nat × Nat} (h : w.heap[b]? = some (.cells (nats K l).toArray t fr)) {k : Nat} (hk : k < l.length) : w.cell? ⟨b, k, none⟩ = some (.int K (l[k] : Int)) := by
  rw [cell_of_row w b k _ t fr h]
  simp [nats, hk]

theorem ft_apart {w w' : World} {a a' b : Option Addr} (hst : Stepped w w' (ft a) (ft a')) (hd : ∀ x ∈ ft b, x ∉ ft a) (hlt : ∀ x ∈ ft b, x < w.heap.size) : ∀ x ∈ ft b, x ∉ ft a' := fun x hx hx' => by
  rcases hst.fresh x hx' with h | h
  · exact hd x hx h
  · exact absurd (hlt x hx) (by omega)

theorem two_push {w W1 w2 W2 w3 : World} {e : TypeId} {f g a1 b1 : Option Addr} {j cf cg ca cb : Nat} {xs ys xs' ys' : List Value}
    (hof : Own w e f j cf xs) (hog : Own w e g j cg ys) (hdis : ∀ b ∈ ft g, b ∉ ft f)
    (k1 : Kept [] w W1) (h1 : Stepped W1 w2 (ft f) (ft a1)) (o1 : Own w2 e a1 (j + 1) ca xs') (k2 : Kept [] w2 W2) (h2 : Stepped W2 w3 (ft g) (ft b1)) (o2 : Own w3 e b1 (j + 1) cb ys') :
    Own w3 e a1 (j + 1) ca xs' ∧ Own w3 e b1 (j + 1) cb ys' ∧ (∀ b ∈ ft b1, b ∉ ft a1) ∧ (∀ b ∈ ft a1, b ∉ ft b1) ∧ Stepped w w3 (ft f ++ ft g) (ft a1 ++ ft b1) := by
  have hga : ∀ b ∈ ft g, b ∉ ft a1 := ft_apart h1 hdis fun x hx => Nat.lt_of_lt_of_le (hog.lt x hx) k1.size
  have hag : ∀ b ∈ ft a1, b ∉ ft g := fun b hb hg => hga b hg hb
  have hab : ∀ b ∈ ft a1, b ∉ ft b1 := ft_apart h2 hag fun x hx => Nat.lt_of_lt_of_le (o1.lt x hx) k2.size
  refine ⟨(o1.kept0 k2).kept h2.kept hag, o2, fun b hb ha => hab b ha hb, hab, ?_⟩
  have s1 : Stepped w w2 (ft f ++ ft g) (ft a1 ++ ft g) := ((⟨k1.more (by simp), fun _ h => .inl h⟩ : Stepped w W1 (ft f) (ft f)).trans h1).beside _
  have s2 : Stepped w2 w3 (ft a1 ++ ft g) (ft a1 ++ ft b1) := ((⟨k2.more (by simp), fun _ h => .inl h⟩ : Stepped w2 W2 (ft g) (ft g)).trans h2).behind _
  exact s1.trans s2
theorem append_comm_step {w w' : World} {A B C D : List Nat} (h : Stepped w w' (A ++ B) (C ++ D)) : Stepped w w' (B ++ A) (D ++ C) :=
  h.weak (fun x hx => by simp at hx ⊢; exact hx.symm) (fun x hx => by simp at hx ⊢; exact hx.symm)

theorem u64_info1 : (Try.prog.info? 41).map (fun i => (i.zero, i.size, i.bytes)) = some (some (.int .u64 0), 1, 8) := by kernel_rfl
theorem heap_new1 (w : World) (o : Obj) : (w.alloc o).heap[w.heap.size]? = some o := heap_alloc_new w o
theorem heap_old1 (w : World) (o o' : Obj) : ((w.alloc o).alloc o').heap[w.heap.size]? = some o := by
  rw [Below.heap_alloc _ _ _ (by simp)]; exact heap_alloc_new w o
theorem heap_new2 (w : World) (o o' : Obj) : ((w.alloc o).alloc o').heap[w.heap.size + 1]? = some o' := by
  have h := heap_alloc_new (w.alloc o) o'
  rw [World.size_alloc] at h
  exact h

theorem u32_mod16 (x : Nat) : x % 16 < 4294967296 := by omega
set_option maxHeartbeats 4000000 in
set_option maxRecDepth 100000 in
theorem over_walk1 (a : Option Addr) (c : Nat) (row l1 l2 ws : List Nat) (w : World) (h60 : row.length ≤ 60 ∨ 60 < row.length) (hc : row.length ≤ c) (hz : c * 4 ≤ 140737488351232) (hs : SlN w .u32 a row) (hr : Lits row)
    (n1 : l1.length = 8) (r1 : Lits l1) (n2 : l2.length = 8) (r2 : Lits l2) (n3 : ws.length = 8) (r3 : Words ws) :
    Calls Try.prog 6 #[.slice a row.length c, .agg (nats .u32 l1).toArray, .agg (nats .u32 l2).toArray, .agg (nats .u64 ws).toArray] w fun e w' => e = .returned (.bool true) ∧ Below w.heap.size w w' := by
  have N1 := Lib.hid n1; clear n1
  have N2 := Lib.hid n2; clear n2
  have N3 := Lib.hid n3; clear n3
  have R1 := Lib.hid r1; clear r1
  have R2 := Lib.hid r2; clear r2
  have HR := Lib.hid hr; clear hr
  have K0 : Kept [] w (((w.alloc (.cells (nats .u32 l1).toArray 53)).alloc (.cells (nats .u32 l2).toArray 53)).alloc (.cells (nats .u64 ws).toArray 54)) := (((Kept.refl [] w).alloc _).alloc _).alloc _
  have B1 := Lib.hid (show (((w.alloc (.cells (nats .u32 l1).toArray 53)).alloc (.cells (nats .u32 l2).toArray 53)).alloc (.cells (nats .u64 ws).toArray 54)).heap[w.heap.size]? = some (.cells (nats .u32 l1).toArray 53 (0, 0)) by
    rw [Below.heap_alloc _ _ _ (by simp; omega), Below.heap_alloc _ _ _ (by simp)]; exact heap_alloc_new _ _)
  have B2 := Lib.hid (show (((w.alloc (.cells (nats .u32 l1).toArray 53)).alloc (.cells (nats .u32 l2).toArray 53)).alloc (.cells (nats .u64 ws).toArray 54)).heap[w.heap.size + 1]? = some (.cells (nats .u32 l2).toArray 53 (0, 0)) by
    rw [Below.heap_alloc _ _ _ (by simp)]; have h := heap_alloc_new (w.alloc (.cells (nats .u32 l1).toArray 53)) (.cells (nats .u32 l2).toArray 53); rw [World.size_alloc] at h; exact h)
  have B3 := Lib.hid (show (((w.alloc (.cells (nats .u32 l1).toArray 53)).alloc (.cells (nats .u32 l2).toArray 53)).alloc (.cells (nats .u64 ws).toArray 54)).heap[w.heap.size + 1 + 1]? = some (.cells (nats .u64 ws).toArray 54 (0, 0)) by
    have h := heap_alloc_new ((w.alloc (.cells (nats .u32 l1).toArray 53)).alloc (.cells (nats .u32 l2).toArray 53)) (.cells (nats .u64 ws).toArray 54); rw [World.size_alloc, World.size_alloc] at h; exact h)
  have Z1 := Lib.hid (show (((w.alloc (.cells (nats .u32 l1).toArray 53)).alloc (.cells (nats .u32 l2).toArray 53)).alloc (.cells (nats .u64 ws).toArray 54)).heap.size = w.heap.size + 3 by simp)
  go_enter Try.func6, Try.ntmps6; (try simp only [List.append])
  go_wp2
  generalize (((w.alloc (.cells (nats .u32 l1).toArray 53)).alloc (.cells (nats .u32 l2).toArray 53)).alloc (.cells (nats .u64 ws).toArray 54)) = w1 at *
  have hs1 := hs.kept0 K0; clear hs
  rcases h60 with h60 | h60
  all_goals
    go_loopw [9, 12] (fun v i wr => ∃ (k : Nat) (x : Option Addr) (cx : Nat), k ≤ row.length ∧ k ≤ 60 ∧ i = .int .i64 k ∧ v = .slice x k cx ∧ Own wr 24 x k cx (nats .u32 ((row.take k).map (· % 16))) ∧ Stepped w1 wr [] (ft x)) (fun _ i _ => 60 - (intOf i).toNat)
    case atStart => exact ⟨0, none, 0, Nat.zero_le _, Nat.zero_le _, rfl, rfl, Own.nil _ _, .refl _ _⟩
    case round =>
      obtain ⟨k, x, cx, hk, hk6, rfl, rfl, hown, hst⟩ := hrel
      by_cases hlt : k < row.length ∧ k < 60
      · obtain ⟨hlt, hl6⟩ := hlt
        obtain ⟨ad, rfl, hcc⟩ := (hs1.kept0 hst.kept) k hlt
        have hb := HR.out _ (List.getElem_mem hlt)
        have HT := Lib.hid (take_snoc row k hlt)
        generalize row[k] = b at *
        have h6 : decide ((k : Int) < 60) = true := by simp; omega
        go_wp2_with (at_builtin; refine wpList_push rfl rfl Try.underlying46 lit_info rfl rfl rfl hown rfl (by unfold maxLen; omega) (by omega) ?_; intro a1 c1 w2 hown1 hst1)
        go_roundw
        case rel => exact ⟨k + 1, a1, c1, by omega, by omega, by go_num, rfl, by rw [HT.out, List.map_append, List.map_cons, List.map_nil, ← nats_append, show ((b % 16 : Nat) : Int) = (b : Int) % 16 from by omega]; exact hown1, hst.trans hst1⟩
        case measure => simp [intOf]; omega
      · have HX : ∃ X : List Nat, X = (row.take 60).map (· % 16) ∧ X.length = k := ⟨_, rfl, by rw [List.length_map, List.length_take]; omega⟩
        obtain ⟨X, HX, HXl⟩ := HX
        have HKR : (row.take k).map (· % 16) = X := by
          rw [HX]; congr 1
          rcases Nat.lt_or_ge k row.length with h | h
          · have : k = 60 := by omega
            rw [this]
          · rw [List.take_of_length_le h, List.take_of_length_le (by omega)]
        rw [HKR] at hown
        have X16 : ∀ x ∈ X, x < 16 := by
          intro x hx; rw [HX] at hx
          obtain ⟨y, _, rfl⟩ := List.mem_map.1 hx; omega
        have HX16 := Lib.hid X16; clear X16
        have HXL := Lib.hid HXl; clear HXl
        clear HKR HX
        rcases Nat.lt_or_ge k row.length with hkr | hkr
        all_goals try (exfalso; omega)
        try have hd : decide ((k : Int) < 60) = false := by simp; omega
        go_wp2_with fail
        obtain ⟨wa, rfl⟩ : ∃ wa : World, wa = wr := ⟨_, rfl⟩
        go_loopw [10, 11, 13] (fun u v i wr => ∃ (j : Nat) (f g : Option Addr) (cf cg : Nat), j ≤ 8 ∧ i = .int .i64 j ∧ u = .slice f j cf ∧ v = .slice g j cg ∧ Own wr 24 f j cf (nats .u32 ((l1.take j).map (· % 16))) ∧ Own wr 24 g j cg (nats .u32 ((l2.take j).map (· % 16))) ∧ (∀ b ∈ ft g, b ∉ ft f) ∧ Stepped wa wr [] (ft f ++ ft g)) (fun _ _ i _ => 8 - (intOf i).toNat)
        case atStart => exact ⟨0, none, none, 0, 0, by omega, rfl, rfl, rfl, Own.nil _ _, Own.nil _ _, by simp [ft], .refl _ _⟩
        case round =>
          obtain ⟨j, f, g, cf, cg, hj, rfl, rfl, rfl, hof, hog, hdis, hst2⟩ := hrel
          by_cases hj8 : j < 8
          · have hk0 : Kept [] w1 wr := (hst.drop.trans hst2.drop).kept
            have g1 := box_cell (hk0.heap B1.out (by simp)) (k := j) (by rw [N1.out]; exact hj8)
            have g2 := box_cell (hk0.heap B2.out (by simp)) (k := j) (by rw [N2.out]; exact hj8)
            have HT1 := Lib.hid (take_snoc l1 j (by rw [N1.out]; exact hj8))
            have HT2 := Lib.hid (take_snoc l2 j (by rw [N2.out]; exact hj8))
            generalize l1[j]'(by rw [N1.out]; exact hj8) = b1 at *
            generalize l2[j]'(by rw [N2.out]; exact hj8) = b2 at *
            have i1 : (j : Int) < 8 := by omega
            go_wp2_with fail
            have z0 := hst2.kept.size
            have nb1 : w.heap.size ∉ ft f ++ ft g := fun h => by
              have h1 := (hst2.fresh _ h).resolve_left (by simp)
              have h2 := hst.kept.size
              have h3 := Z1.out
              omega
            have nb2 : w.heap.size + 1 ∉ ft f ++ ft g := fun h => by
              have h1 := (hst2.fresh _ h).resolve_left (by simp)
              have h2 := hst.kept.size
              have h3 := Z1.out
              omega
            have nf1 : wr.heap.size ∉ ft f := fun h => Nat.lt_irrefl _ (hof.lt _ h)
            have nf2 : wr.heap.size + 1 ∉ ft f := fun h => by have := hof.lt _ h; omega
            have ng1 : wr.heap.size ∉ ft g := fun h => Nat.lt_irrefl _ (hog.lt _ h)
            have ng2 : wr.heap.size + 1 ∉ ft g := fun h => by have := hog.lt _ h; omega
            go_region_held3 (fun w' => w'.cell? ⟨w.heap.size, j, none⟩ = some (.int .u32 (b1 : Int)) ∧ w'.cell? ⟨w.heap.size + 1, j, none⟩ = some (.int .u32 (b2 : Int))) (first | go_keep | exact ⟨Kept.cell (F := ft f ++ ft g) (w := wr) (by (repeat (first | with_reducible exact Kept.refl _ _ | with_reducible apply Kept.drew | with_reducible apply Kept.alloc | refine Kept.trans ?_ (hstA.kept.more (fun b hb => List.mem_append_left _ hb)) | refine Kept.trans ?_ (hstB.kept.more (fun b hb => List.mem_append_right _ hb))))) g1 nb1, Kept.cell (F := ft f ++ ft g) (w := wr) (by (repeat (first | with_reducible exact Kept.refl _ _ | with_reducible apply Kept.drew | with_reducible apply Kept.alloc | refine Kept.trans ?_ (hstA.kept.more (fun b hb => List.mem_append_left _ hb)) | refine Kept.trans ?_ (hstB.kept.more (fun b hb => List.mem_append_right _ hb))))) g2 nb2⟩)
              (first
                | (refine step_push (a := f) (n := j) (cap := cf) (by rfl) (by rfl) Try.underlying46 lit_info rfl (by omega) (by rfl) (by rfl) (news := [.int .u32 ((b1 : Int) % 16)]) (hof.kept (F := ft g) (by (repeat (first | with_reducible exact Kept.refl _ _ | with_reducible apply Kept.drew | with_reducible apply Kept.alloc | refine Kept.trans ?_ hstB.kept))) (fun b hb hg => hdis b hg hb)) rfl (news_blk (t := 24) (by first | exact heap_new1 _ _ | exact heap_old1 _ _ _ | exact heap_new2 _ _ _ | (refine hstB.kept.heap ?_ ?_ <;> first | assumption | exact heap_new1 _ _ | exact heap_old1 _ _ _ | exact heap_new2 _ _ _))) (by simp [Value.oneCell']) (by unfold maxLen; omega) (by omega) ?_; intro aA cA wA hownA hstA; have hfin := two_push hog hof (fun b hb hg => hdis b hg hb) (by (repeat (first | with_reducible exact Kept.refl _ _ | with_reducible apply Kept.drew | with_reducible apply Kept.alloc))) hstB hownB (by (repeat (first | with_reducible exact Kept.refl _ _ | with_reducible apply Kept.drew | with_reducible apply Kept.alloc))) hstA hownA)
                | (refine step_push (a := g) (n := j) (cap := cg) (by rfl) (by rfl) Try.underlying46 lit_info rfl (by omega) (by rfl) (by rfl) (news := [.int .u32 ((b2 : Int) % 16)]) (hog.kept (F := ft f) (by (repeat (first | with_reducible exact Kept.refl _ _ | with_reducible apply Kept.drew | with_reducible apply Kept.alloc | refine Kept.trans ?_ hstA.kept))) hdis) rfl (news_blk (t := 24) (by first | exact heap_new1 _ _ | exact heap_old1 _ _ _ | exact heap_new2 _ _ _ | (refine hstA.kept.heap ?_ ?_ <;> first | assumption | exact heap_new1 _ _ | exact heap_old1 _ _ _ | exact heap_new2 _ _ _))) (by simp [Value.oneCell']) (by unfold maxLen; omega) (by omega) ?_; intro aB cB wB hownB hstB; have hfin := two_push hof hog hdis (by (repeat (first | with_reducible exact Kept.refl _ _ | with_reducible apply Kept.drew | with_reducible apply Kept.alloc))) hstA hownA (by (repeat (first | with_reducible exact Kept.refl _ _ | with_reducible apply Kept.drew | with_reducible apply Kept.alloc))) hstB hownB)
                | (refine step_push (a := f) (n := j) (cap := cf) (by rfl) (by rfl) Try.underlying46 lit_info rfl (by omega) (by rfl) (by rfl) (news := [.int .u32 ((b1 : Int) % 16)]) (hof.kept0 (by (repeat (first | with_reducible exact Kept.refl _ _ | with_reducible apply Kept.drew | with_reducible apply Kept.alloc)))) rfl (news_blk (t := 24) (by first | exact heap_new1 _ _ | exact heap_old1 _ _ _ | exact heap_new2 _ _ _)) (by simp [Value.oneCell']) (by unfold maxLen; omega) (by omega) ?_; intro aA cA wA hownA hstA)
                | (refine step_push (a := g) (n := j) (cap := cg) (by rfl) (by rfl) Try.underlying46 lit_info rfl (by omega) (by rfl) (by rfl) (news := [.int .u32 ((b2 : Int) % 16)]) (hog.kept0 (by (repeat (first | with_reducible exact Kept.refl _ _ | with_reducible apply Kept.drew | with_reducible apply Kept.alloc)))) rfl (news_blk (t := 24) (by first | exact heap_new1 _ _ | exact heap_old1 _ _ _ | exact heap_new2 _ _ _)) (by simp [Value.oneCell']) (by unfold maxLen; omega) (by omega) ?_; intro aB cB wB hownB hstB))
            all_goals
              go_wp2
              go_roundw
              case rel => exact ⟨j + 1, aA, aB, cA, cB, by omega, by go_num, rfl, rfl, by rw [HT1.out, List.map_append, List.map_cons, List.map_nil, ← nats_append, show ((b1 % 16 : Nat) : Int) = (b1 : Int) % 16 from by omega]; first | exact hfin.1 | exact hfin.2.1, by rw [HT2.out, List.map_append, List.map_cons, List.map_nil, ← nats_append, show ((b2 % 16 : Nat) : Int) = (b2 : Int) % 16 from by omega]; first | exact hfin.1 | exact hfin.2.1, by first | exact hfin.2.2.1 | exact hfin.2.2.2.1, by first | exact hst2.trans hfin.2.2.2.2 | exact hst2.trans (append_comm_step hfin.2.2.2.2)⟩
              case measure => simp [intOf]; omega
          · obtain rfl : j = 8 := by omega
            rw [List.take_of_length_le (by rw [N1.out]; omega)] at hof
            rw [List.take_of_length_le (by rw [N2.out]; omega)] at hog
            have F16 := mod16_lt l1
            have G16 := mod16_lt l2
            have FL : (l1.map (· % 16)).length = 8 := by rw [List.length_map]; exact N1.out
            have GL : (l2.map (· % 16)).length = 8 := by rw [List.length_map]; exact N2.out
            generalize l1.map (· % 16) = F at *
            generalize l2.map (· % 16) = G at *
            obtain ⟨gf, rfl⟩ := hof.form (by omega)
            obtain ⟨gg, rfl⟩ := hog.form (by omega)
            obtain ⟨⟨vf, sf1⟩, sf2, sf3⟩ := hof.store (j := 0) (by omega)
            obtain ⟨⟨vg, sg1⟩, sg2, sg3⟩ := hog.store (j := 0) (by omega)
            have hne : gg ≠ gf := fun h => hdis gg (by simp [ft]) (by simp [ft, h])
            go_wp2_with fail
            have ow1 := sf3 (.int .u32 0)
            have kw1 : Kept [gf] wr (wr.setCell ⟨gf, 0, none⟩ (.int .u32 0)) := (Kept.refl [gf] wr).setCell (.inl (by simp)) _
            have og1 := hog.kept kw1 (by simp [ft, hne])
            have og2 := (og1.store (j := 0) (by omega)).2.2 (.int .u32 0)
            have kw2 : Kept [gg] (wr.setCell ⟨gf, 0, none⟩ (.int .u32 0)) ((wr.setCell ⟨gf, 0, none⟩ (.int .u32 0)).setCell ⟨gg, 0, none⟩ (.int .u32 0)) := (Kept.refl [gg] _).setCell (.inl (by simp)) _
            have of2 := ow1.kept kw2 (by simp [ft]; exact fun h => hne h.symm)
            have hkk : Kept [] w1 ((wr.setCell ⟨gf, 0, none⟩ (.int .u32 0)).setCell ⟨gg, 0, none⟩ (.int .u32 0)) := by
              refine Kept.setCell (Kept.setCell (hst.drop.trans hst2.drop).kept ?_ _) ?_ _
              · exact (hst2.fresh gf (by simp [ft])).imp (fun h => absurd h (by simp)) fun h => Nat.le_trans hst.kept.size h
              · exact (hst2.fresh gg (by simp [ft])).imp (fun h => absurd h (by simp)) fun h => Nat.le_trans hst.kept.size h
            have kX : Kept [gf, gg] wr ((wr.setCell ⟨gf, 0, none⟩ (.int .u32 0)).setCell ⟨gg, 0, none⟩ (.int .u32 0)) := (kw1.more (by simp)).trans (kw2.more (by simp))
            have oX : Own ((wr.setCell ⟨gf, 0, none⟩ (.int .u32 0)).setCell ⟨gg, 0, none⟩ (.int .u32 0)) 24 x k cx (nats .u32 X) := (hown.kept0 hst2.drop.kept).kept kX (fun b hb hm => by
              have hlt := hown.lt b hb
              have : b ∈ ft (some ⟨gf, 0, none⟩) ++ ft (some ⟨gg, 0, none⟩) := by simpa [ft] using hm
              rcases hst2.fresh b this with h | h
              · simp at h
              · omega)
            generalize ((wr.setCell ⟨gf, 0, none⟩ (.int .u32 0)).setCell ⟨gg, 0, none⟩ (.int .u32 0)) = W at *
            have of2 : Own W 24 (some ⟨gf, 0, none⟩) 8 cf (nats .u32 (F.set 0 0)) := by rw [← nats_set]; exact of2
            have og2 : Own W 24 (some ⟨gg, 0, none⟩) 8 cg (nats .u32 (G.set 0 0)) := by rw [← nats_set]; exact og2
            have F16' := lt16_set F16
            have G16' := lt16_set G16
            have FH : (F.set 0 0).head? = some 0 := head_set (by omega)
            have GH : (G.set 0 0).head? = some 0 := head_set (by omega)
            have FL' : (F.set 0 0).length = 8 := by rw [List.length_set]; exact FL
            have GL' : (G.set 0 0).length = 8 := by rw [List.length_set]; exact GL
            clear F16 G16 FL GL sf1 sf2 sf3 sg1 sg2 sg3 ow1 kw1 og1 kw2 kX hown hof hog hst hst2 hdis
            generalize F.set 0 0 = F1 at *
            generalize G.set 0 0 = G1 at *
            have XL := HXL.out
            have HF := Lib.hid (And.intro F16' (And.intro FH FL')); clear F16' FH FL'
            have HG := Lib.hid (And.intro G16' (And.intro GH GL')); clear G16' GH GL'
            have HXX := Lib.hid XL; clear XL
            refine (lit_over x cx k X (some ⟨gf, 0, none⟩) 8 cf F1 W HXX.out (by omega) oX.sln (lits16 HX16.out) HF.out.2.2 (by omega) of2.sln (lits16 HF.out.1) (half16 HX16.out) HF.out.2.1).mono ?_
            rintro e Wa ⟨pa, ca, rfl, ha, sa⟩
            have A16 := Lib.hid (map_over_lt16 HF.out.1 X)
            have AL := Lib.hid (show (X.map (overL F1)).length = k by rw [List.length_map]; exact HXX.out)
            have AE := Lib.hid (show X.map (overL F1) = X.map (overL F1) from rfl)
            go_wp2_with fail
            refine (lit_over pa ca k (X.map (overL F1)) (some ⟨gg, 0, none⟩) 8 cg G1 Wa AL.out (by omega) ha.sln (lits16 A16.out) HG.out.2.2 (by omega) (og2.kept0 sa.kept).sln (lits16 HG.out.1) (half16 A16.out) HG.out.2.1).mono ?_
            rintro e Wb ⟨pb, cb, rfl, hb, sb⟩
            go_wp2_with fail
            refine (lit_over (some ⟨gf, 0, none⟩) cf 8 F1 (some ⟨gg, 0, none⟩) 8 cg G1 Wb HF.out.2.2 (by omega) ((of2.kept0 sa.kept).kept0 sb.kept).sln (lits16 HF.out.1) HG.out.2.2 (by omega) ((og2.kept0 sa.kept).kept0 sb.kept).sln (lits16 HG.out.1) (half16 HF.out.1) HG.out.2.1).mono ?_
            rintro e Wc ⟨pc, cc, rfl, hcw, sc⟩
            have C16 := Lib.hid (map_over_lt16 HG.out.1 F1)
            have CL := Lib.hid (show (F1.map (overL G1)).length = 8 by rw [List.length_map]; exact HF.out.2.2)
            have CH := Lib.hid (show (F1.map (overL G1)).head? = some 0 by
              have h1 := HF.out.2.1
              have h2 := HG.out.2.1
              cases F1 with
              | nil => simp at h1
              | cons y r =>
                simp at h1; subst h1
                cases G1 with
                | nil => simp at h2
                | cons z s => simp at h2; subst h2; simp [overL, ifL])
            go_wp2_with fail
            refine (lit_over x cx k X pc 8 cc (F1.map (overL G1)) Wc HXX.out (by omega) (((oX.kept0 sa.kept).kept0 sb.kept).kept0 sc.kept).sln (lits16 HX16.out) CL.out (by omega) hcw.sln (lits16 C16.out) (half16 HX16.out) CH.out).mono ?_
            rintro e Wd ⟨pd, cd, rfl, hd, sd⟩
            go_wp2_with fail
            refine (lit_turn x cx k X Wd HXX.out (by omega) ((((oX.kept0 sa.kept).kept0 sb.kept).kept0 sc.kept).kept0 sd.kept).sln (lits16 HX16.out)).mono ?_
            rintro e We ⟨pe, ce, rfl, he, se⟩
            have T16 := Lib.hid (show ∀ y ∈ X.map ntL, y < 16 by
              intro y hy
              obtain ⟨z, hz, rfl⟩ := List.mem_map.1 hy
              exact ifL_lt16 (HX16.out z hz) true)
            have TL := Lib.hid (show (X.map ntL).length = k by rw [List.length_map]; exact HXX.out)
            go_wp2_with fail
            refine (lit_over pe ce k (X.map ntL) (some ⟨gf, 0, none⟩) 8 cf F1 We TL.out (by omega) he.sln (lits16 T16.out) HF.out.2.2 (by omega) (((((of2.kept0 sa.kept).kept0 sb.kept).kept0 sc.kept).kept0 sd.kept).kept0 se.kept).sln (lits16 HF.out.1) (half16 T16.out) HF.out.2.1).mono ?_
            rintro e Wt ⟨pt, ct, rfl, ht, st⟩
            go_wp2_with fail
            have kt : Kept [] W Wt := ((((sa.kept.trans sb.kept).trans sc.kept).trans sd.kept).trans se.kept).trans st.kept
            have oFt := of2.kept0 kt
            have oXt := oX.kept0 kt
            have oAt := ((((ha.kept0 sb.kept).kept0 sc.kept).kept0 sd.kept).kept0 se.kept).kept0 st.kept
            have oBt := (((hb.kept0 sc.kept).kept0 sd.kept).kept0 se.kept).kept0 st.kept
            have oDt := (hd.kept0 se.kept).kept0 st.kept
            have oTt := ht
            have b3t := (hkk.trans kt).heap B3.out (by simp)
            have SW := Lib.hid (show SlN Wt .u64 (some ⟨w.heap.size + 1 + 1, 0, none⟩) ws from fun j hj => ⟨_, rfl, by
              have := box_cell b3t hj
              have e : (⟨w.heap.size + 1 + 1, 0, none⟩ : Addr).add j = ⟨w.heap.size + 1 + 1, j, none⟩ := by unfold Addr.add; split <;> simp_all
              rw [e]; exact this⟩)
            have KT := Lib.hid (hkk.trans kt)
            clear ha sa hb sb hcw sc hd sd he se ht st of2 oX og2 hkk kt b3t
            have HOF := Lib.hid oFt; clear oFt
            have HOX := Lib.hid oXt; clear oXt
            have HOA := Lib.hid oAt; clear oAt
            have HOB := Lib.hid oBt; clear oBt
            have HOD := Lib.hid oDt; clear oDt
            have HOT := Lib.hid oTt; clear oTt
            go_loopw [24, 25] (fun v i wr => ∃ (j : Nat) (y : Option Addr) (cy : Nat), j ≤ 8 ∧ i = .int .i64 j ∧ v = .slice y j cy ∧ Own wr 41 y j cy (nats .u64 ((F1.take j).map (wd ws))) ∧ Stepped Wt wr [] (ft y)) (fun _ i _ => 8 - (intOf i).toNat)
            case atStart => exact ⟨0, none, 0, by omega, rfl, rfl, Own.nil _ _, .refl _ _⟩
            case round =>
              obtain ⟨j, y, cy, hj, rfl, rfl, hoy, hsty⟩ := hrel
              by_cases hj8 : j < 8
              · have hjl : j < F1.length := by rw [HF.out.2.2]; exact hj8
                have gcell : wr.cell? ⟨gf, j, none⟩ = some (.int .u32 (F1[j] : Int)) := by
                  obtain ⟨ad, e, hcc⟩ := (HOF.out.kept0 hsty.kept).sln j hjl
                  injection e with e; subst e
                  have e : (⟨gf, 0, none⟩ : Addr).add j = ⟨gf, j, none⟩ := by unfold Addr.add; split <;> simp_all
                  rw [e] at hcc; exact hcc
                have HT1 := Lib.hid (take_snoc F1 j hjl)
                have hb1 : F1[j] < 4294967296 := lits16 HF.out.1 _ (List.getElem_mem hjl)
                have HWD := Lib.hid (wd_lt r3 F1[j])
                generalize F1[j] = b1 at *
                have i1 : (j : Int) < 8 := by omega
                have nfy : gf ∉ ft y := fun h => by
                  rcases hsty.fresh gf h with h | h
                  · simp at h
                  · have := HOF.out.lt gf (by simp [ft]); omega
                go_wp2_with fail
                go_region_held3 (fun w' => w'.cell? ⟨gf, j, none⟩ = some (.int .u32 (b1 : Int))) (first | go_keep | exact hst1.kept.cell ((((Kept.refl [] wr).alloc _).drew).cell gcell (by simp)) nfy)
                  (first
                    | (go_at_call 24; refine (lit_word b1 (some ⟨w.heap.size + 1 + 1, 0, none⟩) 8 8 ws _ N3.out hb1 ((SW.out.kept0 hsty.kept).kept0 ((Kept.refl [] wr).drew)) r3).mono ?_; rintro e w' ⟨rfl, rfl⟩)
                    | (refine step_push (a := y) (n := j) (cap := cy) (by rfl) (by rfl) Try.underlying23 u64_info1 rfl (by omega) (by rfl) (by rfl) (news := [.int .u64 ((wd ws b1 : Nat) : Int)]) (hoy.kept0 (((Kept.refl [] wr).alloc _).drew)) rfl (news_blk (t := 41) (by exact heap_new1 _ _)) (by simp [Value.oneCell']) (by unfold maxLen; omega) (by omega) ?_; intro a1 c1 w3 hown1 hst1))
                go_wp2
                go_roundw
                case rel => exact ⟨j + 1, a1, c1, by omega, by go_num, rfl, by rw [HT1.out, List.map_append, List.map_cons, List.map_nil, ← nats_append]; exact hown1, ((hsty.alloc _).drew).trans hst1⟩
                case measure => simp [intOf]; omega
              · obtain rfl : j = 8 := by omega
                rw [List.take_of_length_le (by rw [HF.out.2.2]; omega)] at hoy
                go_wp2_with fail
                obtain ⟨wb, rfl⟩ : ∃ wb : World, wb = wr := ⟨_, rfl⟩
                go_loopw [26] (fun i wr => ∃ (q m : Nat), q ≤ k ∧ i = .int .i64 q ∧ wr = wb.drewN m) (fun i _ => k - (intOf i).toNat)
                case atStart => exact ⟨0, 0, by omega, rfl, rfl⟩
                case round =>
                  obtain ⟨q, m, hq, rfl, rfl⟩ := hrel
                  by_cases hqk : q < k
                  · have hXq : q < X.length := by rw [HXX.out]; exact hqk
                    have hz16 := HX16.out _ (List.getElem_mem hXq)
                    obtain ⟨ada, rfl, cA⟩ := (HOA.out.kept0 hsty.kept).sln q (by rw [AL.out]; exact hqk)
                    obtain ⟨adb, rfl, cB⟩ := (HOB.out.kept0 hsty.kept).sln q (by rw [List.length_map, AL.out]; exact hqk)
                    obtain ⟨add, rfl, cD⟩ := (HOD.out.kept0 hsty.kept).sln q (by rw [List.length_map]; exact hXq)
                    obtain ⟨adt, rfl, cT⟩ := (HOT.out.kept0 hsty.kept).sln q (by rw [List.length_map, List.length_map]; exact hXq)
                    obtain ⟨adx, rfl, cX⟩ := (HOX.out.kept0 hsty.kept).sln q hXq
                    have hzF : X[q] / 2 < F1.length := by rw [HF.out.2.2]; omega
                    have HWW := Lib.hid (over_word r3 X[q] hzF HF.out.2.1).symm
                    have HVV := Lib.hid (show overL F1 X[q] < 4294967296 from by have := overL_lt16 HF.out.1 X[q]; omega)
                    rw [List.getElem_map] at cA
                    rw [List.getElem_map, List.getElem_map, overL_twice F1 G1 X[q] hzF] at cB
                    rw [List.getElem_map] at cD
                    rw [List.getElem_map, List.getElem_map, overL_nt] at cT
                    have hz : X[q] < 4294967296 := by omega
                    generalize overL (F1.map (overL G1)) X[q] = u at *
                    generalize overL F1 X[q] = v at *
                    generalize X[q] = z at *
                    clear hzF hz16
                    have hqi : (q : Int) < (k : Int) := by omega
                    have SB := Lib.hid hoy.sln
                    have BYL := Lib.hid (show (F1.map (wd ws)).length = 8 by rw [List.length_map]; exact HF.out.2.2)
                    have BYW := Lib.hid (show Words (F1.map (wd ws)) from fun n hn => by
                      obtain ⟨y, _, rfl⟩ := List.mem_map.1 hn
                      exact wd_lt r3 y)
                    have SWb := Lib.hid (SW.out.kept0 hsty.kept)
                    go_wp2_with fail
                    go_quiet (first
                      | (go_at_call 22; (with_reducible exact q_same2 (lit_not v _ HVV.out)))
                      | (go_at_call 24; (with_reducible exact q_same2 (lit_word v (some ⟨w.heap.size + 1 + 1, 0, none⟩) 8 8 ws _ N3.out HVV.out (SWb.out.drewN _) r3)))
                      | (go_at_call 24; (with_reducible exact q_same2 (c_word z z rfl (wd ws v) (wd ws v) rfl y cy 8 (F1.map (wd ws)) _ BYL.out hz (SB.out.drewN _) BYW.out HWW.out))))
                    go_wp2
                    go_roundw
                    case rel => exact ⟨q + 1, _, by omega, by go_num, rfl⟩
                    case measure => simp [intOf]; omega
                  · obtain rfl : q = k := by omega
                    go_wp2_with fail
                    refine (lit_tells _).mono ?_
                    rintro e w' ⟨rfl, hkt⟩
                    go_wp2
                    go_ret
                    exact ⟨rfl, (((K0.trans KT.out).trans hsty.kept).drewN m |>.trans hkt).below⟩
end Go.Proofs.Yteikngjanfjmfaa
