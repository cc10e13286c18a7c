/-
  Law 03: grown, walked.
-/
import Derived.Test.YteikngjanfjmfaaAigLaw
import Derived.Deep.RegionHeld3
namespace Go.Proofs.Yteikngjanfjmfaa
open Go.ChangeShapes Go.WideShapes Go.ChangeAt Go.RowKit
open Go.Maps (Keyed)
open Go.WideMaps
set_option linter.unusedVariables false

variable {w w' : World} {p : Nat} {F S : List Nat} {g : Gr}
theorem u32_info : (Try.prog.info? 22).map (fun i => (i.zero, i.size, i.bytes)) = some (some (.int .u32 0), 1, 4) := by kernel_rfl

def GrownPost (s : Gr × List Nat) (w : World) (e : Ending) (w' : World) : Prop :=
  ∃ p F a c, e = .returned (.tuple #[.pointer (some ⟨p, 0, none⟩), .slice a s.2.length c, .bool true]) ∧ GraphAt w' p F s.1 ∧ Own w' 24 a s.2.length c (nats .u32 s.2) ∧ Stepped w w' [] (F ++ ft a)

/-- at a round's head -/
structure GrownAt (w wr : World) (p : Nat) (s : Gr × List Nat) (F : List Nat) (a : Option Addr) (c : Nat) : Prop where
  graph : GraphAt wr p F s.1
  told : Own wr 24 a s.2.length c (nats .u32 s.2)
  step : Stepped w wr [] (F ++ ft a)

theorem sln_new1 (w : World) (o : Obj) (K : IntKind) (l : List Nat) (t : TypeId) : SlN ((w.alloc o).alloc (.cells (nats K l).toArray t)) K (some ⟨w.heap.size + 1, 0, none⟩) l := by
  have h := sln_new (w.alloc o) K l t
  rw [World.size_alloc] at h
  exact h
theorem own_cells3 {w : World} {e : TypeId} {g n cap : Nat} {l : List Nat} (h : Own w e (some ⟨g, 0, none⟩) n cap (nats .u32 l)) (j : Nat) (hj : j < l.length) : w.cell? ⟨g, j, none⟩ = some (.int .u32 (l.getD j 0 : Nat)) := by
  have h1 := World.ownsRow.cellAt h j (by have := h.len; rw [nats_length] at this; omega)
  rw [h1]
  simp [nats, List.getD_eq_getElem?_getD, List.getElem?_eq_getElem hj]
theorem Own.cap {w : World} {e : TypeId} {a : Option Addr} {n cap : Nat} {xs : List Value} (h : Own w e a n cap xs) : n ≤ cap := by
  rcases h.2 with ⟨hv, h0⟩ | ⟨g, cap', cur, hv, hb, hg, hc, rest⟩
  · omega
  · injection hv with _ _ hv; subst hv; exact hc
theorem told_kept {wr w2 w3 : World} {s : Gr × List Nat} {F F' : List Nat} {a : Option Addr} {c : Nat} (h : GrownAt w wr p s F a c) (hk : Kept [] wr w2) (hst : Stepped w2 w3 F F') : Own w3 24 a s.2.length c (nats .u32 s.2) :=
  (h.told.kept0 hk).kept hst.kept (h.graph.apart h.told (by decide) (by decide) (by decide))
theorem grown_push {wr w2 w3 w4 : World} {g' : Gr} {gr : Gr} {told : List Nat} {x : Nat} {F F' : List Nat} {a a4 : Option Addr} {c c4 : Nat} (h : GrownAt w wr p (gr, told) F a c) (hk : Kept [] wr w2) (hst : Stepped w2 w3 F F') (hg : GraphAt w3 p F' g')
    (ho : Own w4 24 a4 (told.length + 1) c4 (nats .u32 told ++ [.int .u32 (x : Int)])) (hst4 : Stepped w3 w4 (ft a) (ft a4)) : GrownAt w w4 p (g', told ++ [x]) F' a4 c4 := by
  have ht := told_kept h hk hst
  have hap := hg.apart ht (by decide) (by decide) (by decide)
  refine ⟨hg.kept hst4.kept (fun b hb h => hap b h hb), ?_, ?_⟩
  · rw [nats_append] at ho
    simpa using ho
  · have h1 : Stepped w w2 [] (F ++ ft a) := ⟨h.step.kept.trans hk, h.step.fresh⟩
    exact (h1.trans (hst.beside (ft a))).trans (hst4.behind F')
theorem grown_stay {wr w2 : World} {s : Gr × List Nat} {F : List Nat} {a : Option Addr} {c : Nat} (h : GrownAt w wr p s F a c) (hk : Kept [] wr w2) : GrownAt w w2 p s F a c :=
  ⟨h.graph.kept0 hk, h.told.kept0 hk, ⟨h.step.kept.trans hk, h.step.fresh⟩⟩

theorem act_cell {wr w1 : World} {cs : Array Value} {t : TypeId} {o : Obj} {F : List Nat} (h : Stepped ((wr.alloc (.cells cs t)).alloc o) w1 [] F) (i : Nat) (v : Value) (hv : cs[i]? = some v) : w1.cell? ⟨wr.heap.size, i, none⟩ = some v :=
  (((Kept.refl [] (wr.alloc (.cells cs t))).alloc o).trans h.kept).cell ((blk_cell (heap_alloc_new wr _) i).trans hv) (by simp)

set_option maxHeartbeats 8000000 in
set_option maxRecDepth 100000 in
theorem grown_c (o1 o2 raw : Bool) (a : Option Addr) (c n : Nat) (acts : List (Int × List Nat)) (w : World) (hn : acts.length = n) (hm : n ≤ 140737488351232) (hs : SlActs w a acts) :
    Calls Try.prog 31 #[.agg #[.bool o1, .bool o2], .slice a n c, .bool raw] w (GrownPost (grownTo raw (startG o1 o2) acts 40) w) := by
  have HN := Lib.hid hn; clear hn
  go_enter Try.func31, Try.ntmps31; (try simp only [List.append])
  go_wp2_with (go_at_call 37; refine (aig_new o1 o2 _).mono ?_; rintro e w0 ⟨p, F0, rfl, hg0, hst0⟩)
  go_loopw [10, 20] (fun v i wr => ∃ (k : Nat) (F : List Nat) (at_ : Option Addr) (ct m : Nat), k ≤ n ∧ k ≤ 40 ∧ i = .int .i64 k ∧ m = (grownTo raw (startG o1 o2) acts k).2.length ∧ v = .slice at_ m ct ∧ GrownAt w wr p (grownTo raw (startG o1 o2) acts k) F at_ ct) (fun _ i _ => n - (intOf i).toNat)
  case atStart => exact ⟨0, F0, none, 0, 0, Nat.zero_le _, Nat.zero_le _, rfl, rfl, rfl, ⟨hg0, Own.nil _ _, by have := ((Stepped.refl w []).alloc _).trans hst0; simpa [ft] using this⟩⟩
  case round =>
    obtain ⟨k, F, at_, ct, m, hk, hk40, rfl, hmm, rfl, hga⟩ := hrel
    have HM := Lib.hid hmm; clear hmm
    have hfin := Lib.hid (show k = n ∨ k = 40 → grownTo raw (startG o1 o2) acts 40 = grownTo raw (startG o1 o2) acts k from fun h => by
      rcases h with h | h
      · unfold grownTo
        rw [List.take_of_length_le (by have := HN.out; omega), List.take_of_length_le (by have := HN.out; omega)]
      · rw [h])
    by_cases hlt : k < n
    · by_cases h40 : k = 40
      · have k40 : ((k : Int) == 40) = true := by simp; omega
        have HF := Lib.hid (hfin.out (.inr h40))
        clear h40
        have hkl : k < acts.length := by have := HN.out; omega
        obtain ⟨bb, oo, al, cl, rfl, hc1, hc2, -, -, -, -⟩ := (hs.kept0 hga.step.kept) k hkl
        go_wp2
        go_ret3
        have hga2 := grown_stay hga ((Kept.refl [] wr).alloc (.cells #[.int .i64 acts[k].1, .slice al acts[k].2.length cl] 60))
        exact ⟨p, F, at_, ct, by rw [HF.out, ← HM.out]; rfl, by rw [HF.out]; exact hga2.graph, by rw [HF.out]; exact hga2.told, hga2.step⟩
      · have k40 : ((k : Int) == 40) = false := by simp; omega
        have hkl : k < acts.length := by have := HN.out; omega
        obtain ⟨bb, oo, al, cl, rfl, hc1, hc2, hlc, hcb, hnil0, hsl⟩ := (hs.kept0 hga.step.kept) k hkl
        have HOK := Lib.hid (grownTo_ok o1 o2 raw acts k)
        have HSU := Lib.hid (grownTo_succ raw (startG o1 o2) acts k hkl)
        generalize acts[k] = act at *
        obtain ⟨wh, l⟩ := act
        have hnil := Lib.hid hnil0; clear hnil0
        have hgsz : (grownTo raw (startG o1 o2) acts k).1.nodes.length ≤ 1000 := by have := HOK.out.size; have := List.length_take_le k acts; omega
        have hmt : m ≤ 40 := by have := HOK.out.many; have := List.length_take_le k acts; have := HM.out; omega
        generalize hss : grownTo raw (startG o1 o2) acts k = s at *
        have HSS := Lib.hid hss; clear hss hfin
        obtain ⟨gr, told⟩ := s
        obtain ⟨BL, hBL⟩ : ∃ BL, BL = (bring gr (l.take 8 ++ [0, 0, 0])).length := ⟨_, rfl⟩
        have hB3 : 3 ≤ BL ∧ BL ≤ 8 := by rw [hBL]; exact ⟨bring3 _ _, by rw [bring_length]; omega⟩
        have HBB := Lib.hid hBL.symm
        have HBO := Lib.hid (bring_ok HOK.out.wf (l.take 8 ++ [0, 0, 0]))
        clear hBL
        have hgg : GraphAt wr p F gr := hga.graph
        have hgsz : gr.nodes.length ≤ 1000 := hgsz
        simp only at hlc
        have hlm : l.length ≤ 140737488351232 := by omega
        by_cases h8 : l.length ≤ 8
        all_goals
          by_cases h0 : wh = 0
          · have HAC := Lib.hid (show actS raw (gr, told) (wh, l) = ((inputG gr).1, told ++ [(inputG gr).2]) by simp [actS, actG, h0])
            subst h0
            go_wp2_with (first
              | (at_builtin; refine wpList_grow (l := l.take 8) (news := [0, 0, 0]) rfl rfl Try.underlying52 u32_info rfl rfl rfl (by simp; omega) rfl (by omega) (fun h => by have := hnil.out h; omega) ((hsl.kept0 (((Kept.refl [] wr).alloc _).alloc _)).take 8) (by exact sln_new1 _ _ _ _ _) (by omega) (by unfold maxLen; omega) (by omega) ?_; intro a1 c1 w1 hown1 hst1; have hk1 : Kept [] wr w1 := (((Kept.refl [] wr).alloc _).alloc _).trans hst1.kept; have hcw1 := act_cell hst1 0 _ rfl)
              | (go_at_call 44; refine (brought_c (hgg.kept0 hk1) (by omega) a1 c1 _ (l.take 8 ++ [0, 0, 0]) (by rw [List.length_append, List.length_take]; simp only [List.length_cons, List.length_nil]; omega) (by omega) hown1.cap hown1.sln).mono ?_; rintro e w2 ⟨a2, c2, rfl, hown2, hst2⟩; have hk2 : Kept [] wr w2 := hk1.trans hst2.kept; rw [HBB.out] at hown2 ⊢; have hcw2 := hst2.kept.cell hcw1 (by simp))
              | (go_at_call 38; refine (aig_input (hgg.kept0 hk2) (by omega)).mono ?_; rintro e w3 ⟨F3, rfl, hg3, hst3⟩; have hto := told_kept hga hk2 hst3)
              | (at_builtin; refine wpList_push rfl rfl Try.underlying46 lit_info rfl rfl rfl (by rw [HM.out]; exact hto) rfl (by unfold maxLen; omega) (by omega) ?_; intro a4 c4 w4 hown4 hst4))
            go_roundw
            case rel => exact ⟨k + 1, F3, a4, c4, m + 1, by omega, by omega, by go_num, by rw [HSU.out, HAC.out]; simp [HM.out], rfl, by rw [HSU.out, HAC.out]; exact grown_push hga hk2 hst3 hg3 (by rw [HM.out] at hown4; exact hown4) hst4⟩
            case measure => simp [intOf]; omega
          have z0 : (wh == 0) = false := by simpa using h0
          have y0 := Lib.hid h0; clear h0
          by_cases h0 : wh = 1
          · have HAC := Lib.hid (show actS raw (gr, told) (wh, l) = ((manyG andG gr 1 (bring gr (l.take 8 ++ [0, 0, 0]))).1, told ++ [(manyG andG gr 1 (bring gr (l.take 8 ++ [0, 0, 0]))).2]) by simp [actS, actG, h0])
            subst h0
            go_wp2_with (first
              | (at_builtin; refine wpList_grow (l := l.take 8) (news := [0, 0, 0]) rfl rfl Try.underlying52 u32_info rfl rfl rfl (by simp; omega) rfl (by omega) (fun h => by have := hnil.out h; omega) ((hsl.kept0 (((Kept.refl [] wr).alloc _).alloc _)).take 8) (by exact sln_new1 _ _ _ _ _) (by omega) (by unfold maxLen; omega) (by omega) ?_; intro a1 c1 w1 hown1 hst1; have hk1 : Kept [] wr w1 := (((Kept.refl [] wr).alloc _).alloc _).trans hst1.kept; have hcw1 := act_cell hst1 0 _ rfl)
              | (go_at_call 44; refine (brought_c (hgg.kept0 hk1) (by omega) a1 c1 _ (l.take 8 ++ [0, 0, 0]) (by rw [List.length_append, List.length_take]; simp only [List.length_cons, List.length_nil]; omega) (by omega) hown1.cap hown1.sln).mono ?_; rintro e w2 ⟨a2, c2, rfl, hown2, hst2⟩; have hk2 : Kept [] wr w2 := hk1.trans hst2.kept; rw [HBB.out] at hown2 ⊢; have hcw2 := hst2.kept.cell hcw1 (by simp))
              | (go_at_call 36; refine (aig_And_ (hgg.kept0 hk2) _ _ _ (bring gr (l.take 8 ++ [0, 0, 0])) HBB.out (by omega) hown2.sln HBO.out ((hgg.kept0 hk2).apart hown2 (by decide) (by decide) (by decide))).mono ?_; rintro e w3 ⟨F3, rfl, hg3, hst3⟩; have hto := told_kept hga hk2 hst3)
              | (at_builtin; refine wpList_push rfl rfl Try.underlying46 lit_info rfl rfl rfl (by rw [HM.out]; exact hto) rfl (by unfold maxLen; omega) (by omega) ?_; intro a4 c4 w4 hown4 hst4))
            go_roundw
            case rel => exact ⟨k + 1, F3, a4, c4, m + 1, by omega, by omega, by go_num, by rw [HSU.out, HAC.out]; simp [HM.out], rfl, by rw [HSU.out, HAC.out]; exact grown_push hga hk2 hst3 hg3 (by rw [HM.out] at hown4; exact hown4) hst4⟩
            case measure => simp [intOf]; omega
          have z1 : (wh == 1) = false := by simpa using h0
          have y1 := Lib.hid h0; clear h0
          by_cases h0 : wh = 2
          · have HAC := Lib.hid (show actS raw (gr, told) (wh, l) = ((manyG orG gr 0 (bring gr (l.take 8 ++ [0, 0, 0]))).1, told ++ [(manyG orG gr 0 (bring gr (l.take 8 ++ [0, 0, 0]))).2]) by simp [actS, actG, h0])
            subst h0
            go_wp2_with (first
              | (at_builtin; refine wpList_grow (l := l.take 8) (news := [0, 0, 0]) rfl rfl Try.underlying52 u32_info rfl rfl rfl (by simp; omega) rfl (by omega) (fun h => by have := hnil.out h; omega) ((hsl.kept0 (((Kept.refl [] wr).alloc _).alloc _)).take 8) (by exact sln_new1 _ _ _ _ _) (by omega) (by unfold maxLen; omega) (by omega) ?_; intro a1 c1 w1 hown1 hst1; have hk1 : Kept [] wr w1 := (((Kept.refl [] wr).alloc _).alloc _).trans hst1.kept; have hcw1 := act_cell hst1 0 _ rfl)
              | (go_at_call 44; refine (brought_c (hgg.kept0 hk1) (by omega) a1 c1 _ (l.take 8 ++ [0, 0, 0]) (by rw [List.length_append, List.length_take]; simp only [List.length_cons, List.length_nil]; omega) (by omega) hown1.cap hown1.sln).mono ?_; rintro e w2 ⟨a2, c2, rfl, hown2, hst2⟩; have hk2 : Kept [] wr w2 := hk1.trans hst2.kept; rw [HBB.out] at hown2 ⊢; have hcw2 := hst2.kept.cell hcw1 (by simp))
              | (go_at_call 39; refine (aig_Or_ (hgg.kept0 hk2) _ _ _ (bring gr (l.take 8 ++ [0, 0, 0])) HBB.out (by omega) hown2.sln HBO.out ((hgg.kept0 hk2).apart hown2 (by decide) (by decide) (by decide))).mono ?_; rintro e w3 ⟨F3, rfl, hg3, hst3⟩; have hto := told_kept hga hk2 hst3)
              | (at_builtin; refine wpList_push rfl rfl Try.underlying46 lit_info rfl rfl rfl (by rw [HM.out]; exact hto) rfl (by unfold maxLen; omega) (by omega) ?_; intro a4 c4 w4 hown4 hst4))
            go_roundw
            case rel => exact ⟨k + 1, F3, a4, c4, m + 1, by omega, by omega, by go_num, by rw [HSU.out, HAC.out]; simp [HM.out], rfl, by rw [HSU.out, HAC.out]; exact grown_push hga hk2 hst3 hg3 (by rw [HM.out] at hown4; exact hown4) hst4⟩
            case measure => simp [intOf]; omega
          have z2 : (wh == 2) = false := by simpa using h0
          have y2 := Lib.hid h0; clear h0
          by_cases h0 : wh = 3
          · have HAC := Lib.hid (show actS raw (gr, told) (wh, l) = ((manyG xorG gr 0 (bring gr (l.take 8 ++ [0, 0, 0]))).1, told ++ [(manyG xorG gr 0 (bring gr (l.take 8 ++ [0, 0, 0]))).2]) by simp [actS, actG, h0])
            subst h0
            go_wp2_with (first
              | (at_builtin; refine wpList_grow (l := l.take 8) (news := [0, 0, 0]) rfl rfl Try.underlying52 u32_info rfl rfl rfl (by simp; omega) rfl (by omega) (fun h => by have := hnil.out h; omega) ((hsl.kept0 (((Kept.refl [] wr).alloc _).alloc _)).take 8) (by exact sln_new1 _ _ _ _ _) (by omega) (by unfold maxLen; omega) (by omega) ?_; intro a1 c1 w1 hown1 hst1; have hk1 : Kept [] wr w1 := (((Kept.refl [] wr).alloc _).alloc _).trans hst1.kept; have hcw1 := act_cell hst1 0 _ rfl)
              | (go_at_call 44; refine (brought_c (hgg.kept0 hk1) (by omega) a1 c1 _ (l.take 8 ++ [0, 0, 0]) (by rw [List.length_append, List.length_take]; simp only [List.length_cons, List.length_nil]; omega) (by omega) hown1.cap hown1.sln).mono ?_; rintro e w2 ⟨a2, c2, rfl, hown2, hst2⟩; have hk2 : Kept [] wr w2 := hk1.trans hst2.kept; rw [HBB.out] at hown2 ⊢; have hcw2 := hst2.kept.cell hcw1 (by simp))
              | (go_at_call 40; refine (aig_Xor_ (hgg.kept0 hk2) _ _ _ (bring gr (l.take 8 ++ [0, 0, 0])) HBB.out (by omega) hown2.sln HBO.out ((hgg.kept0 hk2).apart hown2 (by decide) (by decide) (by decide))).mono ?_; rintro e w3 ⟨F3, rfl, hg3, hst3⟩; have hto := told_kept hga hk2 hst3)
              | (at_builtin; refine wpList_push rfl rfl Try.underlying46 lit_info rfl rfl rfl (by rw [HM.out]; exact hto) rfl (by unfold maxLen; omega) (by omega) ?_; intro a4 c4 w4 hown4 hst4))
            go_roundw
            case rel => exact ⟨k + 1, F3, a4, c4, m + 1, by omega, by omega, by go_num, by rw [HSU.out, HAC.out]; simp [HM.out], rfl, by rw [HSU.out, HAC.out]; exact grown_push hga hk2 hst3 hg3 (by rw [HM.out] at hown4; exact hown4) hst4⟩
            case measure => simp [intOf]; omega
          have z3 : (wh == 3) = false := by simpa using h0
          have y3 := Lib.hid h0; clear h0
          by_cases h0 : wh = 4
          · have HAC := Lib.hid (show actS raw (gr, told) (wh, l) = ((muxG gr ((bring gr (l.take 8 ++ [0, 0, 0])).getD 0 0) ((bring gr (l.take 8 ++ [0, 0, 0])).getD 1 0) ((bring gr (l.take 8 ++ [0, 0, 0])).getD 2 0)).1, told ++ [(muxG gr ((bring gr (l.take 8 ++ [0, 0, 0])).getD 0 0) ((bring gr (l.take 8 ++ [0, 0, 0])).getD 1 0) ((bring gr (l.take 8 ++ [0, 0, 0])).getD 2 0)).2]) by simp [actS, actG, h0])
            subst h0
            go_wp2_with (first
              | (at_builtin; refine wpList_grow (l := l.take 8) (news := [0, 0, 0]) rfl rfl Try.underlying52 u32_info rfl rfl rfl (by simp; omega) rfl (by omega) (fun h => by have := hnil.out h; omega) ((hsl.kept0 (((Kept.refl [] wr).alloc _).alloc _)).take 8) (by exact sln_new1 _ _ _ _ _) (by omega) (by unfold maxLen; omega) (by omega) ?_; intro a1 c1 w1 hown1 hst1; have hk1 : Kept [] wr w1 := (((Kept.refl [] wr).alloc _).alloc _).trans hst1.kept; have hcw1 := act_cell hst1 0 _ rfl)
              | (go_at_call 44; refine (brought_c (hgg.kept0 hk1) (by omega) a1 c1 _ (l.take 8 ++ [0, 0, 0]) (by rw [List.length_append, List.length_take]; simp only [List.length_cons, List.length_nil]; omega) (by omega) hown1.cap hown1.sln).mono ?_; rintro e w2 ⟨a2, c2, rfl, hown2, hst2⟩; have hk2 : Kept [] wr w2 := hk1.trans hst2.kept; rw [HBB.out] at hown2 ⊢; have hcw2 := hst2.kept.cell hcw1 (by simp); obtain ⟨g2, rfl⟩ := hown2.form (by omega); have e0 := own_cells3 hown2 0 (by have := HBB.out; omega); have e1 := own_cells3 hown2 1 (by have := HBB.out; omega); have e2 := own_cells3 hown2 2 (by have := HBB.out; omega)))
            have b0 : 0 < BL := by omega
            have b1 : 1 < BL := by omega
            have b2 : 2 < BL := by omega
            have i1 : (1:Int) < (BL:Int) := by omega
            have i2 : (2:Int) < (BL:Int) := by omega
            go_region_held3 (fun w' => w'.cell? ⟨g2, 0, none⟩ = some (.int .u32 ((bring gr (l.take 8 ++ [0, 0, 0])).getD 0 0 : Nat)) ∧ w'.cell? ⟨g2, 1, none⟩ = some (.int .u32 ((bring gr (l.take 8 ++ [0, 0, 0])).getD 1 0 : Nat)) ∧ w'.cell? ⟨g2, 2, none⟩ = some (.int .u32 ((bring gr (l.take 8 ++ [0, 0, 0])).getD 2 0 : Nat)))
              (first | (exact ⟨own_cells3 hown3 0 (by have := HBB.out; omega), own_cells3 hown3 1 (by have := HBB.out; omega), own_cells3 hown3 2 (by have := HBB.out; omega)⟩) | go_keep)
              (first | (go_at_call 41; refine (aig_mux (hgg.kept0 hk2.drew) (by omega) (HBO.out _ (getD_mem (by have := HBB.out; omega))) (HBO.out _ (getD_mem (by have := HBB.out; omega))) (HBO.out _ (getD_mem (by have := HBB.out; omega)))).mono ?_; rintro e w3 ⟨F3, rfl, hg3, hst3⟩; have hto := told_kept hga hk2.drew hst3; have hown3 := (hown2.kept0 ((Kept.refl [] w2).drew)).kept hst3.kept ((hgg.kept0 hk2).apart hown2 (by decide) (by decide) (by decide))))
            go_wp2_with (first
              | (at_builtin; refine wpList_push rfl rfl Try.underlying46 lit_info rfl rfl rfl (by rw [HM.out]; exact hto) rfl (by unfold maxLen; omega) (by omega) ?_; intro a4 c4 w4 hown4 hst4))
            go_roundw
            case rel => exact ⟨k + 1, F3, a4, c4, m + 1, by omega, by omega, by go_num, by rw [HSU.out, HAC.out]; simp [HM.out], rfl, by rw [HSU.out, HAC.out]; exact grown_push hga hk2.drew hst3 hg3 (by rw [HM.out] at hown4; exact hown4) hst4⟩
            case measure => simp [intOf]; omega
          have z4 : (wh == 4) = false := by simpa using h0
          have y4 := Lib.hid h0; clear h0
          by_cases h0 : wh = 5
          · cases raw with
            | true =>
              have HAC := Lib.hid (show actS true (gr, told) (wh, l) = ((gateG gr ((bring gr (l.take 8 ++ [0, 0, 0])).getD 0 0) ((bring gr (l.take 8 ++ [0, 0, 0])).getD 1 0)).1, told ++ [(gateG gr ((bring gr (l.take 8 ++ [0, 0, 0])).getD 0 0) ((bring gr (l.take 8 ++ [0, 0, 0])).getD 1 0)).2]) by simp [actS, actG, h0])
              subst h0
              go_wp2_with (first
                | (at_builtin; refine wpList_grow (l := l.take 8) (news := [0, 0, 0]) rfl rfl Try.underlying52 u32_info rfl rfl rfl (by simp; omega) rfl (by omega) (fun h => by have := hnil.out h; omega) ((hsl.kept0 (((Kept.refl [] wr).alloc _).alloc _)).take 8) (by exact sln_new1 _ _ _ _ _) (by omega) (by unfold maxLen; omega) (by omega) ?_; intro a1 c1 w1 hown1 hst1; have hk1 : Kept [] wr w1 := (((Kept.refl [] wr).alloc _).alloc _).trans hst1.kept; have hcw1 := act_cell hst1 0 _ rfl)
                | (go_at_call 44; refine (brought_c (hgg.kept0 hk1) (by omega) a1 c1 _ (l.take 8 ++ [0, 0, 0]) (by rw [List.length_append, List.length_take]; simp only [List.length_cons, List.length_nil]; omega) (by omega) hown1.cap hown1.sln).mono ?_; rintro e w2 ⟨a2, c2, rfl, hown2, hst2⟩; have hk2 : Kept [] wr w2 := hk1.trans hst2.kept; rw [HBB.out] at hown2 ⊢; have hcw2 := hst2.kept.cell hcw1 (by simp); obtain ⟨g2, rfl⟩ := hown2.form (by omega); have e0 := own_cells3 hown2 0 (by have := HBB.out; omega); have e1 := own_cells3 hown2 1 (by have := HBB.out; omega); have e2 := own_cells3 hown2 2 (by have := HBB.out; omega)))
              have b0 : 0 < BL := by omega
              have b1 : 1 < BL := by omega
              have i1 : (1:Int) < (BL:Int) := by omega
              go_region_held3 (fun w' => w'.cell? ⟨g2, 0, none⟩ = some (.int .u32 ((bring gr (l.take 8 ++ [0, 0, 0])).getD 0 0 : Nat)) ∧ w'.cell? ⟨g2, 1, none⟩ = some (.int .u32 ((bring gr (l.take 8 ++ [0, 0, 0])).getD 1 0 : Nat)))
                (first | (exact ⟨own_cells3 hown3 0 (by have := HBB.out; omega), own_cells3 hown3 1 (by have := HBB.out; omega)⟩) | go_keep)
                (first | (go_at_call 45; refine (aig_raw (hgg.kept0 hk2.drew) (by omega) (HBO.out _ (getD_mem (by have := HBB.out; omega))) (HBO.out _ (getD_mem (by have := HBB.out; omega)))).mono ?_; rintro e w3 ⟨F3, rfl, hg3, hst3⟩; have hto := told_kept hga hk2.drew hst3; have hown3 := (hown2.kept0 ((Kept.refl [] w2).drew)).kept hst3.kept ((hgg.kept0 hk2).apart hown2 (by decide) (by decide) (by decide))))
              go_wp2_with (first
                | (at_builtin; refine wpList_push rfl rfl Try.underlying46 lit_info rfl rfl rfl (by rw [HM.out]; exact hto) rfl (by unfold maxLen; omega) (by omega) ?_; intro a4 c4 w4 hown4 hst4))
              go_roundw
              case rel => exact ⟨k + 1, F3, a4, c4, m + 1, by omega, by omega, by go_num, by rw [HSU.out, HAC.out]; simp [HM.out], rfl, by rw [HSU.out, HAC.out]; exact grown_push hga hk2.drew hst3 hg3 (by rw [HM.out] at hown4; exact hown4) hst4⟩
              case measure => simp [intOf]; omega
            | false =>
              have HAC := Lib.hid (show actS false (gr, told) (wh, l) = (gr, told) by simp [actS, actG, h0])
              subst h0
              go_wp2_with (first
                | (at_builtin; refine wpList_grow (l := l.take 8) (news := [0, 0, 0]) rfl rfl Try.underlying52 u32_info rfl rfl rfl (by simp; omega) rfl (by omega) (fun h => by have := hnil.out h; omega) ((hsl.kept0 (((Kept.refl [] wr).alloc _).alloc _)).take 8) (by exact sln_new1 _ _ _ _ _) (by omega) (by unfold maxLen; omega) (by omega) ?_; intro a1 c1 w1 hown1 hst1; have hk1 : Kept [] wr w1 := (((Kept.refl [] wr).alloc _).alloc _).trans hst1.kept; have hcw1 := act_cell hst1 0 _ rfl)
                | (go_at_call 44; refine (brought_c (hgg.kept0 hk1) (by omega) a1 c1 _ (l.take 8 ++ [0, 0, 0]) (by rw [List.length_append, List.length_take]; simp only [List.length_cons, List.length_nil]; omega) (by omega) hown1.cap hown1.sln).mono ?_; rintro e w2 ⟨a2, c2, rfl, hown2, hst2⟩; have hk2 : Kept [] wr w2 := hk1.trans hst2.kept; rw [HBB.out] at hown2 ⊢; have hcw2 := hst2.kept.cell hcw1 (by simp)))
              go_roundw
              case rel => exact ⟨k + 1, F, at_, ct, m, by omega, by omega, by go_num, by rw [HSU.out, HAC.out]; exact HM.out, rfl, by rw [HSU.out, HAC.out]; exact grown_stay hga hk2⟩
              case measure => simp [intOf]; omega
          · have z5 : (wh == 5) = false := by simpa using h0
            have HAC := Lib.hid (show actS raw (gr, told) (wh, l) = (gr, told) by simp [actS, actG, y0.out, y1.out, y2.out, y3.out, y4.out, h0])
            clear h0
            go_wp2_with (first
              | (at_builtin; refine wpList_grow (l := l.take 8) (news := [0, 0, 0]) rfl rfl Try.underlying52 u32_info rfl rfl rfl (by simp; omega) rfl (by omega) (fun h => by have := hnil.out h; omega) ((hsl.kept0 (((Kept.refl [] wr).alloc _).alloc _)).take 8) (by exact sln_new1 _ _ _ _ _) (by omega) (by unfold maxLen; omega) (by omega) ?_; intro a1 c1 w1 hown1 hst1; have hk1 : Kept [] wr w1 := (((Kept.refl [] wr).alloc _).alloc _).trans hst1.kept; have hcw1 := act_cell hst1 0 _ rfl)
              | (go_at_call 44; refine (brought_c (hgg.kept0 hk1) (by omega) a1 c1 _ (l.take 8 ++ [0, 0, 0]) (by rw [List.length_append, List.length_take]; simp only [List.length_cons, List.length_nil]; omega) (by omega) hown1.cap hown1.sln).mono ?_; rintro e w2 ⟨a2, c2, rfl, hown2, hst2⟩; have hk2 : Kept [] wr w2 := hk1.trans hst2.kept; rw [HBB.out] at hown2 ⊢; have hcw2 := hst2.kept.cell hcw1 (by simp)))
            go_roundw
            case rel => exact ⟨k + 1, F, at_, ct, m, by omega, by omega, by go_num, by rw [HSU.out, HAC.out]; exact HM.out, rfl, by rw [HSU.out, HAC.out]; exact grown_stay hga hk2⟩
            case measure => simp [intOf]; omega
    · obtain rfl : k = n := by omega
      have HF := Lib.hid (hfin.out (.inl rfl))
      go_wp2
      go_ret3
      exact ⟨p, F, at_, ct, by rw [HF.out, ← HM.out]; rfl, by rw [HF.out]; exact hga.graph, by rw [HF.out]; exact hga.told, hga.step⟩
end Go.Proofs.Yteikngjanfjmfaa
