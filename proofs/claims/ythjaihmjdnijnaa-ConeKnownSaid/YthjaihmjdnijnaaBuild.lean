/-
  Law 04: Build: a graph of steps, and the document's.
-/
import Derived.Test.YthjaihmjdnijnaaRefRaw
import Derived.Test.YthjaihmjdnijnaaAigMany
import Derived.Test.YthjaihmjdnijnaaAigMore
import Derived.Deep.LoopGhost
namespace Go.Proofs.Ythjaihmjdnijnaa
open Go.ChangeShapes Go.WideShapes Go.ChangeAt Go.RowKit
open Go.Maps (Keyed)
open Go.WideMaps
set_option linter.unusedVariables false
set_option linter.unusedSimpArgs false

variable {w w' : World} {q p : Nat} {R F S : List Nat} {g : Gr}
abbrev Stp := Int × Nat × Nat
/-- the slice at a holds the steps l -/
def SlSteps (w : World) (a : Option Addr) (l : List Stp) : Prop := ∀ k (h : k < l.length), ∃ b o, a = some ⟨b, o, none⟩ ∧ w.cell? ⟨b, o + k * 3, none⟩ = some (.int .i64 l[k].1) ∧ w.cell? ⟨b, o + k * 3 + 1, none⟩ = some (.int .u32 (l[k].2.1 : Int)) ∧ w.cell? ⟨b, o + k * 3 + 2, none⟩ = some (.int .u32 (l[k].2.2 : Int))
theorem SlSteps.kept0 {a : Option Addr} {l : List Stp} (h : SlSteps w a l) (hk : Kept [] w w') : SlSteps w' a l := fun k hl => by
  obtain ⟨b, o, h0, h1, h2, h3⟩ := h k hl
  exact ⟨b, o, h0, hk.cell h1 (by simp), hk.cell h2 (by simp), hk.cell h3 (by simp)⟩
def Stp.ok (s : Stp) : Prop := -9223372036854775808 ≤ s.1 ∧ s.1 ≤ 9223372036854775807 ∧ s.2.1 < 4294967296 ∧ s.2.2 < 4294967296
def stepG (g : Gr) (s : Stp) : Gr :=
  if s.1 = 0 then (inputG g).1
  else if s.1 = 3 then (orG g (s.2.1 % (2 * g.nodes.length)) (s.2.2 % (2 * g.nodes.length))).1
  else if s.1 = 4 then (xorG g (s.2.1 % (2 * g.nodes.length)) (s.2.2 % (2 * g.nodes.length))).1
  else if s.1 = 5 then (gateG g (s.2.1 % (2 * g.nodes.length)) (s.2.2 % (2 * g.nodes.length))).1
  else (andG g (s.2.1 % (2 * g.nodes.length)) (s.2.2 % (2 * g.nodes.length))).1
def buildTo (o1 o2 : Bool) (l : List Stp) (k : Nat) : Gr := (l.take k).foldl stepG { fold := o1, hash := o2, nodes := [(0, 0)] }
theorem buildTo_succ (o1 o2 : Bool) (l : List Stp) (k : Nat) (h : k < l.length) : buildTo o1 o2 l (k + 1) = stepG (buildTo o1 o2 l k) l[k] := by
  unfold buildTo
  rw [List.take_succ_eq_append_getElem h, List.foldl_append]
  rfl
theorem mod_ok {g : Gr} (hw : WF g.nodes) (x : Nat) : g.ok (x % (2 * g.nodes.length)) := by
  have := hw.pos
  have h := Nat.mod_lt x (show 0 < 2 * g.nodes.length by omega)
  unfold Gr.ok
  omega
theorem two_far' (hg : GraphAt w p F g) : ∀ b ∈ ft (some (⟨w.heap.size, 0, none⟩ : Addr)), b ∉ F := by intro b hb hF; simp [ft] at hb; subst hb; exact absurd (hg.lt _ hF) (Nat.lt_irrefl _)
theorem Twos.back {W : World} {r : Gr × Nat} {e : Ending} (hk : Kept [] w W) (h : Twos r W p F e w') : Twos r w p F e w' := by
  obtain ⟨F', h1, h2, h3⟩ := h
  exact ⟨F', h1, h2, (⟨hk.more (by simp), fun _ h => .inl h⟩ : Stepped w W F F).trans h3⟩
section
variable {x y : Nat}
theorem b_or (hg : GraphAt w p F g) (hm : g.nodes.length ≤ 90000) (hx : g.ok x) (hy : g.ok y) : Calls Try.prog 31 #[.pointer (some ⟨p, 0, none⟩), .slice (some ⟨w.heap.size, 0, none⟩) 2 2] (w.alloc (.cells #[.int .u32 (x : Int), .int .u32 (y : Int)] 37)) (Twos (orG g x y) w p F) :=
  (aig_Or_ (hg.kept0 ((Kept.refl [] w).alloc _)) _ 2 2 [x, y] rfl (by omega) (sln_new w .u32 [x, y] 37) (by simp [hx, hy]) (two_far' hg)).mono fun _ _ h => Twos.back ((Kept.refl [] w).alloc _) h
theorem b_xor (hg : GraphAt w p F g) (hm : g.nodes.length ≤ 90000) (hx : g.ok x) (hy : g.ok y) : Calls Try.prog 33 #[.pointer (some ⟨p, 0, none⟩), .slice (some ⟨w.heap.size, 0, none⟩) 2 2] (w.alloc (.cells #[.int .u32 (x : Int), .int .u32 (y : Int)] 37)) (Twos (xorG g x y) w p F) :=
  (aig_Xor_ (hg.kept0 ((Kept.refl [] w).alloc _)) _ 2 2 [x, y] rfl (by omega) (sln_new w .u32 [x, y] 37) (by simp [hx, hy]) (two_far' hg)).mono fun _ _ h => Twos.back ((Kept.refl [] w).alloc _) h
theorem b_and (hg : GraphAt w p F g) (hm : g.nodes.length ≤ 90000) (hx : g.ok x) (hy : g.ok y) : Calls Try.prog 36 #[.pointer (some ⟨p, 0, none⟩), .slice (some ⟨w.heap.size, 0, none⟩) 2 2] (w.alloc (.cells #[.int .u32 (x : Int), .int .u32 (y : Int)] 37)) (Twos (andG g x y) w p F) :=
  (aig_And_ (hg.kept0 ((Kept.refl [] w).alloc _)) _ 2 2 [x, y] rfl (by omega) (sln_new w .u32 [x, y] 37) (by simp [hx, hy]) (two_far' hg)).mono fun _ _ h => Twos.back ((Kept.refl [] w).alloc _) h
end
/-- a step's graph: well formed, at most seven nodes more -/
theorem stepG_good (hw : WF g.nodes) (s : Stp) : WF (stepG g s).nodes ∧ (stepG g s).nodes.length ≤ g.nodes.length + 9 := by
  have hx := mod_ok hw s.2.1
  have hy := mod_ok hw s.2.2
  unfold stepG
  split
  · exact ⟨(inputG_spec hw).1, by simp [inputG]⟩
  split
  · have h := two_or g _ _ hw hx hy
    exact ⟨h.1, by have := h.2.1.le; omega⟩
  split
  · have h := two_xor g _ _ hw hx hy
    exact ⟨h.1, by have := h.2.1.le; omega⟩
  split
  · refine ⟨hw.snoc (.inr ⟨by omega, ?_⟩), by simp [gateG]⟩
    unfold Gr.ok at hx hy
    omega
  · have h := two_and g _ _ hw hx hy
    exact ⟨h.1, by have := h.2.1.le; omega⟩
theorem buildTo_good (o1 o2 : Bool) (l : List Stp) (k : Nat) : WF (buildTo o1 o2 l k).nodes ∧ (buildTo o1 o2 l k).nodes.length ≤ 1 + 9 * k := by
  induction k with
  | zero =>
    refine ⟨⟨rfl, fun i a b h => ?_⟩, by simp [buildTo]⟩
    cases i with
    | zero => simp [buildTo] at h; omega
    | succ i => simp [buildTo] at h
  | succ k ih =>
    by_cases h : k < l.length
    · rw [buildTo_succ o1 o2 l k h]
      have := stepG_good ih.1 l[k]
      exact ⟨this.1, by omega⟩
    · have e : buildTo o1 o2 l (k + 1) = buildTo o1 o2 l k := by unfold buildTo; rw [List.take_of_length_le (by omega), List.take_of_length_le (by omega)]
      rw [e]; exact ⟨ih.1, by omega⟩
def BuildPost (o1 o2 : Bool) (l : List Stp) (w : World) (e : Ending) (w' : World) : Prop := ∃ p F q R, e = .returned (.tuple #[.pointer (some ⟨p, 0, none⟩), .pointer (some ⟨q, 0, none⟩)]) ∧ Both w w' p F q R (buildTo o1 o2 l 60)
set_option maxHeartbeats 3200000 in
set_option maxRecDepth 100000 in
theorem build_c (o1 o2 : Bool) (a : Option Addr) (c n : Nat) (l : List Stp) (hl : l.length = n) (hn : n ≤ 140737488351232) (hs : SlSteps w a l) (hok : ∀ s ∈ l, Stp.ok s) :
    Calls Try.prog 7 #[.agg #[.bool o1, .bool o2], .slice a n c] w (BuildPost o1 o2 l w) := by
  have HL := Lib.hid hl
  have HS := Lib.hid hs
  have HOK := Lib.hid hok
  clear hl hs hok
  have HB := Lib.hid (show (w.alloc (.cells #[.bool o1, .bool o2] 23)).heap[w.heap.size]? = some (.cells #[.bool o1, .bool o2] 23 (0, 0)) from heap_alloc_new w _)
  go_enter Try.func7, Try.ntmps7; (try simp only [List.append])
  go_wp2_with fail
  obtain ⟨w1, hw1⟩ : ∃ w1, w1 = w.alloc (.cells #[.bool o1, .bool o2] 23) := ⟨_, rfl⟩
  have HK1 := Lib.hid (show Kept [] w w1 from by rw [hw1]; exact (Kept.refl [] w).alloc _)
  rw [← hw1] at HB ⊢
  clear hw1
  have c0 : w1.cell? ⟨w.heap.size, 0, none⟩ = some (.bool o1) := blk_cell HB.out 0
  have c1 : w1.cell? ⟨w.heap.size, 1, none⟩ = some (.bool o2) := blk_cell HB.out 1
  go_region_held3 (fun w' => w'.cell? ⟨w.heap.size, 0, none⟩ = some (.bool o1) ∧ w'.cell? ⟨w.heap.size, 1, none⟩ = some (.bool o2))
    (first | exact ⟨c0, c1⟩ | exact ⟨d0, d1⟩ | exact ⟨e0, e1⟩ | go_keep)
    (first
      | (go_at_call 15; refine (aig_new o1 o2 _).mono ?_; rintro e w2 ⟨p, F, rfl, hg, hs1⟩; have d0 := hs1.kept.cell (p := ⟨w.heap.size, 0, none⟩) (v := .bool o1) c0 (by simp); have d1 := hs1.kept.cell (p := ⟨w.heap.size, 1, none⟩) (v := .bool o2) c1 (by simp))
      | (go_at_call 29; refine (ref_new o1 o2 _).mono ?_; rintro e w3 ⟨q, R, rfl, hr, hs2⟩; have e0 := hs2.kept.cell (p := ⟨w.heap.size, 0, none⟩) (v := .bool o1) d0 (by simp); have e1 := hs2.kept.cell (p := ⟨w.heap.size, 1, none⟩) (v := .bool o2) d1 (by simp)))
  have K1 := HK1.out.trans ((Kept.refl [] w1).drew.trans hs1.kept)
  have HB0 := Lib.hid (show Both w w3 p F q R (buildTo o1 o2 l 0) from by
    refine ⟨hg.kept0 hs2.kept, hr, fun x hx hf => ?_, K1.trans hs2.kept, fun x hx => ?_, fun x hx => ?_⟩
    · rcases hs2.fresh x hf with h | h
      · simp at h
      · have := hg.lt x hx; omega
    · rcases hs1.fresh x hx with h | h
      · simp at h
      · exact Nat.le_trans HK1.out.size h
    · rcases hs2.fresh x hx with h | h
      · simp at h
      · exact Nat.le_trans K1.size h)
  clear hg hs1 hr hs2 c0 c1 d0 d1 e0 e1 K1 HB HK1
  go_wp2_with fail
  go_loopw [8] (fun i wr => ∃ (k : Nat) (F R : List Nat), i = .int .i64 k ∧ k ≤ n ∧ k ≤ 60 ∧ Both w wr p F q R (buildTo o1 o2 l k)) (fun i _ => 60 - (intOf i).toNat)
  case atStart => exact ⟨0, F, R, rfl, Nat.zero_le _, by omega, HB0.out⟩
  case round =>
    clear HB0
    obtain ⟨k, F, R, rfl, hk, h60, hb⟩ := hrel
    by_cases hlt : k < n ∧ k < 60
    · obtain ⟨hkn, hk60⟩ := hlt
      have hkl : k < l.length := by rw [HL.out]; exact hkn
      have HB := Lib.hid hb
      have hgood := buildTo_good o1 o2 l k
      have HSUC := Lib.hid (buildTo_succ o1 o2 l k hkl)
      obtain ⟨bs, os, rfl, hc0, hc1, hc2⟩ := (HS.out.kept0 hb.kept) k hkl
      have hsok := HOK.out _ (List.getElem_mem hkl)
      obtain ⟨rn, rc, hcq⟩ : ∃ rn rc, wr.cell? ⟨q, 2, none⟩ = some (.slice rn (buildTo o1 o2 l k).nodes.length rc) := by obtain ⟨an, cn, _, hc⟩ := hb.ref; exact ⟨an, cn, hc.c2⟩
      clear hb
      obtain ⟨g, hg⟩ : ∃ g, g = buildTo o1 o2 l k := ⟨_, rfl⟩
      rw [← hg] at hgood hcq HB HSUC
      clear hg
      obtain ⟨⟨s0, sa, sb⟩, hst⟩ : ∃ s, s = l[k] := ⟨_, rfl⟩
      rw [← hst] at hc0 hc1 hc2 hsok HSUC
      clear hst
      obtain ⟨b1, b2, b3, b4⟩ := hsok
      dsimp only at hc0 hc1 hc2 b1 b2 b3 b4
      obtain ⟨hwf, hle⟩ := hgood
      have hp := hwf.pos
      have HX := Lib.hid (mod_ok hwf sa)
      have HY := Lib.hid (mod_ok hwf sb)
      have HWF := Lib.hid hwf
      clear hwf
      have hcqa : ∀ o, (wr.alloc o).cell? ⟨q, 2, none⟩ = some (.slice rn g.nodes.length rc) := fun o => cell_alloc hcq o
      have u1 : IntKind.u32.wrap (2 * (g.nodes.length : Int)) = 2 * (g.nodes.length : Int) := by simp only [IntKind.wrap_u32]; omega
      have u2 : ((2 * (g.nodes.length : Int)) == 0) = false := by simp only [beq_eq_false_iff_ne, ne_eq]; omega
      go_wp2_with fail
      go_quiet (fail)
      obtain ⟨x, hx⟩ : ∃ x, x = sa % (2 * g.nodes.length) := ⟨_, rfl⟩
      obtain ⟨y, hy⟩ : ∃ y, y = sb % (2 * g.nodes.length) := ⟨_, rfl⟩
      rw [show (sa : Int) % (2 * (g.nodes.length : Int)) = (x : Int) from by rw [hx]; push_cast; rfl, show (sb : Int) % (2 * (g.nodes.length : Int)) = (y : Int) from by rw [hy]; push_cast; rfl]
      have HSX := Lib.hid (show stepG g (s0, sa, sb) = if s0 = 0 then (inputG g).1 else if s0 = 3 then (orG g x y).1 else if s0 = 4 then (xorG g x y).1 else if s0 = 5 then (gateG g x y).1 else (andG g x y).1 from by rw [hx, hy]; rfl)
      rw [← hx] at HX
      rw [← hy] at HY
      clear hx hy u1 u2 hcqa
      obtain ⟨W, hW⟩ : ∃ W, W = (wr.alloc (.cells #[.int .i64 s0, .int .u32 (sa : Int), .int .u32 (sb : Int)] 69)).drewN nq := ⟨_, rfl⟩
      have HBW := Lib.hid (show Both w W p F q R g from by rw [hW]; exact HB.out.kept0 (((Kept.refl [] wr).alloc _).drewN _))
      have b9 : W.heap[wr.heap.size]? = some (.cells #[.int .i64 s0, .int .u32 (sa : Int), .int .u32 (sb : Int)] 69 (0, 0)) := by rw [hW]; exact heap_alloc_new wr _
      have c90 : W.cell? ⟨wr.heap.size, 0, none⟩ = some (.int .i64 s0) := blk_cell b9 0
      obtain ⟨B9, hB9⟩ : ∃ B, B = wr.heap.size := ⟨_, rfl⟩
      rw [← hW, ← hB9]
      rw [← hB9] at c90
      clear hW b9 hB9 hcq hc0 hc1 hc2 HB HWF hp
      by_cases h0 : s0 = 0
      · have t0 : (s0 == 0) = true := by simp only [beq_eq_false_iff_ne, ne_eq, beq_iff_eq]; omega
        go_wp2_with fail
        refine (aig_input HBW.out.graph (by omega)).mono ?_
        rintro e v1 ⟨F1, rfl, hg1, hs1⟩
        have G1 := Lib.hid hg1
        have S1 := Lib.hid hs1
        have A1 := Lib.hid (ref_apart HBW.out.ref (fun x hx hf => HBW.out.apart x hf hx) hs1)
        clear hg1 hs1
        go_wp2_with fail
        refine (ref_input A1.out.1 (by omega)).mono ?_
        rintro e v2 ⟨R2, rfl, hr2, hs2⟩
        have HN := Lib.hid (show Both w v2 p F1 q R2 (buildTo o1 o2 l (k + 1)) from by
          rw [HSUC.out, HSX.out, if_pos h0]
          exact HBW.out.step G1.out S1.out hr2 hs2)
        clear hr2 hs2 A1 G1 S1
        go_wp2_with fail
        go_roundw
        case rel => exact ⟨k + 1, F1, R2, by go_num, by omega, by omega, HN.out⟩
        case measure => simp [intOf]; omega
      · by_cases h3 : s0 = 3
        · have t0 : (s0 == 0) = false := by simp only [beq_eq_false_iff_ne, ne_eq, beq_iff_eq]; omega
          have t3 : (s0 == 3) = true := by simp only [beq_eq_false_iff_ne, ne_eq, beq_iff_eq]; omega
          go_wp2_with fail
          refine (b_or HBW.out.graph (by omega) HX.out HY.out).mono ?_
          rintro e v1 ⟨F1, rfl, hg1, hs1⟩
          have G1 := Lib.hid hg1
          have S1 := Lib.hid hs1
          have A1 := Lib.hid (ref_apart HBW.out.ref (fun x hx hf => HBW.out.apart x hf hx) hs1)
          clear hg1 hs1
          go_wp2_with fail
          refine (ref_two2 A1.out.1 (by omega) HX.out HY.out).mono ?_
          rintro e v2 ⟨R2, rfl, hr2, hs2⟩
          have HN := Lib.hid (show Both w v2 p F1 q R2 (buildTo o1 o2 l (k + 1)) from by
            rw [HSUC.out, HSX.out, if_neg h0, if_pos h3]
            exact HBW.out.step G1.out S1.out hr2 hs2)
          clear hr2 hs2 A1 G1 S1
          go_wp2_with fail
          go_roundw
          case rel => exact ⟨k + 1, F1, R2, by go_num, by omega, by omega, HN.out⟩
          case measure => simp [intOf]; omega
        · by_cases h4 : s0 = 4
          · have t0 : (s0 == 0) = false := by simp only [beq_eq_false_iff_ne, ne_eq, beq_iff_eq]; omega
            have t3 : (s0 == 3) = false := by simp only [beq_eq_false_iff_ne, ne_eq, beq_iff_eq]; omega
            have t4 : (s0 == 4) = true := by simp only [beq_eq_false_iff_ne, ne_eq, beq_iff_eq]; omega
            go_wp2_with fail
            refine (b_xor HBW.out.graph (by omega) HX.out HY.out).mono ?_
            rintro e v1 ⟨F1, rfl, hg1, hs1⟩
            have G1 := Lib.hid hg1
            have S1 := Lib.hid hs1
            have A1 := Lib.hid (ref_apart HBW.out.ref (fun x hx hf => HBW.out.apart x hf hx) hs1)
            clear hg1 hs1
            go_wp2_with fail
            refine (ref_two3 A1.out.1 (by omega) HX.out HY.out).mono ?_
            rintro e v2 ⟨R2, rfl, hr2, hs2⟩
            have HN := Lib.hid (show Both w v2 p F1 q R2 (buildTo o1 o2 l (k + 1)) from by
              rw [HSUC.out, HSX.out, if_neg h0, if_neg h3, if_pos h4]
              exact HBW.out.step G1.out S1.out hr2 hs2)
            clear hr2 hs2 A1 G1 S1
            go_wp2_with fail
            go_roundw
            case rel => exact ⟨k + 1, F1, R2, by go_num, by omega, by omega, HN.out⟩
            case measure => simp [intOf]; omega
          · by_cases h5 : s0 = 5
            · have t0 : (s0 == 0) = false := by simp only [beq_eq_false_iff_ne, ne_eq, beq_iff_eq]; omega
              have t3 : (s0 == 3) = false := by simp only [beq_eq_false_iff_ne, ne_eq, beq_iff_eq]; omega
              have t4 : (s0 == 4) = false := by simp only [beq_eq_false_iff_ne, ne_eq, beq_iff_eq]; omega
              have t5 : (s0 == 5) = true := by simp only [beq_eq_false_iff_ne, ne_eq, beq_iff_eq]; omega
              go_wp2_with fail
              refine (aig_raw HBW.out.graph (by omega) HX.out HY.out).mono ?_
              rintro e v1 ⟨F1, rfl, hg1, hs1⟩
              have G1 := Lib.hid hg1
              have S1 := Lib.hid hs1
              have A1 := Lib.hid (ref_apart HBW.out.ref (fun x hx hf => HBW.out.apart x hf hx) hs1)
              clear hg1 hs1
              go_wp2_with fail
              refine (ref_raw A1.out.1 (by omega) HX.out HY.out).mono ?_
              rintro e v2 ⟨R2, rfl, hr2, hs2⟩
              have HN := Lib.hid (show Both w v2 p F1 q R2 (buildTo o1 o2 l (k + 1)) from by
                rw [HSUC.out, HSX.out, if_neg h0, if_neg h3, if_neg h4, if_pos h5]
                exact HBW.out.step G1.out S1.out hr2 hs2)
              clear hr2 hs2 A1 G1 S1
              go_wp2_with fail
              go_roundw
              case rel => exact ⟨k + 1, F1, R2, by go_num, by omega, by omega, HN.out⟩
              case measure => simp [intOf]; omega
            · have t0 : (s0 == 0) = false := by simp only [beq_eq_false_iff_ne, ne_eq, beq_iff_eq]; omega
              have t3 : (s0 == 3) = false := by simp only [beq_eq_false_iff_ne, ne_eq, beq_iff_eq]; omega
              have t4 : (s0 == 4) = false := by simp only [beq_eq_false_iff_ne, ne_eq, beq_iff_eq]; omega
              have t5 : (s0 == 5) = false := by simp only [beq_eq_false_iff_ne, ne_eq, beq_iff_eq]; omega
              go_wp2_with fail
              refine (b_and HBW.out.graph (by omega) HX.out HY.out).mono ?_
              rintro e v1 ⟨F1, rfl, hg1, hs1⟩
              have G1 := Lib.hid hg1
              have S1 := Lib.hid hs1
              have A1 := Lib.hid (ref_apart HBW.out.ref (fun x hx hf => HBW.out.apart x hf hx) hs1)
              clear hg1 hs1
              go_wp2_with fail
              refine (ref_two1 A1.out.1 (by omega) HX.out HY.out).mono ?_
              rintro e v2 ⟨R2, rfl, hr2, hs2⟩
              have HN := Lib.hid (show Both w v2 p F1 q R2 (buildTo o1 o2 l (k + 1)) from by
                rw [HSUC.out, HSX.out, if_neg h0, if_neg h3, if_neg h4, if_neg h5]
                exact HBW.out.step G1.out S1.out hr2 hs2)
              clear hr2 hs2 A1 G1 S1
              go_wp2_with fail
              go_roundw
              case rel => exact ⟨k + 1, F1, R2, by go_num, by omega, by omega, HN.out⟩
              case measure => simp [intOf]; omega
    · have HE := Lib.hid (show buildTo o1 o2 l k = buildTo o1 o2 l 60 from by
        have hkl := HL.out
        by_cases h : k < 60
        · unfold buildTo
          rw [List.take_of_length_le (by omega), List.take_of_length_le (by omega)]
        · rw [show k = 60 by omega])
      rw [HE.out] at hb
      have HBB := Lib.hid hb
      clear hb HE
      have hz : decide (k < n) = false ∨ decide (k < 60) = false := by
        by_cases h1 : k < n
        · exact .inr (by simp; omega)
        · exact .inl (by simp; omega)
      by_cases h1 : k < n
      · have h2 : ¬ k < 60 := by omega
        clear hz hlt
        go_wp2_with fail
        go_ret2
        exact ⟨p, F, q, R, rfl, HBB.out⟩
      · clear hz hlt
        go_wp2_with fail
        go_ret2
        exact ⟨p, F, q, R, rfl, HBB.out⟩
end Go.Proofs.Ythjaihmjdnijnaa
