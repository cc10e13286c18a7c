/-
  Package arith: bit by bit.
-/
import Derived.Test.YtenhbhckhncamaaQArG
import Derived.Test.YtenhbhckhncamaaQCat
namespace Go.Proofs.Ytenhbhckhncamaa
open Go.ChangeShapes Go.WideShapes Go.ChangeAt Go.RowKit
set_option linter.unusedVariables false
set_option linter.unusedSimpArgs false

variable {w w' W V w0 : World} {mb p how q n k x y : Nat} {F F0 F' S S' : List Nat} {g g' : Gr} {a b : Option Addr} {ca cb : Nat} {la lb : List Nat}
/-- a graph that grows -/
structure GrowAt (w0 w : World) (p : Nat) (F0 F : List Nat) (g : Gr) : Prop where
  gr : GraphAt w p F g
  st : Stepped w0 w F0 F
theorem GrowAt.kept0 (h : GrowAt w0 w p F0 F g) (hk : Kept [] w w') : GrowAt w0 w' p F0 F g := ⟨h.gr.kept0 hk, h.st.keep hk⟩
theorem GrowAt.step (h : GrowAt w0 w p F0 F g) (hg : GraphAt w' p F' g') (hs : Stepped w w' F F') : GrowAt w0 w' p F0 F' g' := ⟨hg, h.st.trans hs⟩
theorem GrowAt.row (h : GrowAt w0 w p F0 F g) (hs : Stepped w w' S S') (h1 : ∀ b ∈ S, b ∉ F) (h2 : ∀ b ∈ S, w0.heap.size ≤ b) : GrowAt w0 w' p F0 F g :=
  ⟨h.gr.kept hs.kept (fun b hb hx => h1 b hx hb), ⟨hs.kept.os.trans h.st.kept.os, hs.kept.tape.trans h.st.kept.tape, hs.kept.output.trans h.st.kept.output, Nat.le_trans h.st.kept.size hs.kept.size, fun b hb hn => (hs.kept.block b (Nat.lt_of_lt_of_le hb h.st.kept.size) (fun hm => by have := h2 b hm; omega)).trans (h.st.kept.block b hb hn)⟩, h.st.fresh⟩
theorem GrowAt.post {r : Gr × List Nat} (h : GrowAt w0 w p F0 F r.1) (ho : Own w 34 a n ca (nats .u32 r.2)) (hf : ∀ x ∈ ft a, w0.heap.size ≤ x) : ArRow r n w0 p F0 (.returned (.tuple #[.slice a n ca, .int .i64 0])) w :=
  ⟨F, a, ca, rfl, h.gr, ho, h.st.kept, fun x hx => by
    rcases List.mem_append.1 hx with h1 | h1
    · exact h.st.fresh x h1
    · exact .inr (hf x h1)⟩
/-- a row that is only read -/
structure RowAt (w : World) (F : List Nat) (a : Option Addr) (l : List Nat) : Prop where
  sl : SlN w .u32 a l
  ap : ∀ x ∈ ft a, x ∉ F
  lt : ∀ x ∈ ft a, l ≠ [] → x < w.heap.size
theorem RowAt.of (hs : SlN w .u32 a la) (hd : ∀ x ∈ ft a, x ∉ F) : RowAt w F a la := ⟨hs, hd, fun x hx hl => by
  cases la with
  | nil => exact absurd rfl hl
  | cons z t =>
    obtain ⟨ad, rfl, hc⟩ := hs 0 (by simp)
    have h1 := World.block_lt_of_cell? _ _ hc
    rw [block_add] at h1
    simp [ft] at hx
    rw [hx]
    exact h1⟩
theorem RowAt.kept0 (h : RowAt w F a la) (hk : Kept [] w w') : RowAt w' F a la := ⟨h.sl.kept0 hk, h.ap, fun x hx hl => Nat.lt_of_lt_of_le (h.lt x hx hl) hk.size⟩
theorem SlN.nil' (h : la = []) : SlN w .u32 a la := by subst h; exact fun i hi => absurd hi (by simp)
theorem RowAt.step (h : RowAt w F a la) (hs : Stepped w w' F F') (hne : la ≠ []) : RowAt w' F' a la :=
  ⟨h.sl.kept hs.kept h.ap, fun x hx hf => (hs.fresh x hf).elim (h.ap x hx) (fun h1 => by have := h.lt x hx hne; omega), fun x hx hl => Nat.lt_of_lt_of_le (h.lt x hx hl) hs.kept.size⟩
theorem RowAt.row (h : RowAt w F a la) (hs : Stepped w w' S S') (hd : ∀ x ∈ ft a, x ∉ S) : RowAt w' F a la := ⟨h.sl.kept hs.kept hd, h.ap, fun x hx hl => Nat.lt_of_lt_of_le (h.lt x hx hl) hs.kept.size⟩
theorem two_cells (V : World) (x y : Nat) (q : Nat) (h0 : V.cell? ⟨q, 0, none⟩ = some (.int .u32 (x : Int))) (h1 : V.cell? ⟨q, 1, none⟩ = some (.int .u32 (y : Int))) : SlN V .u32 (some ⟨q, 0, none⟩) [x, y] := fun i hi => by
  have e : i = 0 ∨ i = 1 := by simp at hi; omega
  rcases e with rfl | rfl
  · exact ⟨_, rfl, by simpa [ad_at] using h0⟩
  · exact ⟨_, rfl, by simpa [ad_at] using h1⟩
theorem getD_cell {K : IntKind} (hs : SlN w K a la) {k : Nat} (hk : k < la.length) : ∃ ad, a = some ad ∧ w.cell? (ad.add k) = some (.int K (la.getD k 0 : Nat)) := hs.getD hk
set_option maxHeartbeats 3200000 in
set_option maxRecDepth 100000 in
theorem bits_and (hg : GraphAt w p F g) (hm : g.nodes.length + 3 * n ≤ 190000) (hn : n ≤ 100000) (hla : la.length = n) (hlb : lb.length = n) (hra : RowAt w F a la) (hrb : RowAt w F b lb) (hoa : ∀ x ∈ la, g.ok x) (hob : ∀ x ∈ lb, g.ok x) :
    Calls Try.prog 23 #[.slice a n ca, .slice b n cb, .func (.func 24) #[.pointer (some ⟨p, 0, none⟩)] #[]] w (ArRow (bitsG andG g la lb n) n w p F) := by
  have HG := Lib.hid hg
  have HRA := Lib.hid hra
  have HRB := Lib.hid hrb
  have HLA := Lib.hid hla
  have HLB := Lib.hid hlb
  have HOK := Lib.hid (fun k => bitsG_ok (la := la) (lb := lb) two_andO (fun _ _ _ => trivial) hg.wf hoa hob k)
  have HOA := Lib.hid (fun k => getD_ok hg.wf hoa k)
  have HOB := Lib.hid (fun k => getD_ok hg.wf hob k)
  clear hg hra hrb hla hlb hoa hob
  go_enter Try.func23, Try.ntmps23
  go_wp2_with fail
  go_loopw [8, 14] (fun v iv wr => ∃ (k : Nat) (F1 : List Nat) (a1 : Option Addr) (c1 : Nat), k ≤ n ∧ iv = .int .i64 k ∧ v = .slice a1 k c1 ∧ Own wr 34 a1 k c1 (nats .u32 (bitsG andG g la lb k).2) ∧ GrowAt w wr p F F1 (bitsG andG g la lb k).1 ∧ (0 < n → RowAt wr F1 a la ∧ RowAt wr F1 b lb) ∧ (∀ x ∈ ft a1, w.heap.size ≤ x)) (fun _ iv _ => n - (intOf iv).toNat)
  case atStart => exact ⟨0, F, none, 0, Nat.zero_le _, rfl, rfl, by simpa [bitsG, nats] using Own.nil _ _, ⟨HG.out, .refl _ _⟩, fun _ => ⟨HRA.out, HRB.out⟩, by simp [ft]⟩
  case round =>
    obtain ⟨k, F1, a1, c1, hk, rfl, rfl, ho, hgr, hrr, hfa⟩ := hrel
    obtain ⟨wa, rfl⟩ : ∃ v : World, v = wr := ⟨_, rfl⟩
    have HO := Lib.hid ho
    have GR := Lib.hid hgr
    have FA := Lib.hid hfa
    have RR := Lib.hid hrr
    clear ho hgr hfa hrr
    by_cases hlt : k < n
    · obtain ⟨hra, hrb⟩ := RR.out (by omega)
      have RA := Lib.hid hra
      have RB := Lib.hid hrb
      obtain ⟨ad, rfl, cx⟩ := getD_cell hra.sl (k := k) (by rw [HLA.out]; exact hlt)
      obtain ⟨bd, rfl, cy⟩ := getD_cell hrb.sl (k := k) (by rw [HLB.out]; exact hlt)
      have hok := HOK.out k
      have hxo := hok.ext.ok (HOA.out k)
      have hyo := hok.ext.ok (HOB.out k)
      have HSB := Lib.hid (show bitsG andG g la lb (k + 1) = ((andG (bitsG andG g la lb k).1 (la.getD k 0) (lb.getD k 0)).1, (bitsG andG g la lb k).2 ++ [(andG (bitsG andG g la lb k).1 (la.getD k 0) (lb.getD k 0)).2]) from rfl)
      have hgl : (bitsG andG g la lb k).1.nodes.length ≤ 190000 := by
        obtain ⟨more, h1, h2⟩ := hok.ext.pre
        rw [h1, List.length_append]
        omega
      have HNE := Lib.hid (show la ≠ [] ∧ lb ≠ [] from ⟨fun h => by have h1 := HLA.out; rw [h] at h1; simp at h1; omega, fun h => by have h1 := HLB.out; rw [h] at h1; simp at h1; omega⟩)
      obtain ⟨gk, hgk⟩ : ∃ z, z = (bitsG andG g la lb k).1 := ⟨_, rfl⟩
      obtain ⟨lk, hlk⟩ : ∃ z, z = (bitsG andG g la lb k).2 := ⟨_, rfl⟩
      rw [← hlk] at HO HSB
      rw [← hgk] at GR HSB hgl hxo hyo
      obtain ⟨x, hx⟩ : ∃ z, z = la.getD k 0 := ⟨_, rfl⟩
      obtain ⟨y, hy⟩ : ∃ z, z = lb.getD k 0 := ⟨_, rfl⟩
      rw [← hx] at cx hxo HSB
      rw [← hy] at cy hyo HSB
      obtain ⟨rz, hrz⟩ : ∃ z, z = andG gk x y := ⟨_, rfl⟩
      have HTW := Lib.hid (fun (V : World) (hV : Kept [] wa V) (q : Nat) (h0 : V.cell? ⟨q, 0, none⟩ = some (.int .u32 (x : Int))) (h1 : V.cell? ⟨q, 1, none⟩ = some (.int .u32 (y : Int))) (hq : wa.heap.size ≤ q) => show Calls Try.prog 24 #[.pointer (some ⟨p, 0, none⟩), .slice (some ⟨q, 0, none⟩) 2 2] V (Twos rz V p F1) from by
        rw [hrz]
        exact aig_And_ (GR.out.gr.kept0 hV) (some ⟨q, 0, none⟩) 2 2 [x, y] rfl (by omega) (two_cells V x y q h0 h1) (by simp [hxo, hyo]) (by intro z hz hf; simp [ft] at hz; subst hz; have := GR.out.gr.lt _ hf; omega))
      rw [← hrz] at HSB
      have k0 : (0 : Int) ≤ (k : Int) := by omega
      have k1 : (k : Int) < (n : Int) := by omega
      have HDA := Lib.hid (show (ad.add k).block ∉ F1 from by rw [block_add]; exact RA.out.ap _ (by simp [ft]))
      have HDB := Lib.hid (show (bd.add k).block ∉ F1 from by rw [block_add]; exact RB.out.ap _ (by simp [ft]))
      clear hok hgk hlk hx hy hrz hra hrb hxo hyo hgl
      go_upto_region 5 with (fail)
      go_region_held3 (fun V => V.cell? (ad.add k) = some (.int .u32 (x : Int)) ∧ V.cell? (bd.add k) = some (.int .u32 (y : Int)))
        (first | exact ⟨(show Kept F1 wa _ from (by (repeat (first | with_reducible exact Kept.refl _ _ | with_reducible apply Kept.drew | with_reducible apply Kept.drewN | with_reducible apply Kept.alloc | refine Kept.trans ?_ k5)))).cell cx HDA.out, (show Kept F1 wa _ from (by (repeat (first | with_reducible exact Kept.refl _ _ | with_reducible apply Kept.drew | with_reducible apply Kept.drewN | with_reducible apply Kept.alloc | refine Kept.trans ?_ k5)))).cell cy HDB.out⟩ | go_keep)
        (first | (go_at_call 24; (refine (HTW.out _ (by (repeat (first | with_reducible exact Kept.refl _ _ | with_reducible apply Kept.drew | with_reducible apply Kept.drewN | with_reducible apply Kept.alloc))) _ (by simp [World.cell?_alloc_new]) (by simp [World.cell?_alloc_new]) (by simp)).mono ?_); rintro e w6 ⟨F6, rfl, hg6, hs6⟩; have k5 := hs6.kept))
      have HS6 := Lib.hid (show Stepped wa w6 F1 F6 from ((Stepped.refl wa F1).keep (by (repeat (first | with_reducible exact Kept.refl _ _ | with_reducible apply Kept.drew | with_reducible apply Kept.drewN | with_reducible apply Kept.alloc)))).trans hs6)
      have G6 := Lib.hid (GR.out.step hg6 HS6.out)
      have O6 := Lib.hid (HO.out.kept HS6.out.kept (GR.out.gr.apart HO.out (by decide) (by decide) (by decide)))
      have RA6 := Lib.hid (RA.out.step HS6.out HNE.out.1)
      have RB6 := Lib.hid (RB.out.step HS6.out HNE.out.2)
      have ho6 := O6.out
      clear hg6 hs6 k5 cx cy
      go_wp2_with (at_builtin; refine wpList_push rfl rfl Try.underlying25 lit_info rfl rfl rfl ho6 rfl (by unfold maxLen; omega) (by omega) ?_; intro a8 c8 w8 hown8 hst8)
      have HP := Lib.hid (show ∀ x ∈ ft (some ad), x ∉ ft a1 from fun x hx hf => by
        have h1 := HRA.out.lt x hx HNE.out.1
        have h2 := FA.out x hf
        omega)
      have HQ := Lib.hid (show ∀ x ∈ ft (some bd), x ∉ ft a1 from fun x hx hf => by
        have h1 := HRB.out.lt x hx HNE.out.2
        have h2 := FA.out x hf
        omega)
      have HG8 := Lib.hid (G6.out.row hst8 (G6.out.gr.apart O6.out (by decide) (by decide) (by decide)) FA.out)
      have RA8 := Lib.hid (RA6.out.row hst8 HP.out)
      have RB8 := Lib.hid (RB6.out.row hst8 HQ.out)
      have HF8 := Lib.hid (show ∀ x ∈ ft a8, w.heap.size ≤ x from fun x hx => (hst8.fresh x hx).elim (FA.out x) (fun h => Nat.le_trans (Nat.le_trans GR.out.st.kept.size HS6.out.kept.size) h))
      have HO8 := Lib.hid (show Own w8 34 a8 (k + 1) c8 (nats .u32 (lk ++ [rz.2])) from by rw [← nats_append]; exact hown8)
      clear hown8 hst8 ho6
      go_roundw
      case rel => exact ⟨k + 1, F6, a8, c8, by omega, by go_num, rfl, by rw [HSB.out]; exact HO8.out, by rw [HSB.out]; exact HG8.out, fun _ => ⟨RA8.out, RB8.out⟩, HF8.out⟩
      case measure => simp [intOf]; omega
    · obtain rfl : n = k := by omega
      go_wp2_with fail
      go_ret2
      exact GR.out.post HO.out FA.out
set_option maxHeartbeats 3200000 in
set_option maxRecDepth 100000 in
theorem bits_or (hg : GraphAt w p F g) (hm : g.nodes.length + 3 * n ≤ 190000) (hn : n ≤ 100000) (hla : la.length = n) (hlb : lb.length = n) (hra : RowAt w F a la) (hrb : RowAt w F b lb) (hoa : ∀ x ∈ la, g.ok x) (hob : ∀ x ∈ lb, g.ok x) :
    Calls Try.prog 23 #[.slice a n ca, .slice b n cb, .func (.func 25) #[.pointer (some ⟨p, 0, none⟩)] #[]] w (ArRow (bitsG orG g la lb n) n w p F) := by
  have HG := Lib.hid hg
  have HRA := Lib.hid hra
  have HRB := Lib.hid hrb
  have HLA := Lib.hid hla
  have HLB := Lib.hid hlb
  have HOK := Lib.hid (fun k => bitsG_ok (la := la) (lb := lb) two_orO (fun _ _ _ => trivial) hg.wf hoa hob k)
  have HOA := Lib.hid (fun k => getD_ok hg.wf hoa k)
  have HOB := Lib.hid (fun k => getD_ok hg.wf hob k)
  clear hg hra hrb hla hlb hoa hob
  go_enter Try.func23, Try.ntmps23
  go_wp2_with fail
  go_loopw [8, 14] (fun v iv wr => ∃ (k : Nat) (F1 : List Nat) (a1 : Option Addr) (c1 : Nat), k ≤ n ∧ iv = .int .i64 k ∧ v = .slice a1 k c1 ∧ Own wr 34 a1 k c1 (nats .u32 (bitsG orG g la lb k).2) ∧ GrowAt w wr p F F1 (bitsG orG g la lb k).1 ∧ (0 < n → RowAt wr F1 a la ∧ RowAt wr F1 b lb) ∧ (∀ x ∈ ft a1, w.heap.size ≤ x)) (fun _ iv _ => n - (intOf iv).toNat)
  case atStart => exact ⟨0, F, none, 0, Nat.zero_le _, rfl, rfl, by simpa [bitsG, nats] using Own.nil _ _, ⟨HG.out, .refl _ _⟩, fun _ => ⟨HRA.out, HRB.out⟩, by simp [ft]⟩
  case round =>
    obtain ⟨k, F1, a1, c1, hk, rfl, rfl, ho, hgr, hrr, hfa⟩ := hrel
    obtain ⟨wa, rfl⟩ : ∃ v : World, v = wr := ⟨_, rfl⟩
    have HO := Lib.hid ho
    have GR := Lib.hid hgr
    have FA := Lib.hid hfa
    have RR := Lib.hid hrr
    clear ho hgr hfa hrr
    by_cases hlt : k < n
    · obtain ⟨hra, hrb⟩ := RR.out (by omega)
      have RA := Lib.hid hra
      have RB := Lib.hid hrb
      obtain ⟨ad, rfl, cx⟩ := getD_cell hra.sl (k := k) (by rw [HLA.out]; exact hlt)
      obtain ⟨bd, rfl, cy⟩ := getD_cell hrb.sl (k := k) (by rw [HLB.out]; exact hlt)
      have hok := HOK.out k
      have hxo := hok.ext.ok (HOA.out k)
      have hyo := hok.ext.ok (HOB.out k)
      have HSB := Lib.hid (show bitsG orG g la lb (k + 1) = ((orG (bitsG orG g la lb k).1 (la.getD k 0) (lb.getD k 0)).1, (bitsG orG g la lb k).2 ++ [(orG (bitsG orG g la lb k).1 (la.getD k 0) (lb.getD k 0)).2]) from rfl)
      have hgl : (bitsG orG g la lb k).1.nodes.length ≤ 190000 := by
        obtain ⟨more, h1, h2⟩ := hok.ext.pre
        rw [h1, List.length_append]
        omega
      have HNE := Lib.hid (show la ≠ [] ∧ lb ≠ [] from ⟨fun h => by have h1 := HLA.out; rw [h] at h1; simp at h1; omega, fun h => by have h1 := HLB.out; rw [h] at h1; simp at h1; omega⟩)
      obtain ⟨gk, hgk⟩ : ∃ z, z = (bitsG orG g la lb k).1 := ⟨_, rfl⟩
      obtain ⟨lk, hlk⟩ : ∃ z, z = (bitsG orG g la lb k).2 := ⟨_, rfl⟩
      rw [← hlk] at HO HSB
      rw [← hgk] at GR HSB hgl hxo hyo
      obtain ⟨x, hx⟩ : ∃ z, z = la.getD k 0 := ⟨_, rfl⟩
      obtain ⟨y, hy⟩ : ∃ z, z = lb.getD k 0 := ⟨_, rfl⟩
      rw [← hx] at cx hxo HSB
      rw [← hy] at cy hyo HSB
      obtain ⟨rz, hrz⟩ : ∃ z, z = orG gk x y := ⟨_, rfl⟩
      have HTW := Lib.hid (fun (V : World) (hV : Kept [] wa V) (q : Nat) (h0 : V.cell? ⟨q, 0, none⟩ = some (.int .u32 (x : Int))) (h1 : V.cell? ⟨q, 1, none⟩ = some (.int .u32 (y : Int))) (hq : wa.heap.size ≤ q) => show Calls Try.prog 25 #[.pointer (some ⟨p, 0, none⟩), .slice (some ⟨q, 0, none⟩) 2 2] V (Twos rz V p F1) from by
        rw [hrz]
        exact aig_Or_ (GR.out.gr.kept0 hV) (some ⟨q, 0, none⟩) 2 2 [x, y] rfl (by omega) (two_cells V x y q h0 h1) (by simp [hxo, hyo]) (by intro z hz hf; simp [ft] at hz; subst hz; have := GR.out.gr.lt _ hf; omega))
      rw [← hrz] at HSB
      have k0 : (0 : Int) ≤ (k : Int) := by omega
      have k1 : (k : Int) < (n : Int) := by omega
      have HDA := Lib.hid (show (ad.add k).block ∉ F1 from by rw [block_add]; exact RA.out.ap _ (by simp [ft]))
      have HDB := Lib.hid (show (bd.add k).block ∉ F1 from by rw [block_add]; exact RB.out.ap _ (by simp [ft]))
      clear hok hgk hlk hx hy hrz hra hrb hxo hyo hgl
      go_upto_region 5 with (fail)
      go_region_held3 (fun V => V.cell? (ad.add k) = some (.int .u32 (x : Int)) ∧ V.cell? (bd.add k) = some (.int .u32 (y : Int)))
        (first | exact ⟨(show Kept F1 wa _ from (by (repeat (first | with_reducible exact Kept.refl _ _ | with_reducible apply Kept.drew | with_reducible apply Kept.drewN | with_reducible apply Kept.alloc | refine Kept.trans ?_ k5)))).cell cx HDA.out, (show Kept F1 wa _ from (by (repeat (first | with_reducible exact Kept.refl _ _ | with_reducible apply Kept.drew | with_reducible apply Kept.drewN | with_reducible apply Kept.alloc | refine Kept.trans ?_ k5)))).cell cy HDB.out⟩ | go_keep)
        (first | (go_at_call 25; (refine (HTW.out _ (by (repeat (first | with_reducible exact Kept.refl _ _ | with_reducible apply Kept.drew | with_reducible apply Kept.drewN | with_reducible apply Kept.alloc))) _ (by simp [World.cell?_alloc_new]) (by simp [World.cell?_alloc_new]) (by simp)).mono ?_); rintro e w6 ⟨F6, rfl, hg6, hs6⟩; have k5 := hs6.kept))
      have HS6 := Lib.hid (show Stepped wa w6 F1 F6 from ((Stepped.refl wa F1).keep (by (repeat (first | with_reducible exact Kept.refl _ _ | with_reducible apply Kept.drew | with_reducible apply Kept.drewN | with_reducible apply Kept.alloc)))).trans hs6)
      have G6 := Lib.hid (GR.out.step hg6 HS6.out)
      have O6 := Lib.hid (HO.out.kept HS6.out.kept (GR.out.gr.apart HO.out (by decide) (by decide) (by decide)))
      have RA6 := Lib.hid (RA.out.step HS6.out HNE.out.1)
      have RB6 := Lib.hid (RB.out.step HS6.out HNE.out.2)
      have ho6 := O6.out
      clear hg6 hs6 k5 cx cy
      go_wp2_with (at_builtin; refine wpList_push rfl rfl Try.underlying25 lit_info rfl rfl rfl ho6 rfl (by unfold maxLen; omega) (by omega) ?_; intro a8 c8 w8 hown8 hst8)
      have HP := Lib.hid (show ∀ x ∈ ft (some ad), x ∉ ft a1 from fun x hx hf => by
        have h1 := HRA.out.lt x hx HNE.out.1
        have h2 := FA.out x hf
        omega)
      have HQ := Lib.hid (show ∀ x ∈ ft (some bd), x ∉ ft a1 from fun x hx hf => by
        have h1 := HRB.out.lt x hx HNE.out.2
        have h2 := FA.out x hf
        omega)
      have HG8 := Lib.hid (G6.out.row hst8 (G6.out.gr.apart O6.out (by decide) (by decide) (by decide)) FA.out)
      have RA8 := Lib.hid (RA6.out.row hst8 HP.out)
      have RB8 := Lib.hid (RB6.out.row hst8 HQ.out)
      have HF8 := Lib.hid (show ∀ x ∈ ft a8, w.heap.size ≤ x from fun x hx => (hst8.fresh x hx).elim (FA.out x) (fun h => Nat.le_trans (Nat.le_trans GR.out.st.kept.size HS6.out.kept.size) h))
      have HO8 := Lib.hid (show Own w8 34 a8 (k + 1) c8 (nats .u32 (lk ++ [rz.2])) from by rw [← nats_append]; exact hown8)
      clear hown8 hst8 ho6
      go_roundw
      case rel => exact ⟨k + 1, F6, a8, c8, by omega, by go_num, rfl, by rw [HSB.out]; exact HO8.out, by rw [HSB.out]; exact HG8.out, fun _ => ⟨RA8.out, RB8.out⟩, HF8.out⟩
      case measure => simp [intOf]; omega
    · obtain rfl : n = k := by omega
      go_wp2_with fail
      go_ret2
      exact GR.out.post HO.out FA.out
set_option maxHeartbeats 3200000 in
set_option maxRecDepth 100000 in
theorem bits_xor (hg : GraphAt w p F g) (hm : g.nodes.length + 3 * n ≤ 190000) (hn : n ≤ 100000) (hla : la.length = n) (hlb : lb.length = n) (hra : RowAt w F a la) (hrb : RowAt w F b lb) (hoa : ∀ x ∈ la, g.ok x) (hob : ∀ x ∈ lb, g.ok x) :
    Calls Try.prog 23 #[.slice a n ca, .slice b n cb, .func (.func 26) #[.pointer (some ⟨p, 0, none⟩)] #[]] w (ArRow (bitsG xorG g la lb n) n w p F) := by
  have HG := Lib.hid hg
  have HRA := Lib.hid hra
  have HRB := Lib.hid hrb
  have HLA := Lib.hid hla
  have HLB := Lib.hid hlb
  have HOK := Lib.hid (fun k => bitsG_ok (la := la) (lb := lb) two_xorO (fun _ _ _ => trivial) hg.wf hoa hob k)
  have HOA := Lib.hid (fun k => getD_ok hg.wf hoa k)
  have HOB := Lib.hid (fun k => getD_ok hg.wf hob k)
  clear hg hra hrb hla hlb hoa hob
  go_enter Try.func23, Try.ntmps23
  go_wp2_with fail
  go_loopw [8, 14] (fun v iv wr => ∃ (k : Nat) (F1 : List Nat) (a1 : Option Addr) (c1 : Nat), k ≤ n ∧ iv = .int .i64 k ∧ v = .slice a1 k c1 ∧ Own wr 34 a1 k c1 (nats .u32 (bitsG xorG g la lb k).2) ∧ GrowAt w wr p F F1 (bitsG xorG g la lb k).1 ∧ (0 < n → RowAt wr F1 a la ∧ RowAt wr F1 b lb) ∧ (∀ x ∈ ft a1, w.heap.size ≤ x)) (fun _ iv _ => n - (intOf iv).toNat)
  case atStart => exact ⟨0, F, none, 0, Nat.zero_le _, rfl, rfl, by simpa [bitsG, nats] using Own.nil _ _, ⟨HG.out, .refl _ _⟩, fun _ => ⟨HRA.out, HRB.out⟩, by simp [ft]⟩
  case round =>
    obtain ⟨k, F1, a1, c1, hk, rfl, rfl, ho, hgr, hrr, hfa⟩ := hrel
    obtain ⟨wa, rfl⟩ : ∃ v : World, v = wr := ⟨_, rfl⟩
    have HO := Lib.hid ho
    have GR := Lib.hid hgr
    have FA := Lib.hid hfa
    have RR := Lib.hid hrr
    clear ho hgr hfa hrr
    by_cases hlt : k < n
    · obtain ⟨hra, hrb⟩ := RR.out (by omega)
      have RA := Lib.hid hra
      have RB := Lib.hid hrb
      obtain ⟨ad, rfl, cx⟩ := getD_cell hra.sl (k := k) (by rw [HLA.out]; exact hlt)
      obtain ⟨bd, rfl, cy⟩ := getD_cell hrb.sl (k := k) (by rw [HLB.out]; exact hlt)
      have hok := HOK.out k
      have hxo := hok.ext.ok (HOA.out k)
      have hyo := hok.ext.ok (HOB.out k)
      have HSB := Lib.hid (show bitsG xorG g la lb (k + 1) = ((xorG (bitsG xorG g la lb k).1 (la.getD k 0) (lb.getD k 0)).1, (bitsG xorG g la lb k).2 ++ [(xorG (bitsG xorG g la lb k).1 (la.getD k 0) (lb.getD k 0)).2]) from rfl)
      have hgl : (bitsG xorG g la lb k).1.nodes.length ≤ 190000 := by
        obtain ⟨more, h1, h2⟩ := hok.ext.pre
        rw [h1, List.length_append]
        omega
      have HNE := Lib.hid (show la ≠ [] ∧ lb ≠ [] from ⟨fun h => by have h1 := HLA.out; rw [h] at h1; simp at h1; omega, fun h => by have h1 := HLB.out; rw [h] at h1; simp at h1; omega⟩)
      obtain ⟨gk, hgk⟩ : ∃ z, z = (bitsG xorG g la lb k).1 := ⟨_, rfl⟩
      obtain ⟨lk, hlk⟩ : ∃ z, z = (bitsG xorG g la lb k).2 := ⟨_, rfl⟩
      rw [← hlk] at HO HSB
      rw [← hgk] at GR HSB hgl hxo hyo
      obtain ⟨x, hx⟩ : ∃ z, z = la.getD k 0 := ⟨_, rfl⟩
      obtain ⟨y, hy⟩ : ∃ z, z = lb.getD k 0 := ⟨_, rfl⟩
      rw [← hx] at cx hxo HSB
      rw [← hy] at cy hyo HSB
      obtain ⟨rz, hrz⟩ : ∃ z, z = xorG gk x y := ⟨_, rfl⟩
      have HTW := Lib.hid (fun (V : World) (hV : Kept [] wa V) (q : Nat) (h0 : V.cell? ⟨q, 0, none⟩ = some (.int .u32 (x : Int))) (h1 : V.cell? ⟨q, 1, none⟩ = some (.int .u32 (y : Int))) (hq : wa.heap.size ≤ q) => show Calls Try.prog 26 #[.pointer (some ⟨p, 0, none⟩), .slice (some ⟨q, 0, none⟩) 2 2] V (Twos rz V p F1) from by
        rw [hrz]
        exact aig_Xor_ (GR.out.gr.kept0 hV) (some ⟨q, 0, none⟩) 2 2 [x, y] rfl (by omega) (two_cells V x y q h0 h1) (by simp [hxo, hyo]) (by intro z hz hf; simp [ft] at hz; subst hz; have := GR.out.gr.lt _ hf; omega))
      rw [← hrz] at HSB
      have k0 : (0 : Int) ≤ (k : Int) := by omega
      have k1 : (k : Int) < (n : Int) := by omega
      have HDA := Lib.hid (show (ad.add k).block ∉ F1 from by rw [block_add]; exact RA.out.ap _ (by simp [ft]))
      have HDB := Lib.hid (show (bd.add k).block ∉ F1 from by rw [block_add]; exact RB.out.ap _ (by simp [ft]))
      clear hok hgk hlk hx hy hrz hra hrb hxo hyo hgl
      go_upto_region 5 with (fail)
      go_region_held3 (fun V => V.cell? (ad.add k) = some (.int .u32 (x : Int)) ∧ V.cell? (bd.add k) = some (.int .u32 (y : Int)))
        (first | exact ⟨(show Kept F1 wa _ from (by (repeat (first | with_reducible exact Kept.refl _ _ | with_reducible apply Kept.drew | with_reducible apply Kept.drewN | with_reducible apply Kept.alloc | refine Kept.trans ?_ k5)))).cell cx HDA.out, (show Kept F1 wa _ from (by (repeat (first | with_reducible exact Kept.refl _ _ | with_reducible apply Kept.drew | with_reducible apply Kept.drewN | with_reducible apply Kept.alloc | refine Kept.trans ?_ k5)))).cell cy HDB.out⟩ | go_keep)
        (first | (go_at_call 26; (refine (HTW.out _ (by (repeat (first | with_reducible exact Kept.refl _ _ | with_reducible apply Kept.drew | with_reducible apply Kept.drewN | with_reducible apply Kept.alloc))) _ (by simp [World.cell?_alloc_new]) (by simp [World.cell?_alloc_new]) (by simp)).mono ?_); rintro e w6 ⟨F6, rfl, hg6, hs6⟩; have k5 := hs6.kept))
      have HS6 := Lib.hid (show Stepped wa w6 F1 F6 from ((Stepped.refl wa F1).keep (by (repeat (first | with_reducible exact Kept.refl _ _ | with_reducible apply Kept.drew | with_reducible apply Kept.drewN | with_reducible apply Kept.alloc)))).trans hs6)
      have G6 := Lib.hid (GR.out.step hg6 HS6.out)
      have O6 := Lib.hid (HO.out.kept HS6.out.kept (GR.out.gr.apart HO.out (by decide) (by decide) (by decide)))
      have RA6 := Lib.hid (RA.out.step HS6.out HNE.out.1)
      have RB6 := Lib.hid (RB.out.step HS6.out HNE.out.2)
      have ho6 := O6.out
      clear hg6 hs6 k5 cx cy
      go_wp2_with (at_builtin; refine wpList_push rfl rfl Try.underlying25 lit_info rfl rfl rfl ho6 rfl (by unfold maxLen; omega) (by omega) ?_; intro a8 c8 w8 hown8 hst8)
      have HP := Lib.hid (show ∀ x ∈ ft (some ad), x ∉ ft a1 from fun x hx hf => by
        have h1 := HRA.out.lt x hx HNE.out.1
        have h2 := FA.out x hf
        omega)
      have HQ := Lib.hid (show ∀ x ∈ ft (some bd), x ∉ ft a1 from fun x hx hf => by
        have h1 := HRB.out.lt x hx HNE.out.2
        have h2 := FA.out x hf
        omega)
      have HG8 := Lib.hid (G6.out.row hst8 (G6.out.gr.apart O6.out (by decide) (by decide) (by decide)) FA.out)
      have RA8 := Lib.hid (RA6.out.row hst8 HP.out)
      have RB8 := Lib.hid (RB6.out.row hst8 HQ.out)
      have HF8 := Lib.hid (show ∀ x ∈ ft a8, w.heap.size ≤ x from fun x hx => (hst8.fresh x hx).elim (FA.out x) (fun h => Nat.le_trans (Nat.le_trans GR.out.st.kept.size HS6.out.kept.size) h))
      have HO8 := Lib.hid (show Own w8 34 a8 (k + 1) c8 (nats .u32 (lk ++ [rz.2])) from by rw [← nats_append]; exact hown8)
      clear hown8 hst8 ho6
      go_roundw
      case rel => exact ⟨k + 1, F6, a8, c8, by omega, by go_num, rfl, by rw [HSB.out]; exact HO8.out, by rw [HSB.out]; exact HG8.out, fun _ => ⟨RA8.out, RB8.out⟩, HF8.out⟩
      case measure => simp [intOf]; omega
    · obtain rfl : n = k := by omega
      go_wp2_with fail
      go_ret2
      exact GR.out.post HO.out FA.out
end Go.Proofs.Ytenhbhckhncamaa
