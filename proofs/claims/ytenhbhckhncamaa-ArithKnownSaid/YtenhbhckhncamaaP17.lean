/-
  Package adder: bit by bit.
-/
import Derived.Test.YtenhbhckhncamaaP16
import Derived.Deep.RegionHeld3
namespace Go.Proofs.Ytenhbhckhncamaa
open Go.ChangeShapes Go.WideShapes Go.ChangeAt Go.RowKit
open Go.Maps (Keyed)
open Go.WideMaps
set_option linter.unusedVariables false

variable {w w' : World} {p mb : Nat} {F S : List Nat} {g : Gr}

theorem getD_in {l : List Nat} {i d : Nat} (h : i < l.length) : l.getD i d ∈ l := by
  rw [List.getD_eq_getElem?_getD, List.getElem?_eq_getElem h]
  exact List.getElem_mem h
theorem MakAt.keptF (h : MakAt w mb p F g) {G : List Nat} (hk : Kept G w w') (hd : ∀ b ∈ G, b ∉ mb :: F) : MakAt w' mb p F g :=
  ⟨h.graph.kept hk (fun b hb hm => hd b hm (by simp [hb])), hk.heap h.blk (fun hm => hd mb hm (by simp))⟩

theorem step_cell {F F' : List Nat} (h : Stepped w w' F F') {q : Addr} {v : Value} (hc : w.cell? q = some v) (hn : q.block ∉ F) : w'.cell? q = some v ∧ q.block ∉ F' :=
  ⟨h.kept.cell hc hn, fun hf => (h.fresh _ hf).elim hn fun h1 => absurd (World.block_lt_of_cell? w q hc) (by omega)⟩
theorem ft_block {ad : Addr} {k : Nat} {l : List Nat} (h : ∀ x ∈ ft (some ad), x ∉ l) : (ad.add k).block ∉ l := h _ (by simp only [ft, Addr.add]; split <;> simp)

/-- one bit more -/
def ripS (s : Gr × List Nat × Nat) (x y : Nat) : Gr × List Nat × Nat :=
  let r1 := xorG s.1 x y
  let r2 := xorG r1.1 r1.2 s.2.2
  let r3 := andG r2.1 x y
  let r4 := carryG r3.1 r3.2 r1.2 s.2.2
  (r4.1, s.2.1 ++ [r2.2], r4.2)
def ripTo (g : Gr) (la lb : List Nat) (c : Nat) : Nat → Gr × List Nat × Nat
  | 0 => (g, [], c)
  | k + 1 => ripS (ripTo g la lb c k) (la.getD k 0) (lb.getD k 0)
theorem ripTo_length (g : Gr) (la lb : List Nat) (c k : Nat) : (ripTo g la lb c k).2.1.length = k := by
  induction k with
  | zero => rfl
  | succ k ih => simp [ripTo, ripS, ih]
/-- all that is known of the four calls of a bit -/
structure RipK (g : Gr) (l : List Nat) (x y c : Nat) (g1 : Gr) (v1 : Nat) (g2 : Gr) (v2 : Nat) (g3 : Gr) (v3 : Nat) (g4 : Gr) (v4 : Nat) : Prop where
  e1 : xorG g x y = (g1, v1)
  e2 : xorG g1 v1 c = (g2, v2)
  e3 : andG g2 x y = (g3, v3)
  e4 : carryG g3 v3 v1 c = (g4, v4)
  all : ripS (g, l, c) x y = (g4, l ++ [v2], v4)
  wf : WF g4.nodes
  x1 : Ext 3 g g1
  x2 : Ext 6 g g2
  x3 : Ext 7 g g3
  x4 : Ext 9 g g4
  a1 : g1.ok v1
  a2 : g1.ok c
  a3 : g2.ok v2
  a4 : g2.ok x
  a5 : g2.ok y
  a6 : g3.ok v3
  a7 : g3.ok v1
  a8 : g3.ok c
  a9 : g4.ok v4
  b1 : g4.ok v2
theorem ripK {x y c : Nat} (l : List Nat) (hw : WF g.nodes) (hx : g.ok x) (hy : g.ok y) (hc : g.ok c) : ∃ g1 v1 g2 v2 g3 v3 g4 v4, RipK g l x y c g1 v1 g2 v2 g3 v3 g4 v4 := by
  have s1 := xorG_spec hw hx hy
  obtain ⟨⟨g1, v1⟩, E1⟩ : ∃ r, xorG g x y = r := ⟨_, rfl⟩
  rw [E1] at s1
  have s2 := xorG_spec s1.1 s1.2.2 (s1.2.1.ok hc)
  obtain ⟨⟨g2, v2⟩, E2⟩ : ∃ r, xorG g1 v1 c = r := ⟨_, rfl⟩
  simp only [E2] at s2
  have s3 := andG_spec s2.1 ((s1.2.1.trans s2.2.1).ok hx) ((s1.2.1.trans s2.2.1).ok hy)
  obtain ⟨⟨g3, v3⟩, E3⟩ : ∃ r, andG g2 x y = r := ⟨_, rfl⟩
  simp only [E3] at s3
  have s4 := carryG_spec s3.1 s3.2.2 (s3.2.1.ok (s2.2.1.ok s1.2.2)) (s3.2.1.ok (s2.2.1.ok (s1.2.1.ok hc)))
  obtain ⟨⟨g4, v4⟩, E4⟩ : ∃ r, carryG g3 v3 v1 c = r := ⟨_, rfl⟩
  simp only [E4] at s4
  refine ⟨g1, v1, g2, v2, g3, v3, g4, v4, E1, E2, E3, E4, ?_, s4.1, s1.2.1, (s1.2.1.trans s2.2.1).mono (by omega), ((s1.2.1.trans s2.2.1).trans s3.2.1).mono (by omega), (((s1.2.1.trans s2.2.1).trans s3.2.1).trans s4.2.1).mono (by omega), s1.2.2, s1.2.1.ok hc, s2.2.2, (s1.2.1.trans s2.2.1).ok hx, (s1.2.1.trans s2.2.1).ok hy, s3.2.2, s3.2.1.ok (s2.2.1.ok s1.2.2), s3.2.1.ok (s2.2.1.ok (s1.2.1.ok hc)), s4.2.2, s4.2.1.ok (s3.2.1.ok s2.2.2)⟩
  simp only [ripS, E1, E2, E3, E4]
theorem ripTo_spec {la lb : List Nat} {c : Nat} (hw : WF g.nodes) (ha : ∀ x ∈ la, g.ok x) (hb : ∀ x ∈ lb, g.ok x) (hc : g.ok c) (k : Nat) (hk : k ≤ la.length) (hk' : k ≤ lb.length) :
    WF (ripTo g la lb c k).1.nodes ∧ Ext (9 * k) g (ripTo g la lb c k).1 ∧ (ripTo g la lb c k).1.ok (ripTo g la lb c k).2.2 ∧ ∀ x ∈ (ripTo g la lb c k).2.1, (ripTo g la lb c k).1.ok x := by
  induction k with
  | zero => exact ⟨hw, .refl g, hc, by simp [ripTo]⟩
  | succ k ih =>
    obtain ⟨h1, h2, h3, h4⟩ := ih (by omega) (by omega)
    have ea : la.getD k 0 ∈ la := getD_in (by omega)
    have eb : lb.getD k 0 ∈ lb := getD_in (by omega)
    obtain ⟨g1, v1, g2, v2, g3, v3, g4, v4, R⟩ := ripK (ripTo g la lb c k).2.1 h1 (h2.ok (ha _ ea)) (h2.ok (hb _ eb)) h3
    have e : ripTo g la lb c (k + 1) = (g4, (ripTo g la lb c k).2.1 ++ [v2], v4) := R.all
    rw [e]
    refine ⟨R.wf, (h2.trans R.x4).mono (by omega), R.a9, ?_⟩
    intro x hx
    rcases List.mem_append.1 hx with hx | hx
    · exact R.x4.ok (h4 x hx)
    · rw [List.mem_singleton.1 hx]; exact R.b1

def RipPost (r : Gr × List Nat × Nat) (n : Nat) (w : World) (mb p : Nat) (F : List Nat) (e : Ending) (w' : World) : Prop :=
  ∃ F' a c, e = .returned (.tuple #[.slice a n c, .int .u32 (r.2.2 : Nat)]) ∧ MakAt w' mb p F' r.1 ∧ Own w' 34 a n c (nats .u32 r.2.1) ∧ Stepped w w' (mb :: F) ((mb :: F') ++ ft a)
theorem SlN.getD {w : World} {K : IntKind} {a : Option Addr} {l : List Nat} (h : SlN w K a l) {k : Nat} (hk : k < l.length) : ∃ ad, a = some ad ∧ w.cell? (ad.add k) = some (.int K (l.getD k 0 : Nat)) := by
  obtain ⟨ad, h1, h2⟩ := h k hk
  exact ⟨ad, h1, by rw [h2, List.getD_eq_getElem?_getD, List.getElem?_eq_getElem hk]; rfl⟩
set_option maxHeartbeats 1600000 in
set_option maxRecDepth 100000 in
theorem ripple_c {c n : Nat} {la lb : List Nat} {a b : Option Addr} {ca cb : Nat} (h : MakAt w mb p F g) (hm : g.nodes.length ≤ 170000) (hn : n ≤ 64) (hla : la.length = n) (hlb : lb.length = n)
    (hsa : SlN w .u32 a la) (hsb : SlN w .u32 b lb) (hoa : ∀ x ∈ la, g.ok x) (hob : ∀ x ∈ lb, g.ok x) (hc : g.ok c) (hda : ∀ x ∈ ft a, x ∉ mb :: F) (hdb : ∀ x ∈ ft b, x ∉ mb :: F) :
    Calls Try.prog 63 #[.pointer (some ⟨mb, 0, none⟩), .slice a n ca, .slice b n cb, .int .u32 c] w (RipPost (ripTo g la lb c n) n w mb p F) := by
  have HR := Lib.hid (fun (k : Nat) (hk : k ≤ n) => ripTo_spec (c := c) h.graph.wf hoa hob hc k (by omega) (by omega))
  have HOA := Lib.hid hoa
  have HOB := Lib.hid hob
  have HLA := Lib.hid hla
  have HLB := Lib.hid hlb
  have HSA := Lib.hid hsa
  have HSB := Lib.hid hsb
  clear hoa hob hc hla hlb hsa hsb
  have HM := Lib.hid h; clear h
  go_enter Try.func63, Try.ntmps63
  go_wp2
  go_loopw [10, 3, 16] (fun s cv i wr => ∃ (k : Nat) (F1 : List Nat) (a' : Option Addr) (c' : Nat), k ≤ n ∧ i = .int .i64 k ∧ cv = .int .u32 ((ripTo g la lb c k).2.2 : Nat) ∧ s = .slice a' k c' ∧ MakAt wr mb p F1 (ripTo g la lb c k).1 ∧ Own wr 34 a' k c' (nats .u32 (ripTo g la lb c k).2.1) ∧ Stepped w wr (mb :: F) ((mb :: F1) ++ ft a')) (fun _ _ i _ => n - (intOf i).toNat)
  case atStart => exact ⟨0, F, none, 0, Nat.zero_le _, rfl, rfl, rfl, HM.out, Own.nil _ _, (Stepped.refl _ _).weak (fun _ h => h) (by simp [ft])⟩
  case round =>
    obtain ⟨k, F1, a', c', hk, rfl, rfl, rfl, hmk, hown, hst⟩ := hrel
    by_cases hlt : k < n
    · obtain ⟨ada, rfl, hca⟩ := HSA.out.getD (k := k) (by rw [HLA.out]; exact hlt)
      obtain ⟨adb, rfl, hcb⟩ := HSB.out.getD (k := k) (by rw [HLB.out]; exact hlt)
      have HC := Lib.hid (fun (w' : World) (F' : List Nat) (h : Stepped w w' (mb :: F) F') => And.intro (step_cell h hca (ft_block hda)) (step_cell h hcb (ft_block hdb)))
      clear hca hcb
      obtain ⟨s1, s2, s3, s4⟩ := HR.out k hk
      have hsz := s2.le
      obtain ⟨g1, v1, g2, v2, g3, v3, g4, v4, R⟩ := ripK (ripTo g la lb c k).2.1 s1 (s2.ok (HOA.out _ (getD_in (by rw [HLA.out]; exact hlt)))) (s2.ok (HOB.out _ (getD_in (by rw [HLB.out]; exact hlt)))) s3
      have HX := Lib.hid (s2.ok (HOA.out _ (getD_in (i := k) (d := 0) (by rw [HLA.out]; exact hlt))))
      have HY := Lib.hid (s2.ok (HOB.out _ (getD_in (i := k) (d := 0) (by rw [HLB.out]; exact hlt))))
      have HE := Lib.hid (show ripTo g la lb c (k + 1) = (g4, (ripTo g la lb c k).2.1 ++ [v2], v4) from R.all)
      have z1 := R.x1.le
      have z2 := R.x2.le
      have z3 := R.x3.le
      have R := Lib.hid R
      clear s1 s2 s3 s4
      generalize (ripTo g la lb c k) = s at *
      obtain ⟨gk, lk, ck⟩ := s
      simp only at *
      generalize la.getD k 0 = x at *
      generalize lb.getD k 0 = y at *
      have c0 : wr.cell? ⟨mb, 0, none⟩ = some (.pointer (some ⟨p, 0, none⟩)) := blk_cell hmk.blk 0
      have hca := (HC.out _ _ hst).1.1
      have hcb := (HC.out _ _ hst).2.1
      have hap := Lib.hid (hmk.apart hown (by decide) (by decide) (by decide) (by decide))
      have HB1 := Lib.hid (mk_xor (hmk.kept0 (Kept.refl [] wr).drew) (by omega) HX.out HY.out)
      rw [R.out.e1] at HB1
      clear hmk
      go_wp2_with fail
      go_region_held3 (fun w' => w'.cell? ⟨mb, 0, none⟩ = some (.pointer (some ⟨p, 0, none⟩)) ∧ w'.cell? (ada.add k) = some (.int .u32 (x : Nat)) ∧ w'.cell? (adb.add k) = some (.int .u32 (y : Nat)))
        (first | (exact ⟨blk_cell hm1.blk 0, (HC.out _ _ (hst.drew.trans (hst1.beside _))).1.1, (HC.out _ _ (hst.drew.trans (hst1.beside _))).2.1⟩) | go_keep)
        (first | (go_at_call 71; refine HB1.out.mono ?_; rintro e w1 ⟨F2, rfl, hm1, hst1⟩))
      all_goals
        have hT1 : Stepped w w1 (mb :: F) ((mb :: F2) ++ ft a') := hst.drew.trans (hst1.beside _)
        have hown1 : Own w1 34 a' k c' (nats .u32 lk) := hown.drew.kept hst1.kept hap.out
        have hm1 : MakAt w1 mb p F2 g1 := hm1
        clear hst hst1 hown c0 hca hcb HB1
        have c0 : w1.cell? ⟨mb, 0, none⟩ = some (.pointer (some ⟨p, 0, none⟩)) := blk_cell hm1.blk 0
        have hap1 := Lib.hid (hm1.apart hown1 (by decide) (by decide) (by decide) (by decide))
        have HB1 := Lib.hid (mk_xor hm1 (by omega) R.out.a1 R.out.a2)
        rw [R.out.e2] at HB1
        clear hm1 hap
        go_wp2_with fail
        refine HB1.out.mono ?_
        rintro e w2 ⟨F3, rfl, hm2, hst2⟩
        have hT2 : Stepped w w2 (mb :: F) ((mb :: F3) ++ ft a') := hT1.trans (hst2.beside _)
        have hown2 : Own w2 34 a' k c' (nats .u32 lk) := hown1.kept hst2.kept hap1.out
        have hm2 : MakAt w2 mb p F3 g2 := hm2
        have hap2 := Lib.hid (hm2.apart hown2 (by decide) (by decide) (by decide) (by decide))
        clear hT1 hst2 hown1 c0 hap1 HB1
        have hm2 := Lib.hid hm2
        go_wp2_with (at_builtin; refine wpList_push rfl rfl Try.underlying25 lit_info rfl rfl rfl hown2 rfl (by unfold maxLen; omega) (by omega) ?_; intro a3 c3 w3 hown3 hst3)
        have hT3 : Stepped w w3 (mb :: F) ((mb :: F3) ++ ft a3) := hT2.trans (hst3.behind _)
        have hm3 : MakAt w3 mb p F3 g2 := hm2.out.keptF hst3.kept hap2.out
        have hown3 : Own w3 34 a3 (k + 1) c3 (nats .u32 (lk ++ [v2])) := by rw [← nats_append]; exact hown3
        clear hT2 hown2 hm2 hap2 hst3
        have c0 : w3.cell? ⟨mb, 0, none⟩ = some (.pointer (some ⟨p, 0, none⟩)) := blk_cell hm3.blk 0
        have hca := (HC.out _ _ hT3).1.1
        have hcb := (HC.out _ _ hT3).2.1
        have hap3 := Lib.hid (hm3.apart hown3 (by decide) (by decide) (by decide) (by decide))
        have HB1 := Lib.hid (mk_and (hm3.kept0 (Kept.refl [] w3).drew) (by omega) R.out.a4 R.out.a5)
        rw [R.out.e3] at HB1
        clear hm3
        go_region_held3 (fun w' => w'.cell? ⟨mb, 0, none⟩ = some (.pointer (some ⟨p, 0, none⟩)) ∧ w'.cell? (ada.add k) = some (.int .u32 (x : Nat)) ∧ w'.cell? (adb.add k) = some (.int .u32 (y : Nat)))
          (first | (exact ⟨blk_cell hm4.blk 0, (HC.out _ _ (hT3.drew.trans (hst4.beside _))).1.1, (HC.out _ _ (hT3.drew.trans (hst4.beside _))).2.1⟩) | go_keep)
          (first | (go_at_call 71; refine HB1.out.mono ?_; rintro e w4 ⟨F4, rfl, hm4, hst4⟩))
        all_goals
          have hT4 : Stepped w w4 (mb :: F) ((mb :: F4) ++ ft a3) := hT3.drew.trans (hst4.beside _)
          have hown4 : Own w4 34 a3 (k + 1) c3 (nats .u32 (lk ++ [v2])) := hown3.drew.kept hst4.kept hap3.out
          have hm4 : MakAt w4 mb p F4 g3 := hm4
          clear hT3 hst4 hown3 c0 hca hcb HB1 hap3
          have hap4 := Lib.hid (hm4.apart hown4 (by decide) (by decide) (by decide) (by decide))
          have HB1 := Lib.hid (maker_carry hm4 (by omega) R.out.a6 R.out.a7 R.out.a8)
          rw [R.out.e4] at HB1
          clear hm4
          go_wp2_with fail
          refine HB1.out.mono ?_
          rintro e w5 ⟨F5, rfl, hm5, hst5⟩
          have hT5 : Stepped w w5 (mb :: F) ((mb :: F5) ++ ft a3) := hT4.trans (hst5.beside _)
          have hown5 : Own w5 34 a3 (k + 1) c3 (nats .u32 (lk ++ [v2])) := hown4.kept hst5.kept hap4.out
          have hm5 : MakAt w5 mb p F5 g4 := hm5
          clear hT4 hst5 hown4 HB1 hap4
          go_wp2_with fail
          go_roundw
          case rel => exact ⟨k + 1, F5, a3, c3, by omega, by go_num, by rw [HE.out], rfl, by rw [HE.out]; exact hm5, by rw [HE.out]; exact hown5, hT5⟩
          case measure => simp [intOf]; omega
    · obtain rfl : n = k := by omega
      go_wp2
      refine bodyPost_ret (v := .tuple #[.slice a' n c', .int .u32 ((ripTo g la lb c n).2.2 : Nat)]) (by simp [results, Try.results63, go_sem]) rfl ?_
      exact ⟨F1, a', c', rfl, hmk, hown, hst⟩
end Go.Proofs.Ytenhbhckhncamaa
