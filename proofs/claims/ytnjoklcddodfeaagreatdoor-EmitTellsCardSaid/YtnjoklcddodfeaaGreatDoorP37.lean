/-
  A netlist of steps, and the document's, side by side (laws 08 and 30).
-/
import Derived.Test.YtnjoklcddodfeaaGreatDoorP36
namespace Go.Proofs.YtnjoklcddodfeaaGreatDoor
open Go.ChangeShapes Go.WideShapes Go.ChangeAt Go.RowKit
open Go.Maps (Keyed)
open Go.WideMaps
set_option linter.unusedVariables false
set_option linter.unusedSimpArgs false

def topS : ByteArray := ⟨#[116, 111, 112]⟩
def stepN (skip : Bool) (N : Nt) (s : NStp) : Nt := if skip = true ∧ s.what = 8 then N else (doesN N s).1
def builtN (skip o1 o2 : Bool) (l : List NStp) (k : Nat) : Nt := (l.take k).foldl (stepN skip) (newN topS o1 o2)
theorem builtN_succ (skip o1 o2 : Bool) (l : List NStp) (k : Nat) (h : k < l.length) : builtN skip o1 o2 l (k + 1) = stepN skip (builtN skip o1 o2 l k) l[k] := by
  unfold builtN
  rw [List.take_succ_eq_append_getElem h, List.foldl_append]
  rfl
theorem builtN_end (skip o1 o2 : Bool) (l : List NStp) (k : Nat) (h : l.length ≤ k) : builtN skip o1 o2 l k = builtN skip o1 o2 l l.length := by
  unfold builtN
  rw [List.take_of_length_le h, List.take_of_length_le (Nat.le_refl _)]
theorem stepN_fine {k : Nat} {N : Nt} (h : NtFine k N) (skip : Bool) (s : NStp) : NtFine (k + 1) (stepN skip N s) := by
  unfold stepN
  split
  · exact h.mono
  · exact doesN_fine h s
theorem builtN_fine (skip o1 o2 : Bool) (l : List NStp) (k : Nat) : NtFine k (builtN skip o1 o2 l k) := by
  induction k with
  | zero => exact newN_fine topS o1 o2 t_facts.1
  | succ k ih =>
    by_cases h : k < l.length
    · rw [builtN_succ _ _ _ _ _ h]; exact stepN_fine ih _ _
    · have e : builtN skip o1 o2 l (k + 1) = builtN skip o1 o2 l k := by rw [builtN_end _ _ _ _ _ (by omega), ← builtN_end _ _ _ _ k (by omega)]
      rw [e]; exact ih.mono
theorem NtFine.small {k : Nat} {N : Nt} (h : NtFine k N) (hk : k ≤ 700) : NtSmall N := by
  have a1 := h.ok.len
  have a2 := h.ok.ik
  have a3 := h.ok.rk
  have a4 := h.ok.ok
  exact ⟨by omega, by omega, by omega, by omega⟩
structure BothN (w w' : World) (n : Nat) (F R : List Nat) (N : Nt) (q : Nat) (F2 R2 : List Nat) (N2 : Nt) : Prop where
  net : NetAt w' n F R N
  ref : RNetAt w' q F2 R2 N2
  kept : Kept [] w w'
  new1 : ∀ b ∈ F ++ R, w.heap.size ≤ b
  new2 : ∀ b ∈ F2 ++ R2, w.heap.size ≤ b
  ap1 : ∀ b ∈ F2 ++ R2, b ∉ F
  ap2 : ∀ b ∈ F ++ R, b ∉ F2
variable {w w1 w2 : World} {n q : Nat} {F R F' R' F2 R2 F2' R2' : List Nat} {N N' N2 N2' : Nt}
theorem BothN.keep (h : BothN w w1 n F R N q F2 R2 N2) (hk : Kept [] w1 w2) : BothN w w2 n F R N q F2 R2 N2 :=
  ⟨h.net.kept0 hk, h.ref.kept0 hk, h.kept.trans hk, h.new1, h.new2, h.ap1, h.ap2⟩
theorem BothN.stepNet (h : BothN w w1 n F R N q F2 R2 N2) (hn : NetAt w2 n F' R' N') (hs : NStep w1 w2 F R F' R') : BothN w w2 n F' R' N' q F2 R2 N2 := by
  have l2 := h.ref.lt
  refine ⟨hn, h.ref.kept hs.st.kept (fun b hb => h.ap1 b (by simp [hb])) (fun b hb => h.ap1 b (by simp [hb])), kept_up h.kept hs.st.kept (fun b hb => h.new1 b (by simp [hb])), fun b hb => ?_, h.new2, fun b hb hx => ?_, fun b hb hx => ?_⟩
  · rcases List.mem_append.1 hb with hb | hb
    · exact (hs.st.fresh b hb).elim (fun h1 => h.new1 b (by simp [h1])) (fun h1 => Nat.le_trans h.kept.size h1)
    · exact (hs.rows b hb).elim (fun h1 => h.new1 b (by simp [h1])) (fun h1 => Nat.le_trans h.kept.size h1)
  · rcases hs.st.fresh b hx with h1 | h1
    · exact h.ap1 b hb h1
    · rcases List.mem_append.1 hb with hb | hb
      · have := l2.1 b hb; omega
      · have := l2.2 b hb; omega
  · rcases List.mem_append.1 hb with hb | hb
    · rcases hs.st.fresh b hb with h1 | h1
      · exact h.ap2 b (by simp [h1]) hx
      · have := l2.1 b hx; omega
    · rcases hs.rows b hb with h1 | h1
      · exact h.ap2 b (by simp [h1]) hx
      · have := l2.1 b hx; omega
theorem BothN.stepRef (h : BothN w w1 n F R N q F2 R2 N2) (hn : RNetAt w2 q F2' R2' N2') (hs : NStep w1 w2 F2 R2 F2' R2') : BothN w w2 n F R N q F2' R2' N2' := by
  have l1 := h.net.lt
  refine ⟨h.net.kept hs.st.kept (fun b hb => h.ap2 b (by simp [hb])) (fun b hb => h.ap2 b (by simp [hb])), hn, kept_up h.kept hs.st.kept (fun b hb => h.new2 b (by simp [hb])), h.new1, fun b hb => ?_, fun b hb hx => ?_, fun b hb hx => ?_⟩
  · rcases List.mem_append.1 hb with hb | hb
    · exact (hs.st.fresh b hb).elim (fun h1 => h.new2 b (by simp [h1])) (fun h1 => Nat.le_trans h.kept.size h1)
    · exact (hs.rows b hb).elim (fun h1 => h.new2 b (by simp [h1])) (fun h1 => Nat.le_trans h.kept.size h1)
  · rcases List.mem_append.1 hb with hb | hb
    · rcases hs.st.fresh b hb with h1 | h1
      · exact h.ap1 b (by simp [h1]) hx
      · have := l1.1 b hx; omega
    · rcases hs.rows b hb with h1 | h1
      · exact h.ap1 b (by simp [h1]) hx
      · have := l1.1 b hx; omega
  · rcases hs.st.fresh b hx with h1 | h1
    · exact h.ap2 b hb h1
    · rcases List.mem_append.1 hb with hb | hb
      · have := l1.1 b hb; omega
      · have := l1.2 b hb; omega
def BuiltPost (skip o1 o2 : Bool) (l : List NStp) (w : World) (e : Ending) (w' : World) : Prop :=
  ∃ n F R q F2 R2, e = .returned (.tuple #[.pointer (some ⟨n, 0, none⟩), .pointer (some ⟨q, 0, none⟩)]) ∧ BothN w w' n F R (builtN skip o1 o2 l 60) q F2 R2 (builtN skip o1 o2 l 60)
theorem NetAt.graphC (h : NetAt w n F R N) : ∃ p, w.cell? ⟨n, 0, none⟩ = some (.pointer (some ⟨p, 0, none⟩)) := by
  obtain ⟨p, G, ia, ic, ra, rc, oa, oc, ri, ro, rfl, rfl, hc⟩ := h
  exact ⟨p, hc.c0⟩
set_option maxHeartbeats 3200000 in
set_option maxRecDepth 100000 in
theorem built10 (o1 o2 : Bool) (sa : Option Addr) (sl : List NStp) (sc len : Nat) (w : World) (hlen : sl.length = len) (hss : SlNStepsC w sa sl) (hso : ∀ s ∈ sl, s.ok) :
    Calls Tryz.prog 6 #[.agg #[.bool o1, .bool o2], .slice sa len sc] w (BuiltPost false o1 o2 sl w) := by
  have HL := Lib.hid hlen.symm
  have HS := Lib.hid hss
  have HO := Lib.hid hso
  have HZ := Lib.hid (show builtN false o1 o2 sl 0 = newN topS o1 o2 from rfl)
  clear hlen hss hso
  go_enter Tryz.func6, Tryz.ntmps6; (try simp only [List.append])
  go_wp2_with fail
  refine (new_net topS o1 o2 _ (by decide) t_facts.1).mono ?_
  rintro e w1 ⟨n, F, rfl, hn, hk, hf⟩
  have N1 := Lib.hid hn
  have K1 := Lib.hid (((Kept.refl [] w).alloc (.cells #[.bool o1, .bool o2] 23)).trans hk)
  have F1 := Lib.hid (show ∀ b ∈ F, w.heap.size ≤ b from fun b hb => Nat.le_trans (by simp) (hf b hb))
  have hq0 : w1.cell? ⟨w.heap.size, 0, none⟩ = some (.bool o1) := hk.cell (blk_cell (heap_alloc_new w _) 0) (by simp)
  have hq1 : w1.cell? ⟨w.heap.size, 1, none⟩ = some (.bool o2) := hk.cell (blk_cell (heap_alloc_new w _) 1) (by simp)
  clear hn hk hf
  go_wp2_with fail
  refine (new06 topS o1 o2 _ (by decide) t_facts.1).mono ?_
  rintro e w2 ⟨q, F2, rfl, hn2, hk2, hf2⟩
  have B0 := Lib.hid (show BothN w w2 n F [] (builtN false o1 o2 sl 0) q F2 [] (builtN false o1 o2 sl 0) from by
    rw [HZ.out]
    have l1 := N1.out.lt
    exact ⟨N1.out.kept0 hk2, hn2, K1.out.trans hk2, fun b hb => by simp at hb; exact F1.out b hb, fun b hb => by simp at hb; exact Nat.le_trans K1.out.size (hf2 b hb), fun b hb hx => by simp at hb; have := hf2 b hb; have := l1.1 b hx; omega, fun b hb hx => by simp at hb; have := hf2 b hx; have := l1.1 b hb; omega⟩)
  obtain ⟨p0, hc0⟩ := B0.out.net.graphC
  clear hn2 hk2 hf2 hq0 hq1
  go_wp2_with fail
  clear hc0
  go_loopw [10] (fun i wr => ∃ (k : Nat) (F R F2 R2 : List Nat), k ≤ 60 ∧ k ≤ len ∧ i = .int .i64 k ∧ BothN w wr n F R (builtN false o1 o2 sl k) q F2 R2 (builtN false o1 o2 sl k)) (fun i _ => 60 - (intOf i).toNat)
  case atStart => exact ⟨0, F, [], F2, [], by omega, by omega, rfl, B0.out⟩
  case round =>
    obtain ⟨k, F, R, F2, R2, h60, hkl, rfl, hB⟩ := hrel
    have BB := Lib.hid hB
    clear hB B0
    by_cases hlt : k < len ∧ k < 60
    · obtain ⟨h1, h2⟩ := hlt
      have hkk : k < sl.length := by rw [← HL.out]; exact h1
      obtain ⟨b, o, rfl, la, lc, ⟨z0, z1, z2, z3, z4, z5, z6⟩, hlw, hlc⟩ := HS.out k hkk
      have KB := Lib.hid BB.out.kept
      have c0 := KB.out.cell z0 (by simp)
      have c1 := KB.out.cell z1 (by simp)
      have c2 := KB.out.cell z2 (by simp)
      have c3 := KB.out.cell z3 (by simp)
      have c4 := KB.out.cell z4 (by simp)
      have c5 := KB.out.cell z5 (by simp)
      have c6 := KB.out.cell z6 (by simp)
      have HSM := Lib.hid ((builtN_fine false o1 o2 sl k).small (by omega))
      have HSTEP := Lib.hid (builtN_succ false o1 o2 sl k hkk)
      have hok := HO.out _ (List.getElem_mem hkk)
      have HD := Lib.hid (does_c sl[k] la lc BB.out.net (by have := HSM.out; unfold NtSmall at this; omega) hok (hlw.kept0 KB.out))
      have HW := Lib.hid (fun (W : World) (hkW : Kept [] w W) (F2 R2 : List Nat) (h : RNetAt W q F2 R2 (builtN false o1 o2 sl k)) => wants_c sl[k] la lc h HSM.out hok (hlw.kept0 hkW) hlc)
      have Z := Lib.hid (show StepCells w b (o + k * 7) sl[k] la lc from ⟨z0, z1, z2, z3, z4, z5, z6⟩)
      generalize sl[k] = s at *
      generalize hNk : builtN false o1 o2 sl k = Nk at *
      generalize hNk1 : builtN false o1 o2 sl (k + 1) = Nk1 at *
      obtain ⟨what, nm, sn, a, bb, c, lits⟩ := s
      obtain ⟨ln, hln⟩ : ∃ k, k = lits.length := ⟨_, rfl⟩
      have HNk := Lib.hid hNk
      have HNk1 := Lib.hid hNk1
      unfold StepCells at Z
      simp only [stepV, stepCells6] at c0 c1 c2 c3 c4 c5 c6 HD HW Z
      rw [← hln] at c6 HD HW Z
      clear hok hlw hlc hln z0 z1 z2 z3 z4 z5 z6 hNk hNk1
      have HE := Lib.hid (show Nk1 = (doesN Nk ⟨what, nm, sn, a, bb, c, lits⟩).1 from by rw [HSTEP.out]; unfold stepN; rw [if_neg (fun h => Bool.noConfusion h.1)])
      go_wp2_with fail
      refine HD.out.mono ?_
      intro e w4 hx
      obtain ⟨F4, R4, a4, c4', k4, he, hn4, hs4, ho4, hf4⟩ := hx
      subst he
      rw [← HE.out] at hn4
      have B4 := Lib.hid (BB.out.stepNet hn4 hs4)
      have K4 := Lib.hid B4.out.kept
      obtain ⟨z0, z1, z2, z3, z4, z5, z6⟩ := Z.out
      have d0 := K4.out.cell z0 (by simp)
      have d1 := K4.out.cell z1 (by simp)
      have d2 := K4.out.cell z2 (by simp)
      have d3 := K4.out.cell z3 (by simp)
      have d4 := K4.out.cell z4 (by simp)
      have d5 := K4.out.cell z5 (by simp)
      have d6 := K4.out.cell z6 (by simp)
      clear hn4 hs4 ho4 hf4 z0 z1 z2 z3 z4 z5 z6 c0 c1 c2 c3 c4 c5 c6
      go_wp2_with fail
      refine (HW.out _ K4.out F2 R2 B4.out.ref).mono ?_
      intro e w5 hx
      obtain ⟨F5, R5, a5, c5', k5, z5, he, hn5, hs5⟩ := hx
      subst he
      rw [← HE.out] at hn5
      have B5 := Lib.hid (B4.out.stepRef hn5 hs5)
      clear hn5 hs5 d0 d1 d2 d3 d4 d5 d6
      go_wp2_with fail
      go_roundw
      case rel => exact ⟨k + 1, F4, R4, F5, R5, by omega, by omega, by go_num, by rw [HNk1.out]; exact B5.out⟩
      case measure => simp [intOf]; omega
    · have HE := Lib.hid (show builtN false o1 o2 sl k = builtN false o1 o2 sl 60 from by
        by_cases h : k < len
        · have : k = 60 := by omega
          rw [this]
        · have hl := HL.out
          rw [builtN_end _ _ _ _ 60 (by omega), builtN_end _ _ _ _ k (by omega)])
      rw [HE.out] at BB
      rcases (show (k < len ∧ ¬ k < 60) ∨ (¬ k < len ∧ True) from by by_cases h : k < len; exact .inl ⟨h, by omega⟩; exact .inr ⟨h, trivial⟩) with ⟨h1, h2⟩ | ⟨h1, h2⟩
      all_goals
        clear hlt
        go_wp2_with fail
        go_ret2
        exact ⟨n, F, R, q, F2, R2, rfl, BB.out⟩
end Go.Proofs.YtnjoklcddodfeaaGreatDoor
