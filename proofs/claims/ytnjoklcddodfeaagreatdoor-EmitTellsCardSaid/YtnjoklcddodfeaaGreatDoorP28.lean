/-
  Law 06: Does, joined; package net: Find, Bits, named.
-/
import Derived.Test.YtnjoklcddodfeaaGreatDoorP26
import Derived.Test.YtnjoklcddodfeaaGreatDoorP27
namespace Go.Proofs.YtnjoklcddodfeaaGreatDoor
open Go.ChangeShapes Go.WideShapes Go.ChangeAt Go.RowKit
open Go.Maps (Keyed)
open Go.WideMaps
set_option linter.unusedVariables false
set_option linter.unusedSimpArgs false

variable {w w' : World} {p n : Nat} {F R S : List Nat} {g : Gr} {N : Nt}
theorem does_c (s : NStp) (la : Option Addr) (lc : Nat) (h : NetAt w n F R N) (hok : N.g.nodes.length ≤ 50000 ∧ N.inb.length ≤ 10000 ∧ N.regs.length ≤ 10000 ∧ N.outb.length ≤ 10000) (hs : s.ok) (hsl : SlN w .u32 la s.lits) :
    Calls Tryz.prog 27 #[.pointer (some ⟨n, 0, none⟩), stepV s la lc] w (AddInPost (doesN N s) w n F R) := by
  unfold doesN
  by_cases h0 : s.what = 0
  · rw [if_pos h0]; exact does_0 s la lc h hok hs h0
  rw [if_neg h0]
  by_cases h1 : s.what = 1
  · rw [if_pos h1]; exact does_1 s la lc h hok hs h1
  rw [if_neg h1]
  by_cases h2 : s.what = 2
  · rw [if_pos h2]; exact does_2 s la lc h hok hs h2
  rw [if_neg h2]
  by_cases h3 : s.what = 3
  · rw [if_pos h3]; exact does_3 s la lc h hok hs hsl h3
  rw [if_neg h3]
  by_cases h4 : s.what = 4
  · rw [if_pos (.inl h4)]; exact does_4 s la lc h hok hs h4
  by_cases h5 : s.what = 5
  · rw [if_pos (.inr (.inl h5))]; exact does_5 s la lc h hok hs h5
  by_cases h6 : s.what = 6
  · rw [if_pos (.inr (.inr h6))]; exact does_6 s la lc h hok hs h6
  rw [if_neg (by omega)]
  by_cases h7 : s.what = 7
  · rw [if_pos h7]; exact does_7 s la lc h hok hs h7
  rw [if_neg h7]
  by_cases h8 : s.what = 8
  · rw [if_pos h8]; exact does_8 s la lc h hok hs h8
  rw [if_neg h8]
  exact does_9 s la lc h (by omega)
def FindPost (o : Option BR) (w : World) (e : Ending) (w' : World) : Prop :=
  (o = none ∧ e = .returned (.tuple #[.slice none 0 0, .bool false]) ∧ Kept [] w w') ∨
  ∃ r, o = some r ∧ ∃ a c, e = .returned (.tuple #[.slice a r.b.lits.length c, .bool true]) ∧ Own w' 39 a r.b.lits.length c (nats .u32 r.b.lits) ∧ Stepped w w' [] (ft a)
def findRow (rs : List BR) (s : ByteArray) : Option BR := (findP rs s).bind fun k => rs[k]?
set_option maxHeartbeats 800000 in
set_option maxRecDepth 100000 in
theorem find_row (s : ByteArray) (a : Option Addr) (c len : Nat) (rs : List BR) (hl : rs.length = len) (hm : len ≤ 1000000) (hs : SlB w a rs) (hr : ∀ r ∈ rs, SlN w .u32 r.a r.b.lits ∧ 1 ≤ r.b.lits.length ∧ r.b.lits.length ≤ 1000) :
    Calls Tryz.prog 23 #[.slice a len c, .string s] w (FindPost (findRow rs s) w) := by
  have HF := Lib.hid (find_c s a c len rs hl hm hs)
  cases hf : findP rs s with
  | none =>
    have HR := Lib.hid (show findRow rs s = none from by unfold findRow; rw [hf]; rfl)
    have HF2 := Lib.hid (show Calls Tryz.prog 56 #[.slice a len c, .string s] w (IntIs (-1) w) from by have h := HF.out; rw [hf] at h; exact h)
    clear hl hs hr HF hf
    go_enter Tryz.func23, Tryz.ntmps23
    go_wp2_with fail
    refine HF2.out.mono ?_
    rintro e w1 ⟨rfl, hk⟩
    have K1 := Lib.hid hk
    clear hk
    go_wp2_with fail
    go_ret2
    exact .inl ⟨HR.out, rfl, K1.out⟩
  | some k =>
    have hk : k < rs.length := (List.findIdx?_eq_some_iff_getElem.1 hf).1
    have HR := Lib.hid (show findRow rs s = some rs[k] from by unfold findRow; rw [hf]; exact List.getElem?_eq_getElem hk)
    have HF2 := Lib.hid (show Calls Tryz.prog 56 #[.slice a len c, .string s] w (IntIs (k : Int) w) from by have h := HF.out; rw [hf] at h; exact h)
    have hS := Lib.hid (fun (W : World) (hk' : Kept [] w W) => (hs.kept0 hk') k hk)
    have hRW := hr _ (List.getElem_mem hk)
    have hane : rs[k].a = none → rs[k].b.lits.length = 0 := fun e => by
      obtain ⟨ad, h3, _⟩ := hRW.1 0 (by omega)
      rw [e] at h3; cases h3
    have HCL := Lib.hid (fun (W : World) (hk' : Kept [] w W) => clone_lits rs[k].a rs[k].c rs[k].b.lits.length rs[k].b.lits W rfl (hRW.1.kept0 hk') (by omega) hane)
    have hkl : k < len := by rw [← hl]; exact hk
    clear hl hs hr HF hf hRW hane
    generalize rs[k] = r at *
    go_enter Tryz.func23, Tryz.ntmps23
    go_wp2_with fail
    refine HF2.out.mono ?_
    rintro e w1 ⟨rfl, hk1⟩
    have K1 := Lib.hid hk1
    obtain ⟨b, rfl, h1, h2⟩ := hS.out w1 hk1
    clear hk1
    go_wp2_with fail
    refine (HCL.out _ K1.out).mono ?_
    rintro e w2 ⟨a2, c2, rfl, ho, hst⟩
    have HO := Lib.hid ho
    have HS2 := Lib.hid ((⟨K1.out, by simp⟩ : Stepped w w1 [] []).trans hst)
    clear ho hst h1 h2
    go_wp2_with fail
    go_ret2
    exact .inr ⟨r, HR.out, a2, c2, rfl, HO.out, HS2.out⟩
theorem findP_first {rs : List BR} (hd : (rs.map fun r => r.b.name).Pairwise (· ≠ ·)) {k : Nat} (hk : k < rs.length) : findP rs rs[k].b.name = some k := by
  unfold findP
  rw [List.findIdx?_eq_some_iff_getElem]
  refine ⟨hk, by simp, fun j hj => ?_⟩
  have := List.pairwise_iff_getElem.1 hd j k (by simp; omega) (by simpa using hk) hj
  simpa using this
set_option maxHeartbeats 1600000 in
set_option maxRecDepth 100000 in
theorem named_c (h : NetAt w n F R N) (hgl : N.g.nodes.length ≤ 100000) (a : Option Addr) (c len : Nat) (rs : List BR) (hl : rs.length = len) (hm : len ≤ 100000) (hs : SlB w a rs)
    (hr : ∀ r ∈ rs, SlN w .u32 r.a r.b.lits ∧ 1 ≤ r.b.lits.length ∧ r.b.lits.length ≤ 64 ∧ mayB r.b.name = true ∧ ∀ x ∈ r.b.lits, N.g.ok x) (hd : (rs.map fun r => r.b.name).Pairwise (· ≠ ·)) :
    Calls Tryz.prog 50 #[.pointer (some ⟨n, 0, none⟩), .slice a len c] w (BoolIs true w) := by
  have HL := Lib.hid hl
  have HS := Lib.hid hs
  have HR := Lib.hid hr
  have HD := Lib.hid hd
  have HN := Lib.hid h
  clear hl hs hr hd h
  go_enter Tryz.func50, Tryz.ntmps50; (try simp only [List.append])
  go_wp2_with fail
  go_loopw [9] (fun i wr => ∃ k : Nat, k ≤ len ∧ i = .int .i64 k ∧ Kept [] w wr) (fun i _ => len - (intOf i).toNat)
  case atStart => exact ⟨0, Nat.zero_le _, rfl, .refl _ _⟩
  case round =>
    obtain ⟨k, hk, rfl, hkr⟩ := hrel
    have KR := Lib.hid hkr
    clear hkr
    by_cases hlt : k < len
    · have hkl : k < rs.length := by rw [HL.out]; exact hlt
      obtain ⟨b, rfl, h1, h2⟩ := (HS.out.kept0 KR.out) k hkl
      obtain ⟨r1, r2, r3, r4, r5⟩ := HR.out _ (List.getElem_mem hkl)
      have hsz : rs[k].b.name.size ≤ 140737488351232 := by
        have : rs[k].b.name.size ≤ 80 := by
          unfold mayB at r4
          simp only [Bool.and_eq_true, decide_eq_true_eq] at r4
          exact r4.1.2
        omega
      have HM := Lib.hid (fun (W : World) => show Calls Tryz.prog 29 #[.string rs[k].b.name] W (BoolIs true W) from by have h := mayname_c rs[k].b.name W hsz; rw [r4] at h; exact h)
      have HFI := Lib.hid (fun (W : World) (hk' : Kept [] w W) => show Calls Tryz.prog 56 #[.slice (some ⟨b, 0, none⟩) len c, .string rs[k].b.name] W (IntIs (k : Int) W) from by
        have h := find_c rs[k].b.name (some ⟨b, 0, none⟩) c len rs (w := W) HL.out (by omega) (HS.out.kept0 hk')
        rw [findP_first HD.out hkl] at h
        exact h)
      have HTH := Lib.hid (fun (W : World) (hk' : Kept [] w W) => show Calls Tryz.prog 51 #[.pointer (some ⟨n, 0, none⟩), .slice rs[k].a rs[k].b.lits.length rs[k].c] W (BoolIs true W) from by
        have h := there_c (HN.out.kept0 hk') (show N.g.nodes.length ≤ 200000 by omega) rs[k].a rs[k].c rs[k].b.lits.length rs[k].b.lits rfl (by omega) (r1.kept0 hk') (fun x hx => Gr.ok_lt (r5 x hx) (by omega))
        rw [gone_false.2 r5] at h
        exact h)
      clear r1 r4 r5 hsz
      generalize rs[k].b.lits.length = ll at *
      generalize rs[k].b.name = nm at *
      generalize rs[k].a = ra at *
      generalize rs[k].c = rc at *
      go_wp2_with fail
      obtain ⟨q, hq⟩ : ∃ q, q = wr.heap.size := ⟨_, rfl⟩
      obtain ⟨w1, hw1⟩ : ∃ w1, w1 = wr.alloc (.cells #[.string nm, .slice ra ll rc] 79) := ⟨_, rfl⟩
      have d0 : w1.cell? ⟨q, 0, none⟩ = some (.string nm) := by rw [hw1, hq]; exact blk_cell (heap_alloc_new wr _) 0
      have d1 : w1.cell? ⟨q, 1, none⟩ = some (.slice ra ll rc) := by rw [hw1, hq]; exact blk_cell (heap_alloc_new wr _) 1
      have K1 := Lib.hid (show Kept [] w w1 from by rw [hw1]; exact KR.out.alloc _)
      rw [← hw1, ← hq]
      clear hw1 hq h1 h2
      refine (HM.out _).mono ?_
      rintro e w2 ⟨rfl, hk2⟩
      have K2 := Lib.hid (K1.out.trans hk2)
      have e0 := hk2.cell d0 (by simp)
      have e1 := hk2.cell d1 (by simp)
      clear hk2 d0 d1
      go_wp2_with fail
      refine (HFI.out _ K2.out).mono ?_
      rintro e w3 ⟨rfl, hk3⟩
      have K3 := Lib.hid (K2.out.trans hk3)
      have f0 := hk3.cell e0 (by simp)
      have f1 := hk3.cell e1 (by simp)
      clear hk3 e0 e1
      go_wp2_with fail
      refine (HTH.out _ K3.out).mono ?_
      rintro e w4 ⟨rfl, hk4⟩
      have K4 := Lib.hid (K3.out.trans hk4)
      clear hk4 f0 f1
      go_wp2_with fail
      go_roundw
      case rel => exact ⟨k + 1, by omega, by go_num, K4.out⟩
      case measure => simp [intOf]; omega
    · go_wp2_with fail
      go_ret
      exact ⟨rfl, KR.out⟩
end Go.Proofs.YtnjoklcddodfeaaGreatDoor
