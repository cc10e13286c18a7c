/-
  Law 06: Does, joined; package net: Find, Bits, named.
-/
import Derived.Test.YtnjoklcddodfeaaDoorNetI
import Derived.Test.YtnjoklcddodfeaaDoorNetJ
namespace Go.Proofs.YtnjoklcddodfeaaDoor
open Go.ChangeShapes Go.WideShapes Go.ChangeAt Go.RowKit
open Go.Maps (Keyed)
open Go.WideMaps
set_option linter.unusedVariables false
set_option linter.unusedSimpArgs false

variable {w w' : World} {p n : Nat} {F R S : List Nat} {g : Gr} {N : Nt}
def FindPost (o : Option BR) (w : World) (e : Ending) (w' : World) : Prop :=
  (o = none ∧ e = .returned (.tuple #[.slice none 0 0, .bool false]) ∧ Kept [] w w') ∨
  ∃ r, o = some r ∧ ∃ a c, e = .returned (.tuple #[.slice a r.b.lits.length c, .bool true]) ∧ Own w' 41 a r.b.lits.length c (nats .u32 r.b.lits) ∧ Stepped w w' [] (ft a)
def findRow (rs : List BR) (s : ByteArray) : Option BR := (findP rs s).bind fun k => rs[k]?
theorem findP_first {rs : List BR} (hd : (rs.map fun r => r.b.name).Pairwise (· ≠ ·)) {k : Nat} (hk : k < rs.length) : findP rs rs[k].b.name = some k := by
  unfold findP
  rw [List.findIdx?_eq_some_iff_getElem]
  refine ⟨hk, by simp, fun j hj => ?_⟩
  have := List.pairwise_iff_getElem.1 hd j k (by simp; omega) (by simpa using hk) hj
  simpa using this
set_option maxHeartbeats 1600000 in
set_option maxRecDepth 100000 in
theorem named_c (h : NetAt w n F R N) (hgl : N.g.nodes.length ≤ 100000) (a : Option Addr) (c len : Nat) (rs : List BR) (hl : rs.length = len) (hm : len ≤ 100000) (hs : SlB w a rs)
    (hr : ∀ r ∈ rs, SlN w .u32 r.a r.b.lits ∧ 1 ≤ r.b.lits.length ∧ r.b.lits.length ≤ 64 ∧ mayB r.b.name = true ∧ ∀ x ∈ r.b.lits, N.g.ok x) (hd : (rs.map fun r => r.b.name).Pairwise (· ≠ ·)) :
    Calls Tryd.prog 28 #[.pointer (some ⟨n, 0, none⟩), .slice a len c] w (BoolIs true w) := by
  have HL := Lib.hid hl
  have HS := Lib.hid hs
  have HR := Lib.hid hr
  have HD := Lib.hid hd
  have HN := Lib.hid h
  clear hl hs hr hd h
  go_enter Tryd.func28, Tryd.ntmps28; (try simp only [List.append])
  go_wp2_with fail
  go_loopw [9] (fun i wr => ∃ k : Nat, k ≤ len ∧ i = .int .i64 k ∧ Kept [] w wr) (fun i _ => len - (intOf i).toNat)
  case atStart => exact ⟨0, Nat.zero_le _, rfl, .refl _ _⟩
  case round =>
    obtain ⟨k, hk, rfl, hkr⟩ := hrel
    have KR := Lib.hid hkr
    clear hkr
    by_cases hlt : k < len
    · have hkl : k < rs.length := by rw [HL.out]; exact hlt
      obtain ⟨b, rfl, h1, h2⟩ := (HS.out.kept0 KR.out) k hkl
      obtain ⟨r1, r2, r3, r4, r5⟩ := HR.out _ (List.getElem_mem hkl)
      have hsz : rs[k].b.name.size ≤ 140737488351232 := by
        have : rs[k].b.name.size ≤ 80 := by
          unfold mayB at r4
          simp only [Bool.and_eq_true, decide_eq_true_eq] at r4
          exact r4.1.2
        omega
      have HM := Lib.hid (fun (W : World) => show Calls Tryd.prog 17 #[.string rs[k].b.name] W (BoolIs true W) from by have h := mayname_c rs[k].b.name W hsz; rw [r4] at h; exact h)
      have HFI := Lib.hid (fun (W : World) (hk' : Kept [] w W) => show Calls Tryd.prog 41 #[.slice (some ⟨b, 0, none⟩) len c, .string rs[k].b.name] W (IntIs (k : Int) W) from by
        have h := find_c rs[k].b.name (some ⟨b, 0, none⟩) c len rs (w := W) HL.out (by omega) (HS.out.kept0 hk')
        rw [findP_first HD.out hkl] at h
        exact h)
      have HTH := Lib.hid (fun (W : World) (hk' : Kept [] w W) => show Calls Tryd.prog 29 #[.pointer (some ⟨n, 0, none⟩), .slice rs[k].a rs[k].b.lits.length rs[k].c] W (BoolIs true W) from by
        have h := there_c (HN.out.kept0 hk') (show N.g.nodes.length ≤ 200000 by omega) rs[k].a rs[k].c rs[k].b.lits.length rs[k].b.lits rfl (by omega) (r1.kept0 hk') (fun x hx => Gr.ok_lt (r5 x hx) (by omega))
        rw [gone_false.2 r5] at h
        exact h)
      clear r1 r4 r5 hsz
      generalize rs[k].b.lits.length = ll at *
      generalize rs[k].b.name = nm at *
      generalize rs[k].a = ra at *
      generalize rs[k].c = rc at *
      go_wp2_with fail
      obtain ⟨q, hq⟩ : ∃ q, q = wr.heap.size := ⟨_, rfl⟩
      obtain ⟨w1, hw1⟩ : ∃ w1, w1 = wr.alloc (.cells #[.string nm, .slice ra ll rc] 73) := ⟨_, rfl⟩
      have d0 : w1.cell? ⟨q, 0, none⟩ = some (.string nm) := by rw [hw1, hq]; exact blk_cell (heap_alloc_new wr _) 0
      have d1 : w1.cell? ⟨q, 1, none⟩ = some (.slice ra ll rc) := by rw [hw1, hq]; exact blk_cell (heap_alloc_new wr _) 1
      have K1 := Lib.hid (show Kept [] w w1 from by rw [hw1]; exact KR.out.alloc _)
      rw [← hw1, ← hq]
      clear hw1 hq h1 h2
      refine (HM.out _).mono ?_
      rintro e w2 ⟨rfl, hk2⟩
      have K2 := Lib.hid (K1.out.trans hk2)
      have e0 := hk2.cell d0 (by simp)
      have e1 := hk2.cell d1 (by simp)
      clear hk2 d0 d1
      go_wp2_with fail
      refine (HFI.out _ K2.out).mono ?_
      rintro e w3 ⟨rfl, hk3⟩
      have K3 := Lib.hid (K2.out.trans hk3)
      have f0 := hk3.cell e0 (by simp)
      have f1 := hk3.cell e1 (by simp)
      clear hk3 e0 e1
      go_wp2_with fail
      refine (HTH.out _ K3.out).mono ?_
      rintro e w4 ⟨rfl, hk4⟩
      have K4 := Lib.hid (K3.out.trans hk4)
      clear hk4 f0 f1
      go_wp2_with fail
      go_roundw
      case rel => exact ⟨k + 1, by omega, by go_num, K4.out⟩
      case measure => simp [intOf]; omega
    · go_wp2_with fail
      go_ret
      exact ⟨rfl, KR.out⟩
end Go.Proofs.YtnjoklcddodfeaaDoor
