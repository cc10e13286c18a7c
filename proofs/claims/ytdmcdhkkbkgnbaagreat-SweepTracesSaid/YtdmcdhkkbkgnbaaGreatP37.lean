/-
  Package orreryref06: MayName, Find, New; orreryref03: There of any literals, Many of two.
-/
import Derived.Test.YtdmcdhkkbkgnbaaGreatP36
import Derived.Test.YtdmcdhkkbkgnbaaGreatP18
namespace Go.Proofs.YtdmcdhkkbkgnbaaGreat
open Go.ChangeShapes Go.WideShapes Go.ChangeAt Go.RowKit
open Go.Maps (Keyed)
open Go.WideMaps
set_option linter.unusedVariables false
set_option linter.unusedSimpArgs false

variable {w w' : World} {p q n : Nat} {F R S : List Nat} {g : Gr} {N : Nt}
theorem lit_ne {x L : Nat} (h : x ≠ L) : ((x : Int) != (L : Int)) = true := by simp; omega
theorem lit_eq {x L : Nat} (h : x = L) : ((x : Int) != (L : Int)) = false := by simp; omega
theorem byte_cases (c : Nat) : (97 ≤ c ∧ c ≤ 122) ∨ (65 ≤ c ∧ c ≤ 90) ∨ (48 ≤ c ∧ c ≤ 57) ∨ c = 95 ∨ c = 64 ∨ c = 63 ∨ c < 48 ∨ (57 < c ∧ c < 63) ∨ (90 < c ∧ c < 95) ∨ c = 96 ∨ 122 < c := by omega
set_option maxHeartbeats 3200000 in
set_option maxRecDepth 100000 in
theorem mayname06 (s : ByteArray) (w : World) (hs : s.size ≤ 140737488351232) : Calls Tryz.prog 56 #[.string s] w fun e w' => e = .returned (.bool (mayB s)) ∧ w = w' := by
  by_cases h0 : s.size < 1
  · have HM := Lib.hid (show mayB s = false from by unfold mayB; rw [show decide (0 < s.size) = false from decide_eq_false (by omega)]; rfl)
    go_enter Tryz.func56, Tryz.ntmps56
    go_wp2_with fail
    go_ret
    exact ⟨by rw [HM.out]; rfl, rfl⟩
  by_cases h8 : 80 < s.size
  · have HM := Lib.hid (show mayB s = false from by unfold mayB; rw [show decide (s.size ≤ 80) = false from decide_eq_false (by omega)]; simp)
    go_enter Tryz.func56, Tryz.ntmps56
    go_wp2_with fail
    go_ret
    exact ⟨by rw [HM.out]; rfl, rfl⟩
  have HM := Lib.hid (show mayB s = allOk s from by unfold mayB; rw [decide_eq_true (show 0 < s.size by omega), decide_eq_true (show s.size ≤ 80 by omega)]; rfl)
  go_enter Tryz.func56, Tryz.ntmps56
  go_wp2_with fail
  go_loop [3] (fun i => ∃ k : Nat, k ≤ s.size ∧ i = .int .i64 k ∧ ∀ j (h : j < s.size), j < k → okR (s[j]'h).toNat = true) (fun i => s.size - (intOf i).toNat)
  case atStart => exact ⟨0, Nat.zero_le _, rfl, fun j h h2 => by omega⟩
  case round =>
    obtain ⟨k, hk, rfl, hall⟩ := hrel
    have HALL := Lib.hid hall
    clear hall
    by_cases hlt : k < s.size
    · have HG := Lib.hid (fun (ho : okR (s[k]'hlt).toNat = true) => show ∀ j (h : j < s.size), j < k + 1 → okR (s[j]'h).toNat = true from fun j h h2 => by
        rcases Nat.lt_or_ge j k with h3 | h3
        · exact HALL.out j h h3
        · have : j = k := by omega
          subst this; exact ho)
      have HB := Lib.hid (fun (ho : okR (s[k]'hlt).toNat = false) => allOk_no s k hlt ho)
      have HI := Lib.hid (okR_iff (s[k]'hlt).toNat)
      have hyes : ((97 ≤ (s[k]'hlt).toNat ∧ (s[k]'hlt).toNat ≤ 122) ∨ (65 ≤ (s[k]'hlt).toNat ∧ (s[k]'hlt).toNat ≤ 90) ∨ (48 ≤ (s[k]'hlt).toNat ∧ (s[k]'hlt).toNat ≤ 57) ∨ ((s[k]'hlt).toNat = 95) ∨ ((s[k]'hlt).toNat = 64) ∨ ((s[k]'hlt).toNat = 63)) ∨
          ((s[k]'hlt).toNat < 48 ∨ (57 < (s[k]'hlt).toNat ∧ (s[k]'hlt).toNat < 63) ∨ (90 < (s[k]'hlt).toNat ∧ (s[k]'hlt).toNat < 95) ∨ ((s[k]'hlt).toNat = 96) ∨ 122 < (s[k]'hlt).toNat) := by omega
      rcases hyes with hyes | hno
      · have HG2 := Lib.hid (HG.out (HI.out.2 hyes))
        clear HG HB HI
        rcases hyes with ⟨h1, h2⟩ | ⟨h1, h2⟩ | ⟨h1, h2⟩ | h1 | h1 | h1
        ·
          go_wp2_with fail
          go_round
          case rel => exact ⟨k + 1, by omega, by go_num, HG2.out⟩
          case measure => simp [intOf]; omega
        ·
          go_wp2_with fail
          go_round
          case rel => exact ⟨k + 1, by omega, by go_num, HG2.out⟩
          case measure => simp [intOf]; omega
        ·
          go_wp2_with fail
          go_round
          case rel => exact ⟨k + 1, by omega, by go_num, HG2.out⟩
          case measure => simp [intOf]; omega
        ·
          have e95 : (((s[k]'hlt).toNat : Int) != 95) = false := lit_eq (L := 95) (by omega)
          go_wp2_with fail
          go_round
          case rel => exact ⟨k + 1, by omega, by go_num, HG2.out⟩
          case measure => simp [intOf]; omega
        ·
          have e95 : (((s[k]'hlt).toNat : Int) != 95) = true := lit_ne (L := 95) (by omega)
          have e64 : (((s[k]'hlt).toNat : Int) != 64) = false := lit_eq (L := 64) (by omega)
          go_wp2_with fail
          go_round
          case rel => exact ⟨k + 1, by omega, by go_num, HG2.out⟩
          case measure => simp [intOf]; omega
        ·
          have e95 : (((s[k]'hlt).toNat : Int) != 95) = true := lit_ne (L := 95) (by omega)
          have e64 : (((s[k]'hlt).toNat : Int) != 64) = true := lit_ne (L := 64) (by omega)
          have e63 : (((s[k]'hlt).toNat : Int) != 63) = false := lit_eq (L := 63) (by omega)
          go_wp2_with fail
          go_round
          case rel => exact ⟨k + 1, by omega, by go_num, HG2.out⟩
          case measure => simp [intOf]; omega
      · have HB2 := Lib.hid (HB.out (by
          cases h : okR (s[k]'hlt).toNat
          · rfl
          · have := HI.out.1 h; omega))
        clear HG HB HI
        have e95 : (((s[k]'hlt).toNat : Int) != 95) = true := lit_ne (L := 95) (by omega)
        have e64 : (((s[k]'hlt).toNat : Int) != 64) = true := lit_ne (L := 64) (by omega)
        have e63 : (((s[k]'hlt).toNat : Int) != 63) = true := lit_ne (L := 63) (by omega)
        rcases hno with h1 | ⟨h1, h2⟩ | ⟨h1, h2⟩ | h1 | h1
        ·
          go_wp2_with fail
          go_ret
          exact ⟨by rw [HM.out, HB2.out]; rfl, rfl⟩
        ·
          have d57 : decide (((s[k]'hlt).toNat : Int) ≤ 57) = false := decide_eq_false (by omega)
          go_wp2_with fail
          go_ret
          exact ⟨by rw [HM.out, HB2.out]; rfl, rfl⟩
        ·
          have d57 : decide (((s[k]'hlt).toNat : Int) ≤ 57) = false := decide_eq_false (by omega)
          have d90 : decide (((s[k]'hlt).toNat : Int) ≤ 90) = false := decide_eq_false (by omega)
          go_wp2_with fail
          go_ret
          exact ⟨by rw [HM.out, HB2.out]; rfl, rfl⟩
        ·
          have d57 : decide (((s[k]'hlt).toNat : Int) ≤ 57) = false := decide_eq_false (by omega)
          have d90 : decide (((s[k]'hlt).toNat : Int) ≤ 90) = false := decide_eq_false (by omega)
          go_wp2_with fail
          go_ret
          exact ⟨by rw [HM.out, HB2.out]; rfl, rfl⟩
        ·
          have d57 : decide (((s[k]'hlt).toNat : Int) ≤ 57) = false := decide_eq_false (by omega)
          have d90 : decide (((s[k]'hlt).toNat : Int) ≤ 90) = false := decide_eq_false (by omega)
          have d122 : decide (((s[k]'hlt).toNat : Int) ≤ 122) = false := decide_eq_false (by omega)
          go_wp2_with fail
          go_ret
          exact ⟨by rw [HM.out, HB2.out]; rfl, rfl⟩
    · have HY := Lib.hid (show allOk s = true from (allOk_iff s).2 fun j h => HALL.out j h (by omega))
      go_wp2_with fail
      go_ret
      exact ⟨by rw [HM.out, HY.out]; rfl, rfl⟩
def FindR (o : Option BR) (w : World) (e : Ending) (w' : World) : Prop :=
  (o = none ∧ e = .returned (.tuple #[.slice none 0 0, .bool false]) ∧ w = w') ∨ ∃ r, o = some r ∧ e = .returned (.tuple #[.slice r.a r.b.lits.length r.c, .bool true]) ∧ w = w'
set_option maxHeartbeats 1600000 in
set_option maxRecDepth 100000 in
theorem find06 (s : ByteArray) (a : Option Addr) (c len : Nat) (rs : List BR) (hl : rs.length = len) (hm : len ≤ 1000000) (hs : SlB w a rs) :
    Calls Tryz.prog 104 #[.slice a len c, .string s] w (FindR (findRow rs s) w) := by
  have HL := Lib.hid hl
  have HS := Lib.hid hs
  clear hl hs
  go_enter Tryz.func104, Tryz.ntmps104
  go_wp2_with fail
  go_loop [6] (fun i => ∃ k : Nat, k ≤ len ∧ i = .int .i64 k ∧ ∀ j (h : j < rs.length), j < k → rs[j].b.name ≠ s) (fun i => len - (intOf i).toNat)
  case atStart => exact ⟨0, Nat.zero_le _, rfl, fun j h h2 => by omega⟩
  case round =>
    obtain ⟨k, hk, rfl, hall⟩ := hrel
    have HA := Lib.hid hall
    clear hall
    by_cases hlt : k < len
    · have hkl : k < rs.length := by rw [HL.out]; exact hlt
      obtain ⟨b, rfl, h1, h2⟩ := HS.out k hkl
      by_cases hn : rs[k].b.name = s
      · have HF := Lib.hid (show findRow rs s = some rs[k] from by
          unfold findRow
          rw [show findP rs s = some k from by
            unfold findP
            rw [List.findIdx?_eq_some_iff_getElem]
            exact ⟨hkl, by simpa using hn, fun j hj => by simpa using HA.out j (by omega) hj⟩]
          exact List.getElem?_eq_getElem hkl)
        have e1 : (rs[k].b.name.toList == s.toList) = true := by rw [str_eq]; simpa using hn
        clear hn
        generalize rs[k] = r at *
        go_wp2_with fail
        go_ret2
        exact .inr ⟨r, HF.out, rfl, rfl⟩
      · have HN := Lib.hid (show ∀ j (h : j < rs.length), j < k + 1 → rs[j].b.name ≠ s from fun j h hj => by
          rcases Nat.lt_or_ge j k with h3 | h3
          · exact HA.out j h h3
          · have : j = k := by omega
            subst this; exact hn)
        have e1 : (rs[k].b.name.toList == s.toList) = false := by rw [str_eq]; simpa using hn
        clear hn
        generalize rs[k] = r at *
        go_wp2_with fail
        go_round
        case rel => exact ⟨k + 1, by omega, by go_num, HN.out⟩
        case measure => simp [intOf]; omega
    · obtain rfl : k = len := by omega
      have HF := Lib.hid (show findRow rs s = none from by
        unfold findRow
        rw [show findP rs s = none from by
          unfold findP
          rw [List.findIdx?_eq_none_iff]
          intro x hx
          obtain ⟨j, hj, rfl⟩ := List.getElem_of_mem hx
          simpa using HA.out j hj (by have := HL.out; omega)]
        rfl)
      go_wp2_with fail
      go_ret2
      exact .inl ⟨HF.out, rfl, rfl⟩
set_option maxHeartbeats 800000 in
theorem there03 (hg : RefAt w q R g) (hm : g.nodes.length ≤ 90000) (a : Option Addr) (c n : Nat) (l : List Nat) (hl : l.length = n) (hn : n ≤ 140737488351232) (hs : SlN w .u32 a l) (hx : ∀ x ∈ l, x < 4294967296) :
    Calls Tryz.prog 59 #[.pointer (some ⟨q, 0, none⟩), .slice a n c] w fun e w' => e = .returned (.bool (!gone g l)) ∧ ∃ k, w' = w.drewN k := by
  obtain ⟨an, cn, rfl, hc⟩ := hg
  have c2 := hc.c2
  have HL := Lib.hid hl
  have HS := Lib.hid hs
  have HX := Lib.hid hx
  clear hc hl hs hx
  obtain ⟨nn, hnn⟩ : ∃ k, k = g.nodes.length := ⟨_, rfl⟩
  have HNN := Lib.hid hnn
  rw [← hnn] at c2 hm
  clear hnn
  go_enter Tryz.func59, Tryz.ntmps59
  go_wp2_with fail
  go_loopw [5] (fun i wr => ∃ k m : Nat, k ≤ n ∧ i = .int .i64 k ∧ wr = w.drewN m ∧ ∀ x ∈ l.take k, g.ok x) (fun i _ => n - (intOf i).toNat)
  case atStart => exact ⟨0, 0, Nat.zero_le _, rfl, rfl, by simp⟩
  case round =>
    obtain ⟨k, m, hk, rfl, rfl, hall⟩ := hrel
    have HA := Lib.hid hall
    clear hall
    by_cases hlt : k < n
    · have hkl : k < l.length := by rw [HL.out]; exact hlt
      obtain ⟨ad, rfl, hcx⟩ := HS.out k hkl
      have hx := HX.out _ (List.getElem_mem hkl)
      have HT := Lib.hid (take_snoc l k hkl)
      have HM := Lib.hid (List.getElem_mem hkl)
      generalize l[k] = x at *
      by_cases hok : x / 2 < nn
      · have t1 : decide ((nn : Int) ≤ (x : Int) / 2) = false := by rw [decide_eq_false_iff_not]; omega
        have HA2 := Lib.hid (show ∀ y ∈ l.take (k + 1), g.ok y from fun y hy => by
          rw [HT.out] at hy
          rcases List.mem_append.1 hy with hy | hy
          · exact HA.out y hy
          · rw [List.mem_singleton] at hy
            subst hy
            unfold Gr.ok; rw [← HNN.out]; exact hok)
        go_wp2_with fail
        go_quiet (fail)
        go_wp2_with fail
        go_roundw
        case rel => exact ⟨k + 1, _, by omega, by go_num, rfl, HA2.out⟩
        case measure => simp [intOf]; omega
      · have t1 : decide ((nn : Int) ≤ (x : Int) / 2) = true := by rw [decide_eq_true_eq]; omega
        have HG := Lib.hid (show gone g l = true from by
          unfold gone
          rw [List.any_eq_true]
          exact ⟨x, HM.out, by rw [decide_eq_true_eq, ← HNN.out]; omega⟩)
        go_wp2_with fail
        go_quiet (fail)
        go_wp2_with fail
        go_ret
        exact ⟨by rw [HG.out]; rfl, _, World.drewN_drewN _ _ _⟩
    · obtain rfl : k = n := by omega
      have HG := Lib.hid (show gone g l = false from gone_false.2 (by have h := HA.out; rw [List.take_of_length_le (by rw [HL.out]; exact Nat.le_refl _)] at h; exact h))
      go_wp2_with fail
      go_ret
      exact ⟨by rw [HG.out]; rfl, m, rfl⟩
def TwoPost (g : Gr) (r : Gr × Nat) (bad : Bool) (w : World) (q : Nat) (R : List Nat) (e : Ending) (w' : World) : Prop :=
  if bad = true then e = .returned (.tuple #[.int .u32 0, .int .i64 1]) ∧ Kept [] w w' else RefPost r w q R e w'
set_option maxHeartbeats 1600000 in
theorem many_two (op : Int) (two : Gr → Nat → Nat → Gr × Nat) (x y : Nat) (hop : op = 1 ∨ op = 3) (hg : RefAt w q R g) (hm : g.nodes.length ≤ 70000) (b : Nat) (hs : SlN w .u32 (some ⟨b, 0, none⟩) [x, y]) (hx : x < 4294967296) (hy : y < 4294967296)
    (h2 : ∀ W, RefAt W q R g → g.ok x → g.ok y → Calls Tryz.prog 132 #[.pointer (some ⟨q, 0, none⟩), .int .i64 op, .int .u32 (x : Int), .int .u32 (y : Int)] W (RefPost (two g x y) W q R)) :
    Calls Tryz.prog 99 #[.pointer (some ⟨q, 0, none⟩), .int .i64 op, .slice (some ⟨b, 0, none⟩) 2 2] w (TwoPost g (two g x y) (gone g [x, y]) w q R) := by
  have HT := Lib.hid (there03 hg (by omega) (some ⟨b, 0, none⟩) 2 2 [x, y] rfl (by omega) hs (by intro z hz; simp at hz; omega))
  have HG := Lib.hid hg
  have H2 := Lib.hid h2
  have c0 : w.cell? ⟨b, 0, none⟩ = some (.int .u32 (x : Int)) := by obtain ⟨ad, h1, h2⟩ := hs 0 (by simp); injection h1 with h1; subst h1; simpa [add_at] using h2
  have c1 : w.cell? ⟨b, 1, none⟩ = some (.int .u32 (y : Int)) := by obtain ⟨ad, h1, h2⟩ := hs 1 (by simp); injection h1 with h1; subst h1; simpa [add_at] using h2
  clear hg h2 hs
  cases hgn : gone g [x, y] with
  | true =>
    rw [hgn] at HT
    clear hgn c0 c1
    rcases hop with rfl | rfl
    all_goals
      go_enter Tryz.func99, Tryz.ntmps99
      go_wp2_with fail
      refine HT.out.mono ?_
      rintro e w1 ⟨rfl, m, hm1⟩
      have K := Lib.hid (show Kept [] w w1 from by rw [hm1]; exact (Kept.refl [] w).drewN m)
      clear hm1
      go_wp2_with fail
      go_ret2
      exact by unfold TwoPost; rw [if_pos rfl]; exact ⟨rfl, K.out⟩
  | false =>
    rw [hgn] at HT
    have hok := gone_false.1 hgn
    have HOK := Lib.hid (And.intro (hok x (by simp)) (hok y (by simp)))
    clear hgn hok
    generalize two g x y = r at *
    rcases hop with rfl | rfl
    all_goals
      go_enter Tryz.func99, Tryz.ntmps99
      go_wp2_with fail
      refine HT.out.mono ?_
      rintro e w1 ⟨rfl, m, hm1⟩
      have K := Lib.hid (show Kept [] w w1 from by rw [hm1]; exact (Kept.refl [] w).drewN m)
      have d0 := K.out.cell c0 (by simp)
      have d1 := K.out.cell c1 (by simp)
      clear hm1 c0 c1
      go_wp2_with fail
      go_loopw [8, 9] (fun v i wr => (i = .int .i64 1 ∧ v = .int .u32 (x : Int) ∧ wr = w1) ∨ (i = .int .i64 2 ∧ v = .int .u32 ((r.2 : Nat) : Int) ∧ ∃ R', RefAt wr q R' r.1 ∧ Stepped w wr R R')) (fun _ i _ => 2 - (intOf i).toNat)
      case atStart => exact .inl ⟨rfl, rfl, rfl⟩
      case round =>
        rcases hrel with ⟨rfl, rfl, rfl⟩ | ⟨rfl, rfl, R', h1, h2⟩
        · go_wp2_with fail
          refine (H2.out _ (HG.out.kept0 K.out) HOK.out.1 HOK.out.2).mono ?_
          rintro e w3 ⟨R3, rfl, hr3, hs3⟩
          have HR3 := Lib.hid hr3
          have HS3 := Lib.hid (((Stepped.refl w R).keep0 K.out).trans hs3)
          clear hr3 hs3
          go_wp2_with fail
          go_roundw
          case rel => exact .inr ⟨rfl, rfl, R3, HR3.out, HS3.out⟩
          case measure => simp [intOf]
        · have HR3 := Lib.hid h1
          have HS3 := Lib.hid h2
          clear h1 h2
          go_wp2_with fail
          go_ret2
          exact by unfold TwoPost; rw [if_neg (by simp)]; exact ⟨R', rfl, HR3.out, HS3.out⟩
def NewPostR (N : Nt) (w : World) (e : Ending) (w' : World) : Prop := ∃ n F, e = .returned (.tuple #[.pointer (some ⟨n, 0, none⟩), .int .i64 0]) ∧ RNetAt w' n F [] N ∧ Kept [] w w' ∧ ∀ b ∈ F, w.heap.size ≤ b
set_option maxHeartbeats 800000 in
theorem new06 (s : ByteArray) (o1 o2 : Bool) (w : World) (hs : s.size ≤ 140737488351232) (hm : mayB s = true) : Calls Tryz.prog 33 #[.string s, .bool o1, .bool o2] w (NewPostR (newN s o1 o2) w) := by
  have H := Lib.hid (fun (W : World) => mayname06 s W hs)
  rw [hm] at H
  clear hm
  go_enter Tryz.func33, Tryz.ntmps33
  go_wp2_with fail
  refine (H.out _).mono ?_
  rintro e w1 ⟨rfl, rfl⟩
  go_wp2_with fail
  refine (ref_new o1 o2 _).mono ?_
  rintro e w2 ⟨p, G, rfl, hg, hst⟩
  have GG := Lib.hid hg
  have K2 := Lib.hid hst.kept
  have FR := Lib.hid (show ∀ b ∈ G, w.heap.size ≤ b from fun b hb => (hst.fresh b hb).elim (by simp) id)
  clear hg hst
  go_wp2_with fail
  refine bodyPost_ret (v := .tuple #[.pointer (some ⟨w2.heap.size, 0, none⟩), .int .i64 0]) (by simp [results, Tryz.results33, go_sem]) rfl ⟨w2.heap.size, _, rfl, ⟨p, G, none, 0, none, 0, none, 0, [], [], rfl, by simp [rowsOf], ?_⟩, K2.out.alloc _, ?_⟩
  · have hk3 : Kept [] w2 (w2.alloc (.cells (nCells p (newN s o1 o2) none 0 none 0 none 0) 44)) := (Kept.refl [] w2).alloc _
    exact ⟨heap_alloc_new w2 _, GG.out.kept0 hk3, ⟨World.ownsRow_nil _ _ _ _, rfl, by simp⟩, World.ownsRow_nil _ _ _ _, ⟨World.ownsRow_nil _ _ _ _, rfl, by simp⟩, by simp [ft], by simp [rowsOf]⟩
  · intro b hb
    simp only [ft, List.mem_cons, List.mem_append, Option.map_none, Option.toList_none, List.not_mem_nil, or_false] at hb
    rcases hb with rfl | hb
    · exact K2.out.size
    · exact FR.out b hb
end Go.Proofs.YtdmcdhkkbkgnbaaGreat
