/-
  Contracts of package aig: the calls (And, Or, Xor, Mux, Raw) of any literals that are there.
-/
import Derived.Test.YtenhbhckhncamaaP08
namespace Go.Proofs.Ytenhbhckhncamaa
open Go.ChangeShapes Go.WideShapes Go.ChangeAt Go.RowKit
open Go.Maps (Keyed)
open Go.WideMaps
set_option linter.unusedVariables false

variable {w w' : World} {p : Nat} {F S : List Nat} {g : Gr}

theorem aig_asks1 (x q : Nat) (n cn : Nat) (an : Option Addr) (w : World) (hx : x < 4294967296) (hm : n ≤ 1000000) (hq : w.cell? ⟨q, 0, none⟩ = some (.pointer (some ⟨p, 0, none⟩))) (c2 : w.cell? ⟨p, 2, none⟩ = some (.slice an n cn)) :
    Calls Try.prog 69 #[.int .u32 x, .pointer (some ⟨q, 0, none⟩)] w fun e w' => e = .returned (.bool (decide (n ≤ x / 2))) ∧ ∃ k, w' = w.drewN k := by
  have HF := Lib.hid (show decide ((n : Int) ≤ (x : Int) / 2) = decide (n ≤ x / 2) by rw [Bool.eq_iff_iff]; simp; omega)
  go_enter Try.func69, Try.ntmps69
  go_wp2_with fail
  go_quiet ((go_at_call 41; exact q_same (lit_node _ _ hx)))
  go_wp2
  go_ret
  exact ⟨by rw [← HF.out]; rfl, _, rfl⟩

def bad (n : Nat) (l : List Nat) : Bool := l.any fun x => decide (n ≤ x / 2)
def IdxPost (n : Nat) (l : List Nat) (w : World) (e : Ending) (w' : World) : Prop := ∃ r : Int, e = .returned (.int .i64 r) ∧ decide (0 ≤ r) = bad n l ∧ ∃ k, w' = w.drewN k
set_option maxHeartbeats 400000 in
theorem aig_index (a : Option Addr) (c len : Nat) (l : List Nat) (q : Nat) (n cn : Nat) (an : Option Addr) (w : World) (hl : l.length = len) (hlm : len ≤ 1000000) (hs : SlN w .u32 a l) (hr : Lits l) (hm : n ≤ 1000000) (hq : w.cell? ⟨q, 0, none⟩ = some (.pointer (some ⟨p, 0, none⟩))) (c2 : w.cell? ⟨p, 2, none⟩ = some (.slice an n cn)) :
    Calls Try.prog 61 #[.slice a len c, .func (.func 69) #[] #[.pointer (some ⟨q, 0, none⟩)]] w (IdxPost n l w) := by
  have HL := Lib.hid hl; clear hl
  have HR := Lib.hid hr; clear hr
  have HC := Lib.hid (fun (x : Nat) (k : Nat) (hx : x < 4294967296) => aig_asks1 x q n cn an (w.drewN k) hx hm hq c2)
  clear hq c2
  go_enter Try.func61, Try.ntmps61
  go_wp2
  go_loopw [8] (fun i wr => ∃ k m : Nat, k ≤ len ∧ i = .int .i64 k ∧ wr = w.drewN m ∧ ∀ x ∈ l.take k, x / 2 < n) (fun i _ => len - (intOf i).toNat)
  case atStart => exact ⟨0, 0, Nat.zero_le _, rfl, rfl, by simp⟩
  case round =>
    obtain ⟨k, m, hk, rfl, rfl, hall⟩ := hrel
    have HA := Lib.hid hall; clear hall
    by_cases hlt : k < len
    · have hkl : k < l.length := by have := HL.out; omega
      obtain ⟨ad, rfl, hc⟩ := hs k hkl
      have hx := HR.out _ (List.getElem_mem hkl)
      have HM := Lib.hid (List.getElem_mem hkl)
      have HT := Lib.hid (take_snoc l k hkl)
      generalize l[k] = x at *
      by_cases hb : n ≤ x / 2
      · have HB := Lib.hid (show bad n l = true by unfold bad; rw [List.any_eq_true]; exact ⟨x, HM.out, by simpa using hb⟩)
        have hd : decide (n ≤ x / 2) = true := by simpa using hb
        go_wp2_with (go_at_call 69; refine (HC.out x m hx).mono ?_; rintro e w1 ⟨rfl, k1, rfl⟩)
        go_ret
        exact ⟨(k : Int), rfl, by rw [HB.out]; simp, _, rfl⟩
      · have hd : decide (n ≤ x / 2) = false := by simpa using hb
        go_wp2_with (go_at_call 69; refine (HC.out x m hx).mono ?_; rintro e w1 ⟨rfl, k1, rfl⟩)
        go_roundw
        case rel =>
          refine ⟨k + 1, m + k1, by omega, by go_num, by first | rfl | rw [World.drewN_drewN], ?_⟩
          rw [HT.out]
          intro y hy
          rcases List.mem_append.1 hy with h | h
          · exact HA.out y h
          · simp at h; omega
        case measure => simp [intOf]; omega
    · obtain rfl : k = len := by omega
      have HB := Lib.hid (show bad n l = false by
        have h := HA.out
        rw [List.take_of_length_le (by have := HL.out; omega)] at h
        unfold bad; rw [List.any_eq_false]; intro x hx; have := h x hx; simp; omega)
      go_wp2
      go_ret
      exact ⟨-1, rfl, by rw [HB.out]; rfl, _, rfl⟩

theorem aig_contains (a : Option Addr) (c len : Nat) (l : List Nat) (q : Nat) (n cn : Nat) (an : Option Addr) (w : World) (hl : l.length = len) (hlm : len ≤ 1000000) (hs : SlN w .u32 a l) (hr : Lits l) (hm : n ≤ 1000000) (hq : w.cell? ⟨q, 0, none⟩ = some (.pointer (some ⟨p, 0, none⟩))) (c2 : w.cell? ⟨p, 2, none⟩ = some (.slice an n cn)) :
    Calls Try.prog 43 #[.slice a len c, .func (.func 69) #[] #[.pointer (some ⟨q, 0, none⟩)]] w fun e w' => e = .returned (.bool (bad n l)) ∧ ∃ k, w' = w.drewN k := by
  have HC := Lib.hid (aig_index a c len l q n cn an w hl hlm hs hr hm hq c2)
  clear hq c2 hl
  go_enter Try.func43, Try.ntmps43
  go_wp2_with (go_at_call 61; refine HC.out.mono ?_; rintro e w1 ⟨r, rfl, hr1, k1, rfl⟩; have HR1 := Lib.hid hr1; clear hr1)
  go_ret
  exact ⟨by rw [← HR1.out]; rfl, _, rfl⟩

def asksE (g : Gr) (l : List Nat) : Int := if bad g.nodes.length l then 1 else 0
theorem bad_ok {l : List Nat} (h : ∀ x ∈ l, g.ok x) : bad g.nodes.length l = false := by
  unfold bad; rw [List.any_eq_false]; intro x hx; have := h x hx; unfold Gr.ok at this; simp; omega
theorem asksE_ok {l : List Nat} (h : ∀ x ∈ l, g.ok x) : asksE g l = 0 := by unfold asksE; rw [bad_ok h]; rfl
set_option maxHeartbeats 400000 in
theorem aig_asks (hg : GraphAt w p F g) (hm : g.nodes.length ≤ 200000) (a : Option Addr) (c len : Nat) (l : List Nat) (hl : l.length = len) (hlm : len ≤ 1000000) (hs : SlN w .u32 a l) (hr : Lits l) :
    Calls Try.prog 56 #[.pointer (some ⟨p, 0, none⟩), .slice a len c] w fun e w' => e = .returned (.int .i64 (asksE g l)) ∧ Kept [] w w' := by
  obtain ⟨an, cn, ai, ci, m, f, rfl, hc⟩ := hg
  have HC := Lib.hid hc; clear hc
  have HQ := Lib.hid (fun (w : World) (hs : SlN w .u32 a l) (q : Nat) (hq : w.cell? ⟨q, 0, none⟩ = some (.pointer (some ⟨p, 0, none⟩))) (c2 : w.cell? ⟨p, 2, none⟩ = some (.slice an g.nodes.length cn)) => aig_contains a c len l q g.nodes.length cn an w hl hlm hs hr (by omega) hq c2)
  have HE := Lib.hid (show asksE g l = if bad g.nodes.length l then 1 else 0 from rfl)
  clear hl hr
  generalize bad g.nodes.length l = b at *
  cases b
  all_goals
    go_enter Try.func56, Try.ntmps56
    go_wp2_with (first
      | (go_at_call 37; refine (aig_none p m _ (cell_alloc HC.out.c4 _)).mono ?_; rintro e w' ⟨rfl, rfl⟩)
      | (go_at_call 43; refine (HQ.out _ (hs.kept0 ((Kept.refl [] w).alloc _)) w.heap.size (by simp [World.cell?_alloc_new]) (cell_alloc HC.out.c2 _)).mono ?_; rintro e w' ⟨rfl, k1, rfl⟩))
    go_ret
    exact ⟨by rw [HE.out]; rfl, ((Kept.refl [] w).alloc _).drewN _⟩

set_option maxHeartbeats 800000 in
theorem aig_many_and (hg : GraphAt w p F g) (a : Option Addr) (c len : Nat) (l : List Nat) (hl : l.length = len) (hm : g.nodes.length + 3 * len ≤ 199000) (hs : SlN w .u32 a l) (hok : ∀ x ∈ l, g.ok x) (hd : ∀ b ∈ ft a, b ∉ F) :
    Calls Try.prog 51 #[.pointer (some ⟨p, 0, none⟩), .int .u32 1, .func (.func 52) #[.pointer (some ⟨p, 0, none⟩)] #[], .slice a len c] w (Twos (manyG andG g 1 l) w p F) := by
  have hlits : Lits l := fun x hx => Gr.ok_lt (hok x hx) (by omega)
  have HAS := Lib.hid (aig_asks hg (by omega) a c len l hl (by omega) hs hlits)
  have HE := Lib.hid (asksE_ok hok)
  have HGA := Lib.hid hg; clear hg
  have HL := Lib.hid hl; clear hl
  have HOK := Lib.hid hok; clear hok
  have HS := Lib.hid hs; clear hs
  have HD := Lib.hid hd; clear hd hlits
  have HSP := Lib.hid (fun (l' : List Nat) (h : ∀ x ∈ l', g.ok x) => manyG_spec andG (fun g a b hw ha hb => two_and g a b hw ha hb) HGA.out.wf (start := 1) (by omega) l' h)
  go_enter Try.func51, Try.ntmps51
  go_wp2_with (go_at_call 56; refine HAS.out.mono ?_; rintro e w0 ⟨rfl, hk0⟩; rw [HE.out])
  have HG0 := Lib.hid (HGA.out.kept0 hk0)
  go_loopw [1, 13, 22] (fun v u i wr => ∃ (k : Nat) (F' : List Nat), k ≤ len ∧ i = .int .i64 k ∧ v = .int .u32 ((manyG andG g 1 (l.take k)).2 : Nat) ∧ GraphAt wr p F' (manyG andG g 1 (l.take k)).1 ∧ Stepped w wr F F') (fun _ _ i _ => len - (intOf i).toNat)
  case atStart => exact ⟨0, F, Nat.zero_le _, rfl, rfl, HG0.out, ⟨hk0.more (by simp), fun b hb => .inl hb⟩⟩
  case round =>
    obtain ⟨k, F', hk, rfl, rfl, hgr, hst⟩ := hrel
    by_cases hlt : k < len
    · have hkl : k < l.length := by have := HL.out; omega
      have hsk : SlN wr .u32 a l := HS.out.kept hst.kept HD.out
      obtain ⟨ad, rfl, hc⟩ := hsk k hkl
      have hxo := HOK.out _ (List.getElem_mem hkl)
      have HT := Lib.hid (take_snoc l k hkl)
      have HPR := Lib.hid (HSP.out (l.take k) (fun y hy => HOK.out y (List.mem_of_mem_take hy)))
      have hle := HPR.out.2.1.le.2
      rw [List.length_take, Nat.min_eq_left (by omega)] at hle
      by_cases hk0' : k = 0
      · have kz : ((k : Int) == 0) = true := by simp [hk0']
        have HK0 := Lib.hid hk0'; clear hk0' hle hxo
        generalize l[k] = x at *
        go_wp2
        go_roundw
        case rel =>
          refine ⟨k + 1, F', by omega, by go_num, ?_, ?_, hst⟩
          · rw [HT.out, HK0.out]; rfl
          · rw [HT.out, HK0.out]
            have h := hgr
            rw [HK0.out] at h
            exact h
        case measure => simp [intOf]; omega
      · have kz : ((k : Int) == 0) = false := by simp [hk0']
        have HK1 := Lib.hid (manyG_snoc andG g 1 (l.take k) l[k] (fun h => by
          have := congrArg List.length h
          rw [List.length_take, Nat.min_eq_left (by omega)] at this
          exact hk0' this))
        have HTW := Lib.hid (aig_and hgr (by omega) HPR.out.2.2 (HPR.out.2.1.ok hxo))
        clear hk0' hle hxo
        generalize l[k] = x at *
        generalize manyG andG g 1 (l.take k) = r at *
        go_wp2_with (go_at_call 52; refine HTW.out.mono ?_; rintro e w1 ⟨F1, rfl, hg1, hst1⟩)
        go_roundw
        case rel => exact ⟨k + 1, F1, by omega, by go_num, by rw [HT.out, HK1.out], by rw [HT.out, HK1.out]; exact hg1, hst.trans hst1⟩
        case measure => simp [intOf]; omega
    · obtain rfl : k = len := by omega
      have HT := Lib.hid (show l.take k = l from List.take_of_length_le (by have := HL.out; omega))
      go_wp2
      go_ret2
      exact ⟨F', by rw [HT.out]; rfl, by rw [← HT.out]; exact hgr, hst⟩
theorem aig_And_ (hg : GraphAt w p F g) (a : Option Addr) (c len : Nat) (l : List Nat) (hl : l.length = len) (hm : g.nodes.length + 3 * len ≤ 199000) (hs : SlN w .u32 a l) (hok : ∀ x ∈ l, g.ok x) (hd : ∀ b ∈ ft a, b ∉ F) :
    Calls Try.prog 24 #[.pointer (some ⟨p, 0, none⟩), .slice a len c] w (Twos (manyG andG g 1 l) w p F) := by
  have HM := Lib.hid (aig_many_and hg a c len l hl hm hs hok hd)
  clear hg hl hs hok hd
  go_enter Try.func24, Try.ntmps24
  go_wp2_with (go_at_call 51; refine HM.out.mono ?_; rintro e w1 ⟨F1, rfl, hg1, hst1⟩)
  go_ret2
  exact ⟨F1, rfl, hg1, hst1⟩

set_option maxHeartbeats 800000 in
theorem aig_many_or (hg : GraphAt w p F g) (a : Option Addr) (c len : Nat) (l : List Nat) (hl : l.length = len) (hm : g.nodes.length + 3 * len ≤ 199000) (hs : SlN w .u32 a l) (hok : ∀ x ∈ l, g.ok x) (hd : ∀ b ∈ ft a, b ∉ F) :
    Calls Try.prog 51 #[.pointer (some ⟨p, 0, none⟩), .int .u32 0, .func (.func 53) #[.pointer (some ⟨p, 0, none⟩)] #[], .slice a len c] w (Twos (manyG orG g 0 l) w p F) := by
  have hlits : Lits l := fun x hx => Gr.ok_lt (hok x hx) (by omega)
  have HAS := Lib.hid (aig_asks hg (by omega) a c len l hl (by omega) hs hlits)
  have HE := Lib.hid (asksE_ok hok)
  have HGA := Lib.hid hg; clear hg
  have HL := Lib.hid hl; clear hl
  have HOK := Lib.hid hok; clear hok
  have HS := Lib.hid hs; clear hs
  have HD := Lib.hid hd; clear hd hlits
  have HSP := Lib.hid (fun (l' : List Nat) (h : ∀ x ∈ l', g.ok x) => manyG_spec orG (fun g a b hw ha hb => two_or g a b hw ha hb) HGA.out.wf (start := 0) (by omega) l' h)
  go_enter Try.func51, Try.ntmps51
  go_wp2_with (go_at_call 56; refine HAS.out.mono ?_; rintro e w0 ⟨rfl, hk0⟩; rw [HE.out])
  have HG0 := Lib.hid (HGA.out.kept0 hk0)
  go_loopw [1, 13, 22] (fun v u i wr => ∃ (k : Nat) (F' : List Nat), k ≤ len ∧ i = .int .i64 k ∧ v = .int .u32 ((manyG orG g 0 (l.take k)).2 : Nat) ∧ GraphAt wr p F' (manyG orG g 0 (l.take k)).1 ∧ Stepped w wr F F') (fun _ _ i _ => len - (intOf i).toNat)
  case atStart => exact ⟨0, F, Nat.zero_le _, rfl, rfl, HG0.out, ⟨hk0.more (by simp), fun b hb => .inl hb⟩⟩
  case round =>
    obtain ⟨k, F', hk, rfl, rfl, hgr, hst⟩ := hrel
    by_cases hlt : k < len
    · have hkl : k < l.length := by have := HL.out; omega
      have hsk : SlN wr .u32 a l := HS.out.kept hst.kept HD.out
      obtain ⟨ad, rfl, hc⟩ := hsk k hkl
      have hxo := HOK.out _ (List.getElem_mem hkl)
      have HT := Lib.hid (take_snoc l k hkl)
      have HPR := Lib.hid (HSP.out (l.take k) (fun y hy => HOK.out y (List.mem_of_mem_take hy)))
      have hle := HPR.out.2.1.le.2
      rw [List.length_take, Nat.min_eq_left (by omega)] at hle
      by_cases hk0' : k = 0
      · have kz : ((k : Int) == 0) = true := by simp [hk0']
        have HK0 := Lib.hid hk0'; clear hk0' hle hxo
        generalize l[k] = x at *
        go_wp2
        go_roundw
        case rel =>
          refine ⟨k + 1, F', by omega, by go_num, ?_, ?_, hst⟩
          · rw [HT.out, HK0.out]; rfl
          · rw [HT.out, HK0.out]
            have h := hgr
            rw [HK0.out] at h
            exact h
        case measure => simp [intOf]; omega
      · have kz : ((k : Int) == 0) = false := by simp [hk0']
        have HK1 := Lib.hid (manyG_snoc orG g 0 (l.take k) l[k] (fun h => by
          have := congrArg List.length h
          rw [List.length_take, Nat.min_eq_left (by omega)] at this
          exact hk0' this))
        have HTW := Lib.hid (aig_or hgr (by omega) HPR.out.2.2 (HPR.out.2.1.ok hxo))
        clear hk0' hle hxo
        generalize l[k] = x at *
        generalize manyG orG g 0 (l.take k) = r at *
        go_wp2_with (go_at_call 53; refine HTW.out.mono ?_; rintro e w1 ⟨F1, rfl, hg1, hst1⟩)
        go_roundw
        case rel => exact ⟨k + 1, F1, by omega, by go_num, by rw [HT.out, HK1.out], by rw [HT.out, HK1.out]; exact hg1, hst.trans hst1⟩
        case measure => simp [intOf]; omega
    · obtain rfl : k = len := by omega
      have HT := Lib.hid (show l.take k = l from List.take_of_length_le (by have := HL.out; omega))
      go_wp2
      go_ret2
      exact ⟨F', by rw [HT.out]; rfl, by rw [← HT.out]; exact hgr, hst⟩
theorem aig_Or_ (hg : GraphAt w p F g) (a : Option Addr) (c len : Nat) (l : List Nat) (hl : l.length = len) (hm : g.nodes.length + 3 * len ≤ 199000) (hs : SlN w .u32 a l) (hok : ∀ x ∈ l, g.ok x) (hd : ∀ b ∈ ft a, b ∉ F) :
    Calls Try.prog 25 #[.pointer (some ⟨p, 0, none⟩), .slice a len c] w (Twos (manyG orG g 0 l) w p F) := by
  have HM := Lib.hid (aig_many_or hg a c len l hl hm hs hok hd)
  clear hg hl hs hok hd
  go_enter Try.func25, Try.ntmps25
  go_wp2_with (go_at_call 51; refine HM.out.mono ?_; rintro e w1 ⟨F1, rfl, hg1, hst1⟩)
  go_ret2
  exact ⟨F1, rfl, hg1, hst1⟩

set_option maxHeartbeats 800000 in
theorem aig_many_xor (hg : GraphAt w p F g) (a : Option Addr) (c len : Nat) (l : List Nat) (hl : l.length = len) (hm : g.nodes.length + 3 * len ≤ 199000) (hs : SlN w .u32 a l) (hok : ∀ x ∈ l, g.ok x) (hd : ∀ b ∈ ft a, b ∉ F) :
    Calls Try.prog 51 #[.pointer (some ⟨p, 0, none⟩), .int .u32 0, .func (.func 54) #[.pointer (some ⟨p, 0, none⟩)] #[], .slice a len c] w (Twos (manyG xorG g 0 l) w p F) := by
  have hlits : Lits l := fun x hx => Gr.ok_lt (hok x hx) (by omega)
  have HAS := Lib.hid (aig_asks hg (by omega) a c len l hl (by omega) hs hlits)
  have HE := Lib.hid (asksE_ok hok)
  have HGA := Lib.hid hg; clear hg
  have HL := Lib.hid hl; clear hl
  have HOK := Lib.hid hok; clear hok
  have HS := Lib.hid hs; clear hs
  have HD := Lib.hid hd; clear hd hlits
  have HSP := Lib.hid (fun (l' : List Nat) (h : ∀ x ∈ l', g.ok x) => manyG_spec xorG (fun g a b hw ha hb => two_xor g a b hw ha hb) HGA.out.wf (start := 0) (by omega) l' h)
  go_enter Try.func51, Try.ntmps51
  go_wp2_with (go_at_call 56; refine HAS.out.mono ?_; rintro e w0 ⟨rfl, hk0⟩; rw [HE.out])
  have HG0 := Lib.hid (HGA.out.kept0 hk0)
  go_loopw [1, 13, 22] (fun v u i wr => ∃ (k : Nat) (F' : List Nat), k ≤ len ∧ i = .int .i64 k ∧ v = .int .u32 ((manyG xorG g 0 (l.take k)).2 : Nat) ∧ GraphAt wr p F' (manyG xorG g 0 (l.take k)).1 ∧ Stepped w wr F F') (fun _ _ i _ => len - (intOf i).toNat)
  case atStart => exact ⟨0, F, Nat.zero_le _, rfl, rfl, HG0.out, ⟨hk0.more (by simp), fun b hb => .inl hb⟩⟩
  case round =>
    obtain ⟨k, F', hk, rfl, rfl, hgr, hst⟩ := hrel
    by_cases hlt : k < len
    · have hkl : k < l.length := by have := HL.out; omega
      have hsk : SlN wr .u32 a l := HS.out.kept hst.kept HD.out
      obtain ⟨ad, rfl, hc⟩ := hsk k hkl
      have hxo := HOK.out _ (List.getElem_mem hkl)
      have HT := Lib.hid (take_snoc l k hkl)
      have HPR := Lib.hid (HSP.out (l.take k) (fun y hy => HOK.out y (List.mem_of_mem_take hy)))
      have hle := HPR.out.2.1.le.2
      rw [List.length_take, Nat.min_eq_left (by omega)] at hle
      by_cases hk0' : k = 0
      · have kz : ((k : Int) == 0) = true := by simp [hk0']
        have HK0 := Lib.hid hk0'; clear hk0' hle hxo
        generalize l[k] = x at *
        go_wp2
        go_roundw
        case rel =>
          refine ⟨k + 1, F', by omega, by go_num, ?_, ?_, hst⟩
          · rw [HT.out, HK0.out]; rfl
          · rw [HT.out, HK0.out]
            have h := hgr
            rw [HK0.out] at h
            exact h
        case measure => simp [intOf]; omega
      · have kz : ((k : Int) == 0) = false := by simp [hk0']
        have HK1 := Lib.hid (manyG_snoc xorG g 0 (l.take k) l[k] (fun h => by
          have := congrArg List.length h
          rw [List.length_take, Nat.min_eq_left (by omega)] at this
          exact hk0' this))
        have HTW := Lib.hid (aig_xor hgr (by omega) HPR.out.2.2 (HPR.out.2.1.ok hxo))
        clear hk0' hle hxo
        generalize l[k] = x at *
        generalize manyG xorG g 0 (l.take k) = r at *
        go_wp2_with (go_at_call 54; refine HTW.out.mono ?_; rintro e w1 ⟨F1, rfl, hg1, hst1⟩)
        go_roundw
        case rel => exact ⟨k + 1, F1, by omega, by go_num, by rw [HT.out, HK1.out], by rw [HT.out, HK1.out]; exact hg1, hst.trans hst1⟩
        case measure => simp [intOf]; omega
    · obtain rfl : k = len := by omega
      have HT := Lib.hid (show l.take k = l from List.take_of_length_le (by have := HL.out; omega))
      go_wp2
      go_ret2
      exact ⟨F', by rw [HT.out]; rfl, by rw [← HT.out]; exact hgr, hst⟩
theorem aig_Xor_ (hg : GraphAt w p F g) (a : Option Addr) (c len : Nat) (l : List Nat) (hl : l.length = len) (hm : g.nodes.length + 3 * len ≤ 199000) (hs : SlN w .u32 a l) (hok : ∀ x ∈ l, g.ok x) (hd : ∀ b ∈ ft a, b ∉ F) :
    Calls Try.prog 26 #[.pointer (some ⟨p, 0, none⟩), .slice a len c] w (Twos (manyG xorG g 0 l) w p F) := by
  have HM := Lib.hid (aig_many_xor hg a c len l hl hm hs hok hd)
  clear hg hl hs hok hd
  go_enter Try.func26, Try.ntmps26
  go_wp2_with (go_at_call 51; refine HM.out.mono ?_; rintro e w1 ⟨F1, rfl, hg1, hst1⟩)
  go_ret2
  exact ⟨F1, rfl, hg1, hst1⟩
end Go.Proofs.Ytenhbhckhncamaa
