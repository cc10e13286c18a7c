/-
  Law 04: numbers as literals, brought inside.
-/
import Derived.Test.YthjaihmjdnijnaaBuild
namespace Go.Proofs.Ythjaihmjdnijnaa
open Go.ChangeShapes Go.WideShapes Go.ChangeAt Go.RowKit
open Go.Maps (Keyed)
open Go.WideMaps
set_option linter.unusedVariables false
set_option linter.unusedSimpArgs false

variable {w w' : World} {p q : Nat} {F R S : List Nat} {g g2 : Gr}
theorem u32_info : (Try.prog.info? 36).map (fun i => (i.zero, i.size, i.bytes)) = some (some (.int .u32 0), 1, 4) := by kernel_rfl
def RowOf (e0 : TypeId) (l : List Nat) (w : World) (e : Ending) (w' : World) : Prop := ∃ a c n, e = .returned (.slice a n c) ∧ Own w' e0 a n c (nats .u32 l) ∧ Stepped w w' [] (ft a)
set_option maxHeartbeats 800000 in
theorem lits_c (a : Option Addr) (c n : Nat) (l : List Nat) (w : World) (hl : l.length = n) (hn : n ≤ 140737488351232) (hs : SlN w .u32 a l) :
    Calls Try.prog 13 #[.slice a n c] w (RowOf 37 (l.take 40) w) := by
  have HL := Lib.hid hl
  clear hl
  go_enter Try.func13, Try.ntmps13
  go_wp2_with fail
  go_loopw [3, 4] (fun v i wr => ∃ (k : Nat) (a' : Option Addr) (c' : Nat), k ≤ n ∧ k ≤ 40 ∧ i = .int .i64 k ∧ v = .slice a' k c' ∧ Own wr 37 a' k c' (nats .u32 (l.take k)) ∧ Stepped w wr [] (ft a')) (fun _ i _ => 40 - (intOf i).toNat)
  case atStart => exact ⟨0, none, 0, Nat.zero_le _, by omega, rfl, rfl, Own.nil _ _, .refl _ _⟩
  case round =>
    obtain ⟨k, a', c', hk, h40, rfl, rfl, hown, hst⟩ := hrel
    by_cases hlt : k < n ∧ k < 40
    · obtain ⟨h1, h2⟩ := hlt
      have hkl : k < l.length := by rw [HL.out]; exact h1
      obtain ⟨ad, rfl, hcx⟩ := (hs.kept0 hst.kept) k hkl
      have HT := Lib.hid (take_snoc l k hkl)
      generalize l[k] = x at *
      go_wp2_with (at_builtin; refine wpList_push rfl rfl Try.underlying31 lit_info rfl rfl rfl hown rfl (by unfold maxLen; omega) (by omega) ?_; intro a1 c1 w5 hown5 hst5)
      go_roundw
      case rel => exact ⟨k + 1, a1, c1, by omega, by omega, by go_num, rfl, by rw [HT.out, ← nats_append]; exact hown5, hst.trans hst5⟩
      case measure => simp [intOf]; omega
    · have HE := Lib.hid (show l.take k = l.take 40 from by
        have := HL.out
        by_cases h : k < 40
        · rw [List.take_of_length_le (by omega), List.take_of_length_le (by omega)]
        · rw [show k = 40 by omega])
      rw [HE.out] at hown
      have HO := Lib.hid hown
      have HS := Lib.hid hst
      clear hown hst HE
      by_cases h1 : k < n
      · have h2 : ¬ k < 40 := by omega
        clear hlt
        go_wp2_with fail
        go_ret
        exact ⟨a', c', k, rfl, HO.out, HS.out⟩
      · clear hlt
        go_wp2_with fail
        go_ret
        exact ⟨a', c', k, rfl, HO.out, HS.out⟩
def insideL (l : List Nat) (m : Nat) : List Nat := (l.take 40).map (· % (2 * m))
set_option maxHeartbeats 800000 in
theorem inside_c (a : Option Addr) (c n m : Nat) (l : List Nat) (w : World) (hl : l.length = n) (hn : n ≤ 140737488351232) (hm : m ≤ 1000000) (hm1 : 1 ≤ m) (hs : SlN w .u32 a l) (hr : ∀ x ∈ l, x < 4294967296) :
    Calls Try.prog 14 #[.slice a n c, .int .i64 m] w (RowOf 36 (insideL l m) w) := by
  have HL := Lib.hid hl
  have HR := Lib.hid hr
  have u1 : IntKind.u32.wrap (2 * (m : Int)) = 2 * (m : Int) := by simp only [IntKind.wrap_u32]; omega
  have u2 : ((2 * (m : Int)) == 0) = false := by simp only [beq_eq_false_iff_ne, ne_eq]; omega
  clear hl hr
  go_enter Try.func14, Try.ntmps14
  go_wp2_with fail
  go_loopw [5, 6] (fun v i wr => ∃ (k : Nat) (a' : Option Addr) (c' : Nat), k ≤ n ∧ k ≤ 40 ∧ i = .int .i64 k ∧ v = .slice a' k c' ∧ Own wr 36 a' k c' (nats .u32 ((l.take k).map (· % (2 * m)))) ∧ Stepped w wr [] (ft a')) (fun _ i _ => 40 - (intOf i).toNat)
  case atStart => exact ⟨0, none, 0, Nat.zero_le _, by omega, rfl, rfl, Own.nil _ _, .refl _ _⟩
  case round =>
    obtain ⟨k, a', c', hk, h40, rfl, rfl, hown, hst⟩ := hrel
    by_cases hlt : k < n ∧ k < 40
    · obtain ⟨h1, h2⟩ := hlt
      have hkl : k < l.length := by rw [HL.out]; exact h1
      obtain ⟨ad, rfl, hcx⟩ := (hs.kept0 hst.kept) k hkl
      have HT := Lib.hid (show (l.take (k + 1)).map (· % (2 * m)) = (l.take k).map (· % (2 * m)) ++ [l[k] % (2 * m)] by rw [take_snoc l k hkl, List.map_append]; rfl)
      have hx := HR.out _ (List.getElem_mem hkl)
      generalize l[k] = x at *
      have HX := Lib.hid (show (x : Int) % (2 * (m : Int)) = ((x % (2 * m) : Nat) : Int) from by push_cast; rfl)
      go_wp2_with (at_builtin; (try rw [HX.out]); refine wpList_push rfl rfl Try.underlying25 u32_info rfl rfl rfl hown rfl (by unfold maxLen; omega) (by omega) ?_; intro a1 c1 w5 hown5 hst5)
      go_roundw
      case rel => exact ⟨k + 1, a1, c1, by omega, by omega, by go_num, rfl, by rw [HT.out, ← nats_append]; exact hown5, hst.trans hst5⟩
      case measure => simp [intOf]; omega
    · have HE := Lib.hid (show (l.take k).map (· % (2 * m)) = insideL l m from by
        have := HL.out
        unfold insideL
        by_cases h : k < 40
        · rw [List.take_of_length_le (by omega), List.take_of_length_le (by omega)]
        · rw [show k = 40 by omega])
      rw [HE.out] at hown
      have HO := Lib.hid hown
      have HS := Lib.hid hst
      clear hown hst HE
      by_cases h1 : k < n
      · have h2 : ¬ k < 40 := by omega
        clear hlt
        go_wp2_with fail
        go_ret
        exact ⟨a', c', k, rfl, HO.out, HS.out⟩
      · clear hlt
        go_wp2_with fail
        go_ret
        exact ⟨a', c', k, rfl, HO.out, HS.out⟩
theorem inside_len (l : List Nat) (m : Nat) : (insideL l m).length ≤ 40 := by unfold insideL; rw [List.length_map, List.length_take]; omega
theorem inside_take (l : List Nat) (m : Nat) : (insideL l m).take 40 = insideL l m := List.take_of_length_le (inside_len l m)
theorem inside_ok {g : Gr} (hw : WF g.nodes) (l : List Nat) : ∀ x ∈ insideL l g.nodes.length, g.ok x := by
  intro x hx
  obtain ⟨y, _, rfl⟩ := List.mem_map.1 hx
  exact mod_ok hw y
end Go.Proofs.Ythjaihmjdnijnaa
