/-
  ConeWords, parts: rows of words filled up, rows compared, the law's argument opened.
-/
import Derived.Test.YthjaihmjdnijnaaConeTell2
import Derived.Test.YthjaihmjdnijnaaCopyLaws
import Derived.Test.YthjaihmjdnijnaaLawIn
import Derived.Test.YthjaihmjdnijnaaStepOpen
import Derived.Laws.CopyOwn
namespace Go.Proofs.Ythjaihmjdnijnaa
open Go.ChangeShapes Go.WideShapes Go.ChangeAt Go.RowKit Go.Deep Go.Joins
open Go.Maps (Keyed)
open Go.WideMaps
set_option linter.unusedVariables false
set_option linter.unusedSimpArgs false

variable {w w' : World} {p q : Nat} {F R S : List Nat} {g g2 : Gr}
set_option maxHeartbeats 800000 in
theorem words_c (a b : Option Addr) (c d n : Nat) (l : List Nat) (w : World) (hl : l.length = n) (hn : n ≤ 1000000) (ha : SlN w .u64 a l) (hb : SlN w .u64 b l) :
    Calls Try.prog 25 #[.slice a n c, .slice b n d] w fun e w' => e = .returned (.bool true) ∧ ∃ k, w' = w.drewN k := by
  have HL := Lib.hid hl
  have HA := Lib.hid ha
  have HB := Lib.hid hb
  clear hl ha hb
  go_enter Try.func25, Try.ntmps25
  go_wp2_with fail
  go_loopw [5] (fun i wr => ∃ k m : Nat, k ≤ n ∧ i = .int .i64 k ∧ wr = w.drewN m) (fun i _ => n - (intOf i).toNat)
  case atStart => exact ⟨0, 0, Nat.zero_le _, rfl, rfl⟩
  case round =>
    obtain ⟨k, m, hk, rfl, rfl⟩ := hrel
    by_cases hlt : k < n
    · have hkl : k < l.length := by rw [HL.out]; exact hlt
      obtain ⟨ad, rfl, hcx⟩ := HA.out k hkl
      obtain ⟨ad2, rfl, hcy⟩ := HB.out k hkl
      generalize l[k] = x at *
      go_wp2_with fail
      go_quiet (fail)
      go_wp2_with fail
      go_roundw
      case rel => exact ⟨k + 1, _, by omega, by go_num, rfl⟩
      case measure => simp [intOf]; omega
    · go_wp2_with fail
      go_ret
      exact ⟨rfl, m, rfl⟩
theorem own_whole {e : TypeId} {gb n : Nat} {xs : List Value} (h : Own w e (some ⟨gb, 0, none⟩) n n xs) : w.heap[gb]? = some (.cells xs.toArray e (0, 0)) := by
  rcases h.2 with ⟨hv, _⟩ | ⟨g, c, cur, hv, _, hg, hle, _, hsz, htk⟩
  · cases hv
  · injection hv with h1 h2 h3
    injection h1 with h1
    injection h1 with h1
    subst h1 h3
    rw [hg]
    have hl : cur.toList.length = n := by rw [Array.length_toList, hsz, Nat.mul_one]
    have h4 : cur.toList = xs := by
      have := htk
      rw [Nat.mul_one, List.take_of_length_le (by omega)] at this
      exact this
    rw [← h4]
theorem whole_own {e : TypeId} {gb n : Nat} {xs : List Value} (h : w.heap[gb]? = some (.cells xs.toArray e (0, 0))) (hl : xs.length = n) (hn : n ≤ maxLen) : Own w e (some ⟨gb, 0, none⟩) n n xs :=
  ⟨by rw [hl, Nat.mul_one], .inr ⟨gb, n, xs.toArray, rfl, Nat.zero_le _, h, Nat.le_refl _, hn, by simp [hl], by simp [← hl]⟩⟩
def FillPost (m : Nat) (w : World) (e : Ending) (w' : World) : Prop := ∃ gb l, e = .returned (.slice (some ⟨gb, 0, none⟩) m m) ∧ l.length = m ∧ Words l ∧ Own w' 57 (some ⟨gb, 0, none⟩) m m (nats .u64 l) ∧ Kept [] w w' ∧ w.heap.size ≤ gb
set_option maxHeartbeats 800000 in
set_option maxRecDepth 100000 in
theorem filled_c (a : Option Addr) (c n m : Nat) (l : List Nat) (w : World) (hl : l.length = n) (hm : m ≤ 1000000) (hs : SlN w .u64 a l) (hw : Words l) :
    Calls Try.prog 23 #[.slice a n c, .int .i64 m] w (FillPost m w) := by
  have HL := Lib.hid hl
  have HS := Lib.hid hs
  have HW := Lib.hid hw
  clear hl hs hw
  obtain ⟨cs, hcs⟩ : ∃ cs, cs = (nats .u64 l).take (min n m) := ⟨_, rfl⟩
  have HCL := Lib.hid (show cs.length = Nat.min n m from by rw [hcs, List.length_take, nats_length, HL.out]; show min (min n m) n = min n m; omega)
  have HCV := Lib.hid (show ∀ j v, cs[j]? = some v → j < l.length ∧ v = .int .u64 (l.getD j 0 : Nat) from fun j v h => by
    rw [hcs, List.getElem?_take] at h
    split at h
    · unfold nats at h
      rw [List.getElem?_map] at h
      cases hj : l[j]? with
      | none => rw [hj] at h; cases h
      | some x =>
        rw [hj] at h
        injection h with h
        exact ⟨(List.getElem?_eq_some_iff.1 hj).1, by rw [← h, List.getD_eq_getElem?_getD, hj]; rfl⟩
    · cases h)
  have HCN := Lib.hid (show splice (nats .u64 (List.replicate m 0)) 0 cs = nats .u64 (l.take (min n m) ++ List.replicate (m - min n m) 0) from by
    have h1 := HCL.out
    unfold splice
    rw [h1, hcs]
    unfold nats
    rw [← List.map_take, ← List.map_drop, ← List.map_take, List.drop_replicate, List.take_zero, List.map_nil, List.nil_append, List.map_append, Nat.zero_add])
  clear hcs
  have HBD := Lib.hid (show cs.length ≤ m from by rw [HCL.out]; exact Nat.min_le_right _ _)
  have HFIT := Lib.hid (show 0 + cs.length ≤ (nats .u64 (List.replicate m 0)).length from by rw [nats_length, List.length_replicate]; have := HBD.out; omega)
  have HONE := Lib.hid (show ∀ v ∈ cs, v.oneCell' = true from fun v hv => by
    obtain ⟨j, hj⟩ := List.getElem?_of_mem hv
    rw [(HCV.out j v hj).2]; rfl)
  have HSRC := Lib.hid (show ∀ W : World, Kept [] w W → 0 < cs.length → ∃ ad, a = some ad ∧ ∀ j v, cs[j]? = some v → W.cell? (ad.add j) = some v from fun W hk h0 => by
    obtain ⟨h1, -⟩ := HCV.out 0 _ (List.getElem?_eq_getElem h0)
    obtain ⟨ad, rfl, _⟩ := HS.out 0 h1
    refine ⟨ad, rfl, fun j v hj => ?_⟩
    obtain ⟨h2, rfl⟩ := HCV.out j v hj
    obtain ⟨ad', h3, h4⟩ := HS.out j h2
    injection h3 with h3
    subst h3
    rw [List.getD_eq_getElem?_getD, List.getElem?_eq_getElem h2]
    exact hk.cell h4 (by simp))
  go_enter Try.func23, Try.ntmps23
  go_wp2_with (first
    | (at_make; refine wpList_mk rfl rfl Try.underlying54 u64_info rfl rfl rfl (by omega) (by unfold maxLen; omega) ?_; intro w2 hown2 hst2; rw [nats_replicate] at hown2)
    | (with_reducible show wpList _ _ _ _ _ _; refine wpList_copy_splice (o := ⟨some 10, _, _, _, _, _⟩) rfl (.tmp 8) (.tmp 9) 54 54 rfl 57 Try.underlying54 (by kernel_rfl) (some ⟨w.heap.size, 0, none⟩) a m m n c rfl rfl w.heap.size 0 (nats .u64 (List.replicate m 0)) 57 (own_whole hown2) cs HCL.out (fun h0 => ⟨rfl, HSRC.out w2 hst2.kept h0⟩) HFIT.out HONE.out w.heap.size w hst2.kept.below (Nat.le_refl _) ?_; intro w3 hg3 hb3))

  rw [HCN.out] at hg3
  go_ret
  exact ⟨_, _, rfl, by rw [List.length_append, List.length_take, List.length_replicate, HL.out]; omega, fun x hx => by
    rcases List.mem_append.1 hx with h | h
    · exact HW.out x (List.mem_of_mem_take h)
    · rw [(List.mem_replicate.1 h).2]; omega, whole_own hg3.out (by rw [nats_length, List.length_append, List.length_take, List.length_replicate, HL.out]; omega) (by unfold maxLen; omega), Kept.of_below hb3, Nat.le_refl _⟩
end Go.Proofs.Ythjaihmjdnijnaa
