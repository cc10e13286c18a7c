/-
  Chapter 09, plain: reading is writing's other way round: numbers, names, buses, rows.
-/
import Derived.Test.YtjgcfncganleoaaDoorTrcR
namespace Go.Proofs.YtjgcfncganleoaaDoor
set_option linter.unusedVariables false
set_option linter.unusedSimpArgs false

/-- a way of writing numbers by digits -/
structure DigOf (base : Nat) (T : Nat → List UInt8) (dg : Nat → UInt8) : Prop where
  two : 2 ≤ base
  small : ∀ n, n < base → T n = [dg n]
  big : ∀ n, ¬ n < base → T n = T (n / base) ++ [dg (n % base)]
  dig : ∀ d, d < base → digT base (dg d).toNat = some d
  inv : ∀ (c : UInt8) d, digT base c.toNat = some d → c = dg d ∧ d < base
theorem dec_dig : DigOf 10 Lib.decDigits (fun d => UInt8.ofNat (48 + d)) where
  two := by omega
  small n h := by rw [Lib.decDigits, dif_pos h]
  big n h := by rw [Lib.decDigits, dif_neg h]
  dig d h := by
    have e : (UInt8.ofNat (48 + d)).toNat = 48 + d := by rw [UInt8.toNat_ofNat']; omega
    rw [e]; unfold digT; rw [if_pos (by omega)]; congr 1; omega
  inv c d h := by
    have hc := u8_nat c
    unfold digT at h
    split at h
    · injection h with h
      refine ⟨UInt8.toNat_inj.1 ?_, by omega⟩
      rw [UInt8.toNat_ofNat']; omega
    · rw [if_neg (by omega)] at h; exact absurd h (by simp)
theorem hex_dig : DigOf 16 hexD hxd where
  two := by omega
  small n h := hexD_small h
  big n h := hexD_big h
  dig d h := by
    have e : (hxd d).toNat = if d < 10 then 48 + d else 87 + d := by
      unfold hxd; split <;> (rw [UInt8.toNat_ofNat']; omega)
    rw [e]; unfold digT
    by_cases h1 : d < 10
    · rw [if_pos h1, if_pos (by omega)]; congr 1; omega
    · rw [if_neg h1, if_neg (by omega), if_pos (by omega)]; congr 1; omega
  inv c d h := by
    have hc := u8_nat c
    unfold digT at h
    split at h
    · injection h with h
      refine ⟨UInt8.toNat_inj.1 ?_, by omega⟩
      unfold hxd; rw [if_pos (by omega), UInt8.toNat_ofNat']; omega
    · split at h
      · injection h with h
        refine ⟨UInt8.toNat_inj.1 ?_, by omega⟩
        unfold hxd; rw [if_neg (by omega), UInt8.toNat_ofNat']; omega
      · exact absurd h (by simp)
theorem DigOf.pos {base : Nat} {T : Nat → List UInt8} {dg : Nat → UInt8} (h : DigOf base T dg) (n : Nat) : 0 < (T n).length := by
  by_cases hn : n < base
  · rw [h.small n hn]; simp
  · rw [h.big n hn]; simp
theorem numSt_go {base first most : Nat} {x : Nat × Nat} {c d : Nat} (h : digT base c = some d) (hb : ¬ badT base first most x d) : numSt base first most x c = some (some (x.1 * base + d, x.2 + 1)) := by
  simp [numSt, h, hb]
theorem runT_txt {base first most : Nat} {T : Nat → List UInt8} {dg : Nat → UInt8} (h : DigOf base T dg) (n : Nat) (hn : n ≤ most) (hf : first = 0 ∨ (first = 1 ∧ 1 ≤ n)) : ∀ rest, runT (numSt base first most) (0, 0) (T n ++ rest) = runT (numSt base first most) (n, (T n).length) rest := by
  induction n using Nat.strongRecOn with
  | _ n ih =>
    intro rest
    by_cases hlt : n < base
    · rw [h.small n hlt]
      have hb : ¬ badT base first most (0, 0) n := by
        unfold badT; simp only
        have := Nat.zero_le ((most - n) / base)
        generalize (most - n) / base = z at *
        omega
      have := numSt_go (h.dig n hlt) hb
      rw [List.cons_append, runT_go this]
      simp
    · have h2 := h.two
      have h1 : 1 ≤ n / base := (Nat.one_le_div_iff (by omega)).2 (by omega)
      have h3 : n / base < n := Nat.div_lt_self (by omega) (by omega)
      have h4 := Nat.div_add_mod n base
      have h5 : n % base < base := Nat.mod_lt _ (by omega)
      rw [h.big n hlt, List.append_assoc, ih (n / base) h3 (by omega) (by omega)]
      have hb : ¬ badT base first most (n / base, (T (n / base)).length) (n % base) := by
        unfold badT
        simp only
        have hp := h.pos (n / base)
        have hq : n / base ≤ (most - n % base) / base := (Nat.le_div_iff_mul_le (by omega)).2 (by rw [Nat.mul_comm]; omega)
        have hr : n % base ≤ n := Nat.mod_le _ _
        omega
      have := numSt_go (h.dig _ h5) hb
      rw [List.cons_append, runT_go this]
      congr 2
      · simp only; rw [Nat.mul_comm]; exact h4
      · simp
theorem numT_txt {base first most : Nat} {T : Nat → List UInt8} {dg : Nat → UInt8} (h : DigOf base T dg) {n : Nat} (hn : n ≤ most) (hf : first = 0 ∨ (first = 1 ∧ 1 ≤ n)) {c : UInt8} (hc : digT base c.toNat = none) (r : List UInt8) : numT base first most (T n ++ c :: r) = .ok (n, c :: r) := by
  unfold numT
  rw [runT_txt h n hn hf, runT_stop (by simp [numSt, hc])]
  have := h.pos n
  simp only
  rw [if_neg (by omega)]
theorem runT_num_inv {base first most : Nat} {T : Nat → List UInt8} {dg : Nat → UInt8} (h : DigOf base T dg) (hf1 : first ≤ 1) : ∀ (s u0 : List UInt8) (n0 m0 : Nat) (x : Nat × Nat) (r : List UInt8), runT (numSt base first most) (n0, m0) s = .ok (x, r) → (m0 = 0 → n0 = 0 ∧ u0 = []) → (0 < m0 → u0 = T n0 ∧ n0 ≤ most ∧ first ≤ n0) →
    ∃ u, s = u ++ r ∧ (0 < x.2 → u0 ++ u = T x.1 ∧ x.1 ≤ most ∧ first ≤ x.1) ∧ ∃ c t, r = c :: t ∧ digT base c.toNat = none := by
  intro s
  induction s with
  | nil => intro u0 n0 m0 x r hr; exact absurd hr (by simp [runT])
  | cons b s ih =>
    intro u0 n0 m0 x r hr h0 h1
    rcases hd : digT base b.toNat with _ | d
    · rw [runT_stop (by simp [numSt, hd])] at hr
      injection hr with hr; injection hr with hx hr; subst hx hr
      exact ⟨[], rfl, fun hm => by rw [List.append_nil]; exact h1 hm, b, s, rfl, hd⟩
    · by_cases hb : badT base first most (n0, m0) d
      · rw [runT_form (by simp [numSt, hd, hb])] at hr; exact absurd hr (by simp)
      · rw [runT_go (numSt_go hd hb)] at hr
        obtain ⟨rfl, hdb⟩ := h.inv b d hd
        have h2 := h.two
        unfold badT at hb
        simp only at hb
        obtain ⟨u, hu, hv, ht⟩ := ih (u0 ++ [dg d]) (n0 * base + d) (m0 + 1) x r hr (fun hm => absurd hm (by omega)) (fun _ => by
          rcases Nat.eq_zero_or_pos m0 with hm | hm
          · obtain ⟨rfl, rfl⟩ := h0 hm
            refine ⟨by simp [h.small d hdb], by omega, by omega⟩
          · obtain ⟨hu0, hle, hfi⟩ := h1 hm
            have hn0 : 1 ≤ n0 := by omega
            have hge : ¬ n0 * base + d < base := by
              have := Nat.mul_le_mul_right base hn0
              omega
            have hq : (n0 * base + d) / base = n0 := by
              rw [Nat.add_comm, Nat.add_mul_div_right _ _ (by omega), Nat.div_eq_of_lt hdb, Nat.zero_add]
            have hr : (n0 * base + d) % base = d := by
              rw [Nat.add_comm, Nat.add_mul_mod_self_right, Nat.mod_eq_of_lt hdb]
            refine ⟨by rw [h.big _ hge, hq, hr, hu0], ?_, ?_⟩
            · have hq2 : n0 ≤ (most - d) / base := by omega
              have := Nat.le_trans (Nat.mul_le_mul_right base hq2) (Nat.div_mul_le_self _ _)
              omega
            · have := Nat.mul_le_mul hn0 (show 1 ≤ base by omega)
              omega)
        exact ⟨dg d :: u, by rw [hu]; rfl, fun hm => by have := hv hm; simpa using this, ht⟩
theorem numT_inv {base first most : Nat} {T : Nat → List UInt8} {dg : Nat → UInt8} (h : DigOf base T dg) (hf1 : first ≤ 1) {s r : List UInt8} {n : Nat} (hs : numT base first most s = .ok (n, r)) : s = T n ++ r ∧ n ≤ most ∧ first ≤ n := by
  unfold numT at hs
  rcases he : runT (numSt base first most) (0, 0) s with j | ⟨x, q⟩ <;> rw [he] at hs
  · exact absurd hs (by simp)
  · by_cases hx : x.2 = 0
    · simp [hx] at hs
    · simp [hx] at hs
      obtain ⟨u, hu, hv, _⟩ := runT_num_inv h hf1 s [] 0 0 x q he (fun _ => ⟨rfl, rfl⟩) (fun hm => absurd hm (by omega))
      obtain ⟨h1, h2, h3⟩ := hv (by omega)
      obtain ⟨rfl, rfl⟩ := hs
      exact ⟨by rw [hu, ← h1]; simp, h2, h3⟩
theorem long_go {x c : Nat} (h : letterB c = true) (hx : x + 1 ≤ 33) : longSt x c = some (some (x + 1)) := by
  unfold longSt; rw [if_pos h, if_neg (by omega)]
theorem long_stop {x c : Nat} (h : letterB c = false) : longSt x c = some none := by
  unfold longSt; rw [if_neg (by simp [h])]
theorem runT_name (nm : List UInt8) : ∀ (x : Nat) (c : UInt8) (r : List UInt8), (nm.all fun c => letterB c.toNat) = true → x + nm.length ≤ 33 → letterB c.toNat = false → runT longSt x (nm ++ c :: r) = .ok (x + nm.length, c :: r) := by
  induction nm with
  | nil => intro x c r _ _ hc; exact runT_stop (long_stop hc)
  | cons b nm ih =>
    intro x c r ha hl hc
    simp only [List.all_cons, Bool.and_eq_true] at ha
    simp only [List.length_cons] at hl
    rw [List.cons_append, runT_go (long_go ha.1 (by omega)), ih (x + 1) c r ha.2 (by omega) hc]
    simp only [List.length_cons]
    congr 2
    omega
theorem nameT_tx {nm : List UInt8} {c : UInt8} (r : List UInt8) (ha : (nm.all fun c => letterB c.toNat) = true) (hl : nm.length ≤ 33) (hc : letterB c.toNat = false) : nameT (nm ++ c :: r) = .ok (nm, c :: r) := by
  unfold nameT
  rw [runT_name nm 0 c r ha (by omega) hc]
  simp
theorem runT_name_inv : ∀ (s : List UInt8) (x y : Nat) (r : List UInt8), runT longSt x s = .ok (y, r) → x ≤ 33 → ∃ u, s = u ++ r ∧ (u.all fun c => letterB c.toNat) = true ∧ x + u.length ≤ 33 := by
  intro s
  induction s with
  | nil => intro x y r h; exact absurd h (by simp [runT])
  | cons b s ih =>
    intro x y r h hx
    by_cases hb : letterB b.toNat = true
    · by_cases hl : 33 < x + 1
      · rw [runT_form (by unfold longSt; rw [if_pos hb, if_pos hl])] at h; exact absurd h (by simp)
      · rw [runT_go (long_go hb (by omega))] at h
        obtain ⟨u, hu, h1, h2⟩ := ih (x + 1) y r h (by omega)
        exact ⟨b :: u, by rw [hu]; rfl, by simp only [List.all_cons, hb, h1, Bool.and_self], by simp only [List.length_cons]; omega⟩
    · rw [runT_stop (long_stop (by simpa using hb))] at h
      injection h with h; injection h with h1 h2; subst h2
      exact ⟨[], rfl, rfl, by simpa using hx⟩
theorem nameT_inv {s nm r : List UInt8} (h : nameT s = .ok (nm, r)) : s = nm ++ r ∧ (nm.all fun c => letterB c.toNat) = true ∧ nm.length ≤ 33 := by
  unfold nameT at h
  rcases he : runT longSt 0 s with j | ⟨x, q⟩ <;> rw [he] at h
  · exact absurd h (by simp)
  · simp only at h
    injection h with h; injection h with h1 h2; subst h2
    obtain ⟨u, hu, ha, hl⟩ := runT_name_inv s 0 x q he (by omega)
    have : nm = u := by rw [← h1, hu]; simp
    subst this
    exact ⟨hu, ha, by omega⟩
theorem oneT_inv {a b : Nat} {s r : List UInt8} {x : Bool} (h : oneT a b s = .ok (x, r)) : ∃ c : UInt8, s = c :: r ∧ (c.toNat = a ∨ c.toNat = b) ∧ x = decide (c.toNat = a) := by
  cases s with
  | nil => exact absurd h (by simp [oneT])
  | cons c s =>
    simp only [oneT] at h
    split at h
    · rename_i hc
      injection h with h; injection h with h1 h2; subst h1 h2
      exact ⟨c, rfl, hc, rfl⟩
    · exact absurd h (by simp)
theorem oneT_hit {a b : Nat} {c : UInt8} (hc : c.toNat = a ∨ c.toNat = b) (r : List UInt8) : oneT a b (c :: r) = .ok (decide (c.toNat = a), r) := by
  simp only [oneT]; rw [if_pos hc]
theorem hasB_data (l : List (ByteArray × Int)) (s : ByteArray) : hasB l s.data.toList = l.any fun x => decide (x.1 = s) := by
  unfold hasB; simp
/-- the byte behind a part: a blank, or the line's end -/
def endB (more : Bool) : UInt8 := if more = true then 32 else 10
theorem endB_is (more : Bool) : (endB more).toNat = 32 ∨ (endB more).toNat = 10 := by cases more <;> decide
theorem endB_dec (more : Bool) : decide ((endB more).toNat = 32) = more := by cases more <;> decide
theorem endB_of {c : UInt8} {m : Bool} (h : c.toNat = 32 ∨ c.toNat = 10) (hm : m = decide (c.toNat = 32)) : c = endB m := by
  subst hm
  apply UInt8.toNat_inj.1
  rcases h with h | h <;> rw [h] <;> rfl
theorem endB_no10 (more : Bool) : digT 10 (endB more).toNat = none := by cases more <;> decide
theorem endB_no16 (more : Bool) : digT 16 (endB more).toNat = none := by cases more <;> decide
theorem busRd_tx {l : List (ByteArray × Int)} {b : ByteArray × Int} (hb : busB l b = true) (more : Bool) (r : List UInt8) : busRd l (busTx b ++ endB more :: r) = .ok ((b, more), r) := by
  obtain ⟨nm, wd⟩ := b
  simp only [busB, namedB, lettersB, fitsB, Bool.and_eq_true, decide_eq_true_eq, Bool.not_eq_true'] at hb
  obtain ⟨⟨hlet, hn1, hn2⟩, hnew, ⟨hw1, hw2⟩, _⟩ := hb
  have hsz : nm.data.toList.length = nm.size := by rw [Array.length_toList]; rfl
  have e1 : nameT (busTx (nm, wd) ++ endB more :: r) = .ok (nm.data.toList, 58 :: (Lib.decDigits wd.toNat ++ endB more :: r)) := by
    have : busTx (nm, wd) ++ endB more :: r = nm.data.toList ++ (58 : UInt8) :: (Lib.decDigits wd.toNat ++ endB more :: r) := by simp [busTx]
    rw [this]
    exact nameT_tx _ hlet (by omega) (by decide)
  have hne : nm.data.toList ≠ [] := fun h => by rw [h] at hsz; simp at hsz; omega
  have e2 := oneT_hit (a := 58) (b := 58) (c := 58) (.inl rfl) (Lib.decDigits wd.toNat ++ endB more :: r)
  have e3 := numT_txt dec_dig (first := 1) (most := 64) (n := wd.toNat) (by omega) (.inr ⟨rfl, by omega⟩) (endB_no10 more) r
  have e4 := oneT_hit (endB_is more) r
  rw [endB_dec] at e4
  unfold busRd
  simp only [bd, e1, hne, if_false, e2, hasB_data, hnew, Bool.false_eq_true, e3, e4]
  simp
  omega
theorem busRd_inv {l : List (ByteArray × Int)} {s r : List UInt8} {b : ByteArray × Int} {more : Bool} (h : busRd l s = .ok ((b, more), r)) : busB l b = true ∧ s = busTx b ++ endB more :: r := by
  unfold busRd at h
  rcases e1 : nameT s with k | ⟨nm, r1⟩ <;> simp only [bd, e1] at h
  · exact absurd h (by simp)
  by_cases hne : nm = []
  · simp only [hne, if_true] at h; exact absurd h (by simp)
  simp only [hne, if_false] at h
  rcases e2 : oneT 58 58 r1 with k | ⟨x, r2⟩ <;> simp only [e2] at h
  · exact absurd h (by simp)
  by_cases hnew : hasB l nm = true
  · simp only [hnew, if_true] at h; exact absurd h (by simp)
  simp only [hnew] at h
  rcases e3 : numT 10 1 64 r2 with k | ⟨n, r3⟩ <;> simp only [e3] at h
  · exact absurd h (by simp)
  rcases e4 : oneT 32 10 r3 with k | ⟨m, r4⟩ <;> simp only [e4] at h
  · exact absurd h (by simp)
  simp only [Bool.false_eq_true, if_false] at h
  injection h with h; injection h with h1 h2; injection h1 with h1 h3; subst h1 h2 h3
  obtain ⟨rfl, ha, hl⟩ := nameT_inv e1
  obtain ⟨c, rfl, hc, _⟩ := oneT_inv e2
  obtain ⟨rfl, hn1, hn2⟩ := numT_inv dec_dig (by omega) e3
  obtain ⟨c2, rfl, hc2, hm⟩ := oneT_inv e4
  have hc58 : c = 58 := UInt8.toNat_inj.1 (by rcases hc with h | h <;> rw [h] <;> rfl)
  have hce := endB_of hc2 hm
  subst hc58 hce
  have hpos : 0 < nm.length := List.length_pos_iff.2 hne
  refine ⟨?_, by simp [busTx]⟩
  simp only [busB, namedB, lettersB, fitsB, Bool.and_eq_true, decide_eq_true_eq, Bool.not_eq_true']
  refine ⟨⟨by simpa using ha, ?_, ?_⟩, ?_, ⟨by omega, by omega⟩, ?_⟩
  · show 1 ≤ nm.toArray.size; simp; omega
  · show nm.toArray.size ≤ 33; simpa using hl
  · have hh : hasB l nm = false := by simpa using hnew
    exact hh
  · exact Nat.two_pow_pos _
end Go.Proofs.YtjgcfncganleoaaDoor
