/-
  Law 15, plain: what stands behind a token does not turn it, if its first byte does not; a text cut ahead of a fault.
-/
import Derived.Test.YtjnjldbegngooaaDoorTokO
namespace Go.Proofs.YtjnjldbegngooaaDoor
set_option linter.unusedVariables false
set_option linter.unusedSimpArgs false

theorem takeWhile_app {p : UInt8 → Bool} (d Z : List UInt8) (hd : ∀ c ∈ d, p c = true) (hZ : ∀ c, Z.head? = some c → p c = false) : (d ++ Z).takeWhile p = d := by
  induction d with
  | nil =>
    cases Z with
    | nil => rfl
    | cons c Z => rw [List.nil_append, List.takeWhile_cons, if_neg (by rw [hZ c rfl]; simp)]
  | cons x d ih =>
    rw [List.cons_append, List.takeWhile_cons, if_pos (hd x (by simp)), ih (fun c hc => hd c (by simp [hc]))]
theorem takeWhile_parts (p : UInt8 → Bool) (l : List UInt8) : ∃ R, l = l.takeWhile p ++ R ∧ ∀ c, R.head? = some c → p c = false := by
  induction l with
  | nil => exact ⟨[], rfl, fun c h => by simp at h⟩
  | cons x l ih =>
    rw [List.takeWhile_cons]
    split
    · obtain ⟨R, h1, h2⟩ := ih
      exact ⟨R, by rw [List.cons_append, ← h1], h2⟩
    · rename_i hx
      exact ⟨x :: l, rfl, fun c hc => by simp at hc; subst hc; simpa using hx⟩
/-- what may stand behind in the place of R -/
def OkTail (R Y : List UInt8) : Prop := Y.head? = R.head? ∨ Y.head? = none ∨ Y.head? = some 32
theorem OkTail.mo {R Y : List UInt8} (h : OkTail R Y) (hR : ∀ c, R.head? = some c → moB c = false) : ∀ c, Y.head? = some c → moB c = false := fun c hc => by
  rcases h with h | h | h
  · exact hR c (by rw [← h]; exact hc)
  · rw [h] at hc; cases hc
  · rw [h] at hc; injection hc with hc; subst hc; rfl
theorem mo_dg {c : UInt8} (h : moB c = false) : dgB c = false := by
  unfold moB at h
  rw [Bool.or_eq_false_iff] at h
  exact h.2
/-- the first sign that matches, of a byte and the next one -/
def sg (a : UInt8) (o : Option UInt8) : Option (List UInt8) := signsL.find? fun s => s.isPrefixOf (a :: o.toList)
theorem sg_two : ∀ s ∈ signsL, s.length ≤ 2 := by
  have : (signsL.all fun s => decide (s.length ≤ 2)) = true := by kernel_rfl
  intro s hs
  simpa using List.all_eq_true.1 this s hs
theorem pre_two (s : List UInt8) (hs : s.length ≤ 2) (a : UInt8) (R : List UInt8) : s.isPrefixOf (a :: R) = s.isPrefixOf (a :: R.head?.toList) := by
  match s, hs with
  | [], _ => rfl
  | [x], _ => cases R <;> simp [List.isPrefixOf]
  | [x, y], _ => cases R <;> simp [List.isPrefixOf]
theorem find_congr {α : Type} {p q : α → Bool} (L : List α) (h : ∀ x ∈ L, p x = q x) : L.find? p = L.find? q := by
  induction L with
  | nil => rfl
  | cons x L ih =>
    rw [List.find?_cons, List.find?_cons, h x (by simp), ih (fun y hy => h y (by simp [hy]))]
theorem sg_eq (a : UInt8) (R : List UInt8) : signsL.find? (fun s => s.isPrefixOf (a :: R)) = sg a R.head? :=
  find_congr _ fun s hs => pre_two s (sg_two s hs) a R
theorem sg_one (a : UInt8) (h : [a] ∈ signsL) : sg a none = some [a] ∧ sg a (some 32) = some [a] := by
  have key : (signsL.all fun s => match s with
    | [a] => decide (sg a none = some [a]) && decide (sg a (some 32) = some [a])
    | _ => true) = true := by kernel_rfl
  have := List.all_eq_true.1 key [a] h
  simpa using this
theorem signB_swap {T R Y : List UInt8} {x : Tk} (h : signB (T ++ R) = some x) (hx : x.text = T) (hY : OkTail R Y) : signB (T ++ Y) = some x := by
  unfold signB at h ⊢
  rw [Option.map_eq_some_iff] at h ⊢
  obtain ⟨s, hs, hsx⟩ := h
  have hT : s = T := by rw [← hx, ← hsx]
  subst hT
  refine ⟨s, ?_, hsx⟩
  have hm := List.mem_of_find?_eq_some hs
  have hp := List.find?_some hs
  match s, sg_two s hm, hm, hs, hp with
  | [], _, hm, _, _ => exact absurd hm (by decide)
  | [a], _, hm, hs, _ =>
    rw [List.cons_append, List.nil_append] at hs ⊢
    rw [sg_eq] at hs ⊢
    rcases hY with h | h | h
    · rw [h]; exact hs
    · rw [h]; exact (sg_one a hm).1
    · rw [h]; exact (sg_one a hm).2
  | [a, b], _, hm, hs, _ =>
    rw [List.cons_append] at hs ⊢
    rw [sg_eq] at hs ⊢
    exact hs
theorem oneB_swap {T R Y : List UInt8} {x : Tk} (h : oneB (T ++ R) = some x) (hx : x.text = T) (hY : OkTail R Y) : oneB (T ++ Y) = some x := by
  have hpos := oneB_pos h
  rw [hx] at hpos
  obtain ⟨c, T', rfl⟩ : ∃ c T', T = c :: T' := by
    cases T with
    | nil => simp at hpos
    | cons c T' => exact ⟨c, T', rfl⟩
  rw [List.cons_append] at h ⊢
  have h1 : ∀ l, oneB (c :: l) = if dgB c then numB (c :: l) else if bgB c then nameB (c :: l) else signB (c :: l) := fun l => rfl
  rw [h1] at h ⊢
  cases hd : dgB c with
  | true =>
    rw [hd, if_pos rfl] at h
    rw [if_pos rfl]
    generalize hL : c :: (T' ++ R) = L at h
    obtain ⟨R1, e1, g1⟩ := takeWhile_parts dgB L
    have hdrop : L.drop (L.takeWhile dgB).length = R1 := by
      conv => lhs; rw [e1]
      rw [takeWhile_app _ R1 (takeWhile_all _ _) g1]
      simp
    obtain ⟨R2, e2, g2⟩ := takeWhile_parts moB R1
    have hdall := takeWhile_all dgB L
    have hmall := takeWhile_all moB R1
    unfold numB at h
    simp only at h
    rw [hdrop] at h
    generalize L.takeWhile dgB = d at *
    generalize R1.takeWhile moB = m at *
    have htx : x.text = d ++ m := by
      split at h
      · cases h
      · split at h
        · rename_i hm
          injection h with h; subst h
          simp [hm]
        · split at h
          · cases h
          · split at h
            · injection h with h; subst h; rfl
            · cases h
    have hTd : c :: T' = d ++ m := by rw [← hx, htx]
    have hR : R = R2 := by
      have : (c :: T') ++ R = (d ++ m) ++ R2 := by rw [List.append_assoc, ← e2, ← e1, ← hL]; rfl
      rw [hTd] at this
      exact List.append_cancel_left this
    subst hR
    have hYm := hY.mo g2
    have hYd : ∀ z, (m ++ Y).head? = some z → dgB z = false := fun z hz => by
      cases m with
      | nil => exact mo_dg (hYm z hz)
      | cons y m =>
        have : z = y := by simpa using hz.symm
        subst this
        exact g1 z (by rw [e2]; rfl)
    have e3 : c :: (T' ++ Y) = d ++ (m ++ Y) := by
      rw [← List.append_assoc, ← hTd]; rfl
    unfold numB
    simp only
    rw [e3, takeWhile_app d (m ++ Y) hdall hYd]
    rw [List.drop_left, takeWhile_app m Y hmall hYm]
    exact h
  | false =>
    rw [hd, if_neg (by simp)] at h
    rw [if_neg (by simp)]
    cases hb : bgB c with
    | true =>
      rw [hb, if_pos rfl] at h
      rw [if_pos rfl]
      generalize hL : c :: (T' ++ R) = L at h
      obtain ⟨R1, e1, g1⟩ := takeWhile_parts moB L
      have hmall := takeWhile_all moB L
      unfold nameB at h
      simp only at h
      generalize L.takeWhile moB = m at *
      have htx : x.text = m := by
        split at h
        · cases h
        · split at h <;> (injection h with h; subst h; rfl)
      have hTd : c :: T' = m := by rw [← hx, htx]
      have hR : R = R1 := by
        have : (c :: T') ++ R = m ++ R1 := by rw [← e1, ← hL]; rfl
        rw [hTd] at this
        exact List.append_cancel_left this
      subst hR
      unfold nameB
      simp only
      rw [show c :: (T' ++ Y) = m ++ Y from by rw [← hTd]; rfl, takeWhile_app m Y hmall (hY.mo g1)]
      exact h
    | false =>
      rw [hb, if_neg (by simp)] at h
      rw [if_neg (by simp)]
      exact signB_swap (T := c :: T') h hx hY
/-- a token's text stands at the head -/
theorem oneB_text {l : List UInt8} {x : Tk} (h : oneB l = some x) : l = x.text ++ l.drop x.text.length := by
  suffices h2 : x.text = l.take x.text.length by
    conv => lhs; rw [← List.take_append_drop x.text.length l]
    rw [← h2]
  unfold oneB at h
  split at h
  · cases h
  · rename_i c r
    generalize c :: r = L at *
    split at h
    · obtain ⟨R1, e1, g1⟩ := takeWhile_parts dgB L
      have hdrop : L.drop (L.takeWhile dgB).length = R1 := by
        conv => lhs; rw [e1]
        rw [takeWhile_app _ R1 (takeWhile_all _ _) g1]
        simp
      obtain ⟨R2, e2, g2⟩ := takeWhile_parts moB R1
      unfold numB at h
      simp only at h
      rw [hdrop] at h
      generalize L.takeWhile dgB = d at *
      generalize R1.takeWhile moB = m at *
      subst e2 e1
      split at h
      · cases h
      · split at h
        · injection h with h; subst h; simp
        · split at h
          · cases h
          · split at h
            · injection h with h; subst h
              rw [← List.append_assoc, List.take_left]
            · cases h
    · split at h
      · obtain ⟨R1, e1, g1⟩ := takeWhile_parts moB L
        unfold nameB at h
        simp only at h
        generalize L.takeWhile moB = m at *
        subst e1
        split at h
        · cases h
        · split at h <;> (injection h with h; subst h; simp)
      · unfold signB at h
        rw [Option.map_eq_some_iff] at h
        obtain ⟨s, hs, rfl⟩ := h
        have hp := List.find?_some hs
        exact List.prefix_iff_eq_take.1 (List.isPrefixOf_iff_prefix.1 hp)
theorem blankB_fix {c : UInt8} {r : List UInt8} (h : blankB (c :: r) = c :: r) : wsB c = false ∧ [45, 45].isPrefixOf (c :: r) = false := by
  constructor
  · cases hw : wsB c with
    | false => rfl
    | true =>
      rw [blankB_ws hw] at h
      have h1 := blankB_len r
      rw [h, List.length_cons] at h1
      omega
  · cases hp : [45, 45].isPrefixOf (c :: r) with
    | false => rfl
    | true =>
      cases hw : wsB c with
      | true =>
        rw [blankB_ws hw] at h
        have h1 := blankB_len r
        rw [h, List.length_cons] at h1
        omega
      | false =>
        rw [blankB_com hw hp] at h
        have h1 := blankB_len ((c :: r).dropWhile notNl)
        have h2 := comment_drop hp
        rw [h] at h1
        omega
theorem blank_fix_swap {T R Y : List UInt8} {x : Tk} (h : oneB (T ++ R) = some x) (hx : x.text = T) (hb : blankB (T ++ R) = T ++ R) (hY : OkTail R Y) : blankB (T ++ Y) = T ++ Y := by
  have hpos := oneB_pos h
  rw [hx] at hpos
  obtain ⟨c, T', rfl⟩ : ∃ c T', T = c :: T' := by
    cases T with
    | nil => simp at hpos
    | cons c T' => exact ⟨c, T', rfl⟩
  rw [List.cons_append] at hb ⊢
  obtain ⟨h1, h2⟩ := blankB_fix hb
  refine blankB_stop h1 ?_
  cases T' with
  | cons c2 T' =>
    simpa [List.isPrefixOf] using h2
  | nil =>
    rw [List.nil_append] at h2 ⊢
    cases Y with
    | nil => simp [List.isPrefixOf]
    | cons y Y =>
      rcases hY with h3 | h3 | h3
      · cases R with
        | nil => simp at h3
        | cons z R =>
          have : y = z := by simpa using h3
          subst this
          simpa [List.isPrefixOf] using h2
      · simp at h3
      · have : y = 32 := by simpa using h3
        subst this
        simp [List.isPrefixOf]
/-- the blank ahead of what is no blank, before another text -/
theorem blank_swap (Y : List UInt8) : ∀ n (l : List UInt8), l.length ≤ n → blankB l ≠ [] → blankB (l.take (l.length - (blankB l).length) ++ Y) = blankB Y := by
  intro n
  induction n with
  | zero =>
    intro l hl hne
    have : l = [] := List.eq_nil_of_length_eq_zero (by omega)
    subst this
    exact absurd rfl hne
  | succ n ih =>
    intro l hl hne
    match l with
    | [] => exact absurd rfl hne
    | c :: r =>
      simp only [List.length_cons] at hl
      cases hw : wsB c with
      | true =>
        rw [blankB_ws hw] at hne ⊢
        have h1 := blankB_len r
        have e : (c :: r).length - (blankB r).length = (r.length - (blankB r).length) + 1 := by simp; omega
        rw [e, List.take_succ_cons, List.cons_append, blankB_ws hw]
        exact ih r (by omega) hne
      | false =>
        cases hp : [45, 45].isPrefixOf (c :: r) with
        | false =>
          rw [blankB_stop hw hp]
          simp
        | true =>
          rw [blankB_com hw hp] at hne ⊢
          have hd := comment_drop hp
          obtain ⟨R, e1, g1⟩ := takeWhile_parts notNl (c :: r)
          have e2 : (c :: r).dropWhile notNl = R := by
            have h3 := List.takeWhile_append_dropWhile (p := notNl) (l := c :: r)
            rw [e1] at h3
            rw [takeWhile_app _ R (takeWhile_all _ _) g1] at h3
            have h4 := List.append_cancel_left h3
            rw [← e1] at h4
            exact h4
          rw [e2] at hne hd ⊢
          have hall := takeWhile_all notNl (c :: r)
          generalize hcm : (c :: r).takeWhile notNl = cm at *
          have hR : R ≠ [] := fun h => hne (by rw [h]; rfl)
          obtain ⟨z, R', rfl⟩ : ∃ z R', R = z :: R' := by
            cases R with
            | nil => exact absurd rfl hR
            | cons z R' => exact ⟨z, R', rfl⟩
          have hz : wsB z = true := by
            have h5 := g1 z rfl
            unfold notNl at h5
            have h6 : z.toNat = 10 := by simpa using h5
            unfold wsB
            rw [h6]
            rfl
          have h7 := blankB_len (z :: R')
          have h8 : (blankB (z :: R')).length ≤ R'.length := by rw [blankB_ws hz]; exact blankB_len R'
          have hlen : (c :: r).length = cm.length + (z :: R').length := by rw [e1, List.length_append]
          have e3 : (c :: r).length - (blankB (z :: R')).length = cm.length + ((z :: R').length - (blankB (z :: R')).length) := by omega
          rw [e3]
          have hzr : (z :: R').length ≤ n := by simp only [List.length_cons] at hd hl ⊢; omega
          generalize hk : (z :: R').length - (blankB (z :: R')).length = k at *
          have hk1 : 1 ≤ k := by simp only [List.length_cons] at hk; omega
          have e4 : (c :: r).take (cm.length + k) = cm ++ (z :: R').take k := by
            rw [e1, List.take_append]
            simp [List.take_of_length_le]
          have e5 : (z :: R').take k = z :: R'.take (k - 1) := by
            obtain ⟨j, rfl⟩ : ∃ j, k = j + 1 := ⟨k - 1, by omega⟩
            simp
          have hih := ih (z :: R') hzr hne
          rw [hk] at hih
          rw [e4, e5] at *
          obtain ⟨r3, rfl⟩ : ∃ r3, cm = 45 :: 45 :: r3 := by
            have h9 : [45, 45].isPrefixOf (cm ++ z :: R') = true := by rw [← e1]; exact hp
            match cm, h9 with
            | [], h9 =>
              have : z = 45 := by simp [List.isPrefixOf] at h9; exact h9.1.symm
              subst this
              exact absurd hz (by decide)
            | [a], h9 =>
              simp [List.isPrefixOf] at h9
              have : z = 45 := h9.2.symm
              subst this
              exact absurd hz (by decide)
            | a :: b :: r3, h9 =>
              simp [List.isPrefixOf] at h9
              exact ⟨r3, by rw [← h9.1, ← h9.2]⟩
          have e6 : ((45 :: 45 :: r3) ++ z :: R'.take (k - 1) ++ Y).dropWhile notNl = z :: R'.take (k - 1) ++ Y := by
            have h3 := List.takeWhile_append_dropWhile (p := notNl) (l := (45 :: 45 :: r3) ++ (z :: R'.take (k - 1) ++ Y))
            rw [takeWhile_app _ (z :: R'.take (k - 1) ++ Y) hall (fun y hy => by
              have : y = z := by simpa using hy.symm
              subst this
              exact g1 y rfl)] at h3
            rw [List.append_assoc]
            exact List.append_cancel_left h3
          have e7 : (45 :: 45 :: r3) ++ z :: R'.take (k - 1) ++ Y = 45 :: (45 :: (r3 ++ z :: R'.take (k - 1) ++ Y)) := rfl
          rw [e7] at e6 ⊢
          rw [blankB_com (by decide) (by simp [List.isPrefixOf]), e6]
          exact hih
theorem blankB_suffix : ∀ n (l : List UInt8), l.length ≤ n → ∃ B, l = B ++ blankB l := by
  intro n
  induction n with
  | zero =>
    intro l hl
    have : l = [] := List.eq_nil_of_length_eq_zero (by omega)
    subst this
    exact ⟨[], rfl⟩
  | succ n ih =>
    intro l hl
    match l with
    | [] => exact ⟨[], rfl⟩
    | c :: r =>
      simp only [List.length_cons] at hl
      cases hw : wsB c with
      | true =>
        obtain ⟨B, hB⟩ := ih r (by omega)
        rw [blankB_ws hw]
        exact ⟨c :: B, by rw [List.cons_append, ← hB]⟩
      | false =>
        cases hp : [45, 45].isPrefixOf (c :: r) with
        | false => exact ⟨[], by rw [blankB_stop hw hp]; rfl⟩
        | true =>
          have hd := comment_drop hp
          rw [blankB_com hw hp]
          obtain ⟨B, hB⟩ := ih ((c :: r).dropWhile notNl) (by simp only [List.length_cons] at hd; omega)
          refine ⟨(c :: r).takeWhile notNl ++ B, ?_⟩
          rw [List.append_assoc, ← hB, List.takeWhile_append_dropWhile]
theorem blank_split (l : List UInt8) : l = l.take (l.length - (blankB l).length) ++ blankB l := by
  obtain ⟨B, hB⟩ := blankB_suffix l.length l (Nat.le_refl _)
  have hl := congrArg List.length hB
  rw [List.length_append] at hl
  have : l.take (l.length - (blankB l).length) = B := by
    rw [hl, Nat.add_sub_cancel]
    conv => lhs; rw [hB]
    rw [List.take_left]
  rw [this]
  exact hB
/-- A TEXT WITH A FAULT: what stands ahead of it, and with a blank and a name behind, has none; what stands from it on begins with it. -/
theorem err_cut (t : List UInt8) (ht : t = [] ∨ t = [32, 120]) : ∀ n (l : List UInt8) (s p : Nat), l.length ≤ n → allP s l = .error p → s ≤ p ∧ p - s < l.length ∧ (∃ ys, allP s (l.take (p - s) ++ t) = .ok ys) ∧ blankB (l.drop (p - s)) = l.drop (p - s) ∧ oneB (l.drop (p - s)) = none := by
  have htok : ∀ s, ∃ ys, allP s (blankB t) = .ok ys := fun s => by
    rcases ht with rfl | rfl
    · exact ⟨_, allP_end s⟩
    · have h1 : blankB [32, 120] = [120] := rfl
      have h2 : oneB [120] = some ⟨1, [120], 0, 0, noTy⟩ := by rfl
      have h3 : blankB [120] = [120] := rfl
      rw [h1, allP_step h3 h2]
      exact ⟨_, rfl⟩
  intro n
  induction n with
  | zero =>
    intro l s p hl he
    have : l = [] := List.eq_nil_of_length_eq_zero (by omega)
    subst this
    rw [allP_end] at he
    cases he
  | succ n ih =>
    intro l s p hl he
    by_cases hb : blankB l = []
    · rw [allP_nil hb] at he
      cases he
    have hbl := blankB_len l
    have hsplit := blank_split l
    cases ho : oneB (blankB l) with
    | none =>
      rw [allP_no hb ho] at he
      injection he with he
      subst he
      have hk : s + (l.length - (blankB l).length) - s = l.length - (blankB l).length := by omega
      have hpos : 0 < (blankB l).length := List.length_pos_iff.2 hb
      rw [hk]
      have hdrop : l.drop (l.length - (blankB l).length) = blankB l := by
        conv => lhs; rw [hsplit]
        rw [List.drop_left' (by rw [List.length_take, ← hsplit]; omega)]
      refine ⟨by omega, by omega, ?_, by rw [hdrop, blankB_idem], by rw [hdrop]; exact ho⟩
      rw [allP_skip, blank_swap t l.length l (Nat.le_refl _) hb]
      exact htok _
    | some x =>
      have hpos := oneB_pos ho
      have htx := oneB_text ho
      have hle := oneB_len ho
      generalize hR : (blankB l).drop x.text.length = R at *
      rw [allP_one ho, hR] at he
      have he2 : allP (s + (l.length - (blankB l).length) + x.text.length) R = .error p := by
        revert he
        cases allP (s + (l.length - (blankB l).length) + x.text.length) R with
        | error e => exact fun h => h
        | ok ys => intro h; cases h
      have hRl : R.length = (blankB l).length - x.text.length := by rw [← hR, List.length_drop]
      obtain ⟨h1, h2, ⟨ys, h3⟩, h4, h5⟩ := ih R _ p (by omega) he2
      obtain ⟨B, hB⟩ : ∃ B, B = l.take (l.length - (blankB l).length) := ⟨_, rfl⟩
      have hBl : B.length = l.length - (blankB l).length := by rw [hB, List.length_take]; omega
      rw [← hBl] at h1 h2 h3 h4 h5
      have hl2 : l = B ++ (x.text ++ R) := by rw [hB, ← htx]; exact hsplit
      have hidem := blankB_idem l
      rw [htx] at hidem ho
      have hk : p - s = B.length + (x.text.length + (p - (s + B.length + x.text.length))) := by omega
      have hll : l.length = B.length + (x.text.length + R.length) := by rw [hl2]; simp
      generalize hj : p - (s + B.length + x.text.length) = j at *
      have htake : l.take (p - s) = B ++ (x.text ++ R.take j) := by
        rw [hl2, hk, List.take_length_add_append, List.take_length_add_append]
      have hdrop : l.drop (p - s) = R.drop j := by
        rw [hl2, hk, List.drop_length_add_append, List.drop_length_add_append]
      have hY : OkTail R (R.take j ++ t) := by
        cases j with
        | zero =>
          rcases ht with rfl | rfl
          · right; left; rfl
          · right; right; rfl
        | succ j =>
          left
          cases R with
          | nil => simp at h2
          | cons z R => rfl
      refine ⟨by omega, by omega, ?_, by rw [hdrop]; exact h4, by rw [hdrop]; exact h5⟩
      have hbs := blank_swap (x.text ++ (R.take j ++ t)) l.length l (Nat.le_refl _) hb
      rw [← hB, blank_fix_swap ho rfl hidem hY] at hbs
      have e1 : l.take (p - s) ++ t = B ++ (x.text ++ (R.take j ++ t)) := by rw [htake]; simp
      rw [e1, allP_skip, hbs]
      have e2 : s + ((B ++ (x.text ++ (R.take j ++ t))).length - (x.text ++ (R.take j ++ t)).length) = s + B.length := by
        rw [List.length_append (as := B)]; omega
      rw [e2, allP_step (blank_fix_swap ho rfl hidem hY) (oneB_swap ho rfl hY), List.drop_left, h3]
      exact ⟨_, rfl⟩
end Go.Proofs.YtjnjldbegngooaaDoor
