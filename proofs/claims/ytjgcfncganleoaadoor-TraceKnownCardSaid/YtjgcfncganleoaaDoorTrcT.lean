/-
  Chapter 09, plain: tables' texts: read back; cut short; with a byte behind.
-/
import Derived.Test.YtjgcfncganleoaaDoorTrcS
namespace Go.Proofs.YtjgcfncganleoaaDoor
set_option linter.unusedVariables false
set_option linter.unusedSimpArgs false

/-- START: parts, each with its end -/
def partsTx (l : List (List UInt8)) : List UInt8 := match l with
  | [] => []
  | [p] => p ++ [10]
  | p :: q :: t => p ++ 32 :: partsTx (q :: t)
theorem partsTx_cons (p : List UInt8) (l : List (List UInt8)) : partsTx (p :: l) = p ++ endB (!l.isEmpty) :: partsTx l := by
  cases l with
  | nil => simp [partsTx, endB]
  | cons q t => simp [partsTx, endB]
theorem lineTo_shift (g : Nat → List UInt8) : ∀ k, lineTo g (k + 1) = g 0 ++ (List.range k).flatMap fun i => 32 :: g (i + 1) := by
  intro k
  induction k with
  | zero => simp [lineTo, sep]
  | succ k ih =>
    rw [lineTo_succ, ih, List.range_succ]
    simp [sep]
theorem partsTx_line : ∀ (l : List (List UInt8)), l ≠ [] → partsTx l = lineTo (fun k => l.getD k []) l.length ++ [10] := by
  intro l
  induction l with
  | nil => intro h; exact absurd rfl h
  | cons p l ih =>
    intro _
    cases l with
    | nil => simp [partsTx, lineTo, sep]
    | cons q t =>
      rw [partsTx, ih (by simp)]
      simp only [List.length_cons]
      rw [lineTo_shift, lineTo_shift]
      rw [List.range_succ_eq_map]
      simp [List.flatMap_map]
theorem headTx_parts {bs : List (ByteArray × Int)} (h : bs ≠ []) : headTx bs = partsTx (bs.map busTx) := by
  rw [partsTx_line _ (by simpa using h)]
  unfold headTx
  simp only [List.length_map]
  congr 1
  unfold lineTo
  congr 1
  funext i
  congr 1
  simp [List.getD]
  cases bs[i]? <;> rfl
theorem rowTx_parts {r : List Nat} (h : r ≠ []) : rowTx r = partsTx (r.map hexD) := by
  rw [partsTx_line _ (by simpa using h)]
  unfold rowTx
  simp only [List.length_map]
  congr 1
  unfold lineTo
  rw [List.flatMap_def, List.flatMap_def]
  congr 1
  refine List.map_congr_left fun i hi => ?_
  have hi := List.mem_range.1 hi
  congr 1
  simp [List.getD, List.getElem?_eq_getElem hi]
/-- buses that may be, behind some -/
def okB (l : List (ByteArray × Int)) : List (ByteArray × Int) → Bool
  | [] => true
  | b :: bs => busB l b && okB (l ++ [b]) bs
theorem okB_to : ∀ (bs l : List (ByteArray × Int)), okB l bs = (List.range bs.length).all fun i => match bs[i]? with | some b => busB (l ++ bs.take i) b | none => true := by
  intro bs
  induction bs with
  | nil => intro l; rfl
  | cons b bs ih =>
    intro l
    rw [okB, ih, List.length_cons, List.range_succ_eq_map, List.all_cons, List.all_map]
    simp [Function.comp_def]
theorem okB_is (bs : List (ByteArray × Int)) : okB [] bs = busesB bs := by
  rw [okB_to]; simp only [List.nil_append]; rfl
theorem headT_tx : ∀ (bs l : List (ByteArray × Int)) (f : Nat) (r : List UInt8), bs ≠ [] → okB l bs = true → bs.length ≤ f → headT f l (partsTx (bs.map busTx) ++ r) = .ok (l ++ bs, r) := by
  intro bs
  induction bs with
  | nil => intro l f r h; exact absurd rfl h
  | cons b bs ih =>
    intro l f r _ hok hf
    simp only [okB, Bool.and_eq_true] at hok
    cases f with
    | zero => simp at hf
    | succ f =>
      rw [List.map_cons, partsTx_cons, headT, List.append_assoc, List.cons_append, busRd_tx hok.1]
      simp only [bd]
      cases bs with
      | nil => simp [partsTx]
      | cons b2 bs =>
        simp only [List.map_cons, List.isEmpty_cons, Bool.not_false, if_true]
        have := ih (l ++ [b]) f r (by simp) hok.2 (by simpa using hf)
        rw [List.map_cons] at this
        rw [this]
        simp
theorem headT_inv : ∀ (f : Nat) (l bs' : List (ByteArray × Int)) (s r : List UInt8), headT f l s = .ok (bs', r) → ∃ bs, bs ≠ [] ∧ bs' = l ++ bs ∧ okB l bs = true ∧ bs.length ≤ f ∧ s = partsTx (bs.map busTx) ++ r := by
  intro f
  induction f with
  | zero => intro l bs' s r h; exact absurd h (by simp [headT])
  | succ f ih =>
    intro l bs' s r h
    rw [headT] at h
    rcases e : busRd l s with k | ⟨⟨b, more⟩, q⟩ <;> simp only [bd, e] at h
    · exact absurd h (by simp)
    obtain ⟨hb, rfl⟩ := busRd_inv e
    cases more with
    | true =>
      simp only [if_true] at h
      obtain ⟨bs, h1, h2, h3, h4, h5⟩ := ih _ _ _ _ h
      refine ⟨b :: bs, by simp, by rw [h2]; simp, by simp [okB, hb, h3], by simpa using h4, ?_⟩
      rw [List.map_cons, partsTx_cons, h5]
      cases bs with
      | nil => exact absurd rfl h1
      | cons b2 bs => simp
    | false =>
      simp only [Bool.false_eq_true, if_false] at h
      injection h with h; injection h with h1 h2; subst h1 h2
      exact ⟨[b], by simp, rfl, by simp [okB, hb], by simp, by simp [partsTx, endB]⟩
/-- a row that fits buses -/
def okR : List (ByteArray × Int) → List Nat → Prop
  | [], [] => True
  | b :: bs, n :: ns => n < 2 ^ b.2.toNat ∧ okR bs ns
  | _, _ => False
theorem okR_len : ∀ {bs : List (ByteArray × Int)} {ns : List Nat}, okR bs ns → ns.length = bs.length
  | [], [], _ => rfl
  | b :: bs, n :: ns, h => by simp only [List.length_cons]; rw [okR_len h.2]
  | [], _ :: _, h => h.elim
  | _ :: _, [], h => h.elim
theorem cellRd_tx {w : Int} {n : Nat} (h : n < 2 ^ w.toNat) (more : Bool) (r : List UInt8) : cellRd w more (hexD n ++ endB more :: r) = .ok (n, r) := by
  have e1 := numT_txt hex_dig (first := 0) (most := 2 ^ w.toNat - 1) (n := n) (by omega) (.inl rfl) (endB_no16 more) r
  have e2 := oneT_hit (endB_is more) r
  rw [endB_dec] at e2
  unfold cellRd
  simp [bd, e1, e2]
theorem cellRd_inv {w : Int} {n : Nat} {more : Bool} {s r : List UInt8} (h : cellRd w more s = .ok (n, r)) : n < 2 ^ w.toNat ∧ s = hexD n ++ endB more :: r := by
  unfold cellRd at h
  rcases e1 : numT 16 0 (2 ^ w.toNat - 1) s with k | ⟨n1, r1⟩ <;> simp only [bd, e1] at h
  · exact absurd h (by simp)
  rcases e2 : oneT 32 10 r1 with k | ⟨m, r2⟩ <;> simp only [e2] at h
  · exact absurd h (by simp)
  by_cases hm : m = more
  · simp only [hm, if_true] at h
    injection h with h; injection h with h1 h2; subst h1 h2
    obtain ⟨rfl, hle, _⟩ := numT_inv hex_dig (by omega) e1
    obtain ⟨c, rfl, hc, hmd⟩ := oneT_inv e2
    have := endB_of hc hmd
    subst this hm
    have := Nat.two_pow_pos w.toNat
    exact ⟨by omega, rfl⟩
  · simp only [hm, if_false] at h; exact absurd h (by simp)
theorem rowRd_tx : ∀ (bs : List (ByteArray × Int)) (ns acc : List Nat) (r : List UInt8), okR bs ns → rowRd bs acc (partsTx (ns.map hexD) ++ r) = .ok (acc ++ ns, r)
  | [], [], acc, r, _ => by simp [rowRd, partsTx]
  | b :: bs, n :: ns, acc, r, h => by
    have hl := okR_len h.2
    have he : (!bs.isEmpty) = !(ns.map hexD).isEmpty := by
      cases bs <;> cases ns <;> simp_all
    rw [List.map_cons, partsTx_cons, rowRd, List.append_assoc, List.cons_append, ← he, cellRd_tx h.1]
    simp only [bd]
    rw [rowRd_tx bs ns (acc ++ [n]) r h.2]
    simp
  | [], _ :: _, _, _, h => h.elim
  | _ :: _, [], _, _, h => h.elim
theorem rowRd_inv : ∀ (bs : List (ByteArray × Int)) (acc l : List Nat) (s r : List UInt8), rowRd bs acc s = .ok (l, r) → ∃ ns, l = acc ++ ns ∧ okR bs ns ∧ s = partsTx (ns.map hexD) ++ r
  | [], acc, l, s, r, h => by
    simp only [rowRd] at h
    injection h with h; injection h with h1 h2; subst h1 h2
    exact ⟨[], by simp, trivial, by simp [partsTx]⟩
  | b :: bs, acc, l, s, r, h => by
    rw [rowRd] at h
    rcases e : cellRd b.2 (!bs.isEmpty) s with k | ⟨n, q⟩ <;> simp only [bd, e] at h
    · exact absurd h (by simp)
    obtain ⟨h1, rfl⟩ := cellRd_inv e
    obtain ⟨ns, rfl, h2, rfl⟩ := rowRd_inv bs _ _ _ _ h
    have hl := okR_len h2
    have he : (!bs.isEmpty) = !(ns.map hexD).isEmpty := by
      cases bs <;> cases ns <;> simp_all
    refine ⟨n :: ns, by simp, ⟨h1, h2⟩, ?_⟩
    rw [List.map_cons, partsTx_cons, he]
    simp
theorem partsTx_ne {l : List (List UInt8)} (h : l ≠ []) : ∃ c t, partsTx l = c :: t := by
  cases l with
  | nil => exact absurd rfl h
  | cons p l =>
    rw [partsTx_cons]
    cases p with
    | nil => exact ⟨_, _, rfl⟩
    | cons c p => exact ⟨c, _, rfl⟩
def rowsTx (rs : List (List Nat)) : List UInt8 := rs.flatMap fun r => partsTx (r.map hexD)
theorem rowsRd_tx {bs : List (ByteArray × Int)} (hbs : bs ≠ []) : ∀ (rs acc : List (List Nat)) (f : Nat) (s : List UInt8), (∀ r ∈ rs, okR bs r) → rs.length ≤ f → rowsRd bs f acc (rowsTx rs ++ s) = rowsRd bs (f - rs.length) (acc ++ rs) s := by
  intro rs
  induction rs with
  | nil => intro acc f s _ _; simp [rowsTx]
  | cons r rs ih =>
    intro acc f s hok hf
    cases f with
    | zero => simp at hf
    | succ f =>
      have hr := hok r (by simp)
      have hne : r.map hexD ≠ [] := by
        have := okR_len hr
        intro h0
        have : r = [] := by simpa using h0
        subst this
        exact hbs (List.length_eq_zero_iff.1 (by simpa using (okR_len hr).symm))
      obtain ⟨c, t, hct⟩ := partsTx_ne hne
      have e := rowRd_tx bs r [] (rowsTx rs ++ s) hr
      have hform : rowsTx (r :: rs) ++ s = partsTx (r.map hexD) ++ (rowsTx rs ++ s) := by simp [rowsTx]
      rw [hform]
      rw [hct] at e ⊢
      rw [List.cons_append] at e ⊢
      rw [rowsRd, e]
      simp only [List.nil_append]
      rw [ih (acc ++ [r]) f s (fun r hr => hok r (by simp [hr])) (by simpa using hf)]
      simp
theorem rowsRd_inv {bs : List (ByteArray × Int)} : ∀ (f : Nat) (acc rs' : List (List Nat)) (s : List UInt8), rowsRd bs f acc s = .ok rs' → ∃ rs, rs' = acc ++ rs ∧ rs.length ≤ f ∧ (∀ r ∈ rs, okR bs r) ∧ s = rowsTx rs := by
  intro f
  induction f with
  | zero =>
    intro acc rs' s h
    cases s with
    | nil => simp only [rowsRd] at h; injection h with h; subst h; exact ⟨[], by simp, by simp, by simp, rfl⟩
    | cons c s => simp only [rowsRd] at h; exact absurd h (by simp)
  | succ f ih =>
    intro acc rs' s h
    cases s with
    | nil => simp only [rowsRd] at h; injection h with h; subst h; exact ⟨[], by simp, by simp, by simp, rfl⟩
    | cons c s =>
      rw [rowsRd] at h
      rcases e : rowRd bs [] (c :: s) with k | ⟨l, q⟩ <;> simp only [e] at h
      · exact absurd h (by simp)
      obtain ⟨ns, hns, h1, h2⟩ := rowRd_inv _ _ _ _ _ e
      obtain ⟨rs, rfl, h3, h4, h5⟩ := ih _ _ _ h
      refine ⟨ns :: rs, by rw [hns]; simp, by simpa using h3, fun r hr => ?_, ?_⟩
      · rcases List.mem_cons.1 hr with rfl | hr
        · exact h1
        · exact h4 r hr
      · rw [h2, h5]; simp [rowsTx]
/-- what may be, part by part -/
theorem mayT_iff (t : Tb) : mayT t = true ↔ t.bs ≠ [] ∧ t.bs.length ≤ 512 ∧ okB [] t.bs = true ∧ (∀ r ∈ t.rs, okR t.bs r) ∧ t.rs.length ≤ 4096 := by
  have hrow : ∀ (bs : List (ByteArray × Int)) (r : List Nat), (∀ b ∈ bs, 1 ≤ b.2 ∧ b.2 ≤ 64) → (rowB bs r = true ↔ okR bs r) := by
    intro bs
    induction bs with
    | nil =>
      intro r _
      cases r with
      | nil => simp [rowB, rowTo, okR]
      | cons n r => simp [rowB, okR]
    | cons b bs ih =>
      intro r hw
      cases r with
      | nil => simp [rowB, okR]
      | cons n r =>
        have h1 := ih r (fun x hx => hw x (by simp [hx]))
        have hb := hw b (by simp)
        rw [okR, ← h1]
        unfold rowB rowTo
        rw [List.length_cons, List.range_succ_eq_map, List.all_cons, List.all_map]
        simp only [Bool.and_eq_true, decide_eq_true_eq, List.length_cons, fitsB, Function.comp_def]
        simp [List.getD]
        constructor
        · rintro ⟨h2, ⟨_, h3⟩, h4⟩; exact ⟨h3, by omega, h4⟩
        · rintro ⟨h3, h2, h4⟩; exact ⟨by omega, ⟨by omega, h3⟩, h4⟩
  have hwd : ∀ (bs l : List (ByteArray × Int)), okB l bs = true → ∀ b ∈ bs, 1 ≤ b.2 ∧ b.2 ≤ 64 := by
    intro bs
    induction bs with
    | nil => intro l _ b hb; exact absurd hb (by simp)
    | cons b bs ih =>
      intro l h x hx
      simp only [okB, Bool.and_eq_true] at h
      rcases List.mem_cons.1 hx with rfl | hx
      · have := h.1
        simp only [busB, fitsB, Bool.and_eq_true, decide_eq_true_eq] at this
        exact this.2.2.1
      · exact ih _ h.2 x hx
  unfold mayT rowsB
  rw [← okB_is]
  simp only [Bool.and_eq_true, decide_eq_true_eq, List.all_eq_true]
  constructor
  · rintro ⟨h1, h2, h3, h4, h5⟩
    refine ⟨fun h => by simp [h] at h3, h4, h1, fun r hr => (hrow _ _ (hwd _ _ h1)).1 (h2 r hr), h5⟩
  · rintro ⟨h1, h2, h3, h4, h5⟩
    refine ⟨h3, fun r hr => (hrow _ _ (hwd _ _ h3)).2 (h4 r hr), List.length_pos_iff.2 h1, h2, h5⟩
theorem rowsTx_put {t : Tb} (h : mayT t = true) (k : Nat) : (t.rs.take k).flatMap rowTx = rowsTx (t.rs.take k) := by
  have hm := (mayT_iff t).1 h
  unfold rowsTx
  rw [List.flatMap_def, List.flatMap_def]
  congr 1
  refine List.map_congr_left fun r hr => rowTx_parts fun h0 => ?_
  have h1 := okR_len (hm.2.2.2.1 r (List.mem_of_mem_take hr))
  rw [h0] at h1
  exact hm.1 (List.length_eq_zero_iff.1 h1.symm)
theorem putTx_parts {t : Tb} (h : mayT t = true) : putTx t = partsTx (t.bs.map busTx) ++ rowsTx t.rs := by
  have hm := (mayT_iff t).1 h
  unfold putTx putTo
  rw [rowsTx_put h, headTx_parts hm.1, List.take_length]
theorem tableT_tx {t : Tb} (h : mayT t = true) (s : List UInt8) : tableT (putTx t ++ s) = match rowsRd t.bs (4096 - t.rs.length) t.rs s with | .error k => .error k | .ok rs => .ok ⟨t.bs, rs⟩ := by
  have hm := (mayT_iff t).1 h
  unfold tableT
  rw [putTx_parts h, List.append_assoc, headT_tx t.bs [] 512 _ hm.1 hm.2.2.1 hm.2.1]
  simp only [List.nil_append]
  rw [rowsRd_tx hm.1 t.rs [] 4096 s hm.2.2.2.1 hm.2.2.2.2]
  simp only [List.nil_append]
  cases rowsRd t.bs (4096 - t.rs.length) t.rs s <;> rfl
theorem tableT_put {t : Tb} (h : mayT t = true) : tableT (putTx t) = .ok t := by
  have := tableT_tx h []
  rw [List.append_nil] at this
  rw [this]
  simp [rowsRd]
theorem tableT_inv {s : List UInt8} {t : Tb} (h : tableT s = .ok t) : mayT t = true ∧ putTx t = s := by
  unfold tableT at h
  rcases e1 : headT 512 [] s with k | ⟨bs, r⟩ <;> simp only [e1] at h
  · exact absurd h (by simp)
  rcases e2 : rowsRd bs 4096 [] r with k | rs <;> simp only [e2] at h
  · exact absurd h (by simp)
  injection h with h; subst h
  obtain ⟨bs, h1, rfl, h2, h3, rfl⟩ := headT_inv _ _ _ _ _ e1
  obtain ⟨rs, rfl, h4, h5, rfl⟩ := rowsRd_inv _ _ _ _ e2
  have hm : mayT ⟨bs, rs⟩ = true := (mayT_iff _).2 ⟨h1, h3, h2, h5, h4⟩
  refine ⟨hm, ?_⟩
  exact putTx_parts hm
theorem rowsRd_err {bs : List (ByteArray × Int)} : ∀ (f : Nat) (acc : List (List Nat)) (s : List UInt8) (k : Nat), rowsRd bs f acc s = .error k → k = 4 ∨ k = 5 := by
  intro f
  induction f with
  | zero =>
    intro acc s k h
    cases s with
    | nil => simp only [rowsRd] at h; exact absurd h (by simp)
    | cons c s => simp only [rowsRd] at h; injection h with h; exact .inr h.symm
  | succ f ih =>
    intro acc s k h
    cases s with
    | nil => simp only [rowsRd] at h; exact absurd h (by simp)
    | cons c s =>
      rw [rowsRd] at h
      rcases e : rowRd bs [] (c :: s) with j | ⟨l, q⟩ <;> simp only [e] at h
      · injection h with h; subst h
        exact ((rowRd_inc bs []).err (c :: s) [] j e).imp id (·.1)
      · exact ih _ _ _ h
theorem tableT_err {s : List UInt8} {k : Nat} (h : tableT s = .error k) : k = 4 ∨ k = 5 := by
  unfold tableT at h
  rcases e1 : headT 512 [] s with j | ⟨bs, r⟩ <;> simp only [e1] at h
  · injection h with h; subst h
    exact ((headT_inc 512 []).err s [] j e1).imp id (·.1)
  rcases e2 : rowsRd bs 4096 [] r with j | rs <;> simp only [e2] at h
  · injection h with h; subst h
    exact rowsRd_err _ _ _ _ e2
  · exact absurd h (by simp)
/-- with a byte behind that no number begins with -/
theorem tableT_dash {t : Tb} (h : mayT t = true) : tableT (putTx t ++ [45]) = .error 5 := by
  have hm := (mayT_iff t).1 h
  rw [tableT_tx h]
  have key : ∀ f acc, rowsRd t.bs f acc [45] = .error 5 := by
    intro f acc
    cases f with
    | zero => rfl
    | succ f =>
      rw [rowsRd]
      obtain ⟨b, bs, hb⟩ := List.exists_cons_of_ne_nil hm.1
      have e : rowRd t.bs [] [45] = .error 5 := by
        rw [hb, rowRd]
        have e1 : numT 16 0 (2 ^ b.2.toNat - 1) [45] = .error 5 := by
          unfold numT
          rw [runT_stop (by simp only [numSt]; rw [show digT 16 (45 : UInt8).toNat = none from by decide])]
          simp
        simp [bd, cellRd, e1]
      rw [e]
  rw [key]
/-! Cut short -/
theorem row_split {bs : List (ByteArray × Int)} (hbs : bs ≠ []) : ∀ (rs : List (List Nat)) (k : Nat), (∀ r ∈ rs, okR bs r) → k ≤ (rowsTx rs).length → ∃ j i, j ≤ rs.length ∧ (rowsTx rs).take k = rowsTx (rs.take j) ++ (match rs[j]? with | some r => (partsTx (r.map hexD)).take i | none => []) ∧ (∀ r, rs[j]? = some r → i < (partsTx (r.map hexD)).length) ∧ (rs[j]? = none → i = 0) := by
  intro rs
  induction rs with
  | nil => intro k _ hk; exact ⟨0, 0, by simp, by simp [rowsTx], by simp, by simp⟩
  | cons r rs ih =>
    intro k hok hk
    have hform : rowsTx (r :: rs) = partsTx (r.map hexD) ++ rowsTx rs := by simp [rowsTx]
    rw [hform] at hk ⊢
    by_cases hlt : k < (partsTx (r.map hexD)).length
    · refine ⟨0, k, by simp, ?_, by simpa using hlt, by simp⟩
      rw [List.take_append_of_le_length (by omega)]
      simp [rowsTx]
    · obtain ⟨j, i, h1, h2, h3, h4⟩ := ih (k - (partsTx (r.map hexD)).length) (fun x hx => hok x (by simp [hx])) (by rw [List.length_append] at hk; omega)
      refine ⟨j + 1, i, by simpa using h1, ?_, by simpa using h3, by simpa using h4⟩
      rw [List.take_append, List.take_of_length_le (by omega), h2]
      simp [rowsTx]
theorem hexD_no10 (n : Nat) : ∀ c ∈ hexD n, c ≠ 10 := by
  induction n using Nat.strongRecOn with
  | _ n ih =>
    have hx : ∀ d, d < 16 → hxd d ≠ 10 := fun d hd h => by
      have := congrArg UInt8.toNat h
      unfold hxd at this
      split at this <;> (rw [UInt8.toNat_ofNat'] at this; simp at this; omega)
    by_cases h : n < 16
    · rw [hexD_small h]; intro c hc; simp at hc; subst hc; exact hx n h
    · rw [hexD_big h]
      intro c hc
      rcases List.mem_append.1 hc with hc | hc
      · exact ih _ (Nat.div_lt_self (by omega) (by omega)) c hc
      · simp at hc; subst hc; exact hx _ (Nat.mod_lt _ (by omega))
theorem dec_no10 (n : Nat) : ∀ c ∈ Lib.decDigits n, c ≠ 10 := by
  induction n using Nat.strongRecOn with
  | _ n ih =>
    have hx : ∀ d, d < 10 → UInt8.ofNat (48 + d) ≠ 10 := fun d hd h => by
      have := congrArg UInt8.toNat h
      rw [UInt8.toNat_ofNat'] at this; simp at this; omega
    by_cases h : n < 10
    · rw [dec_dig.small n h]; intro c hc; rw [List.mem_singleton.1 hc]; exact hx n h
    · rw [dec_dig.big n h]
      intro c hc
      rcases List.mem_append.1 hc with hc | hc
      · exact ih _ (Nat.div_lt_self (by omega) (by omega)) c hc
      · rw [List.mem_singleton.1 hc]; exact hx (n % 10) (Nat.mod_lt _ (by omega))
/-- a line: no newline but its last byte -/
def LineIs (l : List UInt8) : Prop := ∃ u, l = u ++ [10] ∧ ∀ c ∈ u, c ≠ 10
theorem partsTx_lineIs : ∀ (l : List (List UInt8)), l ≠ [] → (∀ p ∈ l, ∀ c ∈ p, c ≠ 10) → LineIs (partsTx l)
  | [], h, _ => absurd rfl h
  | [p], _, hp => ⟨p, rfl, hp p (by simp)⟩
  | p :: q :: t, _, hp => by
    obtain ⟨u, hu, hv⟩ := partsTx_lineIs (q :: t) (by simp) (fun x hx => hp x (by simp at hx ⊢; exact .inr hx))
    refine ⟨p ++ 32 :: u, by rw [partsTx, hu]; simp, fun c hc => ?_⟩
    rcases List.mem_append.1 hc with hc | hc
    · exact hp p (by simp) c hc
    · rcases List.mem_cons.1 hc with rfl | hc
      · decide
      · exact hv c hc
theorem LineIs.cut {l : List UInt8} (h : LineIs l) {i : Nat} (hi : i < l.length) : ∀ c ∈ l.take i, c ≠ 10 := by
  obtain ⟨u, rfl, hu⟩ := h
  intro c hc
  rw [List.take_append_of_le_length (by simp at hi; omega)] at hc
  exact hu c (List.mem_of_mem_take hc)
theorem LineIs.count {l : List UInt8} (h : LineIs l) : l.count 10 = 1 := by
  obtain ⟨u, rfl, hu⟩ := h
  rw [List.count_append, List.count_eq_zero.2 (fun hm => hu 10 hm rfl)]
  simp
theorem count_no {l : List UInt8} (h : ∀ c ∈ l, c ≠ 10) : l.count 10 = 0 := List.count_eq_zero.2 (fun hm => h 10 hm rfl)
theorem LineIs.last {l : List UInt8} (h : LineIs l) : l.getLast? = some 10 := by
  obtain ⟨u, rfl, hu⟩ := h
  simp
theorem rowsTx_count {bs : List (ByteArray × Int)} (hbs : bs ≠ []) : ∀ (rs : List (List Nat)), (∀ r ∈ rs, okR bs r) → (rowsTx rs).count 10 = rs.length := by
  intro rs
  induction rs with
  | nil => intro _; rfl
  | cons r rs ih =>
    intro h
    have hform : rowsTx (r :: rs) = partsTx (r.map hexD) ++ rowsTx rs := by simp [rowsTx]
    rw [hform, List.count_append, ih (fun x hx => h x (by simp [hx]))]
    have hl := okR_len (h r (by simp))
    have hne : r.map hexD ≠ [] := fun h0 => by
      have : r = [] := by simpa using h0
      subst this
      exact hbs (List.length_eq_zero_iff.1 (by simpa using hl.symm))
    rw [(partsTx_lineIs _ hne (fun p hp => by obtain ⟨n, _, rfl⟩ := List.mem_map.1 hp; exact hexD_no10 n)).count]
    simp; omega
theorem bus_no10 {l : List (ByteArray × Int)} {b : ByteArray × Int} (h : busB l b = true) : ∀ c ∈ busTx b, c ≠ 10 := by
  intro c hc
  simp only [busB, namedB, lettersB, Bool.and_eq_true, List.all_eq_true] at h
  rcases List.mem_append.1 hc with hc | hc
  · rcases List.mem_append.1 hc with hc | hc
    · intro h0; subst h0
      exact absurd (h.1.1 10 hc) (by decide)
    · simp at hc; subst hc; decide
  · exact dec_no10 _ c hc
theorem okB_no10 : ∀ (bs l : List (ByteArray × Int)), okB l bs = true → ∀ p ∈ bs.map busTx, ∀ c ∈ p, c ≠ 10 := by
  intro bs
  induction bs with
  | nil => intro l _ p hp; exact absurd hp (by simp)
  | cons b bs ih =>
    intro l h p hp
    simp only [okB, Bool.and_eq_true] at h
    rw [List.map_cons] at hp
    rcases List.mem_cons.1 hp with rfl | hp
    · exact bus_no10 h.1
    · exact ih _ h.2 p hp
theorem getLast_take {α : Type} (l : List α) {k : Nat} (h0 : 0 < k) (hk : k ≤ l.length) : (l.take k).getLast? = l[k - 1]? := by
  rw [List.getLast?_eq_getElem?, List.length_take, Nat.min_eq_left hk, List.getElem?_take]
  simp; omega
theorem last_no {l : List UInt8} (h : ∀ c ∈ l, c ≠ 10) : l.getLast? ≠ some 10 := fun h0 => h 10 (List.mem_of_getLast? h0) rfl
theorem mayT_take {t : Tb} (h : mayT t = true) (j : Nat) : mayT ⟨t.bs, t.rs.take j⟩ = true := by
  obtain ⟨h1, h2, h3, h4, h5⟩ := (mayT_iff t).1 h
  exact (mayT_iff _).2 ⟨h1, h2, h3, fun r hr => h4 r (List.mem_of_mem_take hr), by simp; omega⟩
theorem row_ne {bs : List (ByteArray × Int)} (hbs : bs ≠ []) {r : List Nat} (h : okR bs r) : r.map hexD ≠ [] := fun h0 => by
  have : r = [] := by simpa using h0
  subst this
  exact hbs (List.length_eq_zero_iff.1 (by simpa using (okR_len h).symm))
theorem row_lineIs {bs : List (ByteArray × Int)} (hbs : bs ≠ []) {r : List Nat} (h : okR bs r) : LineIs (partsTx (r.map hexD)) :=
  partsTx_lineIs _ (row_ne hbs h) (fun p hp => by obtain ⟨n, _, rfl⟩ := List.mem_map.1 hp; exact hexD_no10 n)
theorem rowsTx_last {bs : List (ByteArray × Int)} (hbs : bs ≠ []) {rs : List (List Nat)} (h : ∀ r ∈ rs, okR bs r) (hne : rs ≠ []) : (rowsTx rs).getLast? = some 10 := by
  obtain ⟨a, r, rfl⟩ : ∃ a r, rs = a ++ [r] := ⟨rs.dropLast, rs.getLast hne, (List.dropLast_concat_getLast hne).symm⟩
  have hl := (row_lineIs hbs (h r (by simp))).last
  unfold rowsTx
  rw [List.flatMap_append, List.getLast?_append]
  simp [hl]
/-- cut short: behind a line a table of its first rows, else ErrShort -/
theorem cut_law {t : Tb} (h : mayT t = true) {k : Nat} (hk : k ≤ (putTx t).length) :
    (((putTx t).take k).getLast? = some 10 ∧ ∃ j, j ≤ t.rs.length ∧ ((putTx t).take k).count 10 = j + 1 ∧ tableT ((putTx t).take k) = .ok ⟨t.bs, t.rs.take j⟩) ∨ (((putTx t).take k).getLast? ≠ some 10 ∧ tableT ((putTx t).take k) = .error 4) := by
  obtain ⟨h1, h2, h3, h4, h5⟩ := (mayT_iff t).1 h
  have hline := partsTx_lineIs (t.bs.map busTx) (by simpa using h1) (okB_no10 _ _ h3)
  rw [putTx_parts h] at hk ⊢
  by_cases hlt : k < (partsTx (t.bs.map busTx)).length
  · right
    rw [List.take_append_of_le_length (by omega)]
    refine ⟨last_no (hline.cut hlt), ?_⟩
    have e := headT_tx t.bs [] 512 (rowsTx t.rs) h1 h3 h2
    have e2 : partsTx (t.bs.map busTx) ++ rowsTx t.rs = (partsTx (t.bs.map busTx)).take k ++ ((partsTx (t.bs.map busTx)).drop k ++ rowsTx t.rs) := by
      rw [← List.append_assoc, List.take_append_drop]
    rw [e2] at e
    have := (headT_inc 512 []).cut e (by simp; omega)
    unfold tableT
    rw [this]
  · obtain ⟨j, i, hj, hs, hi, hi0⟩ := row_split h1 t.rs (k - (partsTx (t.bs.map busTx)).length) h4 (by rw [List.length_append] at hk; omega)
    rw [List.take_append, List.take_of_length_le (by omega), hs]
    have htake : ∀ r ∈ t.rs.take j, okR t.bs r := fun r hr => h4 r (List.mem_of_mem_take hr)
    by_cases hz : i = 0 ∨ t.rs[j]? = none
    · left
      have hp : (match t.rs[j]? with | some r => (partsTx (r.map hexD)).take i | none => []) = ([] : List UInt8) := by
        rcases hz with rfl | hz
        · cases t.rs[j]? <;> simp
        · rw [hz]
      rw [hp, List.append_nil]
      refine ⟨?_, j, hj, ?_, ?_⟩
      · by_cases hj0 : t.rs.take j = []
        · rw [hj0]; simp [rowsTx, hline.last]
        · rw [List.getLast?_append, rowsTx_last h1 htake hj0]; rfl
      · rw [List.count_append, hline.count, rowsTx_count h1 _ htake, List.length_take, Nat.min_eq_left hj]
        omega
      · have hm := mayT_take h j
        have e := tableT_put hm
        rw [putTx_parts hm] at e
        exact e
    · right
      obtain ⟨r, hr⟩ : ∃ r, t.rs[j]? = some r := by
        cases hx : t.rs[j]? with
        | none => exact absurd (.inr hx) hz
        | some r => exact ⟨r, rfl⟩
      have hrok := h4 r (List.mem_of_getElem? hr)
      have hil := hi r hr
      have hi1 : 0 < i := by
        rcases Nat.eq_zero_or_pos i with h0 | h0
        · exact absurd (.inl h0) hz
        · exact h0
      rw [hr]
      simp only
      have hne : (partsTx (r.map hexD)).take i ≠ [] := fun h0 => by
        have h9 := congrArg List.length h0
        rw [List.length_take, List.length_nil] at h9
        omega
      refine ⟨?_, ?_⟩
      · rw [← List.append_assoc, List.getLast?_append]
        have := last_no ((row_lineIs h1 hrok).cut hil)
        obtain ⟨c, hc⟩ : ∃ c, ((partsTx (r.map hexD)).take i).getLast? = some c := by
          cases hx : ((partsTx (r.map hexD)).take i).getLast? with
          | none => exact absurd (List.getLast?_eq_none_iff.1 hx) hne
          | some c => exact ⟨c, rfl⟩
        rw [hc] at this ⊢
        exact this
      · have hm := mayT_take h j
        have hjl : j < t.rs.length := (List.getElem?_eq_some_iff.1 hr).1
        have e := tableT_tx hm ((partsTx (r.map hexD)).take i)
        rw [putTx_parts hm, List.append_assoc] at e
        simp only at e
        rw [e]
        have e2 := rowRd_tx t.bs r [] [] hrok
        have e3 : partsTx (r.map hexD) ++ [] = (partsTx (r.map hexD)).take i ++ (partsTx (r.map hexD)).drop i := by rw [List.append_nil, List.take_append_drop]
        rw [e3] at e2
        have e4 := (rowRd_inc t.bs []).cut e2 (by simp; omega)
        obtain ⟨f, hf⟩ : ∃ f, 4096 - (t.rs.take j).length = f + 1 := ⟨4096 - (t.rs.take j).length - 1, by simp; omega⟩
        rw [hf]
        obtain ⟨c, u, hcu⟩ := List.exists_cons_of_ne_nil hne
        rw [hcu] at e4 ⊢
        rw [rowsRd, e4]
end Go.Proofs.YtjgcfncganleoaaDoor
