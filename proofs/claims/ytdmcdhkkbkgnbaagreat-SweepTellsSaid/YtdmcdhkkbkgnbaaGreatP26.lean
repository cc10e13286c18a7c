/-
  Package sweep, plain: what is swept tells the same, cycle by cycle.
-/
import Derived.Test.YtdmcdhkkbkgnbaaGreatP25
namespace Go.Proofs.YtdmcdhkkbkgnbaaGreat
set_option linter.unusedVariables false
set_option linter.unusedSimpArgs false

variable {N : Nt} {k : Nat}
/-- words hang on the inputs that are leant on -/
theorem lw_cn {G : Gr} (hw : WF G.nodes) {x : Nat} (hx : G.ok x) {ws ds : List Nat} (hws : Words ws) (hds : Words ds) (hsame : ∀ i, i < (ins G.nodes).length → Cn G.nodes (x / 2) ((ins G.nodes).getD i 0) → ws.getD i 0 = ds.getD i 0) : lw ws G x = lw ds G x := by
  have key : ∀ n j, j < n → j < G.nodes.length → Cn G.nodes (x / 2) j → lw ws G (2 * j) = lw ds G (2 * j) := by
    intro n
    induction n with
    | zero => intro j hj; omega
    | succ n ih =>
      intro j hj hl hR
      by_cases h0 : j = 0
      · subst h0
        rw [show 2 * 0 = 0 from rfl, lw_zero, lw_zero]
      · cases hg : gAt G.nodes j with
        | false =>
          have hn := not_gate (by omega) hl hg
          have hnode := node_at hl
          have hm : j ∈ ins G.nodes := by
            have := insFrom_mem 0 G.nodes j _ hnode (by rw [Nat.zero_add]; exact hn) (by omega)
            rw [Nat.zero_add] at this
            exact this
          obtain ⟨i, hi, hij⟩ := List.getElem_of_mem hm
          have hd : (ins G.nodes).getD i 0 = j := by rw [List.getD_eq_getElem?_getD, List.getElem?_eq_getElem hi]; exact hij
          rw [← hd, in_lw hw hi, in_lw hw hi]
          exact hsame i hi (by rw [hd]; exact hR)
        | true =>
          obtain ⟨ha, hb, _⟩ := gAt_lt hw hg
          rw [gate_lw hw hg, gate_lw hw hg, lw_half hws (gA G.nodes j), lw_half hds (gA G.nodes j), lw_half hws (gB G.nodes j), lw_half hds (gB G.nodes j)]
          rw [ih (gA G.nodes j / 2) (by omega) (by omega) (.ga hR hg), ih (gB G.nodes j / 2) (by omega) (by omega) (.gb hR hg)]
  rw [lw_half hws x, lw_half hds x, key (x / 2 + 1) (x / 2) (by omega) hx .self]
theorem wd_words (hw : WF N.g.nodes) (inp : List (List Nat)) (regs : List Nat) (x : Nat) : wd (wordsN N inp regs) x = lw (inpN N inp regs) N.g x := by
  unfold wordsN
  rw [evalG_val hw]
  rfl
/-! words by what they drive -/
theorem pairsB_zip (l : List Bus) : ∀ rows : List (List Nat), rows.map List.length = l.map (·.lits.length) → pairsB l rows = (l.flatMap (·.lits)).zip rows.flatten ∧ rows.flatten.length = (l.flatMap (·.lits)).length := by
  induction l with
  | nil =>
    intro rows h
    have : rows = [] := by simpa using h
    subst this
    exact ⟨rfl, rfl⟩
  | cons b l ih =>
    intro rows h
    cases rows with
    | nil => simp at h
    | cons r rows =>
      simp only [List.map_cons, List.cons.injEq] at h
      obtain ⟨h1, h2⟩ := ih rows h.2
      constructor
      · show b.lits.zip r ++ pairsB l rows = _
        rw [h1, List.flatMap_cons, List.flatten_cons, List.zip_append h.1.symm]
      · rw [List.flatten_cons, List.flatMap_cons, List.length_append, List.length_append, h2, h.1]
theorem pairsN_zip {inp : List (List Nat)} {regs : List Nat} (hfit : inp.map List.length = N.inb.map (·.lits.length)) (hr : regs.length = N.regs.length) : pairsN N inp regs = (drivenN N).zip (inp.flatten ++ regs) ∧ (inp.flatten ++ regs).length = (drivenN N).length := by
  obtain ⟨h1, h2⟩ := pairsB_zip N.inb inp hfit
  unfold pairsN drivenN
  rw [h1]
  exact ⟨(List.zip_append h2.symm).symm, by rw [List.length_append, List.length_append, h2, List.length_map, hr]⟩
theorem find_zip {ks vs : List Nat} (hn : ks.Nodup) {t a v : Nat} (h1 : ks[t]? = some a) (h2 : vs[t]? = some v) : (ks.zip vs).find? (fun p => decide (p.1 = a)) = some (a, v) := by
  induction ks generalizing vs t with
  | nil => simp at h1
  | cons k ks ih =>
    cases vs with
    | nil => simp at h2
    | cons u vs =>
      rw [List.zip_cons_cons, List.find?_cons]
      cases t with
      | zero => simp at h1 h2; subst h1 h2; simp
      | succ t =>
        simp at h1 h2
        have hne : k ≠ a := fun e => (List.nodup_cons.1 hn).1 (e ▸ List.mem_of_getElem? h1)
        simp only [hne, decide_false]
        exact ih (List.nodup_cons.1 hn).2 h1 h2
/-- an input's word: that of the place where it is driven -/
theorem inpN_at (hf : NtFine k N) {inp : List (List Nat)} {regs : List Nat} (hfit : inp.map List.length = N.inb.map (·.lits.length)) (hr : regs.length = N.regs.length) {p t : Nat} (hp : p < (ins N.g.nodes).length) (h1 : (drivenN N)[t]? = some (2 * (ins N.g.nodes).getD p 0)) :
    (inpN N inp regs).getD p 0 = (inp.flatten ++ regs).getD t 0 := by
  obtain ⟨z1, z2⟩ := pairsN_zip hfit hr
  have ht := (List.getElem?_eq_some_iff.1 h1).1
  have hv : (inp.flatten ++ regs)[t]? = some ((inp.flatten ++ regs).getD t 0) := by
    rw [List.getD_eq_getElem?_getD, List.getElem?_eq_getElem (by omega)]; rfl
  unfold inpN asg
  rw [z1, List.getD_eq_getElem?_getD, List.getElem?_map, List.getElem?_eq_getElem hp]
  simp only [Option.map_some, Option.getD_some]
  have e : (ins N.g.nodes).getD p 0 = (ins N.g.nodes)[p] := by rw [List.getD_eq_getElem?_getD, List.getElem?_eq_getElem hp]; rfl
  rw [e] at h1
  rw [find_zip hf.dn h1 hv]
  rfl
/-! both in step -/
structure InStep (N : Nt) (a b : List Nat) : Prop where
  la : a.length = N.regs.length
  lb : b.length = (goingL N).length
  wa : Words a
  wb : Words b
  go : ∀ j, j < N.regs.length → goesB N j = true → b.getD (goingTo N j).length 0 = a.getD j 0
  st : ∀ j, j < N.regs.length → stuckR (N.regs.getD j ⟨0, 0, 0, false⟩) = true → a.getD j 0 = if (N.regs.getD j ⟨0, 0, 0, false⟩).init then 18446744073709551615 else 0
theorem going_at {j : Nat} (hj : j < N.regs.length) (hg : goesB N j = true) : (goingL N)[(goingTo N j).length]? = some (N.regs.getD j ⟨0, 0, 0, false⟩) := by
  have key : ∀ m, j < m → m ≤ N.regs.length → (goingTo N m)[(goingTo N j).length]? = some (N.regs.getD j ⟨0, 0, 0, false⟩) := by
    intro m
    induction m with
    | zero => intro h; omega
    | succ m ih =>
      intro h1 h2
      simp only [goingTo]
      rcases Nat.lt_or_eq_of_le (Nat.le_of_lt_succ h1) with h3 | h3
      · have := ih h3 (by omega)
        rw [List.getElem?_append_left (List.getElem?_eq_some_iff.1 this).1]
        exact this
      · subst h3
        rw [if_pos hg, List.getElem?_append_right (Nat.le_refl _), Nat.sub_self]
        rfl
  exact key N.regs.length hj (Nat.le_refl _)
theorem reset_step (N : Nt) : InStep N (resetN N) (resetN (onceN N)) := by
  have hl : (resetN (onceN N)).length = (goingL N).length := by unfold resetN; rw [List.length_map]; exact once_regs N
  refine ⟨by simp [resetN], hl, resetN_words _, resetN_words _, fun j hj hg => ?_, fun j hj _ => ?_⟩
  · have h1 := newRegs_get (s := (copyN N).2) (a := 1 + inMany N.inb) (going_at hj hg)
    have e2 : N.regs.getD j ⟨0, 0, 0, false⟩ = N.regs[j] := by rw [List.getD_eq_getElem?_getD, List.getElem?_eq_getElem hj]; rfl
    rw [e2] at h1
    unfold resetN
    simp only [List.getD_eq_getElem?_getD, List.getElem?_map]
    rw [show (onceN N).regs = newRegs (copyN N).2 (1 + inMany N.inb) (goingL N) from rfl, h1, List.getElem?_eq_getElem hj]
    rfl
  · unfold resetN
    rw [List.getD_eq_getElem?_getD, List.getElem?_map, List.getElem?_eq_getElem hj, List.getD_eq_getElem?_getD, List.getElem?_eq_getElem hj]
    rfl
theorem posOf_at {l : List Nat} (hn : (l.map (· / 2)).Nodup) {t x : Nat} (h : l[t]? = some x) : posOf l (x / 2) = some t := by
  obtain ⟨h1, h2⟩ := List.getElem?_eq_some_iff.1 h
  unfold posOf
  rw [List.findIdx?_eq_some_iff_getElem]
  refine ⟨h1, by simp [h2], fun j hj => ?_⟩
  simp only [decide_eq_true_eq]
  intro e
  have hj' : j < l.length := by omega
  have h3 : (l.map (· / 2))[j]'(by simpa using hj') = (l.map (· / 2))[t]'(by simpa using h1) := by rw [List.getElem_map, List.getElem_map, h2]; exact e
  have := (List.getElem_inj hn).1 h3
  omega
theorem driven_half (hf : NtFine k N) : ((drivenN N).map (· / 2)).Nodup := by
  rw [List.nodup_iff_pairwise_ne, List.pairwise_map]
  have h := List.nodup_iff_pairwise_ne.1 hf.dn
  refine (h.imp_of_mem fun {a b} ha hb hab e => ?_)
  obtain ⟨i, _, rfl⟩ := hf.di a ha
  obtain ⟨j, _, rfl⟩ := hf.di b hb
  omega
/-- what stands for an input has the input's word, where it matters -/
theorem stand_word (hf : NtFine k N) {inp : List (List Nat)} {a b : List Nat} (hs : InStep N a b) (hfit : inp.map List.length = N.inb.map (·.lits.length)) (hi : ∀ r ∈ inp, Words r) (hc : checkN N = 0) {p : Nat} (hp : p < (ins N.g.nodes).length) (hnd : Nd N ((ins N.g.nodes).getD p 0)) :
    lw (inpN (onceN N) inp b) (baseG N) (standN N ((ins N.g.nodes).getD p 0)) = (inpN N inp a).getD p 0 := by
  have hfit2 : inp.map List.length = (onceN N).inb.map (·.lits.length) := by
    rw [hfit]
    show _ = (inRows 1 N.inb).map _
    generalize 1 = s
    induction N.inb generalizing s with
    | nil => rfl
    | cons c l ih => simp only [inRows, List.map_cons, rowFrom_length]; rw [← ih]
  have hfo := (once_fine hf).1
  have hdr2 := once_driven N
  have hins2 := once_ins N
  have hbase := base_ins N
  have hb2 : b.length = (onceN N).regs.length := by rw [once_regs]; exact hs.lb
  have hwo : Words (inpN (onceN N) inp b) := inpN_words hi hs.wb
  -- the word of an input of the new one
  have new : ∀ t, t < inMany N.inb + (goingL N).length → lw (inpN (onceN N) inp b) (baseG N) (2 * (1 + t)) = (inp.flatten ++ b).getD t 0 := fun t ht => by
    have h1 := in_lw (inp := inpN (onceN N) inp b) (base_wf N) (i := t) (by rw [hbase]; simpa using ht)
    have h2 : (ins (baseG N).nodes).getD t 0 = 1 + t := by rw [hbase, List.getD_eq_getElem?_getD]; simp [ht]
    rw [h2] at h1
    rw [h1]
    have h3 : (ins (onceN N).g.nodes).getD t 0 = 1 + t := by rw [hins2, List.getD_eq_getElem?_getD]; simp [ht]
    exact inpN_at hfo hfit2 hb2 (p := t) (by rw [hins2]; simpa using ht) (by rw [hdr2, h3]; unfold rowFrom; simp [ht])
  -- where it is driven
  have hmem : (ins N.g.nodes).getD p 0 ∈ ins N.g.nodes := by rw [List.getD_eq_getElem?_getD, List.getElem?_eq_getElem hp]; exact List.getElem_mem _
  have hfull : 2 * (ins N.g.nodes).getD p 0 ∈ drivenN N := by
    unfold checkN at hc
    by_cases hb : fullB N = true
    · unfold fullB at hb
      rw [List.all_eq_true] at hb
      simpa using hb _ hmem
    · rw [if_neg hb] at hc; omega
  obtain ⟨t, ht⟩ := List.getElem?_of_mem hfull
  rw [inpN_at hf hfit hs.la hp ht]
  have hz := pairsB_zip N.inb inp hfit
  have hlen : inp.flatten.length = inMany N.inb := hz.2
  generalize hnode : (ins N.g.nodes).getD p 0 = node at *
  have hhalf := driven_half hf
  unfold drivenN at ht hhalf
  unfold standN
  by_cases htl : t < (N.inb.flatMap (·.lits)).length
  · rw [List.getElem?_append_left htl] at ht
    have hn1 : ((N.inb.flatMap (·.lits)).map (· / 2)).Nodup := by rw [List.map_append] at hhalf; exact (List.nodup_append.1 hhalf).1
    have h1 := posOf_at hn1 ht
    rw [show 2 * node / 2 = node by omega] at h1
    rw [h1]
    show lw _ _ (2 * (1 + t)) = _
    rw [new t (by unfold inMany; omega)]
    simp only [List.getD_eq_getElem?_getD]
    rw [List.getElem?_append_left (by rw [hlen]; exact htl), List.getElem?_append_left (by rw [hlen]; exact htl)]
  · rw [List.getElem?_append_right (by omega), List.getElem?_map] at ht
    obtain ⟨r, hr, hq⟩ := Option.map_eq_some_iff.1 ht
    obtain ⟨j, hj⟩ : ∃ j, j = t - (N.inb.flatMap (·.lits)).length := ⟨_, rfl⟩
    rw [← hj] at hr
    obtain ⟨hjl, hjr⟩ := List.getElem?_eq_some_iff.1 hr
    have hgd : N.regs.getD j ⟨0, 0, 0, false⟩ = r := by rw [List.getD_eq_getElem?_getD, hr]; rfl
    have h1 : posOf (N.inb.flatMap (·.lits)) node = none := by
      unfold posOf
      rw [List.findIdx?_eq_none_iff]
      intro x hx
      simp only [decide_eq_false_iff_not]
      intro e
      rw [List.map_append] at hhalf
      refine (List.nodup_append.1 hhalf).2.2 (x / 2) (List.mem_map_of_mem hx) (r.q / 2) ?_ ?_
      · rw [List.map_map]; exact List.mem_map.2 ⟨r, List.mem_of_getElem? hr, rfl⟩
      · omega
    have h2 := placeR_of hf hjl
    rw [hgd, hq, show 2 * node / 2 = node by omega] at h2
    rw [h1, h2]
    have hnd' := (needed_iff hf hjl).2 (by rw [hgd, hq, show 2 * node / 2 = node by omega]; exact hnd)
    have hat : (inp.flatten ++ a).getD t 0 = a.getD j 0 := by
      simp only [List.getD_eq_getElem?_getD]
      rw [List.getElem?_append_right (by rw [hlen]; unfold inMany; omega), hlen]
      unfold inMany
      rw [← hj]
    rw [hat]
    show lw _ _ (standR N j) = _
    unfold standR
    by_cases hg : goesB N j = true
    · rw [if_pos hg]
      have hrank : (goingTo N j).length < (goingL N).length := goingTo_lt hg hjl
      rw [show 2 * (1 + inMany N.inb + (goingTo N j).length) = 2 * (1 + (inMany N.inb + (goingTo N j).length)) by omega, new _ (by omega), ← hs.go j hjl hg]
      simp only [List.getD_eq_getElem?_getD]
      rw [List.getElem?_append_right (by omega), hlen, Nat.add_sub_cancel_left]
    · rw [if_neg hg]
      have hst : stuckR (N.regs.getD j ⟨0, 0, 0, false⟩) = true := by
        unfold goesB at hg
        rw [hnd'] at hg
        simpa using hg
      rw [hs.st j hjl hst]
      unfold firstR
      cases (N.regs.getD j ⟨0, 0, 0, false⟩).init
      · exact lw_zero _ _
      · exact lw_one _ _
theorem wanted_nd (hf : NtFine k N) : ∀ x ∈ wantedN N, Nd N (x / 2) := fun x hx => by
  unfold wantedN at hx
  rcases List.mem_append.1 hx with hx | hx
  · exact .out hx
  · obtain ⟨r, hr, hx⟩ := List.mem_flatMap.1 hx
    obtain ⟨j, h1, h2, rfl⟩ := goingTo_mem hr
    have hn : Nd N ((N.regs.getD j ⟨0, 0, 0, false⟩).q / 2) := (needed_iff hf h1).1 (by unfold goesB at h2; rw [Bool.and_eq_true] at h2; exact h2.1)
    simp only [List.mem_cons, List.not_mem_nil, or_false] at hx
    rcases hx with rfl | rfl
    · exact .rd (getD_regs h1) hn
    · exact .re (getD_regs h1) hn
/-- a copied literal has the old one's word -/
theorem copied_word (hf : NtFine k N) {inp : List (List Nat)} {a b : List Nat} (hs : InStep N a b) (hfit : inp.map List.length = N.inb.map (·.lits.length)) (hi : ∀ r ∈ inp, Words r) (hc : checkN N = 0) {x : Nat} (hx : x ∈ wantedN N) :
    wd (wordsN (onceN N) inp b) (overL (copyN N).2 x) = wd (wordsN N inp a) x := by
  have hw := hf.ok.wf
  have hwo : Words (inpN (onceN N) inp b) := inpN_words hi hs.wb
  have hwa : Words (inpN N inp a) := inpN_words hi hs.wa
  rw [wd_words hw, wd_words (once_fine hf).1.ok.wf]
  have hcw := copy_words (inp := inpN (onceN N) inp b) (g0 := baseG N) (g2 := N.g) (bys := byN N) (l := wantedN N) hwo (base_wf N) hw (byN_ok N) (by simp [byN]) (wanted_ok hf)
  obtain ⟨i, hi', hxi⟩ := List.getElem_of_mem hx
  have h1 := congrArg (fun l => l[i]?) hcw
  simp only [List.getElem?_map, List.getElem?_eq_getElem hi', Option.map_some, Option.some.injEq, hxi] at h1
  show lw _ (copyN N).1 _ = _
  unfold copyN
  rw [h1]
  refine lw_cn hw (wanted_ok hf x hx) (map_words hwo) hwa fun p hp hcn => ?_
  have h2 := stand_word hf hs hfit hi hc hp ((wanted_nd hf x hx).cn hcn)
  rw [← h2]
  unfold byN
  rw [List.map_map, List.getD_eq_getElem?_getD, List.getElem?_map, List.getElem?_eq_getElem hp, List.getD_eq_getElem?_getD, List.getElem?_eq_getElem hp]
  rfl
theorem once_out (hf : NtFine k N) {inp : List (List Nat)} {a b : List Nat} (hs : InStep N a b) (hfit : inp.map List.length = N.inb.map (·.lits.length)) (hi : ∀ r ∈ inp, Words r) (hc : checkN N = 0) :
    outN (onceN N) (wordsN (onceN N) inp b) = outN N (wordsN N inp a) := by
  unfold outN
  show (N.outb.map _).map _ = _
  rw [List.map_map]
  apply List.map_congr_left
  intro bus hb
  show (bus.lits.map (overL (copyN N).2)).map _ = _
  rw [List.map_map]
  apply List.map_congr_left
  intro x hx
  exact copied_word hf hs hfit hi hc (List.mem_append_left _ (List.mem_flatMap.2 ⟨bus, hb, hx⟩))
theorem noW_mux (a e : Nat) (ha : a < 18446744073709551616) (he : e < 18446744073709551616) : (a &&& e) ||| (a &&& noW e) = a := by
  apply Nat.eq_of_testBit_eq
  intro i
  rw [Nat.testBit_or, Nat.testBit_and, Nat.testBit_and, noW_testBit e i he]
  by_cases hi : i < 64
  · cases a.testBit i <;> cases e.testBit i <;> simp [hi]
  · have hp : (2 : Nat) ^ 64 ≤ 2 ^ i := Nat.pow_le_pow_right (by omega) (by omega)
    have : a.testBit i = false := Nat.testBit_lt_two_pow (Nat.lt_of_lt_of_le ha hp)
    simp [this]
theorem next_step (hf : NtFine k N) {inp : List (List Nat)} {a b : List Nat} (hs : InStep N a b) (hfit : inp.map List.length = N.inb.map (·.lits.length)) (hi : ∀ r ∈ inp, Words r) (hc : checkN N = 0) :
    InStep N (nextN N (wordsN N inp a) a) (nextN (onceN N) (wordsN (onceN N) inp b) b) := by
  have hWa : Words (wordsN N inp a) := wordsN_words hi hs.wa
  have hWb : Words (wordsN (onceN N) inp b) := wordsN_words hi hs.wb
  have hb2 : b.length = (onceN N).regs.length := by rw [once_regs]; exact hs.lb
  have nxt : ∀ (M : Nt) (ws c : List Nat) (j : Nat), c.length = M.regs.length → j < M.regs.length → (nextN M ws c).getD j 0 = nextR ws (M.regs.getD j ⟨0, 0, 0, false⟩) (c.getD j 0) := fun M ws c j hl hj => by
    unfold nextN
    simp only [List.getD_eq_getElem?_getD, List.getElem?_map]
    rw [List.getElem?_eq_getElem (by simp [hl]; omega), List.getElem_zip, List.getElem?_eq_getElem hj, List.getElem?_eq_getElem (by omega)]
    rfl
  refine ⟨by rw [nextN_length hs.la], by rw [nextN_length hb2, once_regs], nextN_words hWa hs.wa, nextN_words hWb hs.wb, fun j hj hg => ?_, fun j hj hst => ?_⟩
  · have hrank : (goingTo N j).length < (goingL N).length := goingTo_lt hg hj
    rw [nxt N _ _ j hs.la hj, nxt (onceN N) _ _ _ hb2 (by rw [once_regs]; exact hrank), hs.go j hj hg]
    have h1 := newRegs_get (s := (copyN N).2) (a := 1 + inMany N.inb) (going_at hj hg)
    have h2 : (onceN N).regs.getD (goingTo N j).length ⟨0, 0, 0, false⟩ = ⟨2 * (1 + inMany N.inb + (goingTo N j).length), overL (copyN N).2 (N.regs.getD j ⟨0, 0, 0, false⟩).d, overL (copyN N).2 (N.regs.getD j ⟨0, 0, 0, false⟩).en, (N.regs.getD j ⟨0, 0, 0, false⟩).init⟩ := by
      rw [List.getD_eq_getElem?_getD, show (onceN N).regs = newRegs (copyN N).2 (1 + inMany N.inb) (goingL N) from rfl, h1]
      rfl
    rw [h2]
    unfold nextR
    have hm : ∀ x, (x = (N.regs.getD j ⟨0, 0, 0, false⟩).d ∨ x = (N.regs.getD j ⟨0, 0, 0, false⟩).en) → x ∈ wantedN N := fun x hx => List.mem_append_right _ (List.mem_flatMap.2 ⟨_, List.mem_of_getElem? (going_at hj hg), by simpa using hx⟩)
    simp only
    rw [copied_word hf hs hfit hi hc (hm _ (.inl rfl)), copied_word hf hs hfit hi hc (hm _ (.inr rfl))]
  · rw [nxt N _ _ j hs.la hj, ← hs.st j hj hst]
    have hws := hs.st j hj hst
    have hlt : a.getD j 0 < 18446744073709551616 := by rw [hws]; split <;> omega
    generalize hr : N.regs.getD j ⟨0, 0, 0, false⟩ = r at *
    unfold nextR
    unfold stuckR at hst
    simp only [Bool.or_eq_true, decide_eq_true_eq] at hst
    have hen : wd (wordsN N inp a) r.en < 18446744073709551616 := wd_lt hWa _
    have fin : wd (wordsN N inp a) r.d = a.getD j 0 → (wd (wordsN N inp a) r.d &&& wd (wordsN N inp a) r.en) ||| (a.getD j 0 &&& noW (wd (wordsN N inp a) r.en)) = a.getD j 0 := fun e => by
      rw [e]; exact noW_mux _ _ hlt hen
    rcases hst with (h1 | h1) | h1
    · rw [h1, wd_zero]
      unfold noW
      rw [Nat.and_zero, Nat.zero_or, Nat.sub_zero]
      have := Nat.and_two_pow_sub_one_of_lt_two_pow (n := 64) hlt
      exact this
    · apply fin
      have hrm : r ∈ N.regs := by rw [← hr]; exact getD_regs hj
      have hq := (regs_apart hf).1 r hrm
      rw [h1, wd_words hf.ok.wf]
      -- its own word
      have hfull : r.q ∈ drivenN N := by unfold drivenN; exact List.mem_append_right _ (List.mem_map_of_mem hrm)
      obtain ⟨i, hin, hqi⟩ := hf.di r.q hfull
      obtain ⟨p, hp, hpi⟩ := List.getElem_of_mem hin
      have hgd : (ins N.g.nodes).getD p 0 = i := by rw [List.getD_eq_getElem?_getD, List.getElem?_eq_getElem hp]; exact hpi
      have e1 := in_lw (inp := inpN N inp a) hf.ok.wf hp
      rw [hgd, ← hqi] at e1
      rw [e1]
      have hz := pairsB_zip N.inb inp hfit
      have ht : (drivenN N)[(N.inb.flatMap (·.lits)).length + j]? = some (2 * (ins N.g.nodes).getD p 0) := by
        unfold drivenN
        rw [List.getElem?_append_right (by omega), Nat.add_sub_cancel_left, List.getElem?_map, List.getElem?_eq_getElem hj, hgd, ← hqi, ← hr]
        rw [List.getD_eq_getElem?_getD, List.getElem?_eq_getElem hj]
        rfl
      rw [inpN_at hf hfit hs.la hp ht]
      simp only [List.getD_eq_getElem?_getD]
      rw [List.getElem?_append_right (by omega), hz.2, Nat.add_sub_cancel_left]
    · apply fin
      rw [h1, hws]
      unfold firstR
      cases r.init
      · exact wd_zero _
      · exact wd_one _
end Go.Proofs.YtdmcdhkkbkgnbaaGreat
