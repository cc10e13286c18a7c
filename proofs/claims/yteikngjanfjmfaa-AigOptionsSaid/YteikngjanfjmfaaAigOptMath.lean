/-
  AigOptions: the same calls mean the same under any options. Plain mathematics.
-/
import Derived.Test.YteikngjanfjmfaaAigSemEval
import Derived.Test.YteikngjanfjmfaaLitOver
namespace Go.Proofs.Yteikngjanfjmfaa

/-! ### Words of inputs that are not there yet do not matter -/
theorem valTo_inp (inp more : List Nat) (ns : List (Nat × Nat)) (h : (ins ns).length ≤ inp.length) (k : Nat) (hk : k ≤ ns.length) : valTo (inp ++ more) ns k = valTo inp ns k := by
  induction k with
  | zero => rfl
  | succ k ih =>
    simp only [valTo]
    rw [ih (by omega)]
    congr 2
    unfold nodeV
    have hl : (ns.take k).length = k := by rw [List.length_take]; omega
    split
    · split
      · rfl
      · rename_i hin h0
        obtain ⟨⟨a, b⟩, hab⟩ : ∃ q, ns[k]? = some q := ⟨_, List.getElem?_eq_getElem (by omega)⟩
        have e : ns.getD k (0, 0) = (a, b) := by rw [List.getD_eq_getElem?_getD, hab]; rfl
        rw [e, hl] at hin
        have hat := ins_at hab (by simpa [inAt] using hin) (by omega)
        have hlt := (List.getElem?_eq_some_iff.1 hat).1
        simp only [List.getD_eq_getElem?_getD]
        rw [List.getElem?_append_left (by omega)]
    · rfl
theorem lw_inp (inp more : List Nat) (g : Gr) (h : (ins g.nodes).length ≤ inp.length) (l : Nat) : lw (inp ++ more) g l = lw inp g l := by
  unfold lw valL
  rw [valTo_inp inp more g.nodes h _ (Nat.le_refl _)]

/-! ### The law's own rows -/
/-- the literals of a call: told ones by their places, turned or not -/
def tb (T : List Nat) (n : Nat) : Nat := ifL (T.getD (n / 2 % 4294967296 % T.length) 0) (decide (n % 2 = 1))
def srcL (L : List Nat) : List Nat := L.take 4 ++ [0, 1, 2]
def bl (T L : List Nat) : List Nat := (srcL L).map (tb T)
def tw (V : List Nat) (n : Nat) : Nat := if n % 2 = 1 then noW (V.getD (n / 2 % 4294967296 % V.length) 0) else V.getD (n / 2 % 4294967296 % V.length) 0
def bw (V L : List Nat) : List Nat := (srcL L).map (tw V)
def opV (wh : Int) (b : List Nat) : Nat :=
  if wh = 1 then b.foldl (· &&& ·) 18446744073709551615
  else if wh = 2 then b.foldl (· ||| ·) 0
  else if wh = 3 then b.foldl (· ^^^ ·) 0
  else if wh = 4 then (b.getD 0 0 &&& b.getD 1 0) ||| (noW (b.getD 0 0) &&& b.getD 2 0)
  else 0
/-- the word of the next input -/
def inV (ws inp : List Nat) (i : Nat) : Nat := if inp.length < ws.length then ws.getD inp.length 0 else i
/-- words of what was told, and of the inputs -/
def optV (ws : List Nat) (i : Nat) (s : List Nat × List Nat) (act : Int × List Nat) : List Nat × List Nat :=
  if act.1 = 0 then (s.1 ++ [inV ws s.2 i], s.2 ++ [inV ws s.2 i]) else (s.1 ++ [opV act.1 (bw s.1 act.2)], s.2)
def optTo (ws : List Nat) (acts : List (Int × List Nat)) : Nat → List Nat × List Nat
  | 0 => ([0, 18446744073709551615], [])
  | k + 1 => optV ws k (optTo ws acts k) (acts.getD k (0, []))
/-- the graph, and what was told -/
def optG (s : Gr × List Nat) (act : Int × List Nat) : Gr × List Nat :=
  if act.1 = 0 then ((inputG s.1).1, s.2 ++ [(inputG s.1).2])
  else if act.1 = 1 then ((manyG andG s.1 1 (bl s.2 act.2)).1, s.2 ++ [(manyG andG s.1 1 (bl s.2 act.2)).2])
  else if act.1 = 2 then ((manyG orG s.1 0 (bl s.2 act.2)).1, s.2 ++ [(manyG orG s.1 0 (bl s.2 act.2)).2])
  else if act.1 = 3 then ((manyG xorG s.1 0 (bl s.2 act.2)).1, s.2 ++ [(manyG xorG s.1 0 (bl s.2 act.2)).2])
  else if act.1 = 4 then ((muxG s.1 ((bl s.2 act.2).getD 0 0) ((bl s.2 act.2).getD 1 0) ((bl s.2 act.2).getD 2 0)).1, s.2 ++ [(muxG s.1 ((bl s.2 act.2).getD 0 0) ((bl s.2 act.2).getD 1 0) ((bl s.2 act.2).getD 2 0)).2])
  else (s.1, s.2 ++ [0])

structure OptOk (k : Nat) (g : Gr) (T V inp : List Nat) : Prop where
  wf : WF g.nodes
  size : g.nodes.length ≤ 1 + 24 * k
  len : T.length = k + 2
  same : V.length = T.length
  ok : ∀ x ∈ T, g.ok x
  ins : (ins g.nodes).length = inp.length
  few : inp.length ≤ k
  words : Words inp
  vwords : Words V
  val : ∀ j, lw inp g (T.getD j 0) = V.getD j 0

theorem OptOk.start (o1 o2 : Bool) : OptOk 0 { fold := o1, hash := o2, nodes := [(0, 0)] } [0, 1] [0, 18446744073709551615] [] := by
  refine ⟨(start_wf), by simp, rfl, rfl, by simp [Gr.ok], rfl, by simp, by intro x hx; simp at hx, by intro x hx; simp at hx; omega, fun j => ?_⟩
  match j with
  | 0 => exact lw_zero _ _
  | 1 => exact lw_one _ _
  | j + 2 => exact lw_zero _ _
where start_wf : WF [(0, 0)] := ⟨rfl, fun i a b hi => by
  cases i with
  | zero => simp at hi; omega
  | succ i => simp at hi⟩

theorem srcL_length (L : List Nat) : 3 ≤ (srcL L).length ∧ (srcL L).length ≤ 7 := by unfold srcL; simp; omega
theorem bl_ok {k : Nat} {g : Gr} {T V inp : List Nat} (h : OptOk k g T V inp) (L : List Nat) : ∀ x ∈ bl T L, g.ok x := fun x hx => by
  obtain ⟨n, _, rfl⟩ := List.mem_map.1 hx
  have hp : 0 < T.length := by rw [h.len]; omega
  have : g.ok (T.getD (n / 2 % 4294967296 % T.length) 0) := h.ok _ (getD_memT (Nat.mod_lt _ hp))
  unfold tb Gr.ok at *
  rw [ifL_half]
  exact this
where getD_memT {l : List Nat} {k : Nat} (h : k < l.length) : l.getD k 0 ∈ l := by rw [List.getD_eq_getElem?_getD, List.getElem?_eq_getElem h]; exact List.getElem_mem h
theorem tb_val {k : Nat} {g : Gr} {T V inp : List Nat} (h : OptOk k g T V inp) (n : Nat) : lw inp g (tb T n) = tw V n := by
  unfold tb tw
  rw [h.same]
  have hv := h.val (n / 2 % 4294967296 % T.length)
  rcases Nat.mod_two_eq_zero_or_one n with hn | hn
  · rw [hn]; simpa [ifL] using hv
  · rw [hn]
    simp only [decide_true, if_true]
    show lw inp g (ntL _) = _
    rw [lw_nt h.words, hv]
theorem bl_fold {k : Nat} {g : Gr} {T V inp : List Nat} (h : OptOk k g T V inp) (f : Nat → Nat → Nat) (e : Nat) (L : List Nat) : foldW f inp g e (bl T L) = (bw V L).foldl f e := by
  unfold foldW bl bw
  rw [List.foldl_map, List.foldl_map]
  congr 1
  funext v x
  rw [tb_val h]
theorem bl_get {k : Nat} {g : Gr} {T V inp : List Nat} (h : OptOk k g T V inp) (L : List Nat) (j : Nat) (hj : j < (srcL L).length) : lw inp g ((bl T L).getD j 0) = (bw V L).getD j 0 := by
  unfold bl bw
  simp only [List.getD_eq_getElem?_getD, List.getElem?_map, List.getElem?_eq_getElem hj, Option.map_some, Option.getD_some]
  exact tb_val h _
/-- one call more -/
theorem OptOk.next {k : Nat} {g g' : Gr} {T V inp more : List Nat} {x v : Nat} (h : OptOk k g T V inp) (hw : WF g'.nodes) (hpre : ∃ m, g'.nodes = g.nodes ++ m) (hs : g'.nodes.length ≤ g.nodes.length + 24) (hx : g'.ok x) (hi : (Go.Proofs.Yteikngjanfjmfaa.ins g'.nodes).length = inp.length + more.length) (hf : more.length ≤ 1) (hmw : Words more) (hv : v < 18446744073709551616)
    (hval : lw (inp ++ more) g' x = v) : OptOk (k + 1) g' (T ++ [x]) (V ++ [v]) (inp ++ more) := by
  have hsz := h.size
  have hlen := h.len
  have hsm := h.same
  refine ⟨hw, by omega, by simp [hlen], by simp [hsm], fun y hy => ?_, by rw [List.length_append]; exact hi, by rw [List.length_append]; have := h.few; omega, fun y hy => ?_, fun y hy => ?_, fun j => ?_⟩
  · rcases List.mem_append.1 hy with hy | hy
    · have := h.ok y hy
      obtain ⟨m, hm⟩ := hpre
      unfold Gr.ok at *
      rw [hm, List.length_append]
      omega
    · simp at hy; subst hy; exact hx
  · rcases List.mem_append.1 hy with hy | hy
    · exact h.words y hy
    · exact hmw y hy
  · rcases List.mem_append.1 hy with hy | hy
    · exact h.vwords y hy
    · simp at hy; omega
  · by_cases hj : j < T.length
    · have e1 : (T ++ [x]).getD j 0 = T.getD j 0 := by simp only [List.getD_eq_getElem?_getD]; rw [List.getElem?_append_left hj]
      have e2 : (V ++ [v]).getD j 0 = V.getD j 0 := by simp only [List.getD_eq_getElem?_getD]; rw [List.getElem?_append_left (by omega)]
      rw [e1, e2, lw_pre hpre (h.ok _ (bl_ok.getD_memT hj)), lw_inp _ _ _ (by rw [h.ins]; omega), h.val]
    · by_cases hj2 : j = T.length
      · subst hj2
        have e1 : (T ++ [x]).getD T.length 0 = x := by simp [List.getD_eq_getElem?_getD]
        have e2 : (V ++ [v]).getD T.length 0 = v := by rw [← hsm]; simp [List.getD_eq_getElem?_getD]
        rw [e1, e2, hval]
      · have e1 : (T ++ [x]).getD j 0 = 0 := by rw [List.getD_eq_getElem?_getD, List.getElem?_eq_none (by simp; omega)]; rfl
        have e2 : (V ++ [v]).getD j 0 = 0 := by rw [List.getD_eq_getElem?_getD, List.getElem?_eq_none (by simp; omega)]; rfl
        rw [e1, e2, lw_zero]
theorem foldl_word {f : Nat → Nat → Nat} (hf : ∀ a b, a < 18446744073709551616 → b < 18446744073709551616 → f a b < 18446744073709551616) : ∀ (l : List Nat) (e : Nat), Words l → e < 18446744073709551616 → l.foldl f e < 18446744073709551616 := by
  intro l
  induction l with
  | nil => intro e _ he; exact he
  | cons x l ih => intro e hl he; exact ih _ (fun y hy => hl y (List.mem_cons_of_mem _ hy)) (hf _ _ he (hl x List.mem_cons_self))
theorem getD_word {V : List Nat} (h : Words V) (k : Nat) : V.getD k 0 < 18446744073709551616 := by
  rw [List.getD_eq_getElem?_getD]
  cases hk : V[k]? with
  | none => simp
  | some v => simpa using h v (List.mem_of_getElem? hk)
theorem bw_words {V : List Nat} (h : Words V) (L : List Nat) : Words (bw V L) := fun x hx => by
  obtain ⟨n, _, rfl⟩ := List.mem_map.1 hx
  unfold tw
  split
  · exact noW_lt _
  · exact getD_word h _
theorem opV_word {V : List Nat} (h : Words V) (wh : Int) (L : List Nat) : opV wh (bw V L) < 18446744073709551616 := by
  have hb := bw_words h L
  unfold opV
  split
  · exact foldl_word (fun a b ha _ => and_word ha) _ _ hb (by omega)
  split
  · exact foldl_word (fun a b ha hb => or_word ha hb) _ _ hb (by omega)
  split
  · exact foldl_word (fun a b ha hb => xor_word ha hb) _ _ hb (by omega)
  split
  · exact or_word (and_word (getD_word hb _)) (and_word (noW_lt _))
  · omega
/-- The law's step: graph and words go on together. -/
theorem OptOk.step {k : Nat} {g : Gr} {T V inp : List Nat} (h : OptOk k g T V inp) (ws : List Nat) (hws : Words ws) (hk : k < 40) (act : Int × List Nat) :
    OptOk (k + 1) (optG (g, T) act).1 (optG (g, T) act).2 (optV ws k (V, inp) act).1 (optV ws k (V, inp) act).2 := by
  obtain ⟨wh, L⟩ := act
  have hbo := bl_ok h L
  have hl := srcL_length L
  have hbl : (bl T L).length = (srcL L).length := by simp [bl]
  unfold optG optV
  simp only
  by_cases h0 : wh = 0
  · rw [if_pos h0, if_pos h0]
    have hsp := inputG_spec h.wf
    have hinv : inV ws inp k < 18446744073709551616 := by unfold inV; split; exact getD_word hws _; omega
    refine h.next (v := inV ws inp k) hsp.1 (inputG_pre g) (by simp [inputG]) hsp.2.1 (by rw [hsp.2.2, List.length_append, h.ins]; rfl) (by simp) (fun y hy => by simp at hy; omega) hinv ?_
    rw [inputG_val h.wf, h.ins]
    simp [List.getD_eq_getElem?_getD]
  · rw [if_neg h0, if_neg h0]
    have gates : ∀ {r : Gr × Nat} {v : Nat}, WF r.1.nodes ∧ Ext 24 g r.1 ∧ r.1.ok r.2 → v = opV wh (bw V L) → lw inp r.1 r.2 = v → OptOk (k + 1) r.1 (T ++ [r.2]) (V ++ [opV wh (bw V L)]) inp := fun {r v} hr hv hval => by
      have := h.next (more := []) (v := opV wh (bw V L)) hr.1 hr.2.1.pre' hr.2.1.le.2 hr.2.2 (by rw [hr.2.1.ins, h.ins]; rfl) (by simp) (fun y hy => by simp at hy) (opV_word h.vwords wh L) (by rw [List.append_nil, hval, hv])
      rwa [List.append_nil] at this
    have m24 : ∀ {r : Gr × Nat}, WF r.1.nodes ∧ Ext (3 * (bl T L).length) g r.1 ∧ r.1.ok r.2 → WF r.1.nodes ∧ Ext 24 g r.1 ∧ r.1.ok r.2 := fun hr => ⟨hr.1, hr.2.1.mono (by omega), hr.2.2⟩
    by_cases h1 : wh = 1
    · rw [if_pos h1]
      refine gates (m24 (manyG_spec andG two_and h.wf (by omega) _ hbo)) rfl ?_
      rw [manyG_and h.words h.wf _ hbo, bl_fold h]
      unfold opV; rw [if_pos h1]
    rw [if_neg h1]
    by_cases h2 : wh = 2
    · rw [if_pos h2]
      refine gates (m24 (manyG_spec orG two_or h.wf (by omega) _ hbo)) rfl ?_
      rw [manyG_or h.words h.wf _ hbo, bl_fold h]
      unfold opV; rw [if_neg h1, if_pos h2]
    rw [if_neg h2]
    by_cases h3 : wh = 3
    · rw [if_pos h3]
      refine gates (m24 (manyG_spec xorG two_xor h.wf (by omega) _ hbo)) rfl ?_
      rw [manyG_xor h.words h.wf _ hbo, bl_fold h]
      unfold opV; rw [if_neg h1, if_neg h2, if_pos h3]
    rw [if_neg h3]
    by_cases h4 : wh = 4
    · rw [if_pos h4]
      have o0 := hbo _ (bl_ok.getD_memT (l := bl T L) (k := 0) (by omega))
      have o1 := hbo _ (bl_ok.getD_memT (l := bl T L) (k := 1) (by omega))
      have o2 := hbo _ (bl_ok.getD_memT (l := bl T L) (k := 2) (by omega))
      have hr := muxG_spec h.wf o0 o1 o2
      refine gates ⟨hr.1, hr.2.1.mono (by omega), hr.2.2⟩ rfl ?_
      rw [muxG_val h.wf h.words o0 o1 o2, bl_get h L 0 (by omega), bl_get h L 1 (by omega), bl_get h L 2 (by omega)]
      unfold opV; rw [if_neg h1, if_neg h2, if_neg h3, if_pos h4]
    rw [if_neg h4]
    refine gates (r := (g, 0)) (v := opV wh (bw V L)) ⟨h.wf, (Ext.refl g).mono (by omega), by have := h.wf.pos; unfold Gr.ok; simp; omega⟩ rfl ?_
    unfold opV; rw [if_neg h1, if_neg h2, if_neg h3, if_neg h4]
    exact lw_zero _ _
end Go.Proofs.Yteikngjanfjmfaa
