/-
  Law 08's arguments, opened: rows of words.
  Law 08: what all laws begin with; rows of words that are the same.
  NetWell, plain: steps keep all inputs driven; a step that fails leaves all; a key deleted from a map.
-/
import Derived.Test.YtielfgngdhcpfaaGreatP38
import Derived.Test.YtielfgngdhcpfaaGreatP14
import Derived.Test.YtielfgngdhcpfaaGreatP32
import Derived.Test.YtielfgngdhcpfaaGreatP27
import Derived.Maps.OwnSet
import Derived.Test.YtielfgngdhcpfaaGreatP37
namespace Go.Proofs.YtielfgngdhcpfaaGreat
open Go.ChangeShapes Go.WideShapes Go.ChangeAt Go.RowKit
open Go.Maps (Keyed)
open Go.WideMaps
set_option linter.unusedVariables false
set_option linter.unusedSimpArgs false

def Full (N : Nt) : Prop := ∀ i ∈ ins N.g.nodes, 2 * i ∈ drivenN N
theorem fullB_of {N : Nt} (h : Full N) : fullB N = true := by
  unfold fullB
  rw [List.all_eq_true]
  intro i hi
  rw [List.contains_iff_mem]
  exact h i hi
theorem full_start (s : ByteArray) (a b : Bool) : Full (newN s a b) := by
  intro i hi
  simp [newN, ins, insFrom, inAt] at hi
theorem full_graph {N : Nt} {g' : Gr} (h : Full N) (hi : ins g'.nodes = ins N.g.nodes) : Full { N with g := g' } := fun i h1 => h i (by rw [← hi]; exact h1)
theorem full_does {k : Nat} {N : Nt} (hf : NtFine k N) (h : Full N) (s : NStp) (h8 : s.what ≠ 8) : Full (doesN N s).1 := by
  unfold doesN
  split
  · unfold addIn
    split
    · exact h
    · split
      · exact h
      · have hd : drivenN { N with g := inputsG N.g s.n.toNat, inb := N.inb ++ [⟨s.name, rowFrom N.g.nodes.length s.n.toNat⟩] } = N.inb.flatMap (·.lits) ++ rowFrom N.g.nodes.length s.n.toNat ++ N.regs.map (·.q) := by simp [drivenN]
        intro i hi
        rw [hd]
        have hi : i ∈ ins (inputsG N.g s.n.toNat).nodes := hi
        rw [inputsG_ins hf.ok.wf] at hi
        rcases List.mem_append.1 hi with hi | hi
        · have := h i hi
          unfold drivenN at this
          simp only [List.mem_append] at this ⊢
          rcases this with h1 | h1
          · exact .inl (.inl h1)
          · exact .inr h1
        · obtain ⟨j, hj, rfl⟩ := List.mem_map.1 hi
          exact List.mem_append_left _ (List.mem_append_right _ (rowFrom_mem.2 ⟨j, List.mem_range.1 hj, rfl⟩))
  · split
    · intro i hi
      have hd : drivenN (addReg N (decide (s.n % 2 ≠ 0))).1 = drivenN N ++ [2 * N.g.nodes.length] := by simp [drivenN, addReg]
      rw [hd]
      have hi : i ∈ ins (inputG N.g).1.nodes := hi
      rw [(inputG_spec hf.ok.wf).2.2] at hi
      rcases List.mem_append.1 hi with hi | hi
      · exact List.mem_append_left _ (h i hi)
      · simp at hi
        subst hi
        exact List.mem_append_right _ (by simp)
    · split
      · unfold setReg
        split
        · exact h
        · split
          · exact h
          · rename_i j hj hg
            have hd : drivenN { N with regs := putR N.regs j s.b s.c } = drivenN N := by simp [drivenN, putR_q]
            intro i hi
            show 2 * i ∈ drivenN { N with regs := putR N.regs j s.b s.c }
            rw [hd]
            exact h i hi
      · split
        · unfold addOut
          split
          · exact h
          · split
            · exact h
            · exact h
        · have hgate : ∀ two : Gr → Nat → Nat → Gr × Nat, (∀ g a b, WF g.nodes → g.ok a → g.ok b → WF (two g a b).1.nodes ∧ Ext 3 g (two g a b).1 ∧ (two g a b).1.ok (two g a b).2) → Full (gateN N two s.b s.c).1 := fun two h2 => by
            unfold gateN
            split
            · exact h
            · rename_i hg
              have hl := gone_false.1 (by simpa using hg)
              exact full_graph h (h2 N.g s.b s.c hf.ok.wf (hl _ (by simp)) (hl _ (by simp))).2.1.ins
          split
          · exact hgate _ two_and
          · split
            · exact hgate _ two_xor
            · exact h
theorem did_err {N : Nt} {s : NStp} (he : (doesN N s).2.2 ≠ 0) : (doesN N s).1 = N := by
  unfold doesN at *
  repeat' split at he
  all_goals first
    | exact absurd rfl he
    | skip
  all_goals (repeat (first | rw [if_pos (by assumption)] | rw [if_neg (by assumption)]))
  · unfold addIn at *
    repeat' split at he
    all_goals (repeat (first | rw [if_pos (by assumption)] | rw [if_neg (by assumption)]))
    all_goals first
      | rfl
      | exact absurd rfl he
  · unfold setReg at *
    cases hf : findR N.regs s.a with
    | none => rfl
    | some k =>
      rw [hf] at he
      simp only at he ⊢
      split at he
      · rename_i hg; rw [if_pos hg]
      · exact absurd rfl he
  · unfold addOut at *
    repeat' split at he
    all_goals (repeat (first | rw [if_pos (by assumption)] | rw [if_neg (by assumption)]))
    all_goals first
      | rfl
      | exact absurd rfl he
  all_goals (
    unfold gateN at *
    split at he
    · rw [if_pos (by assumption)]
    · exact absurd rfl he)
theorem find_before {rs : List BR} (hd : (rs.map fun r => r.b.name).Pairwise (· ≠ ·)) {j : Nat} (hj : j < rs.length) : findRow (rs.take j) rs[j].b.name = none := by
  have : findP (rs.take j) rs[j].b.name = none := by
    unfold findP
    rw [List.findIdx?_eq_none_iff]
    intro x hx
    obtain ⟨i, hi, rfl⟩ := List.getElem_of_mem hx
    have hi' : i < j := by rw [List.length_take] at hi; omega
    have := List.pairwise_iff_getElem.1 hd i j (by simp; omega) (by simpa using hj) hi'
    simpa using this
  unfold findRow
  rw [this]
  rfl
/-! ### A key deleted -/
section
variable {P : Program} {k : TypeId} {w w' : World} {m c : Nat} {f : Value → Option Value}
noncomputable def del (f : Value → Option Value) (k : Value) : Value → Option Value := fun x => @ite _ (x = k) (Classical.propDecidable _) none (f x)
theorem del_same (f : Value → Option Value) (k : Value) : del f k k = none := by simp [del]
theorem del_other (f : Value → Option Value) {k x : Value} (h : x ≠ k) : del f k x = f x := by simp [del, h]
theorem MapG.delete (h : MapG w P k m f c) (K : Keyed P k) {t e : TypeId} (ht : P.underlying t = some (.map k e)) {key : Value} {kl : Lit} (hkey : keyOf P k key = some kl) (ty : TypeId) :
    ∃ w' c', (Builtin.delete_ #[t, k] ty #[.map (some m), key]).run P w = .ok (.tuple #[]) w' ∧ MapG w' P k m (del f key) c' ∧ Kept [m] w w' := by
  have hlt := h.lt
  obtain ⟨es0, clock0, hb0, hks, hun, hf⟩ := h.v
  obtain ⟨es, clock, hb, h1, h2, h3⟩ := h.more
  rw [hb] at hb0
  injection hb0 with hb0
  injection hb0 with e1 e2
  subst e1 e2
  rcases K.find w hkey es.toList hks with ⟨g1, g2⟩ | ⟨j, e0, g1, g2, g3⟩
  · have hn : del f key = f := by
      funext x
      by_cases hx : x = key
      · subst hx
        rw [del_same]
        cases hfk : f x with
        | none => rfl
        | some v =>
          obtain ⟨e, he, hke, _⟩ := (hf x v).1 hfk
          exact absurd hke (g2 e he)
      · exact del_other f hx
    refine ⟨ChangeMaps.setBlock w m (.map es clock), c, ?_, ?_, setBlock_kept _ _ _⟩
    · simp [Builtin.delete_, run_underlying ht, MapKept.run_getObj_map hb, K.check w _ hkey, g1, MapKept.run_setObj_map _ hb, Result.andThen, ChangeMaps.setBlock]
    · rw [hn]
      exact ⟨⟨es, clock, setBlock_same _ _ _ hlt, hks, hun, hf⟩, es, clock, setBlock_same _ _ _ hlt, h1, h2, h3⟩
  · have hjl : j < es.toList.length := (List.getElem?_eq_some_iff.1 g2).1
    have hjs : j < es.size := by simpa using hjl
    have hsub : (es.eraseIdxIfInBounds j).toList = es.toList.eraseIdx j := by
      unfold Array.eraseIdxIfInBounds
      rw [dif_pos hjs]
      simp
    have hj : es.toList[j] = e0 := by rw [List.getElem?_eq_getElem hjl] at g2; injection g2
    have sub := List.eraseIdx_sublist es.toList j
    refine ⟨ChangeMaps.setBlock w m (.map (es.eraseIdxIfInBounds j) clock), (es.eraseIdxIfInBounds j).size, ?_, ⟨⟨es.eraseIdxIfInBounds j, clock, setBlock_same _ _ _ hlt, ?_, ?_, ?_⟩, es.eraseIdxIfInBounds j, clock, setBlock_same _ _ _ hlt, ?_, ?_, rfl⟩, setBlock_kept _ _ _⟩
    · simp [Builtin.delete_, run_underlying ht, MapKept.run_getObj_map hb, K.check w _ hkey, g1, MapKept.run_setObj_map _ hb, Result.andThen, ChangeMaps.setBlock]
    · intro x hx
      rw [hsub] at hx
      exact hks x (sub.subset hx)
    · rw [hsub]
      exact hun.sublist sub
    · intro key' v
      rw [hsub]
      have hmem : ∀ x, x ∈ es.toList.eraseIdx j ↔ x ∈ es.toList ∧ x.key ≠ key := by
        intro x
        rw [List.mem_eraseIdx_iff_getElem]
        constructor
        · rintro ⟨i, hi, hne, rfl⟩
          refine ⟨List.getElem_mem hi, fun hk => ?_⟩
          rcases Nat.lt_or_gt_of_ne hne with h4 | h4
          · exact List.pairwise_iff_getElem.1 hun i j hi hjl h4 (by rw [hk, hj, g3])
          · exact List.pairwise_iff_getElem.1 hun j i hjl hi h4 (by rw [hk, hj, g3])
        · rintro ⟨hx, hk⟩
          obtain ⟨i, hi, rfl⟩ := List.getElem_of_mem hx
          refine ⟨i, hi, ?_, rfl⟩
          rintro rfl
          exact hk (by rw [hj, g3])
      by_cases hx : key' = key
      · subst hx
        rw [del_same]
        constructor
        · intro h; cases h
        · rintro ⟨e, he, hk, _⟩
          exact absurd hk ((hmem e).1 he).2
      · rw [del_other f hx, hf]
        constructor
        · rintro ⟨e, he, hk, hv⟩
          exact ⟨e, (hmem e).2 ⟨he, by rw [hk]; exact hx⟩, hk, hv⟩
        · rintro ⟨e, he, hk, hv⟩
          exact ⟨e, ((hmem e).1 he).1, hk, hv⟩
    · intro x hx
      rw [hsub] at hx
      exact h1 x (sub.subset hx)
    · rw [hsub]
      exact h2.sublist (sub.map _)
theorem MapG.empty (h : MapG w P k m f c) (hf : ∀ x, f x = none) : c = 0 := by
  obtain ⟨es0, clock0, hb0, hks, hun, hg⟩ := h.v
  obtain ⟨es, clock, hb, h1, h2, h3⟩ := h.more
  rw [hb] at hb0
  injection hb0 with hb0
  injection hb0 with e1 e2
  subst e1 e2
  rw [← h3]
  rcases Nat.eq_zero_or_pos es.size with h | h
  · exact h
  · have he : es[0] ∈ es.toList := by simp
    have := (hg es[0].key es[0].val).2 ⟨_, he, rfl, rfl⟩
    rw [hf] at this
    cases this
variable {ops : Array Oper} {rest : List Oper} {o : Oper} {a : Act} {Q : Exit → Act → World → Prop}
theorem wpList_delG {mo x : Operand} {t e : TypeId} {key : Value} (hg : o.guard = none) (hop : o.op = Op.call { callee := Callee.builtin Builtin.delete, args := #[mo, x], argTypes := #[t, k] }) (K : Keyed P k) (ht : P.underlying t = some (.map k e))
    (hm : a.eval mo = .map (some m)) (hx : a.eval x = key) (hown : MapG w P k m f c) (hkey : ∃ kl, keyOf P k key = some kl)
    (hK : ∀ w' c', MapG w' P k m (del f key) c' → Kept [m] w w' → wpList P ops Q rest (a.put o.dst (.tuple #[])) w') : wpList P ops Q (o :: rest) a w := by
  refine wpList_plain hg fun K' hK' => ?_
  obtain ⟨kl, hkl⟩ := hkey
  obtain ⟨w', c', hrun, r1, r2⟩ := hown.delete K ht hkl o.type
  unfold Oper.wp
  simp [execOp, hop, resolve, invoke, builtin, hm, hx, hrun, Result.andThen]
  exact hK' _ _ (hK w' c' r1 r2)
end
theorem litF_del (φ : Nat → Option Int) (x : Nat) : del (litF φ) (.int .u32 (x : Int)) = litF (fun y => if y = x then none else φ y) := by
  funext v
  by_cases h : v = .int .u32 (x : Int)
  · subst h
    rw [del_same, litF_get]
    simp
  · rw [del_other _ h]
    unfold litF
    split
    · rename_i y
      split
      · rename_i hy
        show _ = Option.map (Value.int .i64) (if y.toNat = x then none else φ y.toNat)
        rw [if_neg]
        intro e
        apply h
        congr 1
        omega
      · rfl
    · rfl
def leftF (D l : List Nat) : Nat → Option Int := fun x => if x ∈ D ∧ x ∉ l then some 1 else none
theorem leftF_nil (D : List Nat) : openF D = leftF D [] := by funext x; simp [openF, leftF]
theorem leftF_snoc (D l : List Nat) (a : Nat) : (fun y => if y = a then none else leftF D l y) = leftF D (l ++ [a]) := by
  funext y
  unfold leftF
  by_cases h1 : y = a <;> by_cases h2 : y ∈ l <;> by_cases h3 : y ∈ D <;> simp [h1, h2, h3]
theorem ins_nodup2 (ns : List (Nat × Nat)) {i : Nat} (hi : i < (ins ns).length) : 2 * (ins ns)[i] ∉ ((ins ns).take i).map (2 * ·) := by
  intro h
  obtain ⟨y, hy, e⟩ := List.mem_map.1 h
  obtain ⟨j, hj, rfl⟩ := List.getElem_of_mem hy
  rw [List.length_take] at hj
  rw [List.getElem_take] at e
  have := List.pairwise_iff_getElem.1 (insFrom_sorted 0 ns) j i (by show j < (ins ns).length; omega) hi (by omega)
  have e2 : (ins ns)[j] < (ins ns)[i] := this
  omega
theorem leftF_all {N : Nt} {k : Nat} (h : NtFine k N) : ∀ x, litF (leftF (drivenN N) ((ins N.g.nodes).map (2 * ·))) x = none := by
  intro x
  cases hx : litF (leftF (drivenN N) ((ins N.g.nodes).map (2 * ·))) x with
  | none => rfl
  | some v =>
    obtain ⟨y, z, rfl, rfl, hy⟩ := litF_inv hx
    unfold leftF at hy
    split at hy
    · rename_i hh
      obtain ⟨i, h1, h2⟩ := h.di y hh.1
      exact absurd (List.mem_map.2 ⟨i, h1, h2.symm⟩) hh.2
    · cases hy
end Go.Proofs.YtielfgngdhcpfaaGreat

namespace Go.Proofs.YtielfgngdhcpfaaGreat
open Go.ChangeShapes Go.WideShapes Go.ChangeAt Go.RowKit
open Go.Maps (Keyed)
open Go.WideMaps
set_option linter.unusedVariables false
set_option linter.unusedSimpArgs false

variable {w w' W W' : World} {s p n k : Nat} {F R F' R' S : List Nat} {g : Gr} {N : Nt}
theorem builtN_full (o1 o2 : Bool) (l : List NStp) (k : Nat) : Full (builtN true o1 o2 l k) := by
  induction k with
  | zero => exact full_start _ _ _
  | succ k ih =>
    by_cases h : k < l.length
    · rw [builtN_succ _ _ _ _ _ h]
      unfold stepN
      by_cases h8 : l[k].what = 8
      · rw [if_pos ⟨rfl, h8⟩]; exact ih
      · rw [if_neg (fun e => h8 e.2)]
        exact full_does (builtN_fine true o1 o2 l k) ih _ h8
    · have e : builtN true o1 o2 l (k + 1) = builtN true o1 o2 l k := by rw [builtN_end _ _ _ _ _ (by omega), ← builtN_end _ _ _ _ k (by omega)]
      rw [e]; exact ih
theorem built_check (o1 o2 : Bool) (l : List NStp) (k : Nat) : checkN (builtN true o1 o2 l k) = 0 := by
  unfold checkN
  rw [fullB_of (builtN_full o1 o2 l k)]
  rfl
set_option maxHeartbeats 1600000 in
set_option maxRecDepth 100000 in
theorem like_c (a b : Option Addr) (c d m : Nat) (r1 r2 : List WR) (w : World) (h1 : WRows w a m c r1) (h2 : WRows w b m d r2) (hm : m ≤ 1000000) (he : r1.map (·.l) = r2.map (·.l)) (hl : ∀ r ∈ r1, r.l.length ≤ 1000000) :
    Calls Tryz.prog 14 #[.slice a m c, .slice b m d] w fun e w' => e = .returned (.bool true) ∧ ∃ k, w' = w.drewN k := by
  have H1 := Lib.hid h1
  have H2 := Lib.hid h2
  have HL1 := Lib.hid h1.len
  have HL2 := Lib.hid h2.len
  have HSM := Lib.hid (fun k (e1 : k < r1.length) (e2 : k < r2.length) => show r1[k].l = r2[k].l from by
    have h3 : (r1.map (·.l))[k]'(by simpa using e1) = (r2.map (·.l))[k]'(by simpa using e2) := by simp only [he]
    simpa using h3)
  have HLE := Lib.hid hl
  clear h1 h2 he hl
  go_enter Tryz.func14, Tryz.ntmps14
  go_wp2_with fail
  go_loopw [13] (fun i wr => ∃ k q : Nat, k ≤ m ∧ i = .int .i64 k ∧ wr = w.drewN q) (fun i _ => m - (intOf i).toNat)
  case atStart => exact ⟨0, 0, Nat.zero_le _, rfl, rfl⟩
  case round =>
    obtain ⟨k, q, hk, rfl, rfl⟩ := hrel
    by_cases hlt : k < m
    · have e1 : k < r1.length := by rw [HL1.out]; exact hlt
      have e2 : k < r2.length := by rw [HL2.out]; exact hlt
      obtain ⟨b1, rfl, x1⟩ := H1.out.cell k e1
      obtain ⟨b2, rfl, x2⟩ := H2.out.cell k e2
      have hs := HSM.out k e1 e2
      have s1 := (H1.out.rows r1[k] (List.getElem_mem e1)).1
      have s2 := (H2.out.rows r2[k] (List.getElem_mem e2)).1
      have hle := HLE.out r1[k] (List.getElem_mem e1)
      have HC := Lib.hid (fun (W : World) (hk' : Kept [] w W) => show Calls Tryz.prog 15 #[.slice r1[k].a r1[k].l.length r1[k].c, .slice r2[k].a r2[k].l.length r2[k].c] W (fun e w' => e = .returned (.bool true) ∧ ∃ j, w' = W.drewN j) from by
        have h := same_eq r1[k].a r2[k].a r1[k].l.length r2[k].l.length r1[k].c r2[k].c r1[k].l r2[k].l W rfl rfl hle (by rw [← hs]; exact hle) (s1.kept0 hk') (s2.kept0 hk')
        rw [hs] at h ⊢
        simpa using h)
      clear hs s1 s2 hle
      generalize r1[k].a = u1 at *
      generalize r1[k].c = u2 at *
      generalize r1[k].l.length = u3 at *
      generalize r2[k].a = v1 at *
      generalize r2[k].c = v2 at *
      generalize r2[k].l.length = v3 at *
      go_wp2_with fail
      go_quiet ((go_at_call 15; exact q_drew2 (HC.out _ ((Kept.refl [] w).drewN _))))
      go_wp2_with fail
      go_roundw
      case rel => exact ⟨k + 1, _, by omega, by go_num, by first | rfl | rw [World.drewN_drewN]⟩
      case measure => simp [intOf]; omega
    · obtain rfl : k = m := by omega
      go_wp2_with fail
      go_ret
      exact ⟨rfl, _, rfl⟩
end Go.Proofs.YtielfgngdhcpfaaGreat

namespace Go.Proofs.YtielfgngdhcpfaaGreat
open Go.ChangeShapes Go.WideShapes Go.ChangeAt Go.RowKit Go.Deep Go.Joins
set_option linter.unusedVariables false

/-- rows of words, wherever they lie -/
def SlW (W : World) (a : Option Addr) (l : List WR) : Prop :=
  ∀ k, (hk : k < l.length) → ∃ b o, a = some ⟨b, o, none⟩ ∧ W.cell? ⟨b, o + k, none⟩ = some (.slice l[k].a l[k].l.length l[k].c) ∧ SlN W .u64 l[k].a l[k].l
theorem SlW.kept0 {W W' : World} {a : Option Addr} {l : List WR} (h : SlW W a l) (hk : Kept [] W W') : SlW W' a l := by
  intro k hkl
  obtain ⟨b, o, h1, h2, h3⟩ := h k hkl
  exact ⟨b, o, h1, hk.cell h2 (by simp), h3.kept0 hk⟩
section
variable {H : Type} {enc : TypeId × Value → H} {W : World} {base : Nat} {v : Value} {d : DataW H} {ps : List MemPlace}
set_option maxRecDepth 100000 in
theorem open_wrows (hv : Value.okWide Tryz.prog W .any base 25 v) (h : DataW.Trod enc Tryz.prog W 0 (fun _ => true) true 25 v d ps) (hz : Sized Tryz.prog 25 d) :
    ∃ (a : Option Addr) (l : List WR) (c : Nat), v = .slice a l.length c ∧ l.length ≤ 140737488351232 ∧ SlW W a l ∧ ∀ r ∈ l, Words r.l ∧ r.l.length ≤ 17592186043904 := by
  obtain ⟨a0, len0, cap0, rfl⟩ := okWide_slice Tryz.underlying25 hv
  obtain ⟨fuel, hf⟩ := h
  rcases open_slice Tryz.underlying25 hf with ⟨hcs, hx⟩ | ⟨a, len, cap, m, n, D, Pl, hcs, hb, hl, hm, hmm, hx, hi⟩
  · have hcs' : Value.slice a0 len0 cap0 = .slice none 0 0 := by first | simpa using hcs | (injection hcs)
    injection hcs' with h1 h2 h3
    subst h1 h2 h3
    exact ⟨none, [], 0, rfl, by simp, fun k hk => absurd hk (by simp), by simp⟩
  · simp at hcs hmm
    obtain ⟨rfl, rfl, rfl⟩ := hcs
    subst hmm
    have hx1 := congrArg Prod.fst hx
    simp only at hx1
    rw [hx1] at hz
    obtain ⟨hz1, hz2⟩ := hz.slice Tryz.underlying25
    have hbt : Tryz.prog.bytesOf 35 = 24 := by kernel_rfl
    have hct : Tryz.prog.cellsOf 35 = 1 := by kernel_rfl
    rw [hbt] at hz1
    simp [reachBytes] at hz1
    obtain ⟨rows, hrl, hrows⟩ := choose_list (n := len0) (p := fun k (x : WR) => (∃ b o, some a = some ⟨b, o, none⟩ ∧ W.cell? ⟨b, o + k, none⟩ = some (.slice x.a x.l.length x.c) ∧ SlN W .u64 x.a x.l) ∧ Words x.l ∧ x.l.length ≤ 17592186043904) fun i hil => by
      obtain ⟨cs', hc', ht'⟩ := hi i (by omega)
      rw [hct] at hc'
      obtain ⟨_, hcl, hat⟩ := World.cells?_some hc'
      obtain ⟨u, rfl⟩ : ∃ u, cs' = [u] := List.length_eq_one_iff.1 hcl
      have hcell := hat 0 (by omega)
      have hs := hz2 (D i) (List.mem_map.2 ⟨i, List.mem_range.2 hil, rfl⟩)
      obtain ⟨al, cl, l, rfl, hlcl, hsl, hlm, hnl, hclb⟩ := open_natsT (m := 18446744073709551616) (bytes := 8) Tryz.underlying35 Tryz.underlying34 (by kernel_rfl) (by kernel_rfl) rfl rfl ht' hs
      rw [Go.Deep.add_add] at hcell
      simp only [Nat.mul_one, Nat.add_zero] at hcell
      have hsp : ∃ b o, a = ⟨b, o, none⟩ := by
        obtain ⟨cs0, hc0, _⟩ := hi 0 (by omega)
        rw [hct] at hc0
        obtain ⟨_, hcl0, hat0⟩ := World.cells?_some hc0
        obtain ⟨u0, rfl⟩ : ∃ u, cs0 = [u] := List.length_eq_one_iff.1 hcl0
        have h0 := hat0 0 (by omega)
        rw [Go.Deep.add_add] at h0
        exact plain_spot (v := u0) (by simpa using h0)
      obtain ⟨b, o, rfl⟩ := hsp
      rw [add_at] at hcell
      exact ⟨⟨l, al, cl⟩, ⟨b, o, rfl, by simpa using hcell, hsl⟩, hlm, by show l.length ≤ _; omega⟩
    refine ⟨some a, rows, _, by rw [hrl], by omega, fun k hk => (hrows k hk).1, fun r hr => ?_⟩
    obtain ⟨k, hk, rfl⟩ := List.getElem_of_mem hr
    exact (hrows k hk).2
end
end Go.Proofs.YtielfgngdhcpfaaGreat
