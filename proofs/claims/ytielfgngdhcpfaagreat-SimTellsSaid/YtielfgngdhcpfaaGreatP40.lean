/-
  Law SimAgain, parts: the states cycle by cycle; what was told, kept in a row.
-/
import Derived.Test.YtielfgngdhcpfaaGreatP39
namespace Go.Proofs.YtielfgngdhcpfaaGreat
open Go.ChangeShapes Go.WideShapes Go.ChangeAt Go.RowKit
open Go.Maps (Keyed)
open Go.WideMaps
set_option linter.unusedVariables false
set_option linter.unusedSimpArgs false

variable {w w' w1 : World} {s p n k : Nat} {F R F' R' S : List Nat} {g : Gr} {N : Nt}
/-- words of cycle k, for the buses -/
def cyc (N : Nt) (c : List (List Nat)) (k : Nat) : List (List Nat) := givenN N.inb (c.getD k []) 0
def sgs (N : Nt) (c : List (List Nat)) : Nat → Sm
  | 0 => newS N
  | k + 1 => nextS (sgs N c k) (cyc N c k)
theorem sgs_N (N : Nt) (c : List (List Nat)) (k : Nat) : (sgs N c k).N = N := by
  induction k with
  | zero => rfl
  | succ k ih => simp [sgs, nextS, ih]
theorem sgs_cy (N : Nt) (c : List (List Nat)) (k : Nat) : (sgs N c k).cy = k := by
  induction k with
  | zero => rfl
  | succ k ih => simp [sgs, nextS, ih]
theorem cyc_words {N : Nt} {c : List (List Nat)} (hc : ∀ r ∈ c, Words r) (k : Nat) : ∀ r ∈ cyc N c k, Words r := by
  refine given_words ?_ 0
  rw [List.getD_eq_getElem?_getD]
  cases h : c[k]? with
  | none => simp [Words]
  | some r => simpa using hc r (List.mem_of_getElem? h)
theorem sgs_ok {kk : Nat} {N : Nt} {c : List (List Nat)} (hf : NtFine kk N) (hk : kk ≤ 700) (hc : ∀ r ∈ c, Words r) (k : Nat) : SmOk kk (sgs N c k) := by
  induction k with
  | zero => exact newS_ok hf hk
  | succ k ih => exact nextS_ok ih (cyc_words hc k)
/-- what cycle k tells -/
def told (N : Nt) (c : List (List Nat)) (k : Nat) : List (List Nat) := outN N (wordsN N (cyc N c k) (sgs N c k).regs)
/-- rows that were told, and where they lie -/
structure OR where
  a : Option Addr
  c : Nat
  rs : List WR
def orCells (n : Nat) (fs : List OR) : List Value := fs.map fun r => .slice r.a n r.c
theorem orCells_snoc (n : Nat) (fs : List OR) (r : OR) : orCells n fs ++ [.slice r.a n r.c] = orCells n (fs ++ [r]) := by simp [orCells]
def orBlocks (fs : List OR) : List Nat := fs.flatMap fun r => ft r.a ++ wrBlocks r.rs
theorem mem_orBlocks {fs : List OR} {b : Nat} : b ∈ orBlocks fs ↔ ∃ r ∈ fs, b ∈ ft r.a ++ wrBlocks r.rs := by simp [orBlocks]
structure ORows (w : World) (n : Nat) (a : Option Addr) (k c : Nat) (fs : List OR) : Prop where
  own : Own w 25 a k c (orCells n fs)
  rows : ∀ r ∈ fs, WRows w r.a n r.c r.rs
theorem ORows.nil (w : World) (n : Nat) : ORows w n none 0 0 [] := ⟨Own.nil _ _, by simp⟩
theorem ORows.len {a : Option Addr} {c : Nat} {fs : List OR} (h : ORows w n a k c fs) : fs.length = k := by
  have := h.own.len
  simpa [orCells] using this
theorem ORows.kept {a : Option Addr} {c : Nat} {fs : List OR} (h : ORows w n a k c fs) (hk : Kept S w w') (h1 : ∀ b ∈ ft a ++ orBlocks fs, b ∉ S) : ORows w' n a k c fs :=
  ⟨h.own.kept hk (fun b hb => h1 b (by simp [hb])), fun r hr => (h.rows r hr).kept hk (fun b hb => h1 b (List.mem_append_right _ (mem_orBlocks.2 ⟨r, hr, by simp [hb]⟩))) (fun b hb => h1 b (List.mem_append_right _ (mem_orBlocks.2 ⟨r, hr, by simp [hb]⟩)))⟩
theorem ORows.lt {a : Option Addr} {c : Nat} {fs : List OR} (h : ORows w n a k c fs) : ∀ b ∈ ft a ++ orBlocks fs, b < w.heap.size := by
  intro b hb
  rcases List.mem_append.1 hb with hb | hb
  · exact h.own.lt b hb
  · obtain ⟨r, hr, hb⟩ := mem_orBlocks.1 hb
    rcases List.mem_append.1 hb with hb | hb
    · exact (h.rows r hr).lt.1 b hb
    · exact (h.rows r hr).lt.2 b hb
theorem ORows.snoc {a a' : Option Addr} {c c' : Nat} {fs : List OR} {r : OR} (h : ORows w n a k c fs) (hk : Kept [] w w1) (ho : Own w' 25 a' (k + 1) c' (orCells n fs ++ [.slice r.a n r.c])) (hst : Stepped w1 w' (ft a) (ft a')) (hr : WRows w1 r.a n r.c r.rs)
    (hrb : ∀ b ∈ ft r.a ++ wrBlocks r.rs, b ∉ ft a) (hap : ∀ b ∈ orBlocks fs, b ∉ ft a) : ORows w' n a' (k + 1) c' (fs ++ [r]) ∧ ∀ b ∈ orBlocks (fs ++ [r]), b ∉ ft a' := by
  have sz := hk.size
  refine ⟨⟨by rw [← orCells_snoc]; exact ho, fun q hq => ?_⟩, fun b hb => ?_⟩
  · rcases List.mem_append.1 hq with hq | hq
    · exact ((h.rows q hq).kept0 hk).kept hst.kept (fun b hb => hap b (mem_orBlocks.2 ⟨q, hq, by simp [hb]⟩)) (fun b hb => hap b (mem_orBlocks.2 ⟨q, hq, by simp [hb]⟩))
    · rw [List.mem_singleton] at hq
      subst hq
      exact hr.kept hst.kept (fun b hb => hrb b (by simp [hb])) (fun b hb => hrb b (by simp [hb]))
  · obtain ⟨q, hq, hbq⟩ := mem_orBlocks.1 hb
    rcases List.mem_append.1 hq with hq | hq
    · have h1 := hap b (mem_orBlocks.2 ⟨q, hq, hbq⟩)
      have h2 := h.lt b (List.mem_append_right _ (mem_orBlocks.2 ⟨q, hq, hbq⟩))
      exact fun hx => (hst.fresh b hx).elim h1 (fun h => by omega)
    · rw [List.mem_singleton] at hq
      subst hq
      have h1 := hrb b hbq
      have h2 : b < w1.heap.size := by
        rcases List.mem_append.1 hbq with hb | hb
        · exact hr.lt.1 b hb
        · exact hr.lt.2 b hb
      exact fun hx => (hst.fresh b hx).elim h1 (fun h => by omega)
/-- two simulations of one netlist, i and j cycles old; what was told; nothing that is written is anything else -/
structure PairAt (w0 w : World) (z : Nat) (N : Nt) (c : List (List Nat)) (n : Nat) (NF NR : List Nat) (s : Nat) (F R : List Nat) (i : Nat) (t : Nat) (F' R' : List Nat) (j : Nat) (fa : Option Addr) (k fc : Nat) (fs : List OR) : Prop where
  net : NetAt w n NF NR N
  sa : SimAt w s F R (sgs N c i)
  tb : SimAt w t F' R' (sgs N c j)
  fi : ORows w N.outb.length fa k fc fs
  fis : ∀ q (h : q < fs.length), fs[q].rs.map (·.l) = told N c q
  fap : ∀ b ∈ orBlocks fs, b ∉ ft fa
  d1 : ∀ b ∈ F ++ F', b < z ∧ w0.heap.size ≤ b
  d2 : ∀ b ∈ ft fa ++ orBlocks fs, b ∉ F ++ F' ∧ w0.heap.size ≤ b
  d3 : ∀ b ∈ NF ++ NR, b ∉ F ++ F'
  d4 : ∀ b ∈ F ++ R, b ∉ F'
  d5 : ∀ b ∈ F' ++ R', b ∉ F
  d6 : ∀ b ∈ (NF ++ NR) ++ ((F ++ R) ++ (F' ++ R')), b ∉ ft fa
  kp : Kept [] w0 w
  zs : z ≤ w.heap.size
section
variable {w0 w2 : World} {z : Nat} {c : List (List Nat)} {NF NR R2 : List Nat} {i j t fc : Nat} {fa : Option Addr} {fs : List OR}
theorem PairAt.keep (h : PairAt w0 w z N c n NF NR s F R i t F' R' j fa k fc fs) (hk : Kept [] w w2) : PairAt w0 w2 z N c n NF NR s F R i t F' R' j fa k fc fs :=
  ⟨h.net.kept0 hk, h.sa.kept0 hk, h.tb.kept0 hk, h.fi.kept hk (by simp), h.fis, h.fap, h.d1, h.d2, h.d3, h.d4, h.d5, h.d6, h.kp.trans hk, Nat.le_trans h.zs hk.size⟩
theorem PairAt.stepS {i' : Nat} (h : PairAt w0 w z N c n NF NR s F R i t F' R' j fa k fc fs) (hs : SimAt w2 s F R2 (sgs N c i')) (hst : NStep w w2 F R F R2) : PairAt w0 w2 z N c n NF NR s F R2 i' t F' R' j fa k fc fs := by
  have lt := h.tb.lt
  refine ⟨h.net.kept hst.st.kept (fun b hb hx => h.d3 b (by simp [hb]) (by simp [hx])) (fun b hb hx => h.d3 b (by simp [hb]) (by simp [hx])), hs,
    h.tb.kept hst.st.kept (fun b hb => h.d5 b (by simp [hb])) (fun b hb => h.d5 b (by simp [hb])), h.fi.kept hst.st.kept (fun b hb hx => (h.d2 b hb).1 (by simp [hx])), h.fis, h.fap, h.d1, h.d2, h.d3, fun b hb hx => ?_, h.d5, fun b hb hx => ?_,
    kept_up h.kp hst.st.kept (fun b hb => (h.d1 b (by simp [hb])).2), Nat.le_trans h.zs hst.st.kept.size⟩
  rotate_left
  · simp only [List.mem_append] at hb
    rcases hb with hb | (hb | hb) | hb
    · exact h.d6 b (by simp only [List.mem_append]; exact .inl hb) hx
    · exact h.d6 b (by simp only [List.mem_append]; exact .inr (.inl (.inl hb))) hx
    · rcases hst.rows b hb with h1 | h1
      · exact h.d6 b (by simp only [List.mem_append]; exact .inr (.inl (.inr h1))) hx
      · have := h.fi.own.lt b hx; omega
    · exact h.d6 b (by simp only [List.mem_append]; exact .inr (.inr hb)) hx
  rcases List.mem_append.1 hb with hb | hb
  · exact h.d4 b (by simp [hb]) hx
  · rcases hst.rows b hb with h1 | h1
    · exact h.d4 b (by simp [h1]) hx
    · have := lt.1 b hx; omega
theorem PairAt.stepT {j' : Nat} (h : PairAt w0 w z N c n NF NR s F R i t F' R' j fa k fc fs) (hs : SimAt w2 t F' R2 (sgs N c j')) (hst : NStep w w2 F' R' F' R2) : PairAt w0 w2 z N c n NF NR s F R i t F' R2 j' fa k fc fs := by
  have lt := h.sa.lt
  refine ⟨h.net.kept hst.st.kept (fun b hb hx => h.d3 b (by simp [hb]) (by simp [hx])) (fun b hb hx => h.d3 b (by simp [hb]) (by simp [hx])), h.sa.kept hst.st.kept (fun b hb => h.d4 b (by simp [hb])) (fun b hb => h.d4 b (by simp [hb])), hs,
    h.fi.kept hst.st.kept (fun b hb hx => (h.d2 b hb).1 (by simp [hx])), h.fis, h.fap, h.d1, h.d2, h.d3, h.d4, fun b hb hx => ?_, fun b hb hx => ?_,
    kept_up h.kp hst.st.kept (fun b hb => (h.d1 b (by simp [hb])).2), Nat.le_trans h.zs hst.st.kept.size⟩
  rotate_left
  · simp only [List.mem_append] at hb
    rcases hb with hb | hb | hb | hb
    · exact h.d6 b (by simp only [List.mem_append]; exact .inl hb) hx
    · exact h.d6 b (by simp only [List.mem_append]; exact .inr (.inl hb)) hx
    · exact h.d6 b (by simp only [List.mem_append]; exact .inr (.inr (.inl hb))) hx
    · rcases hst.rows b hb with h1 | h1
      · exact h.d6 b (by simp only [List.mem_append]; exact .inr (.inr (.inr h1))) hx
      · have := h.fi.own.lt b hx; omega
  rcases List.mem_append.1 hb with hb | hb
  · exact h.d5 b (by simp [hb]) hx
  · rcases hst.rows b hb with h1 | h1
    · exact h.d5 b (by simp [h1]) hx
    · have := lt.1 b hx; omega
/-- a cycle more is told -/
theorem PairAt.push {w1 w2 : World} {fa' : Option Addr} {fc' : Nat} {r : OR} (h : PairAt w0 w z N c n NF NR s F R i t F' R' j fa k fc fs) (hr : WRows w r.a N.outb.length r.c r.rs) (hrl : r.rs.map (·.l) = told N c k) (hrb : ∀ b ∈ ft r.a ++ wrBlocks r.rs, b ∉ ft fa ∧ b ∉ F ++ F' ∧ w0.heap.size ≤ b)
    (hk : Kept [] w w1) (ho : Own w2 25 fa' (k + 1) fc' (orCells N.outb.length fs ++ [.slice r.a N.outb.length r.c])) (hst : Stepped w1 w2 (ft fa) (ft fa')) :
    PairAt w0 w2 z N c n NF NR s F R i t F' R' j fa' (k + 1) fc' (fs ++ [r]) := by
  have hS := ORows.snoc h.fi hk ho hst (hr.kept0 hk) (fun b hb => (hrb b hb).1) h.fap
  have sz := hk.size
  have k0 := h.kp.size
  have l1 := h.sa.lt
  have l2 := h.tb.lt
  have l3 := h.net.lt
  have hz : ∀ b, (b ∈ NF ∨ b ∈ NR) ∨ (b ∈ F ∨ b ∈ R) ∨ b ∈ F' ∨ b ∈ R' → b ∉ ft fa := fun b hb => h.d6 b (by simp only [List.mem_append]; exact hb)
  refine ⟨(h.net.kept0 hk).kept hst.kept (fun b hb => hz b (by simp [hb])) (fun b hb => hz b (by simp [hb])), (h.sa.kept0 hk).kept hst.kept (fun b hb => hz b (by simp [hb])) (fun b hb => hz b (by simp [hb])), (h.tb.kept0 hk).kept hst.kept (fun b hb => hz b (by simp [hb])) (fun b hb => hz b (by simp [hb])), hS.1, fun q hq => ?_, hS.2, h.d1, fun b hb => ?_, h.d3, h.d4, h.d5, fun b hb hx => ?_,
    kept_up (h.kp.trans hk) hst.kept (fun b hb => (h.d2 b (by simp [hb])).2), Nat.le_trans h.zs (Nat.le_trans sz hst.kept.size)⟩
  · have hl := h.fi.len
    by_cases hqk : q < fs.length
    · rw [List.getElem_append_left hqk]; exact h.fis q hqk
    · have : q = fs.length := by simp at hq; omega
      subst this
      rw [List.getElem_append_right (by omega)]
      simp only [Nat.sub_self, List.getElem_cons_zero]
      rw [hrl, hl]
  · rcases List.mem_append.1 hb with hb | hb
    · rcases hst.fresh b hb with h1 | h1
      · exact h.d2 b (by simp [h1])
      · refine ⟨fun hx => ?_, by omega⟩
        rcases List.mem_append.1 hx with hx | hx
        · have := l1.1 b hx; omega
        · have := l2.1 b hx; omega
    · obtain ⟨q, hq, hbq⟩ := mem_orBlocks.1 hb
      rcases List.mem_append.1 hq with hq | hq
      · exact h.d2 b (List.mem_append_right _ (mem_orBlocks.2 ⟨q, hq, hbq⟩))
      · rw [List.mem_singleton] at hq
        subst hq
        exact (hrb b hbq).2
  · rcases hst.fresh b hx with h1 | h1
    · exact h.d6 b hb h1
    · simp only [List.mem_append] at hb
      rcases hb with (hb | hb) | (hb | hb) | (hb | hb)
      · have := l3.1 b hb; omega
      · have := l3.2 b hb; omega
      · have := l1.1 b hb; omega
      · have := l1.2 b hb; omega
      · have := l2.1 b hb; omega
      · have := l2.2 b hb; omega
end
/-- the copy: none yet, or a simulation as it was then, apart from all that is written or told -/
def TwinAt (w0 w : World) (N : Nt) (c : List (List Nat)) (q k : Nat) (tv : Value) (NF NR F R F' : List Nat) (fa : Option Addr) (fs : List OR) : Prop :=
  (k ≤ q → tv = .pointer none) ∧ (q < k → ∃ tw FT RT, tv = .pointer (some ⟨tw, 0, none⟩) ∧ SimAt w tw FT RT (sgs N c q) ∧ (∀ b ∈ FT ++ RT, b ∉ F ++ F' ∧ b ∉ ft fa) ∧ ∀ b ∈ FT, w0.heap.size ≤ b ∧ b ∉ NF ++ NR ∧ b ∉ orBlocks fs ∧ b ∉ R)
section
variable {w0 wp w2 : World} {z : Nat} {c : List (List Nat)} {NF NR R2 : List Nat} {q i j t fc : Nat} {tv : Value} {fa fa' : Option Addr} {fs : List OR} {r : OR}
theorem TwinAt.round (h : TwinAt w0 wp N c q k tv NF NR F R F' fa fs) (hk : Kept ((F ++ F') ++ ft fa) wp w2) (hr : ∀ b ∈ ft r.a ++ wrBlocks r.rs, wp.heap.size ≤ b) (hf : ∀ b ∈ ft fa', b ∈ ft fa ∨ wp.heap.size ≤ b) (hR : ∀ b ∈ R2, b ∈ R ∨ wp.heap.size ≤ b) :
    TwinAt w0 w2 N c q k tv NF NR F R2 F' fa' (fs ++ [r]) := by
  refine ⟨h.1, fun hq => ?_⟩
  obtain ⟨tw, FT, RT, h1, h2, h3, h4⟩ := h.2 hq
  have lt := h2.lt
  have hlt : ∀ b ∈ FT ++ RT, b < wp.heap.size := fun b hb => (List.mem_append.1 hb).elim (lt.1 b) (lt.2 b)
  have hS : ∀ b ∈ FT ++ RT, b ∉ (F ++ F') ++ ft fa := fun b hb hx => (List.mem_append.1 hx).elim (h3 b hb).1 (h3 b hb).2
  refine ⟨tw, FT, RT, h1, h2.kept hk (fun b hb => hS b (by simp [hb])) (fun b hb => hS b (by simp [hb])), fun b hb => ⟨(h3 b hb).1, fun hx => ?_⟩, fun b hb => ⟨(h4 b hb).1, (h4 b hb).2.1, fun hx => ?_, fun hx => ?_⟩⟩
  · have := hlt b hb
    exact (hf b hx).elim (h3 b hb).2 (fun h => by omega)
  · have h5 := lt.1 b hb
    obtain ⟨y, hy, hb2⟩ := mem_orBlocks.1 hx
    rcases List.mem_append.1 hy with hy | hy
    · exact (h4 b hb).2.2.1 (mem_orBlocks.2 ⟨y, hy, hb2⟩)
    · rw [List.mem_singleton] at hy
      subst hy
      have := hr b hb2; omega
  · have h5 := lt.1 b hb
    exact (hR b hx).elim (h4 b hb).2.2.2 (fun h => by omega)
theorem SimAt.apart {σ : Sm} (h : SimAt w s F R σ) : ∀ b ∈ F, b ∉ R := by
  obtain ⟨n, NF, NR, ra, rc, mm, f, wa, wc, rfl, rfl, hc⟩ := h
  exact hc.ap
theorem TwinAt.new {s' : Nat} {FT : List Nat} (h : PairAt w0 w z N c n NF NR s F R k t F' R' j fa i fc fs) (hs : SimAt w2 s' FT R (sgs N c k)) (hk : Kept [] w w2) (hf : ∀ b ∈ FT, w.heap.size ≤ b) :
    TwinAt w0 w2 N c k (k + 1) (.pointer (some ⟨s', 0, none⟩)) NF NR F R F' fa fs := by
  refine ⟨fun h => by omega, fun _ => ⟨s', FT, R, rfl, hs, fun b hb => ?_, fun b hb => ?_⟩⟩
  · rcases List.mem_append.1 hb with hb | hb
    · have h1 := hf b hb
      refine ⟨fun hx => ?_, fun hx => by have := h.fi.own.lt b hx; omega⟩
      rcases List.mem_append.1 hx with hx | hx
      · have := h.sa.lt.1 b hx; omega
      · have := h.tb.lt.1 b hx; omega
    · refine ⟨fun hx => ?_, h.d6 b (by simp [hb])⟩
      rcases List.mem_append.1 hx with hx | hx
      · exact h.sa.apart b hx hb
      · exact h.d4 b (by simp [hb]) hx
  · have h1 := hf b hb
    have h2 := h.kp.size
    refine ⟨by omega, fun hx => ?_, fun hx => ?_, fun hx => ?_⟩
    · rcases List.mem_append.1 hx with hx | hx
      · have := h.net.lt.1 b hx; omega
      · have := h.net.lt.2 b hx; omega
    · have := h.fi.lt b (by simp [hx]); omega
    · have := h.sa.lt.2 b hx; omega
theorem TwinAt.keep0 (h : TwinAt w0 w N c q k tv NF NR F R F' fa fs) (hk : Kept [] w w2) : TwinAt w0 w2 N c q k tv NF NR F R F' fa fs := by
  refine ⟨h.1, fun hq => ?_⟩
  obtain ⟨tw, FT, RT, h1, h2, h3, h4⟩ := h.2 hq
  exact ⟨tw, FT, RT, h1, h2.kept0 hk, h3, h4⟩
/-- what is told has no more than 64 bits a bus -/
theorem told_short {kk : Nat} (hf : NtOk kk N) (k : Nat) : ∀ l ∈ told N c k, l.length ≤ 1000000 := by
  intro l hl
  unfold told outN at hl
  obtain ⟨b, hb, rfl⟩ := List.mem_map.1 hl
  have := (hf.ol b hb).2.1
  rw [List.length_map]; omega
theorem ORows.cell (h : ORows w n fa k fc fs) {i : Nat} (hi : i < fs.length) : ∃ b, fa = some ⟨b, 0, none⟩ ∧ w.cell? ⟨b, i, none⟩ = some (.slice fs[i].a n fs[i].c) := by
  have hl := h.len
  obtain ⟨gb, rfl⟩ := h.own.form (by omega)
  obtain ⟨ad, h1, h2⟩ := h.own.cell (k := i) (by simpa [orCells] using hi)
  injection h1 with h1
  subst h1
  refine ⟨gb, rfl, ?_⟩
  have he : ((⟨gb, 0, none⟩ : Addr).add i) = ⟨gb, i, none⟩ := by unfold Addr.add; split <;> simp_all
  rw [he] at h2
  rw [h2]
  simp [orCells]
/-- one simulation that runs beside what was told -/
structure RunAt (w0 w : World) (N : Nt) (c : List (List Nat)) (n : Nat) (NF NR : List Nat) (s : Nat) (F R : List Nat) (i : Nat) (fa : Option Addr) (k fc : Nat) (fs : List OR) : Prop where
  net : NetAt w n NF NR N
  sa : SimAt w s F R (sgs N c i)
  fi : ORows w N.outb.length fa k fc fs
  fis : ∀ q (h : q < fs.length), fs[q].rs.map (·.l) = told N c q
  e1 : ∀ b ∈ F, w0.heap.size ≤ b
  e2 : ∀ b ∈ (NF ++ NR) ++ (ft fa ++ orBlocks fs), b ∉ F
  kp : Kept [] w0 w
theorem RunAt.keep (h : RunAt w0 w N c n NF NR s F R i fa k fc fs) (hk : Kept [] w w2) : RunAt w0 w2 N c n NF NR s F R i fa k fc fs :=
  ⟨h.net.kept0 hk, h.sa.kept0 hk, h.fi.kept hk (by simp), h.fis, h.e1, h.e2, h.kp.trans hk⟩
theorem RunAt.step {i' : Nat} (h : RunAt w0 w N c n NF NR s F R i fa k fc fs) (hs : SimAt w2 s F R2 (sgs N c i')) (hst : NStep w w2 F R F R2) : RunAt w0 w2 N c n NF NR s F R2 i' fa k fc fs :=
  ⟨h.net.kept hst.st.kept (fun b hb => h.e2 b (by simp [hb])) (fun b hb => h.e2 b (by simp [hb])), hs, h.fi.kept hst.st.kept (fun b hb => h.e2 b (List.mem_append_right _ hb)), h.fis, h.e1, h.e2, kept_up h.kp hst.st.kept h.e1⟩
theorem RunAt.aside {FT : List Nat} (h : RunAt w0 w N c n NF NR s F R i fa k fc fs) (hk : Kept FT w w2) (h0 : ∀ b ∈ FT, w0.heap.size ≤ b) (h1 : ∀ b ∈ F ++ R, b ∉ FT) (h2 : ∀ b ∈ (NF ++ NR) ++ (ft fa ++ orBlocks fs), b ∉ FT) : RunAt w0 w2 N c n NF NR s F R i fa k fc fs :=
  ⟨h.net.kept hk (fun b hb => h2 b (by simp [hb])) (fun b hb => h2 b (by simp [hb])), h.sa.kept hk (fun b hb => h1 b (by simp [hb])) (fun b hb => h1 b (by simp [hb])), h.fi.kept hk (fun b hb => h2 b (List.mem_append_right _ hb)), h.fis, h.e1, h.e2, kept_up h.kp hk h0⟩
theorem PairAt.run (h : PairAt w0 w z N c n NF NR s F R i t F' R' j fa k fc fs) : RunAt w0 w N c n NF NR s F R i fa k fc fs := by
  refine ⟨h.net, h.sa, h.fi, h.fis, fun b hb => (h.d1 b (by simp [hb])).2, fun b hb hx => ?_, h.kp⟩
  rcases List.mem_append.1 hb with hb | hb
  · exact h.d3 b hb (by simp [hx])
  · exact (h.d2 b hb).1 (by simp [hx])
theorem TwinAt.run (h : TwinAt w0 w N c q k tv NF NR F R F' fa fs) (hp : RunAt w0 w N c n NF NR s F R i fa k fc fs) (hq : q < k) :
    ∃ tw FT RT, tv = .pointer (some ⟨tw, 0, none⟩) ∧ RunAt w0 w N c n NF NR tw FT RT q fa k fc fs ∧ ∀ b ∈ F ++ R, b ∉ FT := by
  obtain ⟨tw, FT, RT, h1, h2, h3, h4⟩ := h.2 hq
  refine ⟨tw, FT, RT, h1, ⟨hp.net, h2, hp.fi, hp.fis, fun b hb => (h4 b hb).1, fun b hb hx => ?_, hp.kp⟩, fun b hb hx => ?_⟩
  · rcases List.mem_append.1 hb with hb | hb
    · exact (h4 b hx).2.1 hb
    · rcases List.mem_append.1 hb with hb | hb
      · exact (h3 b (by simp [hx])).2 hb
      · exact (h4 b hx).2.2.1 hb
  · rcases List.mem_append.1 hb with hb | hb
    · exact (h3 b (by simp [hx])).1 (by simp [hb])
    · exact (h4 b hx).2.2.2 hb
end
def ResetPost (s : Nat) (N : Nt) (w : World) (e : Ending) (w' : World) : Prop :=
  e = .returned (.int .i64 0) ∧ ∃ F R, SimAt w' s F R (newS N) ∧ Kept [s] w w' ∧ ∀ b ∈ F, b = s ∨ w.heap.size ≤ b
theorem reset_c {σ : Sm} (h : SimAt w s F R σ) (hr : σ.N.regs.length ≤ 1000000) : s ∈ F ∧ Calls Tryz.prog 18 #[.pointer (some ⟨s, 0, none⟩)] w (ResetPost s σ.N w) := by
  obtain ⟨n, NF, NR, ra, rc, mm, f, wa, wc, rfl, rfl, hc⟩ := h
  refine ⟨by simp, (sim_reset hc.blk hc.net hr (fun hx => hc.ap s (by simp) (by simp [hx]))).mono ?_⟩
  rintro e w' ⟨ra', rc', rfl, hb, ho, hk, hf⟩
  have hsn : ∀ b ∈ NF ++ NR, b ∉ [s] := fun b hbb hx => hc.ap s (by simp) (by
    rw [List.mem_singleton] at hx
    rw [← hx]
    exact List.mem_cons_of_mem _ (List.mem_append_right _ hbb))
  have hmm : mm ∉ [s] := fun hx => hc.ap s (by simp) (by
    rw [List.mem_singleton] at hx
    rw [hx]; simp)
  have lt := hc.lt
  refine ⟨rfl, s :: ft ra', mm :: (ft none ++ (NF ++ NR)), ⟨n, NF, NR, ra', rc', mm, f, none, 0, rfl, rfl, ?_⟩, hk, fun b hb => by simpa using (List.mem_cons.1 hb).imp id (fun h => hf b h)⟩
  have hl : (resetN σ.N).length = σ.N.regs.length := by simp [resetN]
  refine ⟨?_, hc.net.kept hk (fun b hb => hsn b (by simp [hb])) (fun b hb => hsn b (by simp [hb])), ?_, hc.mp.kept hk hmm, hc.pl, ?_, by simp [ft], fun b hb hx => ?_⟩
  · simp only [newS, hl]
    simpa [simCells] using hb
  · simp only [newS, hl]
    exact ho
  · intro i hi
    simp [newS] at hi
  · have hb' : b ∈ mm :: (NF ++ NR) := by simpa [ft] using hx
    have hb2 : b ∈ mm :: (ft wa ++ (NF ++ NR)) := by
      rcases List.mem_cons.1 hb' with h | h
      · simp [h]
      · exact List.mem_cons_of_mem _ (List.mem_append_right _ h)
    rcases List.mem_cons.1 hb with h | h
    · subst h
      exact hc.ap b (by simp) hb2
    · have h1 := hf b h
      have h2 := lt.2 b hb2
      omega
theorem RunAt.reset {w0 w2 : World} {c : List (List Nat)} {NF NR F2 R2 : List Nat} {i fc : Nat} {fa : Option Addr} {fs : List OR} (h : RunAt w0 w N c n NF NR s F R i fa k fc fs) (hsF : s ∈ F) (hs : SimAt w2 s F2 R2 (newS N)) (hk : Kept [s] w w2) (hf : ∀ b ∈ F2, b = s ∨ w.heap.size ≤ b) : RunAt w0 w2 N c n NF NR s F2 R2 0 fa k fc fs := by
  have hS : ∀ b ∈ (NF ++ NR) ++ (ft fa ++ orBlocks fs), b ∉ [s] := fun b hb hx => by
    rw [List.mem_singleton] at hx
    subst hx
    exact h.e2 b hb hsF
  have hz := h.kp.size
  refine ⟨h.net.kept hk (fun b hb => hS b (by simp [hb])) (fun b hb => hS b (by simp [hb])), hs, h.fi.kept hk (fun b hb => hS b (List.mem_append_right _ hb)), h.fis, fun b hb => ?_, fun b hb hx => ?_, kept_up h.kp hk (fun b hb => by
    rw [List.mem_singleton] at hb
    subst hb
    exact h.e1 b hsF)⟩
  · rcases hf b hb with rfl | h1
    · exact h.e1 b hsF
    · omega
  · rcases hf b hx with rfl | h1
    · exact hS b hb (by simp)
    · have : b < w.heap.size := by
        rcases List.mem_append.1 hb with hb | hb
        · rcases List.mem_append.1 hb with hb | hb
          · exact h.net.lt.1 b hb
          · exact h.net.lt.2 b hb
        · exact h.fi.lt b hb
      omega
end Go.Proofs.YtielfgngdhcpfaaGreat
