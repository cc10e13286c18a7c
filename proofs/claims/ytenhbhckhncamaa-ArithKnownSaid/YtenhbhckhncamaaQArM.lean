/-
  Package arith, plain: types, what may not be, what rows become.
-/
import Derived.Test.YtenhbhckhncamaaP29
import Derived.Test.YtenhbhckhncamaaQArT
namespace Go.Proofs.Ytenhbhckhncamaa
set_option linter.unusedVariables false
set_option linter.unusedSimpArgs false

/-- rows of a type that are there -/
def rowB (g : Gr) (t : Ty) (l : List Nat) : Bool := decide ((l.length : Int) = t.w) && l.all fun x => decide (x / 2 < g.nodes.length)
def asksB (g : Gr) (t : Ty) (rs : List (List Nat)) : Bool := mayT t && rs.all (rowB g t)
theorem rowB_iff {g : Gr} {t : Ty} {l : List Nat} : rowB g t l = true ↔ (l.length : Int) = t.w ∧ ∀ x ∈ l, g.ok x := by
  unfold rowB Gr.ok
  simp
theorem asksB_iff {g : Gr} {t : Ty} {rs : List (List Nat)} : asksB g t rs = true ↔ mayT t = true ∧ ∀ l ∈ rs, (l.length : Int) = t.w ∧ ∀ x ∈ l, g.ok x := by
  unfold asksB
  rw [Bool.and_eq_true, List.all_eq_true]
  simp only [rowB_iff]
/-- a graph that has grown, and a row -/
structure GRow (k n : Nat) (g : Gr) (r : Gr × List Nat) : Prop where
  wf : WF r.1.nodes
  ext : Ext k g r.1
  len : r.2.length = n
  ok : ∀ x ∈ r.2, r.1.ok x
theorem GRow.mono {k k' n : Nat} {g : Gr} {r : Gr × List Nat} (h : GRow k n g r) (hk : k ≤ k') : GRow k' n g r := ⟨h.wf, h.ext.mono hk, h.len, h.ok⟩
/-- bit by bit -/
def bitsG (two : Gr → Nat → Nat → Gr × Nat) (g : Gr) (la lb : List Nat) : Nat → Gr × List Nat
  | 0 => (g, [])
  | k + 1 => ((two (bitsG two g la lb k).1 (la.getD k 0) (lb.getD k 0)).1, (bitsG two g la lb k).2 ++ [(two (bitsG two g la lb k).1 (la.getD k 0) (lb.getD k 0)).2])
def TwoOk (two : Gr → Nat → Nat → Gr × Nat) (P : Gr → Prop) : Prop := ∀ g a b, WF g.nodes → P g → g.ok a → g.ok b → WF (two g a b).1.nodes ∧ Ext 3 g (two g a b).1 ∧ (two g a b).1.ok (two g a b).2
theorem bitsG_ok {two : Gr → Nat → Nat → Gr × Nat} {P : Gr → Prop} {g : Gr} {la lb : List Nat} (h2 : TwoOk two P) (hP : ∀ k g', Ext k g g' → P g') (hw : WF g.nodes) (ka : ∀ x ∈ la, g.ok x) (kb : ∀ x ∈ lb, g.ok x) (k : Nat) : GRow (3 * k) k g (bitsG two g la lb k) := by
  induction k with
  | zero => exact ⟨hw, .refl _, rfl, by simp [bitsG]⟩
  | succ k ih =>
    have h := h2 _ _ _ ih.wf (hP _ _ ih.ext) (ih.ext.ok (getD_ok hw ka k)) (ih.ext.ok (getD_ok hw kb k))
    refine ⟨h.1, (ih.ext.trans h.2.1).mono (by omega), by simp [bitsG, ih.len], fun x hx => ?_⟩
    simp only [bitsG, List.mem_append, List.mem_singleton] at hx
    rcases hx with hx | rfl
    · exact h.2.1.ok (ih.ok x hx)
    · exact h.2.2
def sumG (how : Nat) (g : Gr) (la lb : List Nat) (c n : Nat) : Gr × List Nat := ((addG how g la lb c n).1, (addG how g la lb c n).2.1)
/-- how many gates a sum may make -/
def sumK (n : Nat) : Nat := 9 * n + 3 * (n * rnds n)
theorem wideTo_n (n r : Nat) : wideTo n r ≤ n * r := by
  induction r with
  | zero => simp [wideTo]
  | succ r ih =>
    have h := Nat.sub_le n (2 ^ r)
    simp only [wideTo, Nat.mul_succ]
    generalize n - 2 ^ r = z at *
    generalize n * r = y at *
    omega
theorem sumG_ok {how c n : Nat} {g : Gr} {la lb : List Nat} (hw : WF g.nodes) (ka : ∀ x ∈ la, g.ok x) (kb : ∀ x ∈ lb, g.ok x) (kc : g.ok c) (hla : la.length = n) (hlb : lb.length = n) (hn : n ≤ 64) : GRow (sumK n) n g (sumG how g la lb c n) := by
  unfold sumG addG sumK
  split
  · have h := rip_ok hw ka kb kc hla hlb
    exact ⟨h.wf, h.ext.mono (by omega), h.len, h.os⟩
  · have h := ahead_ok hw ka kb kc hla hlb hn
    have := wideTo_n n (rnds n)
    exact ⟨h.wf, h.ext.mono (by omega), h.len, h.os⟩
def zerosL (n : Nat) : List Nat := List.replicate n 0
theorem zerosL_ok {g : Gr} (hw : WF g.nodes) (n : Nat) : ∀ x ∈ zerosL n, g.ok x := fun x hx => by
  rw [(List.mem_replicate.1 hx).2]
  have := hw.pos
  unfold Gr.ok
  omega
theorem turn_ok {g : Gr} {l : List Nat} (h : ∀ x ∈ l, g.ok x) : ∀ x ∈ l.map ntL, g.ok x := fun x hx => by
  obtain ⟨y, hy, rfl⟩ := List.mem_map.1 hx
  exact ok_nt (h y hy)
theorem one_ok {g : Gr} (hw : WF g.nodes) : g.ok 1 ∧ g.ok 0 := by
  have := hw.pos
  unfold Gr.ok
  omega
/-- one row -/
def oneG (how : Nat) (op : Int) (g : Gr) (la : List Nat) (n : Nat) : Gr × List Nat := if op = 1 then (g, la.map ntL) else sumG how g (zerosL n) (la.map ntL) 1 n
theorem oneG_ok {how n : Nat} {op : Int} {g : Gr} {la : List Nat} (hw : WF g.nodes) (ka : ∀ x ∈ la, g.ok x) (hla : la.length = n) (hn : n ≤ 64) : GRow (sumK n) n g (oneG how op g la n) := by
  unfold oneG
  split
  · exact ⟨hw, (Ext.refl g).mono (by omega), by rw [List.length_map]; exact hla, turn_ok ka⟩
  · exact sumG_ok hw (zerosL_ok hw n) (turn_ok ka) (one_ok hw).1 (by simp [zerosL]) (by rw [List.length_map]; exact hla) hn
/-- one row of a product: x with the first of a row -/
def andsG (x : Nat) (g : Gr) (l : List Nat) : Nat → Gr × List Nat
  | 0 => (g, [])
  | k + 1 => ((andG (andsG x g l k).1 x (l.getD k 0)).1, (andsG x g l k).2 ++ [(andG (andsG x g l k).1 x (l.getD k 0)).2])
theorem andsG_ok {x : Nat} {g : Gr} {l : List Nat} (hw : WF g.nodes) (kx : g.ok x) (kl : ∀ y ∈ l, g.ok y) (k : Nat) : GRow k k g (andsG x g l k) := by
  induction k with
  | zero => exact ⟨hw, .refl _, rfl, by simp [andsG]⟩
  | succ k ih =>
    have h := andG_spec ih.wf (ih.ext.ok kx) (ih.ext.ok (getD_ok hw kl k))
    refine ⟨h.1, (ih.ext.trans h.2.1).mono (by omega), by simp [andsG, ih.len], fun y hy => ?_⟩
    simp only [andsG, List.mem_append, List.mem_singleton] at hy
    rcases hy with hy | rfl
    · exact h.2.1.ok (ih.ok y hy)
    · exact h.2.2
/-- the product, behind some rows -/
def prodG (how : Nat) (g : Gr) (la lb : List Nat) (n : Nat) : Nat → Gr × List Nat
  | 0 => (g, [])
  | i + 1 =>
    let s := prodG how g la lb n i
    let r := andsG (lb.getD i 0) s.1 la (n - i)
    if i = 0 then r else sumG how r.1 s.2 (zerosL i ++ r.2) 0 n
theorem prodG_ok {how n : Nat} {g : Gr} {la lb : List Nat} (hw : WF g.nodes) (ka : ∀ x ∈ la, g.ok x) (kb : ∀ x ∈ lb, g.ok x) (hn : n ≤ 64) : ∀ i, i ≤ n → GRow (i * (n + sumK n)) (if i = 0 then 0 else n) g (prodG how g la lb n i)
  | 0, _ => ⟨hw, (Ext.refl g).mono (Nat.zero_le _), rfl, by simp [prodG]⟩
  | i + 1, h => by
    have ih := prodG_ok (how := how) (lb := lb) hw ka kb hn i (by omega)
    have hr := andsG_ok (l := la) ih.wf (ih.ext.ok (getD_ok hw kb i)) (fun y hy => ih.ext.ok (ka y hy)) (n - i)
    have hm : (i + 1) * (n + sumK n) = i * (n + sumK n) + (n + sumK n) := by rw [Nat.add_mul, Nat.one_mul]
    rw [if_neg (by omega)]
    unfold prodG
    simp only
    by_cases h0 : i = 0
    · subst h0
      rw [if_pos rfl]
      exact ⟨hr.wf, (ih.ext.trans hr.ext).mono (by omega), by rw [hr.len]; omega, hr.ok⟩
    · rw [if_neg h0]
      rw [if_neg h0] at ih
      have hs := sumG_ok (how := how) (c := 0) hr.wf (fun x hx => hr.ext.ok (ih.ok x hx)) (fun x hx => by
        rcases List.mem_append.1 hx with hx | hx
        · exact zerosL_ok hr.wf i x hx
        · exact hr.ok x hx) (one_ok hr.wf).2 ih.len (show (zerosL i ++ (andsG (lb.getD i 0) (prodG how g la lb n i).1 la (n - i)).2).length = n by rw [List.length_append, hr.len]; simp [zerosL]; omega) hn
      exact ⟨hs.wf, ((ih.ext.trans hr.ext).trans hs.ext).mono (by omega), hs.len, hs.ok⟩
/-- two rows -/
def twoG (how : Nat) (op : Int) (g : Gr) (la lb : List Nat) (n : Nat) : Gr × List Nat :=
  if op = 1 then bitsG andG g la lb n else if op = 2 then bitsG orG g la lb n else if op = 3 then bitsG xorG g la lb n
  else if op = 4 then sumG how g la lb 0 n else if op = 5 then sumG how g la (lb.map ntL) 1 n else prodG how g la lb n n
def twoK (op : Int) (n : Nat) : Nat := if op = 6 then n * (n + sumK n) else sumK n
theorem two_andO : TwoOk andG fun _ => True := fun g a b hw _ ha hb => by have h := andG_spec hw ha hb; exact ⟨h.1, h.2.1.mono (by omega), h.2.2⟩
theorem two_orO : TwoOk orG fun _ => True := fun g a b hw _ ha hb => by have h := andG_spec hw (ok_nt ha) (ok_nt hb); exact ⟨h.1, h.2.1.mono (by omega), ok_nt h.2.2⟩
theorem two_xorO : TwoOk xorG fun _ => True := fun g a b hw _ ha hb => xorG_spec hw ha hb
theorem twoG_ok {how n : Nat} {op : Int} {g : Gr} {la lb : List Nat} (hw : WF g.nodes) (ka : ∀ x ∈ la, g.ok x) (kb : ∀ x ∈ lb, g.ok x) (hla : la.length = n) (hlb : lb.length = n) (h1 : 1 ≤ n) (hn : n ≤ 64) (hop : 1 ≤ op ∧ op ≤ 6) : GRow (twoK op n) n g (twoG how op g la lb n) := by
  have hk : 3 * n ≤ sumK n := by unfold sumK; omega
  unfold twoG twoK
  by_cases e1 : op = 1
  · rw [if_pos e1, if_neg (by omega)]; exact (bitsG_ok two_andO (fun _ _ _ => trivial) hw ka kb n).mono hk
  rw [if_neg e1]
  by_cases e2 : op = 2
  · rw [if_pos e2, if_neg (by omega)]; exact (bitsG_ok two_orO (fun _ _ _ => trivial) hw ka kb n).mono hk
  rw [if_neg e2]
  by_cases e3 : op = 3
  · rw [if_pos e3, if_neg (by omega)]; exact (bitsG_ok two_xorO (fun _ _ _ => trivial) hw ka kb n).mono hk
  rw [if_neg e3]
  by_cases e4 : op = 4
  · rw [if_pos e4, if_neg (by omega)]; exact sumG_ok hw ka kb (one_ok hw).2 hla hlb hn
  rw [if_neg e4]
  by_cases e5 : op = 5
  · rw [if_pos e5, if_neg (by omega)]; exact sumG_ok hw ka (turn_ok kb) (one_ok hw).1 hla (by rw [List.length_map]; exact hlb) hn
  rw [if_neg e5, if_pos (by omega)]
  have h := prodG_ok (how := how) (lb := lb) hw ka kb hn n (Nat.le_refl _)
  rw [if_neg (by omega)] at h
  exact h
/-- one row, or another one -/
def chooseG (g : Gr) (c : Nat) (la lb : List Nat) (n : Nat) : Gr × List Nat := bitsG (fun g a b => muxG g c a b) g la lb n
theorem chooseG_ok {g : Gr} {c n : Nat} {la lb : List Nat} (hw : WF g.nodes) (kc : g.ok c) (ka : ∀ x ∈ la, g.ok x) (kb : ∀ x ∈ lb, g.ok x) : GRow (3 * n) n g (chooseG g c la lb n) :=
  bitsG_ok (P := fun g => g.ok c) (fun g a b hw hc ha hb => muxG_spec hw hc ha hb) (fun k g' he => he.ok kc) hw ka kb n
/-- all rows, from the left -/
def allG (how : Nat) (op : Int) (n : Nat) : Gr × List Nat → List (List Nat) → Gr × List Nat
  | s, [] => s
  | s, l :: r => allG how op n (twoG how op s.1 s.2 l n) r
end Go.Proofs.Ytenhbhckhncamaa
