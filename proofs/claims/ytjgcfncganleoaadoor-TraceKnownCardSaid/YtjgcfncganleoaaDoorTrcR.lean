/-
  Chapter 09, plain: what is read of a text: names, the first line, rows, a table; and that it is what Put writes.
-/
import Derived.Test.YtjgcfncganleoaaDoorTrcQ
namespace Go.Proofs.YtjgcfncganleoaaDoor
set_option linter.unusedVariables false
set_option linter.unusedSimpArgs false

def bd {α β : Type} (x : PR α) (f : α → List UInt8 → PR β) : PR β := match x with
  | .error k => .error k
  | .ok (a, r) => f a r
def longSt (x : Nat) (c : Nat) : Option (Option Nat) := if letterB c = true then (if 33 < x + 1 then none else some (some (x + 1))) else some none
def nameT (s : List UInt8) : PR (List UInt8) := match runT longSt 0 s with
  | .error k => .error k
  | .ok (_, r) => .ok (s.take (s.length - r.length), r)
def oneT (a b : Nat) : List UInt8 → PR Bool
  | [] => .error 4
  | c :: r => if c.toNat = a ∨ c.toNat = b then .ok (decide (c.toNat = a), r) else .error 5
def hasB (l : List (ByteArray × Int)) (nm : List UInt8) : Bool := l.any fun x => decide (x.1 = ⟨nm.toArray⟩)
def busRd (l : List (ByteArray × Int)) (s : List UInt8) : PR ((ByteArray × Int) × Bool) :=
  bd (nameT s) fun nm r1 => if nm = [] then .error 5 else
  bd (oneT 58 58 r1) fun _ r2 => if hasB l nm = true then .error 5 else
  bd (numT 10 1 64 r2) fun n r3 =>
  bd (oneT 32 10 r3) fun more r4 => .ok (((⟨nm.toArray⟩, (n : Int)), more), r4)
def headT : Nat → List (ByteArray × Int) → List UInt8 → PR (List (ByteArray × Int))
  | 0, _, _ => .error 5
  | f + 1, l, s => bd (busRd l s) fun b r => if b.2 = true then headT f (l ++ [b.1]) r else .ok (l ++ [b.1], r)
def cellRd (w : Int) (more : Bool) (s : List UInt8) : PR Nat :=
  bd (numT 16 0 (2 ^ w.toNat - 1) s) fun n r => bd (oneT 32 10 r) fun m r2 => if m = more then .ok (n, r2) else .error 5
def rowRd : List (ByteArray × Int) → List Nat → List UInt8 → PR (List Nat)
  | [], acc, s => .ok (acc, s)
  | b :: bs, acc, s => bd (cellRd b.2 (!bs.isEmpty) s) fun n r => rowRd bs (acc ++ [n]) r
def rowsRd (bs : List (ByteArray × Int)) : Nat → List (List Nat) → List UInt8 → Except Nat (List (List Nat))
  | _, acc, [] => .ok acc
  | 0, _, _ :: _ => .error 5
  | f + 1, acc, c :: s => match rowRd bs [] (c :: s) with
    | .error k => .error k
    | .ok (l, r) => rowsRd bs f (acc ++ [l]) r
def tableT (s : List UInt8) : Except Nat Tb := match headT 512 [] s with
  | .error k => .error k
  | .ok (bs, r) => match rowsRd bs 4096 [] r with
    | .error k => .error k
    | .ok rs => .ok ⟨bs, rs⟩
def getT (s : List UInt8) : Except Nat Tb := if 16777216 < s.length then .error 3 else tableT s

/-! More of a text turns nothing of what was read, but ErrShort. -/
structure Inc {α : Type} (p : List UInt8 → PR α) : Prop where
  ok : ∀ s t a r, p s = .ok (a, r) → p (s ++ t) = .ok (a, r ++ t)
  err : ∀ s t k, p s = .error k → k = 4 ∨ (k = 5 ∧ p (s ++ t) = .error 5)
  suf : ∀ s a r, p s = .ok (a, r) → ∃ u, s = u ++ r
theorem Inc.bd {α β : Type} {p : List UInt8 → PR α} {f : α → List UInt8 → PR β} (hp : Inc p) (hf : ∀ a, Inc (f a)) : Inc (fun s => bd (p s) f) := by
  refine ⟨fun s t b r h => ?_, fun s t k h => ?_, fun s b r h => ?_⟩
  · rcases he : p s with k | ⟨a, q⟩ <;> simp only [Go.Proofs.YtjgcfncganleoaaDoor.bd, he] at h
    · exact absurd h (by simp)
    · simp only [Go.Proofs.YtjgcfncganleoaaDoor.bd, hp.ok s t a q he]
      exact (hf a).ok _ _ _ _ h
  · rcases he : p s with j | ⟨a, q⟩ <;> simp only [Go.Proofs.YtjgcfncganleoaaDoor.bd, he] at h
    · injection h with h; subst h
      refine (hp.err s t j he).imp id fun ⟨h1, h2⟩ => ⟨h1, ?_⟩
      simp only [Go.Proofs.YtjgcfncganleoaaDoor.bd, h2]
    · simp only [Go.Proofs.YtjgcfncganleoaaDoor.bd, hp.ok s t a q he]
      exact (hf a).err _ _ _ h
  · rcases he : p s with k | ⟨a, q⟩ <;> simp only [Go.Proofs.YtjgcfncganleoaaDoor.bd, he] at h
    · exact absurd h (by simp)
    · obtain ⟨u, hu⟩ := hp.suf s a q he
      obtain ⟨v, hv⟩ := (hf a).suf _ _ _ h
      exact ⟨u ++ v, by rw [hu, hv]; simp⟩
theorem Inc.pure {α : Type} (a : α) : Inc (fun s => (.ok (a, s) : PR α)) :=
  ⟨fun s t b r h => by injection h with h; injection h with h1 h2; subst h1 h2; rfl, fun s t k h => absurd h (by simp), fun s b r h => by injection h with h; injection h with h1 h2; exact ⟨[], by simp [h2]⟩⟩
theorem Inc.form {α : Type} : Inc (fun _ => (.error 5 : PR α)) :=
  ⟨fun s t b r h => absurd h (by simp), fun s t k h => by injection h with h; exact .inr ⟨h.symm, rfl⟩, fun s b r h => absurd h (by simp)⟩
theorem Inc.ite {α : Type} {c : Prop} [Decidable c] {p : List UInt8 → PR α} (hp : Inc p) : Inc (fun s => if c then .error 5 else p s) := by
  by_cases h : c
  · simp only [h, if_true]; exact .form
  · simp only [h, if_false]; exact hp
theorem runT_inc {σ : Type} (st : σ → Nat → Option (Option σ)) (x : σ) : Inc (runT st x) := by
  have key : ∀ (s : List UInt8) (x : σ), (∀ t a r, runT st x s = .ok (a, r) → runT st x (s ++ t) = .ok (a, r ++ t)) ∧ (∀ t k, runT st x s = .error k → k = 4 ∨ (k = 5 ∧ runT st x (s ++ t) = .error 5)) ∧ ∀ a r, runT st x s = .ok (a, r) → ∃ u, s = u ++ r := by
    intro s
    induction s with
    | nil =>
      intro x
      refine ⟨fun t a r h => absurd h (by simp [runT]), fun t k h => ?_, fun a r h => absurd h (by simp [runT])⟩
      simp only [runT] at h
      injection h with h
      exact .inl h.symm
    | cons b s ih =>
      intro x
      rcases hst : st x b.toNat with _ | _ | y
      · refine ⟨fun t a r h => ?_, fun t k h => ?_, fun a r h => ?_⟩
        · rw [runT_form hst] at h; exact absurd h (by simp)
        · rw [runT_form hst] at h; injection h with h; exact .inr ⟨h.symm, by rw [List.cons_append, runT_form hst]⟩
        · rw [runT_form hst] at h; exact absurd h (by simp)
      · refine ⟨fun t a r h => ?_, fun t k h => ?_, fun a r h => ?_⟩
        · rw [runT_stop hst] at h; injection h with h; injection h with h1 h2; subst h1 h2
          rw [List.cons_append, runT_stop hst]
        · rw [runT_stop hst] at h; exact absurd h (by simp)
        · rw [runT_stop hst] at h; injection h with h; injection h with h1 h2; subst h1 h2
          exact ⟨[], rfl⟩
      · obtain ⟨i1, i2, i3⟩ := ih y
        refine ⟨fun t a r h => ?_, fun t k h => ?_, fun a r h => ?_⟩
        · rw [runT_go hst] at h; rw [List.cons_append, runT_go hst]; exact i1 t a r h
        · rw [runT_go hst] at h; rw [List.cons_append, runT_go hst]; exact i2 t k h
        · rw [runT_go hst] at h; obtain ⟨u, hu⟩ := i3 a r h; exact ⟨b :: u, by rw [hu]; rfl⟩
  exact ⟨fun s t a r h => (key s x).1 t a r h, fun s t k h => (key s x).2.1 t k h, fun s a r h => (key s x).2.2 a r h⟩
theorem numT_inc (base first most : Nat) : Inc (numT base first most) := by
  have h := runT_inc (numSt base first most) (0, 0)
  refine ⟨fun s t a r hs => ?_, fun s t k hs => ?_, fun s a r hs => ?_⟩
  · unfold numT at hs ⊢
    rcases he : runT (numSt base first most) (0, 0) s with j | ⟨x, q⟩ <;> rw [he] at hs
    · exact absurd hs (by simp)
    · rw [h.ok s t x q he]
      by_cases hx : x.2 = 0
      · simp [hx] at hs
      · simp [hx] at hs ⊢
        exact ⟨hs.1, by rw [hs.2]⟩
  · unfold numT at hs ⊢
    rcases he : runT (numSt base first most) (0, 0) s with j | ⟨x, q⟩ <;> rw [he] at hs
    · injection hs with hs; subst hs
      refine (h.err s t j he).imp id fun ⟨h1, h2⟩ => ⟨h1, by rw [h2]⟩
    · rw [h.ok s t x q he]
      by_cases hx : x.2 = 0
      · simp [hx] at hs ⊢
        exact .inr hs.symm
      · simp [hx] at hs
  · unfold numT at hs
    rcases he : runT (numSt base first most) (0, 0) s with j | ⟨x, q⟩ <;> rw [he] at hs
    · exact absurd hs (by simp)
    · by_cases hx : x.2 = 0
      · simp [hx] at hs
      · simp [hx] at hs
        exact hs.2 ▸ h.suf s x q he
theorem nameT_inc : Inc nameT := by
  have h := runT_inc longSt 0
  refine ⟨fun s t a r hs => ?_, fun s t k hs => ?_, fun s a r hs => ?_⟩
  · unfold nameT at hs ⊢
    rcases he : runT longSt 0 s with j | ⟨x, q⟩ <;> rw [he] at hs
    · exact absurd hs (by simp)
    · obtain ⟨u, hu⟩ := h.suf s x q he
      simp only at hs
      injection hs with hs; injection hs with h1 h2; subst h1 h2
      rw [h.ok s t x q he, hu]
      simp
  · unfold nameT at hs ⊢
    rcases he : runT longSt 0 s with j | ⟨x, q⟩ <;> rw [he] at hs
    · injection hs with hs; subst hs
      refine (h.err s t j he).imp id fun ⟨h1, h2⟩ => ⟨h1, by rw [h2]⟩
    · exact absurd hs (by simp)
  · unfold nameT at hs
    rcases he : runT longSt 0 s with j | ⟨x, q⟩ <;> rw [he] at hs
    · exact absurd hs (by simp)
    · simp only at hs
      injection hs with hs; injection hs with h1 h2
      exact h2 ▸ h.suf s x q he
theorem oneT_inc (a b : Nat) : Inc (oneT a b) := by
  refine ⟨fun s t x r hs => ?_, fun s t k hs => ?_, fun s x r hs => ?_⟩
  · cases s with
    | nil => exact absurd hs (by simp [oneT])
    | cons c s =>
      simp only [oneT, List.cons_append] at hs ⊢
      split at hs
      · rename_i hc
        injection hs with hs; injection hs with h1 h2; subst h1 h2
        rw [if_pos hc]
      · exact absurd hs (by simp)
  · cases s with
    | nil => simp only [oneT] at hs; injection hs with hs; exact .inl hs.symm
    | cons c s =>
      simp only [oneT, List.cons_append] at hs ⊢
      split at hs
      · exact absurd hs (by simp)
      · rename_i hc
        injection hs with hs
        exact .inr ⟨hs.symm, by rw [if_neg hc]⟩
  · cases s with
    | nil => exact absurd hs (by simp [oneT])
    | cons c s =>
      simp only [oneT] at hs
      split at hs
      · injection hs with hs; injection hs with h1 h2; subst h1 h2
        exact ⟨[c], rfl⟩
      · exact absurd hs (by simp)
theorem busRd_inc (l : List (ByteArray × Int)) : Inc (busRd l) :=
  nameT_inc.bd fun nm => .ite ((oneT_inc 58 58).bd fun _ => .ite ((numT_inc 10 1 64).bd fun n => (oneT_inc 32 10).bd fun more => .pure _))
theorem headT_inc : ∀ (f : Nat) (l : List (ByteArray × Int)), Inc (headT f l)
  | 0, l => .form
  | f + 1, l => (busRd_inc l).bd fun b => by
    by_cases h : b.2 = true
    · simp only [h, if_true]; exact headT_inc f _
    · simp only [h]; exact .pure _
theorem cellRd_inc (w : Int) (more : Bool) : Inc (cellRd w more) :=
  (numT_inc 16 0 _).bd fun n => (oneT_inc 32 10).bd fun m => by
    by_cases h : m = more
    · simp only [h, if_true]; exact .pure _
    · simp only [h, if_false]; exact .form
theorem rowRd_inc : ∀ (bs : List (ByteArray × Int)) (acc : List Nat), Inc (rowRd bs acc)
  | [], acc => .pure _
  | b :: bs, acc => (cellRd_inc b.2 _).bd fun n => rowRd_inc bs _
/-- what is cut ahead of where the reader came to is too short -/
theorem Inc.cut {α : Type} {p : List UInt8 → PR α} (hp : Inc p) {s t : List UInt8} {a : α} {r : List UInt8} (h : p (s ++ t) = .ok (a, r)) (hr : r.length < t.length) : p s = .error 4 := by
  rcases he : p s with k | ⟨b, q⟩
  · rcases hp.err s t k he with rfl | ⟨rfl, h2⟩
    · rfl
    · rw [h2] at h; exact absurd h (by simp)
  · rw [hp.ok s t b q he] at h
    injection h with h; injection h with h1 h2
    have := congrArg List.length h2
    simp at this
    omega
end Go.Proofs.YtjgcfncganleoaaDoor
