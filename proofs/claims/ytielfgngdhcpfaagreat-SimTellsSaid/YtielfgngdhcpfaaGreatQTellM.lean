/-
  Law SimTells, parts: a simulation and the document's, side by side; cycles where they lie; both reset.
-/
import Derived.Test.YtielfgngdhcpfaaGreatQAsked
namespace Go.Proofs.YtielfgngdhcpfaaGreat
open Go.ChangeShapes Go.WideShapes Go.ChangeAt Go.RowKit Go.Deep Go.Joins
open Go.Maps (Keyed)
open Go.WideMaps
set_option linter.unusedVariables false
set_option linter.unusedSimpArgs false

variable {w w' w0 w1 w2 : World} {s p n m k v : Nat} {F R F' R' S MF MR R2 R3 : List Nat} {g : Gr} {N : Nt} {σ τ σ' : Sm}
/-- a netlist, a simulation of it and the document's: nothing that is written is anything else -/
structure TellAt (w0 w : World) (N : Nt) (m : Nat) (MF MR : List Nat) (s : Nat) (F R : List Nat) (σ : Sm) (v : Nat) (R2 : List Nat) (τ : Sm) : Prop where
  net : NetAt w m MF MR N
  sa : SimAt w s F R σ
  va : RSimAt w v R2 τ
  f0 : ∀ b ∈ v :: F, w0.heap.size ≤ b
  d1 : ∀ b ∈ (MF ++ MR) ++ (v :: R2), b ∉ F
  d2 : ∀ b ∈ (MF ++ MR) ++ R, b ≠ v
  kp : Kept [] w0 w
theorem TellAt.keep (h : TellAt w0 w N m MF MR s F R σ v R2 τ) (hk : Kept [] w w2) : TellAt w0 w2 N m MF MR s F R σ v R2 τ :=
  ⟨h.net.kept0 hk, h.sa.kept0 hk, h.va.kept0 hk, h.f0, h.d1, h.d2, h.kp.trans hk⟩
theorem TellAt.aside (h : TellAt w0 w N m MF MR s F R σ v R2 τ) (hk : Kept S w w2) (h0 : ∀ b ∈ S, w0.heap.size ≤ b) (h1 : ∀ b ∈ (MF ++ MR) ++ (v :: R2), b ∉ S) (h2 : ∀ b ∈ F ++ R, b ∉ S) : TellAt w0 w2 N m MF MR s F R σ v R2 τ :=
  ⟨h.net.kept hk (fun b hb => h1 b (by simp [hb])) (fun b hb => h1 b (by simp [hb])), h.sa.kept hk (fun b hb => h2 b (by simp [hb])) (fun b hb => h2 b (by simp [hb])), h.va.kept hk (h1 v (by simp)) (fun b hb => h1 b (by simp [hb])), h.f0, h.d1, h.d2, kept_up h.kp hk h0⟩
theorem TellAt.stepS (h : TellAt w0 w N m MF MR s F R σ v R2 τ) (hs : SimAt w2 s F R' σ') (hst : NStep w w2 F R F R') : TellAt w0 w2 N m MF MR s F R' σ' v R2 τ := by
  have lt := h.va.lt
  refine ⟨h.net.kept hst.st.kept (fun b hb => h.d1 b (by simp [hb])) (fun b hb => h.d1 b (by simp [hb])), hs, h.va.kept hst.st.kept (h.d1 v (by simp)) (fun b hb => h.d1 b (by simp [hb])), h.f0, h.d1, fun b hb => ?_, kept_up h.kp hst.st.kept (fun b hb => h.f0 b (by simp [hb]))⟩
  rcases List.mem_append.1 hb with hb | hb
  · exact h.d2 b (by simp only [List.mem_append]; exact .inl (List.mem_append.1 hb))
  · rcases hst.rows b hb with h1 | h1
    · exact h.d2 b (by simp [h1])
    · have := lt.1; omega
theorem TellAt.stepV (h : TellAt w0 w N m MF MR s F R σ v R2 τ) (hs : RSimAt w2 v R3 σ') (hk : Kept [v] w w2) (hr : ∀ b ∈ R3, b ∈ R2 ∨ w.heap.size ≤ b) : TellAt w0 w2 N m MF MR s F R σ v R3 σ' := by
  have lt := h.sa.lt
  have hv : ∀ b, b ∈ (MF ++ MR) ++ R → b ∉ [v] := fun b hb hx => h.d2 b hb (by simpa using hx)
  have hF : ∀ b, b ∈ F → b ∉ [v] := fun b hb hx => h.d1 v (by simp) (by rw [← List.mem_singleton.1 hx]; exact hb)
  refine ⟨h.net.kept hk (fun b hb => hv b (by simp [hb])) (fun b hb => hv b (by simp [hb])), h.sa.kept hk hF (fun b hb => hv b (by simp [hb])), hs, h.f0, fun b hb => ?_, h.d2, kept_up h.kp hk (fun b hb => h.f0 b (by simp at hb; simp [hb]))⟩
  rcases List.mem_append.1 hb with hb | hb
  · exact h.d1 b (by simp only [List.mem_append]; exact .inl (List.mem_append.1 hb))
  · rcases List.mem_cons.1 hb with rfl | hb
    · exact h.d1 b (by simp)
    · rcases hr b hb with h1 | h1
      · exact h.d1 b (by simp [h1])
      · exact fun hx => by have := lt.1 b hx; omega
theorem TellAt.resetS (h : TellAt w0 w N m MF MR s F R σ v R2 τ) (hsF : s ∈ F) (hs : SimAt w2 s F' R' σ') (hk : Kept [s] w w2) (hf : ∀ b ∈ F', b = s ∨ w.heap.size ≤ b) (hr : ∀ b ∈ R', b ∈ R) : TellAt w0 w2 N m MF MR s F' R' σ' v R2 τ := by
  have lv := h.va.lt
  have ln := h.net.lt
  have hS : ∀ b, b ∈ (MF ++ MR) ++ (v :: R2) → b ∉ [s] := fun b hb hx => h.d1 b hb (by rw [List.mem_singleton.1 hx]; exact hsF)
  have z0 := h.kp.size
  refine ⟨h.net.kept hk (fun b hb => hS b (by simp [hb])) (fun b hb => hS b (by simp [hb])), hs, h.va.kept hk (hS v (by simp)) (fun b hb => hS b (by simp [hb])), fun b hb => ?_, fun b hb hx => ?_, fun b hb => ?_, kept_up h.kp hk (fun b hb => h.f0 b (by rw [List.mem_singleton.1 hb]; simp [hsF]))⟩
  · rcases List.mem_cons.1 hb with rfl | hb
    · exact h.f0 b (by simp)
    · rcases hf b hb with rfl | h1
      · exact h.f0 b (by simp [hsF])
      · omega
  · rcases hf b hx with rfl | h1
    · exact hS b hb (by simp)
    · have : b < w.heap.size := by
        rcases List.mem_append.1 hb with hb | hb
        · rcases List.mem_append.1 hb with hb | hb
          · exact ln.1 b hb
          · exact ln.2 b hb
        · rcases List.mem_cons.1 hb with rfl | hb
          · exact lv.1
          · exact lv.2 b hb
      omega
  · rcases List.mem_append.1 hb with hb | hb
    · exact h.d2 b (by simp only [List.mem_append]; exact .inl (List.mem_append.1 hb))
    · exact h.d2 b (by simp [hr b hb])
/-- the copy goes on -/
theorem TellAt.copy {s' : Nat} (h : TellAt w0 w N m MF MR s F R σ v R2 τ) (hs : SimAt w2 s' F' R σ') (hk : Kept [] w w2) (hf : ∀ b ∈ F', w.heap.size ≤ b) : TellAt w0 w2 N m MF MR s' F' R σ' v R2 τ := by
  have lv := h.va.lt
  have ln := h.net.lt
  have z0 := h.kp.size
  refine ⟨h.net.kept0 hk, hs, h.va.kept0 hk, fun b hb => ?_, fun b hb hx => ?_, h.d2, h.kp.trans hk⟩
  · rcases List.mem_cons.1 hb with rfl | hb
    · exact h.f0 b (by simp)
    · have := hf b hb; omega
  · have h1 := hf b hx
    have : b < w.heap.size := by
      rcases List.mem_append.1 hb with hb | hb
      · rcases List.mem_append.1 hb with hb | hb
        · exact ln.1 b hb
        · exact ln.2 b hb
      · rcases List.mem_cons.1 hb with rfl | hb
        · exact lv.1
        · exact lv.2 b hb
    omega
def ResetP2 (s : Nat) (R : List Nat) (N : Nt) (w : World) (e : Ending) (w' : World) : Prop :=
  e = .returned (.int .i64 0) ∧ ∃ F R', SimAt w' s F R' (newS N) ∧ Kept [s] w w' ∧ (∀ b ∈ F, b = s ∨ w.heap.size ≤ b) ∧ ∀ b ∈ R', b ∈ R
theorem reset2_c {σ : Sm} (h : SimAt w s F R σ) (hr : σ.N.regs.length ≤ 1000000) : s ∈ F ∧ Calls Tryz.prog 18 #[.pointer (some ⟨s, 0, none⟩)] w (ResetP2 s R σ.N w) := by
  obtain ⟨n, NF, NR, ra, rc, mm, f, wa, wc, rfl, rfl, hc⟩ := h
  refine ⟨by simp, (sim_reset hc.blk hc.net hr (fun hx => hc.ap s (by simp) (by simp [hx]))).mono ?_⟩
  rintro e w' ⟨ra', rc', rfl, hb, ho, hk, hf⟩
  have hsn : ∀ b ∈ NF ++ NR, b ∉ [s] := fun b hbb hx => hc.ap s (by simp) (by
    rw [List.mem_singleton] at hx
    rw [← hx]
    exact List.mem_cons_of_mem _ (List.mem_append_right _ hbb))
  have hmm : mm ∉ [s] := fun hx => hc.ap s (by simp) (by
    rw [List.mem_singleton] at hx
    rw [hx]; simp)
  have lt := hc.lt
  refine ⟨rfl, s :: ft ra', mm :: (ft none ++ (NF ++ NR)), ⟨n, NF, NR, ra', rc', mm, f, none, 0, rfl, rfl, ?_⟩, hk, fun b hb => by simpa using (List.mem_cons.1 hb).imp id (fun h => hf b h), fun b hb => ?_⟩
  · have hl : (resetN σ.N).length = σ.N.regs.length := by simp [resetN]
    refine ⟨?_, hc.net.kept hk (fun b hb => hsn b (by simp [hb])) (fun b hb => hsn b (by simp [hb])), ?_, hc.mp.kept hk hmm, hc.pl, ?_, by simp [ft], fun b hb hx => ?_⟩
    · simp only [newS, hl]
      simpa [simCells] using hb
    · simp only [newS, hl]
      exact ho
    · intro i hi
      simp [newS] at hi
    · have hb' : b ∈ mm :: (NF ++ NR) := by simpa [ft] using hx
      have hb2 : b ∈ mm :: (ft wa ++ (NF ++ NR)) := by
        rcases List.mem_cons.1 hb' with h | h
        · simp [h]
        · exact List.mem_cons_of_mem _ (List.mem_append_right _ h)
      rcases List.mem_cons.1 hb with h | h
      · subst h
        exact hc.ap b (by simp) hb2
      · have h1 := hf b h
        have h2 := lt.2 b hb2
        omega
  · rcases List.mem_cons.1 hb with h | h
    · simp [h]
    · exact List.mem_cons_of_mem _ (List.mem_append_right _ (by simpa [ft] using h))
def RResetP (v : Nat) (R : List Nat) (N : Nt) (w : World) (e : Ending) (w' : World) : Prop :=
  (∃ u, e = .returned u) ∧ ∃ R', RSimAt w' v R' (newS N) ∧ Kept [v] w w' ∧ ∀ b ∈ R', b ∈ R ∨ w.heap.size ≤ b
theorem rreset_c (h : RSimAt w v R σ) (hr : σ.N.regs.length ≤ 100000) : Calls Tryz.prog 29 #[.pointer (some ⟨v, 0, none⟩)] w (RResetP v R σ.N w) := by
  obtain ⟨n, NF, NR, ra, rc, wa, wc, rfl, hc⟩ := h
  have hb0 : w.heap[v]? = some (.cells #[.pointer (some ⟨n, 0, none⟩), .slice ra σ.regs.length rc, .slice wa σ.ws.length wc, .int .i64 (σ.cy : Int)] 85 (0, 0)) := hc.blk
  refine (reset08 hb0 hc.net hr (fun hx => hc.ap (by simp [hx]))).mono ?_
  rintro e w' ⟨hu, ra', rc', hb, ho, hk, hf⟩
  have hl : (resetN σ.N).length = σ.N.regs.length := by simp [resetN]
  refine ⟨hu, ft ra' ++ (ft none ++ (NF ++ NR)), ⟨n, NF, NR, ra', rc', none, 0, rfl, ?_, ?_, ?_, ?_, hc.ap⟩, hk, fun b hb => ?_⟩
  · simp only [newS, hl]
    exact hb
  · exact hc.net.kept hk (fun b h1 hx => hc.ap (List.mem_append_left _ (by rw [← List.mem_singleton.1 hx]; exact h1))) (fun b h1 hx => hc.ap (List.mem_append_right _ (by rw [← List.mem_singleton.1 hx]; exact h1)))
  · simp only [newS, hl]
    exact ho
  · exact Own.nil _ _
  · simp only [ft, List.nil_append, List.mem_append] at hb
    rcases hb with hb | hb
    · exact .inr (hf b hb)
    · refine .inl ?_
      simp only [List.mem_append]
      exact .inr (.inr (by simpa using hb))
/-- a cycle, and where its rows lie -/
structure Cy where
  what : Int
  l : List Nat
  a : Option Addr
  c : Nat
  ask : List Nat
  qa : Option Addr
  qc : Nat
def CyCells (W : World) (b o : Nat) (x : Cy) : Prop :=
  W.cell? ⟨b, o, none⟩ = some (.int .i64 x.what) ∧ W.cell? ⟨b, o + 1, none⟩ = some (.slice x.a x.l.length x.c) ∧ W.cell? ⟨b, o + 2, none⟩ = some (.slice x.qa x.ask.length x.qc)
def SlCy (W : World) (a : Option Addr) (l : List Cy) : Prop :=
  ∀ k, (hk : k < l.length) → ∃ b o, a = some ⟨b, o, none⟩ ∧ CyCells W b (o + k * 3) l[k] ∧ SlN W .u64 l[k].a l[k].l ∧ SlN W .u32 l[k].qa l[k].ask
theorem SlCy.kept0 {W W' : World} {a : Option Addr} {l : List Cy} (h : SlCy W a l) (hk : Kept [] W W') : SlCy W' a l := by
  intro k hkl
  obtain ⟨b, o, h1, ⟨c0, c1, c2⟩, h3, h4⟩ := h k hkl
  exact ⟨b, o, h1, ⟨hk.cell c0 (by simp), hk.cell c1 (by simp), hk.cell c2 (by simp)⟩, h3.kept0 hk, h4.kept0 hk⟩
structure Cy.ok (x : Cy) : Prop where
  lo : -9223372036854775808 ≤ x.what
  hi : x.what ≤ 9223372036854775807
  wd : Words x.l
  wl : x.l.length ≤ 140737488351232
  ls : Lits x.ask
  ll : x.ask.length ≤ 140737488351232
  lc : x.ask.length ≤ x.qc
section
variable {H : Type} {enc : TypeId × Value → H} {W : World} {base : Nat} {v : Value} {d : DataW H} {ps : List MemPlace}
set_option maxRecDepth 100000 in
theorem open_cycles (hv : Value.okWide Tryz.prog W .any base 72 v) (h : DataW.Trod enc Tryz.prog W 0 (fun _ => true) true 72 v d ps) (hz : Sized Tryz.prog 72 d) :
    ∃ (a : Option Addr) (l : List Cy) (c : Nat), v = .slice a l.length c ∧ l.length ≤ 140737488351232 ∧ SlCy W a l ∧ ∀ s ∈ l, s.ok := by
  obtain ⟨a0, len0, cap0, rfl⟩ := okWide_slice Tryz.underlying72 hv
  obtain ⟨fuel, hf⟩ := h
  obtain ⟨a, len, cap, hvv, hlc, hcb, hnil, hat⟩ := open_recs (v := .slice a0 len0 cap0) Tryz.underlying72 Tryz.underlying81 (by kernel_rfl) (by kernel_rfl) hf hz
  injection hvv with h1 h2 h3
  subst h1 h2 h3
  have hb : Tryz.prog.bytesOf 81 = 56 := by kernel_rfl
  rw [hb] at hcb
  obtain ⟨acts, hl, hacts⟩ := choose_list (n := len0) (p := fun k (x : Cy) => (∃ b o, a0 = some ⟨b, o, none⟩ ∧ CyCells W b (o + k * 3) x ∧ SlN W .u64 x.a x.l ∧ SlN W .u32 x.qa x.ask) ∧ x.ok) fun i hi => by
    have h00 := hat 0 (by omega)
    obtain ⟨ad, m, rfl, hfields⟩ := hat i hi
    obtain ⟨u0, z0, hc0, ht0, _⟩ := hfields 0 _ rfl
    obtain ⟨u1, z1, hc1, ht1, hz1⟩ := hfields 1 _ rfl
    obtain ⟨u2, z2, hc2, ht2, hz2⟩ := hfields 2 _ rfl
    obtain ⟨x0, e0, _, f0⟩ := DataW.trod_int Tryz.underlying3 ht0
    simp at e0
    subst e0
    have fx : -9223372036854775808 ≤ x0 ∧ x0 ≤ 9223372036854775807 := by
      simp [Lit.wf, IntKind.min, IntKind.max, IntKind.signed, IntKind.bits] at f0
      omega
    obtain ⟨a1, c1, l1, rfl, hlc1, hsl1, hlm1, hnl1, hcb1⟩ := open_natsT (m := 18446744073709551616) (bytes := 8) Tryz.underlying35 Tryz.underlying34 (by kernel_rfl) (by kernel_rfl) rfl rfl ht1 hz1
    obtain ⟨a2, c2, l2, rfl, hlc2, hsl2, hlm2, hnl2, hcb2⟩ := open_natsT (m := 4294967296) (bytes := 4) Tryz.underlying79 Tryz.underlying58 (by kernel_rfl) (by kernel_rfl) rfl rfl ht2 hz2
    obtain ⟨ad2, m2, e2, hf2⟩ := h00
    injection e2 with e2
    subst e2
    obtain ⟨u7, z7, hc7, _, _⟩ := hf2 0 _ rfl
    obtain ⟨b, o, rfl⟩ := plain_spot (by simpa using hc7)
    rw [add_at] at hc0 hc1 hc2
    exact ⟨⟨x0, l1, a1, c1, l2, a2, c2⟩, ⟨b, o, rfl, ⟨hc0, hc1, hc2⟩, hsl1, hsl2⟩, ⟨fx.1, fx.2, hlm1, by show l1.length ≤ _; omega, hlm2, by show l2.length ≤ _; omega, hlc2⟩⟩
  refine ⟨a0, acts, cap0, by rw [hl], by omega, fun k hk => (hacts k hk).1, fun s hs => ?_⟩
  obtain ⟨k, hk, rfl⟩ := List.getElem_of_mem hs
  exact (hacts k hk).2
end
end Go.Proofs.YtielfgngdhcpfaaGreat
