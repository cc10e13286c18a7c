/-
  Chapter 09: tables in memory; a table that came in, opened.
-/
import Derived.Test.YtjgcfncganleoaaDoorTrcM
import Derived.Test.YtjgcfncganleoaaDoorGen
import Derived.Test.YtjgcfncganleoaaDoorOpen
namespace Go.Proofs.YtjgcfncganleoaaDoor
open Go.ChangeShapes Go.WideShapes Go.ChangeAt Go.RowKit Go.Deep Go.Joins
set_option linter.unusedVariables false
set_option linter.unusedSimpArgs false

variable {w w' : World} {F F' S : List Nat}
/-- buses where they lie: a name and a width each -/
def SlBus (w : World) (a : Option Addr) (bs : List (ByteArray × Int)) : Prop :=
  ∀ k (h : k < bs.length), ∃ b o, a = some ⟨b, o, none⟩ ∧ w.cell? ⟨b, o + k * 2, none⟩ = some (.string bs[k].1) ∧ w.cell? ⟨b, o + k * 2 + 1, none⟩ = some (.int .i64 bs[k].2)
theorem SlBus.kept {a : Option Addr} {bs : List (ByteArray × Int)} (h : SlBus w a bs) (hk : Kept S w w') (hd : ∀ b ∈ ft a, b ∉ S) : SlBus w' a bs := by
  intro k hkl
  obtain ⟨b, o, rfl, h2, h3⟩ := h k hkl
  exact ⟨b, o, rfl, hk.cell h2 (hd _ (by simp [ft])), hk.cell h3 (hd _ (by simp [ft]))⟩
theorem SlBus.kept0 {a : Option Addr} {bs : List (ByteArray × Int)} (h : SlBus w a bs) (hk : Kept [] w w') : SlBus w' a bs := h.kept hk (by simp)
/-- rows of words, wherever they lie -/
def SlW (W : World) (a : Option Addr) (l : List WR) : Prop :=
  ∀ k, (hk : k < l.length) → ∃ b o, a = some ⟨b, o, none⟩ ∧ W.cell? ⟨b, o + k, none⟩ = some (.slice l[k].a l[k].l.length l[k].c) ∧ SlN W .u64 l[k].a l[k].l
theorem SlW.kept {a : Option Addr} {l : List WR} (h : SlW w a l) (hk : Kept S w w') (h1 : ∀ b ∈ ft a, b ∉ S) (h2 : ∀ b ∈ wrBlocks l, b ∉ S) : SlW w' a l := by
  intro k hkl
  obtain ⟨b, o, rfl, h3, h4⟩ := h k hkl
  exact ⟨b, o, rfl, hk.cell h3 (h1 _ (by simp [ft])), h4.kept hk (fun b hb => h2 b (mem_wrBlocks.2 ⟨_, List.getElem_mem hkl, hb⟩))⟩
theorem SlW.kept0 {a : Option Addr} {l : List WR} (h : SlW w a l) (hk : Kept [] w w') : SlW w' a l := h.kept hk (by simp) (by simp)
theorem WRows.slw {a : Option Addr} {n c : Nat} {rs : List WR} (h : WRows w a n c rs) : SlW w a rs := by
  intro k hk
  obtain ⟨b, rfl, hc⟩ := h.cell k hk
  exact ⟨b, 0, rfl, by simpa using hc, (h.rows _ (List.getElem_mem hk)).1⟩
/-- what a table's parts are at most -/
structure Tb.ok (t : Tb) : Prop where
  bl : t.bs.length ≤ 140737488351232
  rl : t.rs.length ≤ 140737488351232
  bn : ∀ b ∈ t.bs, b.1.size ≤ 140737488351232 ∧ -9223372036854775808 ≤ b.2 ∧ b.2 ≤ 9223372036854775807
  rw : ∀ r ∈ t.rs, Words r ∧ r.length ≤ 140737488351232
/-- a table's parts where they lie -/
structure TabV (w : World) (ba : Option Addr) (bn bc : Nat) (ra : Option Addr) (rn rc : Nat) (t : Tb) (wl : List WR) : Prop where
  bl : t.bs.length = bn
  rl : wl.length = rn
  rm : wl.map (·.l) = t.rs
  bs : SlBus w ba t.bs
  rs : SlW w ra wl
  bk : bn ≤ bc
  rk : rn ≤ rc
  wk : ∀ r ∈ wl, r.l.length ≤ r.c
theorem TabV.kept {ba ra : Option Addr} {bn bc rn rc : Nat} {t : Tb} {wl : List WR} (h : TabV w ba bn bc ra rn rc t wl) (hk : Kept S w w') (h1 : ∀ b ∈ ft ba ++ (ft ra ++ wrBlocks wl), b ∉ S) : TabV w' ba bn bc ra rn rc t wl :=
  ⟨h.bl, h.rl, h.rm, h.bs.kept hk (fun b hb => h1 b (by simp [hb])), h.rs.kept hk (fun b hb => h1 b (by simp [hb])) (fun b hb => h1 b (by simp [hb])), h.bk, h.rk, h.wk⟩
theorem TabV.kept0 {ba ra : Option Addr} {bn bc rn rc : Nat} {t : Tb} {wl : List WR} (h : TabV w ba bn bc ra rn rc t wl) (hk : Kept [] w w') : TabV w' ba bn bc ra rn rc t wl := h.kept hk (by simp)
theorem TabV.rlen {ba ra : Option Addr} {bn bc rn rc : Nat} {t : Tb} {wl : List WR} (h : TabV w ba bn bc ra rn rc t wl) : t.rs.length = rn := by rw [← h.rm, List.length_map, h.rl]
theorem TabV.row {ba ra : Option Addr} {bn bc rn rc : Nat} {t : Tb} {wl : List WR} (h : TabV w ba bn bc ra rn rc t wl) (k : Nat) (hk : k < wl.length) : t.rs[k]? = some wl[k].l := by
  rw [← h.rm, List.getElem?_map, List.getElem?_eq_getElem hk]; rfl

section
variable {H : Type} {enc : TypeId × Value → H} {W : World} {base : Nat} {v : Value} {d : DataW H} {ps : List MemPlace}
set_option maxRecDepth 100000 in
theorem open_wrowsT {fuel : Nat} {y : DataW H × List MemPlace} (h : DataW.trod enc Tryd.prog W 0 (fun _ => true) true fuel 23 [v] = some y) (hz : Sized Tryd.prog 23 y.1) :
    ∃ (a : Option Addr) (l : List WR) (c : Nat), v = .slice a l.length c ∧ l.length ≤ c ∧ l.length ≤ 140737488351232 ∧ SlW W a l ∧ ∀ r ∈ l, Words r.l ∧ r.l.length ≤ 17592186043904 ∧ r.l.length ≤ r.c := by
  rcases open_slice Tryd.underlying23 h with ⟨hcs, hx⟩ | ⟨a, len, cap, m, n, D, Pl, hcs, hb, hl, hm, hmm, hx, hi⟩
  · obtain rfl : v = .slice none 0 0 := by first | simpa using hcs | (injection hcs)
    exact ⟨none, [], 0, rfl, by simp, by simp, fun k hk => absurd hk (by simp), by simp⟩
  · obtain rfl : v = .slice (some a) len cap := by first | (injection hcs) | simpa using hcs
    simp at hmm
    subst hmm
    have hx1 := congrArg Prod.fst hx
    simp only at hx1
    rw [hx1] at hz
    obtain ⟨hz1, hz2⟩ := hz.slice Tryd.underlying23
    have hbt : Tryd.prog.bytesOf 33 = 24 := by kernel_rfl
    have hct : Tryd.prog.cellsOf 33 = 1 := by kernel_rfl
    rw [hbt] at hz1
    simp [reachBytes] at hz1
    obtain ⟨rows, hrl, hrows⟩ := choose_list (n := len) (p := fun k (x : WR) => (∃ b o, some a = some ⟨b, o, none⟩ ∧ W.cell? ⟨b, o + k, none⟩ = some (.slice x.a x.l.length x.c) ∧ SlN W .u64 x.a x.l) ∧ Words x.l ∧ x.l.length ≤ 17592186043904 ∧ x.l.length ≤ x.c) fun i hil => by
      obtain ⟨cs', hc', ht'⟩ := hi i (by omega)
      rw [hct] at hc'
      obtain ⟨_, hcl, hat⟩ := World.cells?_some hc'
      obtain ⟨u, rfl⟩ : ∃ u, cs' = [u] := List.length_eq_one_iff.1 hcl
      have hcell := hat 0 (by omega)
      have hs := hz2 (D i) (List.mem_map.2 ⟨i, List.mem_range.2 hil, rfl⟩)
      obtain ⟨al, cl, l, rfl, hlcl, hsl, hlm, hnl, hclb⟩ := open_natsT (m := 18446744073709551616) (bytes := 8) Tryd.underlying33 Tryd.underlying27 (by kernel_rfl) (by kernel_rfl) rfl rfl ht' hs
      rw [Go.Deep.add_add] at hcell
      simp only [Nat.mul_one, Nat.add_zero] at hcell
      have hsp : ∃ b o, a = ⟨b, o, none⟩ := by
        obtain ⟨cs0, hc0, _⟩ := hi 0 (by omega)
        rw [hct] at hc0
        obtain ⟨_, hcl0, hat0⟩ := World.cells?_some hc0
        obtain ⟨u0, rfl⟩ : ∃ u, cs0 = [u] := List.length_eq_one_iff.1 hcl0
        have h0 := hat0 0 (by omega)
        rw [Go.Deep.add_add] at h0
        exact plain_spot (v := u0) (by simpa using h0)
      obtain ⟨b, o, rfl⟩ := hsp
      rw [add_at] at hcell
      exact ⟨⟨l, al, cl⟩, ⟨b, o, rfl, by simpa using hcell, hsl⟩, hlm, by show l.length ≤ _; omega, hlcl⟩
    exact ⟨some a, rows, _, by rw [hrl], by omega, by omega, fun k hk => (hrows k hk).1, fun r hr => by
      obtain ⟨k, hk, rfl⟩ := List.getElem_of_mem hr
      exact (hrows k hk).2⟩
set_option maxRecDepth 100000 in
theorem open_busesT {fuel : Nat} {y : DataW H × List MemPlace} (h : DataW.trod enc Tryd.prog W 0 (fun _ => true) true fuel 22 [v] = some y) (hz : Sized Tryd.prog 22 y.1) :
    ∃ (a : Option Addr) (l : List (ByteArray × Int)) (c : Nat), v = .slice a l.length c ∧ l.length ≤ c ∧ l.length ≤ 140737488351232 ∧ SlBus W a l ∧ ∀ b ∈ l, b.1.size ≤ 140737488351232 ∧ -9223372036854775808 ≤ b.2 ∧ b.2 ≤ 9223372036854775807 := by
  obtain ⟨a, len, cap, rfl, hlc, hcb, hnil, hat⟩ := open_recs (v := v) Tryd.underlying22 Tryd.underlying35 (by kernel_rfl) (by kernel_rfl) h hz
  have hb : Tryd.prog.bytesOf 35 = 24 := by kernel_rfl
  rw [hb] at hcb
  obtain ⟨bs, hl, hbs⟩ := choose_list (n := len) (p := fun k (x : ByteArray × Int) => (∃ b o, a = some ⟨b, o, none⟩ ∧ W.cell? ⟨b, o + k * 2, none⟩ = some (.string x.1) ∧ W.cell? ⟨b, o + k * 2 + 1, none⟩ = some (.int .i64 x.2)) ∧ x.1.size ≤ 140737488351232 ∧ -9223372036854775808 ≤ x.2 ∧ x.2 ≤ 9223372036854775807) fun i hi => by
    have h00 := hat 0 (by omega)
    obtain ⟨ad, m, rfl, hfields⟩ := hat i hi
    obtain ⟨u0, z0, hc0, ht0, hz0⟩ := hfields 0 _ rfl
    obtain ⟨u1, z1, hc1, ht1, _⟩ := hfields 1 _ rfl
    obtain ⟨x0, e0, d0, f0⟩ := DataW.trod_string Tryd.underlying9 ht0
    obtain ⟨x1, e1, _, f1⟩ := DataW.trod_int Tryd.underlying3 ht1
    simp at e0 e1
    subst e0 e1
    have fx : -9223372036854775808 ≤ x1 ∧ x1 ≤ 9223372036854775807 := by
      simp [Lit.wf, IntKind.min, IntKind.max, IntKind.signed, IntKind.bits] at f1
      omega
    have hs1 : x0.size ≤ 140737488351232 := by
      have h := hz0 x0.size (by rw [d0]; simp [DataW.weights])
      simpa [reachBytes] using h
    obtain ⟨ad2, m2, e2, hf2⟩ := h00
    injection e2 with e2
    subst e2
    obtain ⟨u7, z7, hc7, _, _⟩ := hf2 0 _ rfl
    obtain ⟨b, o, rfl⟩ := plain_spot (by simpa using hc7)
    rw [add_at] at hc0 hc1
    exact ⟨(x0, x1), ⟨b, o, rfl, hc0, hc1⟩, hs1, fx.1, fx.2⟩
  refine ⟨a, bs, cap, by rw [hl], by omega, by omega, fun k hk => (hbs k hk).1, fun b hb => ?_⟩
  obtain ⟨k, hk, rfl⟩ := List.getElem_of_mem hb
  exact (hbs k hk).2
theorem array2 {cs : Array Value} (h : cs.size = 2) : ∃ a b, cs = #[a, b] := by
  obtain ⟨l⟩ := cs
  match l, h with
  | [a, b], _ => exact ⟨a, b, rfl⟩
set_option maxRecDepth 100000 in
theorem open_tableT {fuel : Nat} {c0 c1 : Value} {y : DataW H × List MemPlace} (h : DataW.trod enc Tryd.prog W 0 (fun _ => true) true fuel 25 [c0, c1] = some y) (hz : Sized Tryd.prog 25 y.1) :
    ∃ ba bc ra rc t wl, c0 = .slice ba t.bs.length bc ∧ c1 = .slice ra wl.length rc ∧ TabV W ba t.bs.length bc ra wl.length rc t wl ∧ t.ok := by
  obtain ⟨xs, m, _, hx, _, hlen, hg⟩ := DataW.trod_struct Tryd.underlying25 h
  have hb : Tryd.prog.cellsOf 22 = 1 := by kernel_rfl
  have hr : Tryd.prog.cellsOf 23 = 1 := by kernel_rfl
  match xs, hlen with
  | [y0, y1], _ =>
    subst hx
    have z0 : Sized Tryd.prog 22 y0.1 := hz.field (j := 0) Tryd.underlying25 rfl rfl
    have z1 : Sized Tryd.prog 23 y1.1 := hz.field (j := 1) Tryd.underlying25 rfl rfl
    have f0 : DataW.trod enc Tryd.prog W 0 (fun _ => true) true m 22 (([c0, c1].drop 0).take (Tryd.prog.cellsOf 22)) = some y0 := hg 0 _ rfl
    have f1 : DataW.trod enc Tryd.prog W 0 (fun _ => true) true m 23 (([c0, c1].drop 1).take (Tryd.prog.cellsOf 23)) = some y1 := hg 1 _ rfl
    rw [hb] at f0
    rw [hr] at f1
    obtain ⟨ba, bs, bc, e0, p1, p2, p3, p4⟩ := open_busesT f0 z0
    obtain ⟨ra, wl, rc, e1, q1, q2, q3, q4⟩ := open_wrowsT f1 z1
    exact ⟨ba, bc, ra, rc, ⟨bs, wl.map (·.l)⟩, wl, e0, e1, ⟨rfl, rfl, rfl, p3, q3, p1, q1, fun r hr => (q4 r hr).2.2⟩, ⟨p2, by simpa using q2, p4, fun r hr => by
      obtain ⟨x, hx, rfl⟩ := List.mem_map.1 hr
      exact ⟨(q4 x hx).1, by have := (q4 x hx).2.1; omega⟩⟩⟩
set_option maxRecDepth 100000 in
/-- a table that came in -/
theorem open_table (hv : Value.okWide Tryd.prog W .any base 25 v) (h : DataW.Trod enc Tryd.prog W 0 (fun _ => true) true 25 v d ps) (hz : Sized Tryd.prog 25 d) :
    ∃ ba bc ra rc t wl, v = .agg #[.slice ba t.bs.length bc, .slice ra wl.length rc] ∧ TabV W ba t.bs.length bc ra wl.length rc t wl ∧ t.ok := by
  obtain ⟨cs, rfl, hsz⟩ := okWide_struct Tryd.underlying25 hv
  have h2 : Tryd.prog.cellsOf 25 = 2 := by kernel_rfl
  obtain ⟨c0, c1, rfl⟩ := array2 (hsz.trans h2)
  obtain ⟨fuel, hf⟩ := h
  obtain ⟨ba, bc, ra, rc, t, wl, rfl, rfl, h1, h2⟩ := open_tableT hf hz
  exact ⟨ba, bc, ra, rc, t, wl, rfl, h1, h2⟩
end
end Go.Proofs.YtjgcfncganleoaaDoor
