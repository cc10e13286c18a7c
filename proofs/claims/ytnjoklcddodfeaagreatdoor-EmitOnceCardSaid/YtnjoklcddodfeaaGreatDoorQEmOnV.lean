/-
  Law 10: EmitOnce: the maps of the law's loop, look-ups, buses found by name; what the walk is given.
-/
import Derived.Test.YtnjoklcddodfeaaGreatDoorQEmOnS
import Derived.Test.YtnjoklcddodfeaaGreatDoorP25
import Derived.Test.YtnjoklcddodfeaaGreatDoorP23
namespace Go.Proofs.YtnjoklcddodfeaaGreatDoor
open Go.ChangeShapes Go.WideShapes Go.ChangeAt Go.RowKit
open Go.Maps (Keyed)
open Go.WideMaps
set_option linter.unusedVariables false
set_option linter.unusedSimpArgs false

variable {w w' W W' : World} {p n k j m : Nat} {F R F' R' S : List Nat} {g : Gr} {N : Nt}
/-! the name stays -/
theorem doesN_name (N : Nt) (s : NStp) : (doesN N s).1.name = N.name := by
  unfold doesN addIn addReg setReg addOut gateN
  repeat' split
  all_goals rfl
theorem builtN_name (skip o1 o2 : Bool) (l : List NStp) (k : Nat) : (builtN skip o1 o2 l k).name = topS := by
  unfold builtN
  generalize l.take k = l'
  have h : ∀ (l : List NStp) (N : Nt), (l.foldl (stepN skip) N).name = N.name := by
    intro l
    induction l with
    | nil => intro N; rfl
    | cons s l ih =>
      intro N
      rw [List.foldl_cons, ih]
      unfold stepN
      split
      · rfl
      · exact doesN_name N s
  rw [h]
  rfl
/-! the two maps -/
theorem u64_law : Keyed Tryz.prog 66 := Go.Maps.int_keyed Tryz.underlying66
theorem str_law : Keyed Tryz.prog 9 := Go.Maps.string_keyed Tryz.underlying9
theorem u64_key (x : Nat) (h : x < 4294967296) : ∃ kl, keyOf Tryz.prog 66 (.int .u64 (x : Int)) = some kl :=
  ⟨_, Go.Maps.keyOf_int_mk Tryz.underlying66 (by simp [Lit.wf, IntKind.min, IntKind.max, IntKind.signed, IntKind.bits]; omega)⟩
theorem str_key (s : List UInt8) (h : s.length ≤ 1000) : ∃ kl, keyOf Tryz.prog 9 (.string ⟨s.toArray⟩) = some kl :=
  ⟨_, Go.WideMaps.keyOf_string_mk Tryz.underlying9 (by
    have e : (⟨s.toArray⟩ : ByteArray).size = s.length := by simp [ByteArray.size]
    rw [e]
    unfold maxLen
    omega)⟩
def DrvMap (w : World) (m : Nat) (l : List Nat) : Prop := MapG w Tryz.prog 66 m (u64F l) l.length
def ManyMap (w : World) (m : Nat) (l : List Rec) : Prop := ∃ c, MapG w Tryz.prog 9 m (strF (manyR l)) c
theorem DrvMap.kept {l : List Nat} (h : DrvMap w m l) (hk : Kept S w w') (hn : m ∉ S) : DrvMap w' m l := MapG.kept h hk hn
theorem ManyMap.kept {l : List Rec} (h : ManyMap w m l) (hk : Kept S w w') (hn : m ∉ S) : ManyMap w' m l := by
  obtain ⟨c, h⟩ := h
  exact ⟨c, MapG.kept h hk hn⟩
theorem DrvMap.new (w : World) : DrvMap (w.alloc (.map #[] 0)) w.heap.size [] := by
  have h := MapG.new w Tryz.prog 66
  rw [u64F_nil] at h
  exact h
theorem ManyMap.new (w : World) : ManyMap (w.alloc (.map #[] 0)) w.heap.size [] := by
  have h := MapG.new w Tryz.prog 9
  rw [strF_nil] at h
  exact ⟨0, h⟩
theorem int_zero4 (w : World) : (zeroValue 3).run Tryz.prog w = .ok (.int .i64 0) w := by kernel_rfl
theorem DrvMap.look {l : List Nat} (h : DrvMap w m l) (x : Nat) (hx : x < 4294967296) : (Instr.lookup 62 (.map (some m)) (.int .u64 (x : Int)) false).run Tryz.prog w = .ok (.int .i64 (if x ∈ l then 1 else 0)) w := by
  obtain ⟨kl, hkl⟩ := u64_key x hx
  have h2 := MapV.look h.v false u64_law Tryz.underlying62 (int_zero4 _) hkl
  rw [u64F_get] at h2
  by_cases hm : x ∈ l
  · rw [if_pos hm] at h2 ⊢
    simpa using h2
  · rw [if_neg hm] at h2 ⊢
    simpa using h2
theorem ManyMap.look {l : List Rec} (h : ManyMap w m l) (s : List UInt8) (hs : s.length ≤ 1000) : (Instr.lookup 63 (.map (some m)) (.string ⟨s.toArray⟩) false).run Tryz.prog w = .ok (.int .i64 (manyR l s : Nat)) w := by
  obtain ⟨c, h⟩ := h
  obtain ⟨kl, hkl⟩ := str_key s hs
  have h2 := MapV.look h.v false str_law Tryz.underlying63 (int_zero4 _) hkl
  rw [strF_get] at h2
  simpa using h2
section
variable {ops : Array Oper} {rest : List Oper} {o : Oper} {a : Act} {Q : Exit → Act → World → Prop}
/-- one more that is driven -/
theorem wpList_drv {mo x y : Operand} {l : List Nat} {u : Nat} (hg : o.guard = none) (hop : o.op = Op.mapUpdate 62 mo x y) (hm : a.eval mo = .map (some m)) (hx : a.eval x = .int .u64 (u : Int)) (hy : a.eval y = .int .i64 1)
    (h : DrvMap w m l) (hu : u < 4294967296) (hn : u ∉ l) (hK : ∀ w', DrvMap w' m (l ++ [u]) → Kept [m] w w' → wpList Tryz.prog ops Q rest (a.put o.dst undef) w') : wpList Tryz.prog ops Q (o :: rest) a w :=
  wpList_updG hg hop u64_law Tryz.underlying62 hm hx hy h (u64_key u hu) fun w' h1 h2 => hK w' (by
    unfold DrvMap
    rw [← u64F_upd, List.length_append]
    rw [u64F_get, if_neg hn] at h1
    exact h1) h2
/-- one more line of a word -/
theorem wpList_many {mo x y : Operand} {l : List Rec} {r : Rec} (hg : o.guard = none) (hop : o.op = Op.mapUpdate 63 mo x y) (hm : a.eval mo = .map (some m)) (hx : a.eval x = .string ⟨(wordK r.kd).toArray⟩) (hy : a.eval y = .int .i64 ((manyR l (wordK r.kd) : Int) + 1))
    (h : ManyMap w m l) (hw : (wordK r.kd).length ≤ 1000) (hK : ∀ w', ManyMap w' m (l ++ [r]) → Kept [m] w w' → wpList Tryz.prog ops Q rest (a.put o.dst undef) w') : wpList Tryz.prog ops Q (o :: rest) a w := by
  obtain ⟨c, h⟩ := h
  exact wpList_updG hg hop str_law Tryz.underlying63 hm hx hy h (str_key _ hw) fun w' h1 h2 => hK w' ⟨_, by rw [← strF_upd]; exact h1⟩ h2
end
/-! buses found -/
theorem findRow_getx {rs : List BR} {s : ByteArray} {b : Bus} (hd : (rs.map fun r => r.b.name).Pairwise (· ≠ ·)) (hb : b ∈ rs.map (·.b)) (hs : b.name = s) : ∃ r ∈ rs, findRow rs s = some r ∧ r.b = b := by
  obtain ⟨r, hr, rfl⟩ := List.mem_map.1 hb
  obtain ⟨k, hk, rfl⟩ := List.getElem_of_mem hr
  refine ⟨rs[k], hr, ?_, rfl⟩
  unfold findRow
  rw [← hs, findP_first hd hk]
  simp [List.getElem?_eq_getElem hk]
def FoundX (q : Nat) (w : World) (e : Ending) (w' : World) : Prop := ∃ a c, e = .returned (.tuple #[.slice a q c, .bool true]) ∧ Kept [] w w'
theorem findx_in (h : NetAt w n F R N) {k : Nat} (hf : NtFine k N) (hk : k ≤ 700) {b : Bus} (hb : b ∈ N.inb) :
    ∃ ia ic, w.cell? ⟨n, 2, none⟩ = some (.slice ia N.inb.length ic) ∧ ∀ W, Kept [] w W → Calls Tryz.prog 23 #[.slice ia N.inb.length ic, .string b.name] W (FoundX b.lits.length W) := by
  obtain ⟨p, G, ia, ic, ra, rc, oa, oc, ri, ro, rfl, rfl, hc⟩ := h
  have his := hc.ib.is
  have hln := hf.ok.ik
  obtain ⟨r, hr, hfr, hrb⟩ := findRow_getx (rs := ri) (s := b.name) (b := b) (by have := hf.ni; rw [← his, List.map_map] at this; exact this) (by rw [his]; exact hb) rfl
  refine ⟨ia, ic, hc.c2, fun W hkW => (find_row b.name ia ic N.inb.length ri (by rw [← his]; simp) (by omega) (hc.ib.slb.kept0 hkW) (fun x hx => ?_)).mono ?_⟩
  · have hx' : x.b ∈ N.inb := by rw [← his]; exact List.mem_map_of_mem hx
    obtain ⟨i1, i2, _, _⟩ := hf.ok.il x.b hx'
    exact ⟨(hc.ib.rows x hx).1.kept0 hkW, i1, by omega⟩
  · intro e w' hx
    rcases hx with ⟨h1, _⟩ | ⟨r2, h1, a, c, h2, h3, h4⟩
    · rw [hfr] at h1; cases h1
    · rw [hfr] at h1
      injection h1 with h1
      subst h1
      rw [hrb] at h2
      exact ⟨a, c, h2, h4.kept⟩
theorem findx_out (h : NetAt w n F R N) {k : Nat} (hf : NtFine k N) (hk : k ≤ 700) {b : Bus} (hb : b ∈ N.outb) :
    ∃ oa oc, w.cell? ⟨n, 4, none⟩ = some (.slice oa N.outb.length oc) ∧ ∀ W, Kept [] w W → Calls Tryz.prog 23 #[.slice oa N.outb.length oc, .string b.name] W (FoundX b.lits.length W) := by
  obtain ⟨p, G, ia, ic, ra, rc, oa, oc, ri, ro, rfl, rfl, hc⟩ := h
  have his := hc.ob.is
  have hln := hf.ok.ok
  obtain ⟨r, hr, hfr, hrb⟩ := findRow_getx (rs := ro) (s := b.name) (b := b) (by have := hf.no; rw [← his, List.map_map] at this; exact this) (by rw [his]; exact hb) rfl
  refine ⟨oa, oc, hc.c4, fun W hkW => (find_row b.name oa oc N.outb.length ro (by rw [← his]; simp) (by omega) (hc.ob.slb.kept0 hkW) (fun x hx => ?_)).mono ?_⟩
  · have hx' : x.b ∈ N.outb := by rw [← his]; exact List.mem_map_of_mem hx
    obtain ⟨i1, i2, _, _⟩ := hf.ok.ol x.b hx'
    exact ⟨(hc.ob.rows x hx).1.kept0 hkW, i1, by omega⟩
  · intro e w' hx
    rcases hx with ⟨h1, _⟩ | ⟨r2, h1, a, c, h2, h3, h4⟩
    · rw [hfr] at h1; cases h1
    · rw [hfr] at h1
      injection h1 with h1
      subst h1
      rw [hrb] at h2
      exact ⟨a, c, h2, h4.kept⟩
theorem NetAt.nameC (h : NetAt w n F R N) : w.cell? ⟨n, 1, none⟩ = some (.string N.name) := by
  obtain ⟨p, G, ia, ic, ra, rc, oa, oc, ri, ro, rfl, rfl, hc⟩ := h
  exact hc.c1
theorem NetAt.graphx (h : NetAt w n F R N) : ∃ p G, w.cell? ⟨n, 0, none⟩ = some (.pointer (some ⟨p, 0, none⟩)) ∧ GraphAt w p G N.g := by
  obtain ⟨p, G, ia, ic, ra, rc, oa, oc, ri, ro, rfl, rfl, hc⟩ := h
  exact ⟨p, G, hc.c0, hc.gr⟩
theorem own_at {e : TypeId} {g n c : Nat} {K : IntKind} {l : List Nat} {y u : Nat} (h : Own w e (some ⟨g, 0, none⟩) n c (nats K l)) (hu : l[y]? = some u) : w.cell? ⟨g, y, none⟩ = some (.int K (u : Int)) := by
  obtain ⟨h1, h2⟩ := List.getElem?_eq_some_iff.1 hu
  have h3 := World.ownsRow.cellAt h y (by have := h.len; rw [nats_length] at this; omega)
  rw [h3]
  simp [nats, hu]
theorem keep_2 {w w' : World} {a0 a1 : Addr} {v0 v1 : Value} (hk : Kept [] w w') (h0 : w.cell? a0 = some v0) (h1 : w.cell? a1 = some v1) : w'.cell? a0 = some v0 ∧ w'.cell? a1 = some v1 := ⟨hk.cell h0 (by simp), hk.cell h1 (by simp)⟩
theorem str_bytesx (s : ByteArray) : (⟨(bytesL s).toArray⟩ : ByteArray) = s := by cases s with | mk d => cases d with | mk l => rfl
/-! what the walk is given -/
def AllX (N : Nt) (w : World) (e : Ending) (w' : World) : Prop := ∃ v, e = .returned (.tuple #[v, .int .i64 (checkN N : Nat)]) ∧ w'.ownsRow w.heap.size 5 1 v (textL (linesN N)).length (Lib.byteCells (textL (linesN N))) ∧ Kept [] w w'
def AllH (w : World) : Prop := ∀ (W : World) (m : Nat) (F R : List Nat) (N : Nt), Kept [] w W → NetAt W m F R N → NtFine 60 N → Calls Tryz.prog 12 #[.pointer (some ⟨m, 0, none⟩)] W (AllX N W)
def TellsH (w : World) : Prop := ∀ W, Kept [] w W → Calls Tryz.prog 14 #[] W fun e w' => e = .returned (.bool true) ∧ Kept [] W w'
def strs (L : List (List UInt8)) : Array Value := (L.map fun s => Value.string ⟨s.toArray⟩).toArray
def SplitH (w : World) : Prop := ∀ (W : World) (c : UInt8) (L : List (List UInt8)), Kept [] w W → L ≠ [] → (∀ s ∈ L, c ∉ s) → (joinC c L).length ≤ 10000000 →
  Calls Tryz.prog 21 #[.string ⟨(joinC c L).toArray⟩, .string ⟨#[c]⟩] W fun e w' => e = .returned (.slice (some ⟨W.heap.size, 0, none⟩) L.length L.length) ∧ w' = W.alloc (.cells (strs L) 9)
def ParseH : Prop := ∀ (W : World) (u : Nat), u < 4294967296 → Calls Tryz.prog 22 #[.string ⟨(Lib.decDigits u).toArray⟩, .int .i64 10, .int .i64 32] W fun e w' => e = .returned (.tuple #[.int .u64 (u : Int), .nilIface]) ∧ Kept [] W w'
theorem strs_cell {L : List (List UInt8)} {b : Nat} (h : w.heap[b]? = some (.cells (strs L) 9 (0, 0))) (i : Nat) (hi : i < L.length) : w.cell? ⟨b, i, none⟩ = some (.string ⟨L[i].toArray⟩) := by
  rw [blk_cell h i]
  simp [strs, List.getElem?_eq_getElem hi]
theorem ownsRow_anyx {W : World} {base : Nat} {e : TypeId} {size : Nat} {v : Value} {k : Nat} {xs : List Value} (h : W.ownsRow base e size v k xs) : ∃ ad cap, v = .slice ad k cap := by
  rcases h.2 with ⟨rfl, h0⟩ | ⟨g, cap, _, rfl, _⟩
  · exact ⟨none, 0, by rw [h0]⟩
  · exact ⟨_, cap, rfl⟩
set_option maxRecDepth 100000 in
theorem own_strx {B n cap : Nat} {ad : Option Addr} {l : List UInt8} (h : w.ownsRow B 5 1 (.slice ad n cap) n (Lib.byteCells l)) (hl : l.length = n) : (convert 45 9 (.slice ad n cap)).run Tryz.prog w = .ok (.string ⟨l.toArray⟩) w := by
  rcases h.2 with ⟨hv, h0⟩ | ⟨g, cap', cur, hv, _⟩
  · injection hv with h1 h2 h3
    subst h1
    rw [h0] at hl ⊢
    rw [List.eq_nil_of_length_eq_zero hl]
    exact run_convert_bytes_nil (P := Tryz.prog) w 45 5 Tryz.underlying45 Tryz.underlying5 0 cap 9 Tryz.underlying9
  · injection hv with h1 h2 h3
    subst h1 h3
    have := run_convert_bytes_back (P := Tryz.prog) w 45 9 5 ⟨g, 0, none⟩ cap l Tryz.underlying45 Tryz.underlying5 Tryz.underlying9 (fun j hj => World.ownsRow.cells h (g := g) rfl j _ (by
      simp [Lib.byteCells, List.getElem?_eq_getElem hj]))
    rw [hl] at this
    exact this
set_option maxRecDepth 100000 in
/-- a row of bytes: where it lies, its bytes, its front as a text -/
theorem bytes_at {B n cap : Nat} {ad : Option Addr} {l : List UInt8} (h : w.ownsRow B 5 1 (.slice ad n cap) n (Lib.byteCells l)) (hl : l.length = n) (hn : 0 < n) :
    ∃ gb, ad = some ⟨gb, 0, none⟩ ∧ (∀ i (hi : i < l.length), w.cell? ⟨gb, i, none⟩ = some (.int .u8 (l[i].toNat : Int))) ∧ ∀ c i, i ≤ l.length → (convert 45 9 (.slice (some ⟨gb, 0, none⟩) i c)).run Tryz.prog w = .ok (.string ⟨(l.take i).toArray⟩) w := by
  rcases h.2 with ⟨hv, h0⟩ | ⟨g, cap', cur, hv, _⟩
  · omega
  · injection hv with h1 h2 h3
    subst h1 h3
    have hc : ∀ i (hi : i < l.length), w.cell? ⟨g, i, none⟩ = some (.int .u8 (l[i].toNat : Int)) := fun i hi => by
      have h1 := World.ownsRow.cells h (g := g) rfl i (.int .u8 (l[i].toNat : Int)) (by simp [Lib.byteCells, List.getElem?_eq_getElem hi])
      have e : (⟨g, 0, none⟩ : Addr).add i = ⟨g, i, none⟩ := by simp [Addr.add]; exact fun h => h.symm
      rw [e] at h1
      exact h1
    refine ⟨g, rfl, hc, fun c i hi => ?_⟩
    have := run_convert_bytes_back (P := Tryz.prog) w 45 9 5 ⟨g, 0, none⟩ c (l.take i) Tryz.underlying45 Tryz.underlying5 Tryz.underlying9 (fun j hj => by
      rw [List.length_take] at hj
      have h1 := hc j (by omega)
      have e : (⟨g, 0, none⟩ : Addr).add j = ⟨g, j, none⟩ := by simp [Addr.add]; exact fun h => h.symm
      rw [e, h1]
      simp)
    rw [List.length_take, Nat.min_eq_left hi] at this
    exact this
end Go.Proofs.YtnjoklcddodfeaaGreatDoor
