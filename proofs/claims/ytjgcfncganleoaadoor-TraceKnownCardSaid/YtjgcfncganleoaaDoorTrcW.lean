/-
  Package trace: the reader's names; its first line.
-/
import Derived.Test.YtjgcfncganleoaaDoorTrcV
import Derived.Test.YtjgcfncganleoaaDoorTrcT
namespace Go.Proofs.YtjgcfncganleoaaDoor
open Go.ChangeShapes Go.WideShapes Go.ChangeAt Go.RowKit
set_option linter.unusedVariables false
set_option linter.unusedSimpArgs false

variable {w w' w1 W : World}
def LongAt (lb : Nat) (x : Nat) (w : World) : Prop := w.heap[lb]? = some (.cells #[.int .i64 (x : Int)] 3 (0, 0)) ∧ x ≤ 33
set_option maxHeartbeats 3200000 in
set_option maxRecDepth 100000 in
/-- the closure of head at a byte -/
theorem hd1_c (lb : Nat) (x : Nat) (b : UInt8) (w : World) (h : LongAt lb x w) :
    Calls Tryd.prog 98 (#[.int .u8 (b.toNat : Int)] ++ #[.pointer (some ⟨lb, 0, none⟩)]) w (ClPost (LongAt lb) (fun _ _ => True) [lb] x (longSt x b.toNat) w) := by
  have c1 : w.cell? ⟨lb, 0, none⟩ = some (.int .i64 (x : Int)) := blk_cell h.1 0
  have f1 := blk_free h.1 0
  have hx := h.2
  have hb256 := u8_nat b
  have e1 : ((x : Int) + 1) = ((x + 1 : Nat) : Int) := by simp
  have HK := Lib.hid (show Kept [lb] w (w.setCell ⟨lb, 0, none⟩ (.int .i64 ((x : Int) + 1))) from (Kept.refl [lb] w).setCell (.inl (by simp)) _)
  have HB := Lib.hid (show (w.setCell ⟨lb, 0, none⟩ (.int .i64 ((x : Int) + 1))).heap[lb]? = some (.cells #[.int .i64 ((x + 1 : Nat) : Int)] 3 (0, 0)) from by
    rw [e1]; simpa using blk_set h.1 0 (.int .i64 ((x + 1 : Nat) : Int)))
  clear h e1
  by_cases hl : letterB b.toNat = true
  · have hlet := Lib.hid (fun W => show Calls Tryd.prog 67 #[.int .u8 (b.toNat : Int)] W fun e w' => e = .returned (.bool true) ∧ W = w' from hl ▸ letter_c b.toNat W)
    by_cases hx33 : 33 < x + 1
    · have HS := Lib.hid (show longSt x b.toNat = none from by unfold longSt; rw [if_pos hl, if_pos hx33])
      have hd : decide (33 < x + 1) = true := decide_eq_true hx33
      have hxd : (33 : Int) < (x : Int) + 1 := by omega
      clear hl hb256
      generalize b.toNat = c at *
      go_enter Tryd.func98, Tryd.ntmps98
      go_wp2_with fail
      refine (hlet.out _).mono ?_
      rintro e w2 ⟨rfl, rfl⟩
      go_wp2_with fail
      refine ⟨rfl, ?_⟩
      rw [HS.out]
      exact ⟨rfl, HK.out⟩
    · have HS := Lib.hid (show longSt x b.toNat = some (some (x + 1)) from long_go hl (by omega))
      have hxd : ¬ (33 : Int) < (x : Int) + 1 := by omega
      clear hl hb256
      generalize b.toNat = c at *
      go_enter Tryd.func98, Tryd.ntmps98
      go_wp2_with fail
      refine (hlet.out _).mono ?_
      rintro e w2 ⟨rfl, rfl⟩
      go_wp2_with fail
      refine (hlet.out _).mono ?_
      rintro e w2 ⟨rfl, rfl⟩
      go_wp2_with fail
      go_ret
      rw [HS.out]
      exact ⟨rfl, HK.out, HB.out, by omega⟩
  · have hlet := Lib.hid (fun W => show Calls Tryd.prog 67 #[.int .u8 (b.toNat : Int)] W fun e w' => e = .returned (.bool false) ∧ W = w' from (show letterB b.toNat = false from by simpa using hl) ▸ letter_c b.toNat W)
    have HS := Lib.hid (show longSt x b.toNat = some none from long_stop (by simpa using hl))
    clear hl hb256
    generalize b.toNat = c at *
    go_enter Tryd.func98, Tryd.ntmps98
    go_wp2_with fail
    refine (hlet.out _).mono ?_
    rintro e w2 ⟨rfl, rfl⟩
    go_wp2_with fail
    refine (hlet.out _).mono ?_
    rintro e w2 ⟨rfl, rfl⟩
    go_wp2_with fail
    go_ret
    rw [HS.out]
    exact ⟨rfl, HK.out, trivial⟩
/-- one of two bytes, whatever stands there -/
theorem one_any {q c pos xa xb : Nat} {a : Option Addr} {s : List UInt8} (w : World) (h : RdAt w q a c s pos) :
    Calls Tryd.prog 78 #[.pointer (some ⟨q, 0, none⟩), .int .u8 (xa : Int), .int .u8 (xb : Int)] w (RdPost (fun b : Bool => .bool b) q a c s (oneT xa xb (s.drop pos)) w) := by
  by_cases hp : pos < s.length
  · have hd := List.drop_eq_getElem_cons hp
    by_cases hx : s[pos].toNat = xa ∨ s[pos].toNat = xb
    · refine (one_c w h hp hx).mono fun e w' ⟨h1, h2, h3⟩ => ?_
      rw [hd, oneT_hit hx]
      exact ⟨pos + 1, h1, rfl, h2, h3⟩
    · refine (one_bad w h hp (by omega)).mono fun e w' h1 => ?_
      have : oneT xa xb (s.drop pos) = .error 5 := by rw [hd]; simp only [oneT]; rw [if_neg hx]
      rw [this]
      exact ⟨h1.1, h1.2.more (by simp)⟩
  · obtain rfl : pos = s.length := by have := h.pos; omega
    refine (one_end w h).mono fun e w' h1 => ?_
    have : oneT xa xb (s.drop s.length) = .error 4 := by rw [List.drop_length]; rfl
    rw [this]
    exact ⟨h1.1, h1.2.more (by simp)⟩
theorem drop_len {s l : List UInt8} {pos pos' : Nat} (hp : pos ≤ pos') (hl : pos' ≤ s.length) (h : s.drop pos' = l) : (s.drop pos).length - l.length = pos' - pos := by
  rw [← h, List.length_drop, List.length_drop]; omega
/-- a name -/
def NamePost (lb q : Nat) (a : Option Addr) (c : Nat) (s : List UInt8) (r : PR (List UInt8)) (w : World) (e : Ending) (w' : World) : Prop := match r with
  | .error k => Dies k [q, lb] w e w'
  | .ok (nm, l) => ∃ pos', e = .returned (.string ⟨nm.toArray⟩) ∧ s.drop pos' = l ∧ RdAt w' q a c s pos' ∧ Kept [q, lb] w w'
theorem name_any {q c pos lb : Nat} {a : Option Addr} {s : List UInt8} (w : World) (h : RdAt w q a c s pos) (hl : LongAt lb 0 w) (hne : q ≠ lb) (ha : s ≠ [] → lb ∉ ft a) :
    Calls Tryd.prog 97 #[.pointer (some ⟨q, 0, none⟩), .func (.func 98) #[] #[.pointer (some ⟨lb, 0, none⟩)]] w (NamePost lb q a c s (nameT (s.drop pos)) w) := by
  refine (takes_c 98 Tryd.call98 #[.pointer (some ⟨lb, 0, none⟩)] [lb] longSt (LongAt lb) (fun _ _ => True) 0 w h hl (by simpa using hne) (fun hs b hb => by simp; rintro rfl; exact ha hs hb) (fun x W W' hx hk => ⟨hk.heap hx.1 (by simpa using Ne.symm hne), hx.2⟩) (fun _ _ _ _ _ => trivial) (fun x b W hx => hd1_c lb x b W hx)).mono ?_
  intro e w1 hp
  rcases hr : runT longSt 0 (s.drop pos) with k | ⟨x, l⟩
  · have hn : nameT (s.drop pos) = .error k := by unfold nameT; rw [hr]
    rw [hr] at hp
    rw [hn]
    exact hp
  · have hn : nameT (s.drop pos) = .ok ((s.drop pos).take ((s.drop pos).length - l.length), l) := by unfold nameT; rw [hr]
    rw [hr] at hp
    rw [hn]
    obtain ⟨pos', he, hpp, hdr, hra, _, hk⟩ := hp
    rw [drop_len hpp hra.pos hdr]
    exact ⟨pos', he, hdr, hra, hk⟩
/-! has: is there a bus of a name? -/
set_option maxHeartbeats 1600000 in
theorem hd2_c (b : ByteArray × Int) (q : Nat) (nm : ByteArray) (w : World) (hq : w.cell? ⟨q, 0, none⟩ = some (.string nm)) :
    Calls Tryd.prog 100 #[.agg #[.string b.1, .int .i64 b.2], .pointer (some ⟨q, 0, none⟩)] w (BoolIs (decide (b.1 = nm)) w) := by
  obtain ⟨s, x⟩ := b
  have hq2 := cell_alloc hq (.cells #[.string s, .int .i64 x] 35)
  have HE := Lib.hid (bytes_beq s nm)
  show Calls _ _ #[.agg #[.string s, .int .i64 x], _] _ _
  clear hq
  go_enter Tryd.func100, Tryd.ntmps100
  go_wp2_with fail
  go_ret
  exact ⟨by rw [← HE.out]; rfl, (Kept.refl [] w).alloc _⟩
theorem any_idx {α : Type} (l : List α) (P : α → Bool) : l.any P = decide (0 ≤ idxV (l.findIdx? P)) := by
  cases hf : l.findIdx? P with
  | none =>
    rw [List.findIdx?_eq_none_iff] at hf
    have h1 : l.any P = false := by rw [List.any_eq_false]; intro x hx; simpa using hf x hx
    rw [h1]; rfl
  | some k =>
    have hfk := List.findIdx?_eq_some_iff_getElem.1 hf
    have h1 : l.any P = true := by rw [List.any_eq_true]; exact ⟨_, List.getElem_mem hfk.1, hfk.2.1⟩
    rw [h1]
    symm
    exact decide_eq_true (by simp [idxV])
set_option maxHeartbeats 1600000 in
theorem has_c {a : Option Addr} {c len nb : Nat} {bs : List (ByteArray × Int)} (nm : List UInt8) (w : World) (hl : bs.length = len) (hlm : len ≤ 140737488351232) (hs : SlBus w a bs) (hq : w.cell? ⟨nb, 0, none⟩ = some (.string ⟨nm.toArray⟩)) :
    Calls Tryd.prog 99 #[.slice a len c, .func (.func 100) #[] #[.pointer (some ⟨nb, 0, none⟩)]] w (BoolIs (hasB bs nm) w) := by
  obtain ⟨z, hz⟩ : ∃ z, z = idxV (bs.findIdx? fun b => decide (b.1 = ⟨nm.toArray⟩)) := ⟨_, rfl⟩
  have HI := Lib.hid (show Calls Tryd.prog 38 #[.slice a len c, .func (.func 100) #[] #[.pointer (some ⟨nb, 0, none⟩)]] w (fun e w' => e = .returned (.int .i64 z) ∧ Kept [] w w') from by
    rw [hz]
    exact index_bus 100 Tryd.call100 (.pointer (some ⟨nb, 0, none⟩)) (fun b => decide (b.1 = ⟨nm.toArray⟩)) a c len bs w hl hlm hs (fun x hx W hW => hd2_c x nb _ W (hW.cell hq (by simp))))
  have HA := Lib.hid (show hasB bs nm = decide (0 ≤ z) from by rw [hz]; exact any_idx bs _)
  clear hz
  clear hs hq hl
  go_enter Tryd.func99, Tryd.ntmps99
  go_wp2_with fail
  refine HI.out.mono ?_
  rintro e w1 ⟨rfl, k1⟩
  have K1 := Lib.hid k1
  clear k1
  go_wp2_with fail
  go_ret
  exact ⟨by rw [HA.out]; rfl, K1.out⟩
end Go.Proofs.YtjgcfncganleoaaDoor
