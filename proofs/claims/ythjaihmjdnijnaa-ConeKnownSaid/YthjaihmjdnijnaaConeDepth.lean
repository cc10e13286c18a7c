/-
  Contract of package cone: Depth.
-/
import Derived.Test.YthjaihmjdnijnaaCone
import Derived.Deep.RegionWith
import Derived.IntWalk
namespace Go.Proofs.Ythjaihmjdnijnaa
open Go.ChangeShapes Go.WideShapes Go.ChangeAt Go.RowKit
open Go.Maps (Keyed)
open Go.WideMaps
set_option linter.unusedVariables false

variable {w w' : World} {p : Nat} {F S : List Nat} {g : Gr}

theorem own_cells_i {w : World} {e : TypeId} {gb n cap : Nat} {K : IntKind} {l : List Nat} (h : Own w e (some ⟨gb, 0, none⟩) n cap (nats K l)) (j : Nat) (hj : j < l.length) : w.cell? ⟨gb, j, none⟩ = some (.int K (l.getD j 0 : Nat)) := by
  have h1 := World.ownsRow.cellAt h j (by have := h.len; rw [nats_length] at this; omega)
  rw [h1]
  simp [nats, List.getD_eq_getElem?_getD, List.getElem?_eq_getElem hj]

theorem deepTo_le (g : Gr) (k : Nat) : ∀ v ∈ deepTo g k, v ≤ k := by
  induction k with
  | zero => intro v hv; simp [deepTo] at hv; omega
  | succ k ih =>
    have hd : ∀ l, dl (deepTo g k) l ≤ k := fun l => by
      unfold dl
      rw [List.getD_eq_getElem?_getD]
      cases hj : (deepTo g k)[l / 2]? with
      | none => simp
      | some v => simpa using ih v (List.mem_of_getElem? hj)
    intro v hv
    unfold deepTo at hv
    split at hv
    · rcases List.mem_or_eq_of_mem_set hv with h | h
      · have := ih v h; omega
      · subst h
        have h1 := hd (gateA g k).1
        have h2 := hd (gateA g k).2.1
        omega
    · have := ih v hv; omega
theorem getD_le {D : List Nat} {m : Nat} (h : ∀ v ∈ D, v ≤ m) (j : Nat) : D.getD j 0 ≤ m := by
  rw [List.getD_eq_getElem?_getD]
  cases hj : D[j]? with
  | none => simp
  | some v => simpa using h v (List.mem_of_getElem? hj)
def DepthPost (d : Nat) (w : World) (e : Ending) (w' : World) : Prop := e = .returned (.tuple #[.int .i64 (d : Int), .int .i64 0]) ∧ Kept [] w w'
set_option maxHeartbeats 1600000 in
set_option maxRecDepth 100000 in
theorem cone_depth (hg : GraphAt w p F g) (hm : g.nodes.length ≤ 200000) (a : Option Addr) (c len : Nat) (l : List Nat) (hl : l.length = len) (hlm : len ≤ 1000000) (hs : SlN w .u32 a l) (hok : ∀ x ∈ l, g.ok x) :
    Calls Try.prog 10 #[.pointer (some ⟨p, 0, none⟩), .slice a len c] w (DepthPost (mostD (dpL g.nodes) l) w) := by
  have hp := hg.wf.pos
  have HL := Lib.hid hl
  have HA := Lib.hid (cone_asks_ok hg hm a c len l hl (by omega) hs hok)
  have HG := Lib.hid hg
  have HW := Lib.hid hg.wf
  have HOK := Lib.hid hok
  have HS := Lib.hid hs
  have HDV := Lib.hid (deepTo_val hg.wf)
  clear hg hl hok hs
  go_enter Try.func10, Try.ntmps10
  go_wp2_with fail
  refine HA.out.mono ?_
  rintro e w1 ⟨rfl, hk1⟩
  go_wp2_with fail
  refine (aig_nodes (HG.out.kept0 hk1) (by omega)).mono ?_
  rintro e w' ⟨rfl, rfl⟩
  go_wp2_with (at_make; refine wpList_mk rfl rfl Try.underlying45 int_info rfl rfl rfl (by omega) (by unfold maxLen; omega) ?_; intro w2 hown2 hst2; rw [nats_replicate] at hown2)
  obtain ⟨gb, hgb⟩ : ∃ gb, gb = w1.heap.size := ⟨_, rfl⟩
  rw [← hgb] at hown2 hst2 ⊢
  have hgw : w.heap.size ≤ gb := by rw [hgb]; exact hk1.size
  clear hgb
  have hk2 := hk1.trans hst2.kept
  have HK2 := Lib.hid hk2; clear hk2
  have HO2 := Lib.hid hown2; clear hown2 hst2
  go_loopw [26] (fun i wr => ∃ (k : Nat), k ≤ g.nodes.length ∧ i = .int .i64 k ∧ Own wr 3 (some ⟨gb, 0, none⟩) g.nodes.length g.nodes.length (nats .i64 (deepTo g k)) ∧ Kept [] w wr) (fun i _ => g.nodes.length - (intOf i).toNat)
  case atStart => exact ⟨0, Nat.zero_le _, rfl, HO2.out, HK2.out⟩
  case round =>
    obtain ⟨k, hk, rfl, hown, hkr⟩ := hrel
    by_cases hlt : k < g.nodes.length
    · obtain ⟨⟨x, y⟩, hxy⟩ : ∃ q, g.nodes[k]? = some q := ⟨_, List.getElem?_eq_getElem hlt⟩
      have HGA := Lib.hid (gateA_is hxy)
      have HGO := Lib.hid (aig_gateOf (HG.out.kept0 hkr) (by omega) k (by omega) (by omega))
      have HDS := Lib.hid (show deepTo g (k + 1) = if (gateA g k).2.2 then (deepTo g k).set k (1 + max (dl (deepTo g k) (gateA g k).1) (dl (deepTo g k) (gateA g k).2.1)) else deepTo g k from rfl)
      have HDL := Lib.hid (deepTo_length g k)
      by_cases hin : x / 2 = k ∨ k = 0
      · rw [HGA.out, if_pos hin] at HGO HDS
        clear hin hxy
        go_wp2_with fail
        refine HGO.out.mono ?_
        rintro e w3 ⟨rfl, hk3⟩
        go_wp2_with fail
        go_roundw
        case rel => exact ⟨k + 1, by omega, by go_num, by rw [HDS.out]; exact hown.kept0 hk3, hkr.trans hk3⟩
        case measure => simp [intOf]; omega
      · rw [HGA.out, if_neg hin] at HGO HDS
        have hlt2 : x / 2 < k ∧ y / 2 < k := by
          rcases HW.out.each k x y hxy with h1 | h1
          · omega
          · omega
        obtain ⟨hx2, hy2⟩ := hlt2
        clear hin hxy
        have HD0 := Lib.hid (show ∀ l, dl (deepTo g k) l = (deepTo g k).getD (l / 2) 0 from fun l => rfl)
        have hdx : (deepTo g k).getD (x / 2) 0 ≤ 200000 := by have := getD_le (deepTo_le g k) (x / 2); omega
        have hdy : (deepTo g k).getD (y / 2) 0 ≤ 200000 := by have := getD_le (deepTo_le g k) (y / 2); omega
        generalize deepTo g k = D at *
        have hx32 : x < 4294967296 := by omega
        have hy32 : y < 4294967296 := by omega
        have ix : (x : Int) / 2 < (g.nodes.length : Int) := by omega
        have iy : (y : Int) / 2 < (g.nodes.length : Int) := by omega
        have ik : (k : Int) < (g.nodes.length : Int) := by omega
        have ix0 : (0 : Int) ≤ (x : Int) / 2 := by omega
        have iy0 : (0 : Int) ≤ (y : Int) / 2 := by omega
        have hxt : ((x : Int) / 2).toNat = x / 2 := by omega
        have hyt : ((y : Int) / 2).toNat = y / 2 := by omega
        have hx3 : x / 2 < g.nodes.length := by omega
        have hy3 : y / 2 < g.nodes.length := by omega
        have ix2 : ((x / 2 : Nat) : Int) < (g.nodes.length : Int) := by omega
        have iy2 : ((y / 2 : Nat) : Int) < (g.nodes.length : Int) := by omega
        go_wp2_with fail
        refine HGO.out.mono ?_
        rintro e w3 ⟨rfl, hk3⟩
        have hown3 := hown.kept0 hk3
        have q1 := own_cells_i hown3 (x / 2) (by rw [HDL.out]; omega)
        have q2 := own_cells_i hown3 (y / 2) (by rw [HDL.out]; omega)
        obtain ⟨⟨v0, q3⟩, q4, q5⟩ := hown3.store (j := k) hlt
        have HQ5 := Lib.hid q5; clear q5
        have n1 : x / 2 ≠ k := by omega
        have n2 : y / 2 ≠ k := by omega
        go_wp2_with fail
        have HDX := Lib.hid (show dl D x = D.getD (x / 2) 0 from rfl)
        have HDY := Lib.hid (show dl D y = D.getD (y / 2) 0 from rfl)
        simp only [if_true] at HDS
        generalize D.getD (x / 2) 0 = dx at *
        generalize D.getD (y / 2) 0 = dy at *
        have wx : IntKind.i64.wrap (1 + (dx : Int)) = 1 + (dx : Int) := IntWalk.i64_in _ (by omega)
        have wy : IntKind.i64.wrap (1 + (dy : Int)) = 1 + (dy : Int) := IntWalk.i64_in _ (by omega)
        by_cases hd : dx < dy
        all_goals
          go_region_held3 (fun w' => w'.cell? ⟨gb, x / 2, none⟩ = some (.int .i64 (dx : Int)) ∧ w'.cell? ⟨gb, y / 2, none⟩ = some (.int .i64 (dy : Int)))
            (first | exact ⟨cell_other n1 q1, cell_other n2 q2⟩ | go_keep)
            (first
              | (go_at_call 26; (with_reducible refine (lit_node x _ hx32).mono ?_); rintro e w' ⟨rfl, rfl⟩)
              | (go_at_call 26; (with_reducible refine (lit_node y _ hy32).mono ?_); rintro e w' ⟨rfl, rfl⟩))
          all_goals
            go_wp2
            go_roundw
            case rel => exact ⟨k + 1, by omega, by go_num, by
              rw [HDS.out, HDX.out, HDY.out, ← nats_set]
              have h := HQ5.out (.int .i64 ((1 + max dx dy : Nat) : Int))
              first
                | (rw [show ((1 + max dx dy : Nat) : Int) = 1 + (dy : Int) from by omega] at h ⊢; exact h)
                | (rw [show ((1 + max dx dy : Nat) : Int) = 1 + (dx : Int) from by omega] at h ⊢; exact h), kept_up (S := [gb]) hkr ((hk3.more (fun _ h => absurd h (by simp))).trans (((Kept.refl [gb] w3).setCell (p := ⟨gb, k, none⟩) (.inl (by simp)) _).drew)) (fun b hb => by simp at hb; omega)⟩
            case measure => simp [intOf]; omega
    · obtain rfl : k = g.nodes.length := by omega
      rw [HDV.out] at hown
      have HB := Lib.hid (fun j => getD_le (fun v hv => (dp_le g.nodes g.nodes.length v hv : v ≤ g.nodes.length)) j)
      have HDL := Lib.hid (dpL_length g.nodes)
      have hDD : dpL g.nodes = dpTo g.nodes g.nodes.length := rfl
      have HB2 := Lib.hid (fun j => (by have := HB.out j; rw [← hDD] at this; exact this : (dpL g.nodes).getD j 0 ≤ g.nodes.length))
      have HML := Lib.hid (fun l => mostD_le g.nodes l)
      clear hDD HB
      generalize dpL g.nodes = D at *
      obtain ⟨w4, rfl⟩ : ∃ w4 : World, w4 = wr := ⟨_, rfl⟩
      have HS4 := Lib.hid (HS.out.kept0 hkr)
      have HO4 := Lib.hid hown; clear hown
      go_wp2_with fail
      go_loop [12, 55] (fun v i => ∃ (k : Nat), k ≤ len ∧ i = .int .i64 k ∧ v = .int .i64 ((mostD D (l.take k) : Nat) : Int)) (fun _ i => len - (intOf i).toNat)
      case atStart => exact ⟨0, Nat.zero_le _, rfl, rfl⟩
      case round =>
        obtain ⟨k, hk, rfl, rfl⟩ := hrel
        by_cases hkl : k < len
        · have hkL : k < l.length := by rw [HL.out]; exact hkl
          obtain ⟨ad, rfl, hc⟩ := HS4.out k hkL
          have hxo := HOK.out _ (List.getElem_mem hkL)
          have hx := Gr.ok_lt hxo hm
          have HT := Lib.hid (show mostD D (l.take (k + 1)) = max (mostD D (l.take k)) (dl D l[k]) from by rw [take_snoc l k hkL, mostD_snoc])
          have hm1 := HML.out (l.take k)
          have hxi : l[k] / 2 < g.nodes.length := hxo
          have hcd := own_cells_i HO4.out (l[k] / 2) (by rw [HDL.out]; exact hxi)
          have hd1 := HB2.out (l[k] / 2)
          have HDE := Lib.hid (show dl D l[k] = D.getD (l[k] / 2) 0 from rfl)
          generalize l[k] = x at *
          generalize D.getD (x / 2) 0 = d at *
          generalize mostD D (l.take k) = m at *
          have ixx : (x : Int) / 2 < (g.nodes.length : Int) := by omega
          clear hxo
          by_cases hd : m < d
          all_goals
            go_wp2_with fail
            refine (lit_node x _ hx).mono ?_
            rintro e w' ⟨rfl, rfl⟩
            go_wp2_with fail
            go_round
            case rel => exact ⟨k + 1, by omega, by go_num, by rw [HT.out, HDE.out]; first | rw [Nat.max_eq_right (by omega)] | rw [Nat.max_eq_left (by omega)]⟩
            case measure => simp [intOf]; omega
        · obtain rfl : len = k := by omega
          have HT := Lib.hid (show l.take len = l from List.take_of_length_le (by rw [HL.out]; omega))
          go_wp2_with fail
          go_ret2
          exact ⟨by rw [HT.out]; rfl, hkr⟩
end Go.Proofs.Ythjaihmjdnijnaa
