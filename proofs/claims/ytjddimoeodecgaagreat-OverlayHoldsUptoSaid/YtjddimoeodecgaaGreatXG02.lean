/- An indexed heap in memory: Swap. -/
import Derived.Test.YtjddimoeodecgaaGreatXG01
import Derived.IntWalk
namespace Go.Proofs.YtjddimoeodecgaaGreat
open Go.RowKit Go.Lib
set_option linter.unusedVariables false

theorem encE_set : ∀ (l : List Ent) (i : Nat) (a : Ent), ((encE l).set (i * 2) (.int .i64 a.1)).set (i * 2 + 1) (.int .u64 a.2) = if i < l.length then encE (l.set i a) else encE l
  | [], i, a => by simp [encE]
  | e :: l, 0, a => rfl
  | e :: l, i + 1, a => by
    have := encE_set l i a
    show List.set (List.set (Value.int .i64 e.1 :: Value.int .u64 e.2 :: encE l) ((i + 1) * 2) (.int .i64 a.1)) ((i + 1) * 2 + 1) (.int .u64 a.2) = _
    rw [show (i + 1) * 2 = i * 2 + 1 + 1 by omega, show i * 2 + 1 + 1 + 1 = (i * 2 + 1) + 1 + 1 by omega, List.set_cons_succ, List.set_cons_succ, List.set_cons_succ, List.set_cons_succ, this]
    simp only [List.length_cons, Nat.add_lt_add_iff_right, List.set_cons_succ]
    by_cases h : i < l.length
    · rw [if_pos h, if_pos h]; rfl
    · rw [if_neg h, if_neg h]; rfl

/-- A world in which one block alone has turned. -/
structure OneTurn (b : Nat) (w w' : World) : Prop where
  os : w'.os = w.os
  tape : w'.tape = w.tape
  output : w'.output = w.output
  size : w'.heap.size = w.heap.size
  block : ∀ k, k ≠ b → w'.heap[k]? = w.heap[k]?
theorem OneTurn.set {b : Nat} {w w' : World} (h : OneTurn b w w') (j : Nat) (u : Value) : OneTurn b w (w'.setCell ⟨b, j, none⟩ u) :=
  ⟨h.os, h.tape, h.output, by rw [← h.size]; simp [World.setCell], fun k hk => (heap_setCell_other w' ⟨b, j, none⟩ k u hk).trans (h.block k hk)⟩
theorem OneTurn.refl (b : Nat) (w : World) : OneTurn b w w := ⟨rfl, rfl, rfl, rfl, fun _ _ => rfl⟩
theorem OneTurn.drew {b : Nat} {w w' : World} (h : OneTurn b w w') : OneTurn b w w'.drew := ⟨h.os, h.tape, h.output, h.size, h.block⟩
theorem OneTurn.cell {b : Nat} {w w' : World} (h : OneTurn b w w') {j k : Nat} (hj : j ≠ b) : w'.cell? ⟨j, k, none⟩ = w.cell? ⟨j, k, none⟩ := World.cell?_of_block (a := ⟨j, k, none⟩) (h.block j hj)
theorem OneTurn.frozen {b : Nat} {w w' : World} (h : OneTurn b w w') {j k : Nat} (hj : j ≠ b) : w'.frozen? ⟨j, k, none⟩ = w.frozen? ⟨j, k, none⟩ := by simp only [World.frozen?, h.block j hj]

theorem row_swap {w : World} {B lb cap : Nat} {l : List Ent} {i k : Nat} (h : w.ownsRow B 187 2 (.slice (some ⟨lb, 0, none⟩) l.length cap) l.length (encE l)) (hi : i < l.length) (hk : k < l.length) :
    ((((w.setCell ⟨lb, i * 2, none⟩ (.int .i64 (atE l k).1)).setCell ⟨lb, i * 2 + 1, none⟩ (.int .u64 (atE l k).2)).setCell ⟨lb, k * 2, none⟩ (.int .i64 (atE l i).1)).setCell ⟨lb, k * 2 + 1, none⟩ (.int .u64 (atE l i).2)).ownsRow B 187 2 (.slice (some ⟨lb, 0, none⟩) l.length cap) l.length (encE (swapE l i k)) := by
  have h4 := ((((h.stored (i * 2) (.int .i64 (atE l k).1)).1.stored (i * 2 + 1) (.int .u64 (atE l k).2)).1.stored (k * 2) (.int .i64 (atE l i).1)).1.stored (k * 2 + 1) (.int .u64 (atE l i).2)).1
  rw [encE_set l i, if_pos hi, encE_set _ k, if_pos (by simpa using hk)] at h4
  exact h4

theorem AtOk.swap {zs : List Int} {l : List Ent} {N i k : Nat} (h : AtOk zs l N) (hi : i < l.length) (hk : k < l.length) (hik : i ≠ k) (ids : ∀ i j, i < l.length → j < l.length → (atE l i).1 = (atE l j).1 → i = j) :
    AtOk ((zs.set (atE l k).1 (i : Int)).set (atE l i).1 (k : Int)) (swapE l i k) N := by
  have hne : (atE l i).1 ≠ (atE l k).1 := fun e => hik (ids i k hi hk e)
  have hzi := h.at_ i hi
  have hzk := h.at_ k hk
  have li := (List.getElem?_eq_some_iff.1 hzi).1
  have lk := (List.getElem?_eq_some_iff.1 hzk).1
  refine ⟨by simpa using h.len, fun j hj => ?_, fun j hj hall => ?_⟩
  · rw [swapE_len] at hj
    rw [swapE_at l i k j hi hk]
    by_cases e1 : j = k
    · rw [if_pos e1, List.getElem?_set_self (by simpa using li), e1]
    · rw [if_neg e1]
      by_cases e2 : j = i
      · rw [if_pos e2, List.getElem?_set_ne hne, List.getElem?_set_self lk, e2]
      · rw [if_neg e2, List.getElem?_set_ne (fun e => e2 (ids j i hj hi e.symm)), List.getElem?_set_ne (fun e => e1 (ids j k hj hk e.symm))]
        exact h.at_ j hj
  · have h1 := hall i (by rw [swapE_len]; exact hi)
    have h2 := hall k (by rw [swapE_len]; exact hk)
    rw [swapE_at l i k _ hi hk, if_neg hik, if_pos rfl] at h1
    rw [swapE_at l i k _ hi hk, if_pos rfl] at h2
    rw [List.getElem?_set_ne h2, List.getElem?_set_ne h1]
    refine h.out j hj (fun m hm e => ?_)
    by_cases e1 : m = k
    · subst e1; exact h1 e
    · by_cases e2 : m = i
      · subst e2; exact h2 e
      · have h3 := hall m (by rw [swapE_len]; exact hm)
        rw [swapE_at l i k _ hi hk, if_neg e1, if_neg e2] at h3
        exact h3 e

def sw (i k a : Nat) : Nat := if a = k then i else if a = i then k else a
theorem swapE_sw (l : List Ent) (i k a : Nat) (hi : i < l.length) (hk : k < l.length) : atE (swapE l i k) a = atE l (sw i k a) := by
  rw [swapE_at l i k a hi hk]
  unfold sw
  split
  · rfl
  · split <;> rfl
theorem swap_ids {l : List Ent} {i k : Nat} (hi : i < l.length) (hk : k < l.length) (ids : ∀ i j, i < l.length → j < l.length → (atE l i).1 = (atE l j).1 → i = j) :
    ∀ a b, a < (swapE l i k).length → b < (swapE l i k).length → (atE (swapE l i k) a).1 = (atE (swapE l i k) b).1 → a = b := by
  intro a b ha hb e
  rw [swapE_len] at ha hb
  rw [swapE_sw l i k a hi hk, swapE_sw l i k b hi hk] at e
  have hlt : ∀ a, a < l.length → sw i k a < l.length := fun a ha => by unfold sw; split; exact hi; split; exact hk; exact ha
  have := ids _ _ (hlt a ha) (hlt b hb) e
  unfold sw at this
  split at this <;> split at this <;> (try split at this) <;> (try split at this) <;> omega
theorem swap_lt {l : List Ent} {i k N : Nat} (hi : i < l.length) (hk : k < l.length) (h : ∀ i, i < l.length → (atE l i).1 < N ∧ (atE l i).2 < 18446744073709551616) : ∀ a, a < (swapE l i k).length → (atE (swapE l i k) a).1 < N ∧ (atE (swapE l i k) a).2 < 18446744073709551616 := by
  intro a ha
  rw [swapE_len] at ha
  rw [swapE_at l i k a hi hk]
  split
  · exact h i hi
  · split
    · exact h k hk
    · exact h a ha

theorem ints_set (zs : List Int) (j : Nat) (x : Int) : (zs.map (Value.int .i64)).toArray.setIfInBounds j (.int .i64 x) = ((zs.set j x).map (Value.int .i64)).toArray := by
  simp [List.map_set]

set_option maxHeartbeats 4000000 in
theorem swap_any (B T ab N : Nat) (v : Value) (l : List Ent) (i k : Nat) (w : World) (h : IsTree w B T ab v l N) (hi : i < l.length) (hk : k < l.length) (hik : i ≠ k) (hl : l.length ≤ 16384) :
    Calls Tryz.prog 205 #[.pointer (some ⟨T, 0, none⟩), .int .i64 i, .int .i64 k] w fun e w' => e = .returned (.tuple #[]) ∧ IsTree w' B T ab v (swapE l i k) N ∧ HTurn T ab v w w' v := by
  have c0 := h.cell0
  have c1 := h.cell1
  have H := Lib.hid h
  obtain ⟨lb, cap, rfl, hc1, hc2, hbl, hlb, hlT, hlA, hcell, hfr⟩ := h.slice (by omega)
  obtain ⟨x0, x1⟩ := hcell i hi
  obtain ⟨y0, y1⟩ := hcell k hk
  have hiz : (i : Int) < (l.length : Int) := by omega
  have hkz : (k : Int) < (l.length : Int) := by omega
  have fx0 := hfr (i * 2)
  have fx1 := hfr (i * 2 + 1)
  have fy0 := hfr (k * 2)
  have fy1 := hfr (k * 2 + 1)
  clear h hfr hcell
  go_enter Tryz.func205, Tryz.ntmps205
  go_upto_region 0 with fail
  go_cut [] (fun wx => OneTurn lb w wx ∧ wx.ownsRow B 187 2 (.slice (some ⟨lb, 0, none⟩) l.length cap) l.length (encE (swapE l i k)))
  case first =>
    have d0 : w.drew.cell? ⟨T, 0, none⟩ = some (.slice (some ⟨lb, 0, none⟩) l.length cap) := c0
    have dx0 : w.drew.cell? ⟨lb, i * 2, none⟩ = some (.int .i64 (atE l i).1) := x0
    have dx1 : w.drew.cell? ⟨lb, i * 2 + 1, none⟩ = some (.int .u64 (atE l i).2) := x1
    have dy0 : w.drew.cell? ⟨lb, k * 2, none⟩ = some (.int .i64 (atE l k).1) := y0
    have dy1 : w.drew.cell? ⟨lb, k * 2 + 1, none⟩ = some (.int .u64 (atE l k).2) := y1
    have ex0 : w.drew.frozen? ⟨lb, i * 2, none⟩ = false := fx0
    have ex1 : w.drew.frozen? ⟨lb, i * 2 + 1, none⟩ = false := fx1
    have ey0 : w.drew.frozen? ⟨lb, k * 2, none⟩ = false := fy0
    have ey1 : w.drew.frozen? ⟨lb, k * 2 + 1, none⟩ = false := fy1
    go_region
    all_goals
      go_wp2_with fail
      go_meet
      exact ⟨((((OneTurn.refl lb w).set _ _).set _ _).set _ _).set _ _ |>.drew, (row_swap H.out.row hi hk).drew⟩
  case rest =>
    obtain ⟨ht, hrow⟩ := hcut
    obtain ⟨zs, hz1, hz2⟩ := H.out.places
    have hai := H.out.lt i hi
    have hak := H.out.lt k hk
    have hne : (atE l i).1 ≠ (atE l k).1 := fun e => hik (H.out.ids i k hi hk e)
    have hzA : wc.heap[ab]? = some (.cells (zs.map (Value.int .i64)).toArray 3 (0, 0)) := (ht.block ab (Ne.symm hlA)).trans hz1
    have e0 : wc.drew.cell? ⟨T, 0, none⟩ = some (.slice (some ⟨lb, 0, none⟩) l.length cap) := (ht.cell (Ne.symm hlT)).trans c0
    have e1 : wc.drew.cell? ⟨T, 1, none⟩ = some (.slice (some ⟨ab, 0, none⟩) N N) := (ht.cell (Ne.symm hlT)).trans c1
    have hln := encE_len (swapE l i k)
    have hsl := swapE_len l i k
    have eqi := encE_at (swapE l i k) i (by omega)
    have eqk := encE_at (swapE l i k) k (by omega)
    rw [swapE_at l i k _ hi hk, if_neg hik, if_pos rfl] at eqi
    rw [swapE_at l i k _ hi hk, if_pos rfl] at eqk
    have g0 : wc.drew.cell? ⟨lb, i * 2, none⟩ = some (.int .i64 (atE l k).1) := by
      have := hrow.cellAt (i * 2) (by omega)
      rw [show i * 2 = 2 * i by omega, eqi.1] at this
      rw [show i * 2 = 2 * i by omega]; exact this
    have g1 : wc.drew.cell? ⟨lb, k * 2, none⟩ = some (.int .i64 (atE l i).1) := by
      have := hrow.cellAt (k * 2) (by omega)
      rw [show k * 2 = 2 * k by omega, eqk.1] at this
      rw [show k * 2 = 2 * k by omega]; exact this
    have hNz : ∀ x : Nat, x < N → ((x : Nat) : Int) < (N : Int) := fun x hx => by omega
    have n1 := hNz _ hai.1
    have n2 := hNz _ hak.1
    have hzc : ∀ (x : Nat) (z : Int), zs[x]? = some z → wc.drew.cell? ⟨ab, x, none⟩ = some (.int .i64 z) := fun x z hx => by
      show wc.cell? _ = _
      simp [World.cell?, hzA, hx]
    have m1 := hzc _ _ (hz2.at_ i hi)
    have m2 := hzc _ _ (hz2.at_ k hk)
    have m1u : wc.cell? ⟨ab, (atE l i).1, none⟩ = some (.int .i64 i) := m1
    have m2u : wc.cell? ⟨ab, (atE l k).1, none⟩ = some (.int .i64 k) := m2
    have f1u : ∀ j, wc.frozen? ⟨ab, j, none⟩ = false := fun j => by simp [World.frozen?, hzA]
    have f1 : ∀ j, wc.drew.frozen? ⟨ab, j, none⟩ = false := fun j => by show wc.frozen? _ = _; simp [World.frozen?, hzA]
    have HR := Lib.hid hrow
    have HT := Lib.hid ht
    have HZ := Lib.hid (hz2.swap hi hk hik H.out.ids)
    have HZA := Lib.hid hzA
    clear hrow ht hz1 hz2 eqi eqk hNz hzc hzA c0 c1 x0 x1 y0 y1 fx0 fx1 fy0 fy1
    generalize (atE l i).1 = pi at *
    generalize (atE l k).1 = pk at *
    go_upto_region 1 with fail
    go_region
    all_goals
      go_wp2_with fail
      go_end0
      have hz3 := heap_setCell_same _ ab pi _ _ (.int .i64 (k : Int)) (heap_setCell_same wc ab pk _ _ (.int .i64 (i : Int)) HZA.out)
      rw [ints_set, ints_set] at hz3
      have hO := ((OneTurn.refl ab wc).set pk (.int .i64 (i : Int))).set pi (.int .i64 (k : Int))
      have hown := HR.out
      refine ⟨rfl, ⟨?_, ?_, ⟨_, hz3, HZ.out⟩, swap_ids hi hk H.out.ids, swap_lt hi hk H.out.lt, H.out.ne, H.out.neT, H.out.neA, H.out.bT, H.out.bA, H.out.small⟩, ?_⟩
      · exact (hO.block T H.out.ne).trans ((HT.out.block T (Ne.symm hlT)).trans H.out.cells)
      · rw [swapE_len]
        exact row_stays hown (fun j hj => hO.block j (fun e => H.out.neA (by rw [hj, e])))
      · exact ⟨hO.os.trans HT.out.os, hO.tape.trans HT.out.tape, hO.output.trans HT.out.output, Nat.le_of_eq (hO.size.trans HT.out.size).symm, fun j hj a1 a2 a3 => (hO.block j a2).trans (HT.out.block j (fun e => a3 (by rw [e]; rfl))), Or.inl rfl⟩

end Go.Proofs.YtjddimoeodecgaaGreat

/- Swap of an entry with itself. -/
namespace Go.Proofs.YtjddimoeodecgaaGreat
open Go.RowKit Go.Lib
set_option linter.unusedVariables false

theorem swapE_self (l : List Ent) (i : Nat) (hi : i < l.length) : swapE l i i = l := by
  unfold swapE atE
  rw [List.set_set, List.getD_eq_getElem?_getD, List.getElem?_eq_getElem hi]
  simp
theorem AtOk.same {zs : List Int} {l : List Ent} {N i : Nat} (h : AtOk zs l N) (hi : i < l.length) : AtOk ((zs.set (atE l i).1 (i : Int)).set (atE l i).1 (i : Int)) l N := by
  have hz := h.at_ i hi
  obtain ⟨h1, h2⟩ := List.getElem?_eq_some_iff.1 hz
  rw [List.set_set]
  have e : zs.set (atE l i).1 (i : Int) = zs := by
    conv => lhs; rw [← h2]
    exact List.set_getElem_self h1
  rw [e]
  exact h

set_option maxHeartbeats 4000000 in
theorem swap_self (B T ab N : Nat) (v : Value) (l : List Ent) (i : Nat) (w : World) (h : IsTree w B T ab v l N) (hi : i < l.length) (hl : l.length ≤ 16384) :
    Calls Tryz.prog 205 #[.pointer (some ⟨T, 0, none⟩), .int .i64 i, .int .i64 i] w fun e w' => e = .returned (.tuple #[]) ∧ IsTree w' B T ab v l N ∧ HTurn T ab v w w' v := by
  have c0 := h.cell0
  have c1 := h.cell1
  have H := Lib.hid h
  obtain ⟨lb, cap, rfl, hc1, hc2, hbl, hlb, hlT, hlA, hcell, hfr⟩ := h.slice (by omega)
  obtain ⟨x0, x1⟩ := hcell i hi
  have hiz : (i : Int) < (l.length : Int) := by omega
  have fx0 := hfr (i * 2)
  have fx1 := hfr (i * 2 + 1)
  clear h hfr hcell
  go_enter Tryz.func205, Tryz.ntmps205
  go_upto_region 0 with fail
  go_cut [] (fun wx => OneTurn lb w wx ∧ wx.ownsRow B 187 2 (.slice (some ⟨lb, 0, none⟩) l.length cap) l.length (encE l))
  case first =>
    have d0 : w.drew.cell? ⟨T, 0, none⟩ = some (.slice (some ⟨lb, 0, none⟩) l.length cap) := c0
    have dx0 : w.drew.cell? ⟨lb, i * 2, none⟩ = some (.int .i64 (atE l i).1) := x0
    have dx1 : w.drew.cell? ⟨lb, i * 2 + 1, none⟩ = some (.int .u64 (atE l i).2) := x1
    have ex0 : w.drew.frozen? ⟨lb, i * 2, none⟩ = false := fx0
    have ex1 : w.drew.frozen? ⟨lb, i * 2 + 1, none⟩ = false := fx1
    go_region
    all_goals
      go_wp2_with fail
      go_meet
      have hrs := (row_swap H.out.row hi hi).drew
      rw [swapE_self l i hi] at hrs
      exact ⟨((((OneTurn.refl lb w).set _ _).set _ _).set _ _).set _ _ |>.drew, hrs⟩
  case rest =>
    obtain ⟨ht, hrow⟩ := hcut
    obtain ⟨zs, hz1, hz2⟩ := H.out.places
    have hai := H.out.lt i hi
    have hzA : wc.heap[ab]? = some (.cells (zs.map (Value.int .i64)).toArray 3 (0, 0)) := (ht.block ab (Ne.symm hlA)).trans hz1
    have e0 : wc.drew.cell? ⟨T, 0, none⟩ = some (.slice (some ⟨lb, 0, none⟩) l.length cap) := (ht.cell (Ne.symm hlT)).trans c0
    have e1 : wc.drew.cell? ⟨T, 1, none⟩ = some (.slice (some ⟨ab, 0, none⟩) N N) := (ht.cell (Ne.symm hlT)).trans c1
    have hln := encE_len l
    have eqi := encE_at l i hi
    have g0 : wc.drew.cell? ⟨lb, i * 2, none⟩ = some (.int .i64 (atE l i).1) := by
      have := hrow.cellAt (i * 2) (by omega)
      rw [show i * 2 = 2 * i by omega, eqi.1] at this
      rw [show i * 2 = 2 * i by omega]; exact this
    have hNz : ∀ x : Nat, x < N → ((x : Nat) : Int) < (N : Int) := fun x hx => by omega
    have n1 := hNz _ hai.1
    have hzc : ∀ (x : Nat) (z : Int), zs[x]? = some z → wc.drew.cell? ⟨ab, x, none⟩ = some (.int .i64 z) := fun x z hx => by
      show wc.cell? _ = _
      simp [World.cell?, hzA, hx]
    have m1 := hzc _ _ (hz2.at_ i hi)
    have m1u : wc.cell? ⟨ab, (atE l i).1, none⟩ = some (.int .i64 i) := m1
    have f1u : ∀ j, wc.frozen? ⟨ab, j, none⟩ = false := fun j => by simp [World.frozen?, hzA]
    have f1 : ∀ j, wc.drew.frozen? ⟨ab, j, none⟩ = false := fun j => by show wc.frozen? _ = _; simp [World.frozen?, hzA]
    have HR := Lib.hid hrow
    have HT := Lib.hid ht
    have HZ := Lib.hid (hz2.same hi)
    have HZA := Lib.hid hzA
    clear hrow ht hz1 hz2 eqi hNz hzc hzA c0 c1 x0 x1 fx0 fx1
    generalize (atE l i).1 = pi at *
    go_upto_region 1 with fail
    go_region
    all_goals
      go_wp2_with fail
      go_end0
      have hz3 := heap_setCell_same _ ab pi _ _ (.int .i64 (i : Int)) (heap_setCell_same wc ab pi _ _ (.int .i64 (i : Int)) HZA.out)
      rw [ints_set, ints_set] at hz3
      have hO := ((OneTurn.refl ab wc).set pi (.int .i64 (i : Int))).set pi (.int .i64 (i : Int))
      have hown := HR.out
      refine ⟨rfl, ⟨?_, ?_, ⟨_, hz3, HZ.out⟩, H.out.ids, H.out.lt, H.out.ne, H.out.neT, H.out.neA, H.out.bT, H.out.bA, H.out.small⟩, ?_⟩
      · exact (hO.block T H.out.ne).trans ((HT.out.block T (Ne.symm hlT)).trans H.out.cells)
      · exact row_stays hown (fun j hj => hO.block j (fun e => H.out.neA (by rw [hj, e])))
      · exact ⟨hO.os.trans HT.out.os, hO.tape.trans HT.out.tape, hO.output.trans HT.out.output, Nat.le_of_eq (hO.size.trans HT.out.size).symm, fun j hj a1 a2 a3 => (hO.block j a2).trans (HT.out.block j (fun e => a3 (by rw [e]; rfl))), Or.inl rfl⟩

end Go.Proofs.YtjddimoeodecgaaGreat

/- container/heap's up and down over an indexed heap. -/
namespace Go.Proofs.YtjddimoeodecgaaGreat
open Go.RowKit Go.Lib
set_option linter.unusedVariables false

theorem swap_go (B T ab N : Nat) (v : Value) (l : List Ent) (i k : Nat) (w : World) (h : IsTree w B T ab v l N) (hi : i < l.length) (hk : k < l.length) (hl : l.length ≤ 16384) :
    Calls Tryz.prog 205 #[.pointer (some ⟨T, 0, none⟩), .int .i64 i, .int .i64 k] w fun e w' => e = .returned (.tuple #[]) ∧ IsTree w' B T ab v (swapE l i k) N ∧ HTurn T ab v w w' v := by
  by_cases e : i = k
  · subst e
    rw [swapE_self l i hi]
    exact swap_self B T ab N v l i w h hi hl
  · exact swap_any B T ab N v l i k w h hi hk e hl

theorem wrap_small (n : Nat) (h : n ≤ 1000000) : wrap64 (n : Int) = (n : Int) := by unfold wrap64; omega
theorem tdiv_half (j p : Nat) (h : p = (j - 1) / 2) (hj : 0 < j) : ((j : Int) - 1).tdiv 2 = (p : Int) := by
  rw [Int.tdiv_eq_ediv_of_nonneg (by omega)]
  omega
theorem upF_stop (l : List Ent) (j : Nat) (h : ¬ (0 < j ∧ ltE (atE l j) (atE l ((j - 1) / 2)) = true)) : upF l j = l := by rw [upF, dif_neg h]
theorem upF_go (l : List Ent) (j : Nat) (h : 0 < j ∧ ltE (atE l j) (atE l ((j - 1) / 2)) = true) : upF l j = upF (swapE l ((j - 1) / 2) j) ((j - 1) / 2) := by rw [upF, dif_pos h]

set_option maxHeartbeats 1000000 in
theorem up_any (B T ab N : Nat) (v : Value) (l : List Ent) (j : Nat) (w : World) (h : IsTree w B T ab v l N) (hj : j < l.length) (hl : l.length ≤ 16384) :
    Calls Tryz.prog 163 #[.iface 181 (.pointer (some ⟨T, 0, none⟩)), .int .i64 j] w fun e w' => e = .returned (.tuple #[]) ∧ IsTree w' B T ab v (upF l j) N ∧ HTurn T ab v w w' v := by
  have H := Lib.hid h
  clear h
  go_enter Tryz.func163, Tryz.ntmps163
  go_wp2_with fail
  go_loopg [1] j (fun gg s1 wr => ∃ (jj : Nat) (l' : List Ent), jj ≤ gg ∧ s1 = .int .i64 jj ∧ jj < l'.length ∧ l'.length ≤ 16384 ∧ Hid (upF l' jj = upF l j) ∧ Hid (IsTree wr B T ab v l' N) ∧ Hid (HTurn T ab v w wr v))
  case atStart => exact ⟨j, l, Nat.le_refl _, rfl, hj, hl, Lib.hid rfl, H, Lib.hid (HTurn.refl _ _ _ _)⟩
  case round =>
    obtain ⟨jj, l', hgg, rfl, hjj, hl', HU, HT, HF⟩ := hrel
    by_cases h0 : jj = 0
    · subst h0
      have hd : ((0 : Nat) : Int) - 1 = -1 := by omega
      have hs := upF_stop l' 0 (by omega)
      have hfin : upF l j = l' := by rw [← HU.out, hs]
      have HFI := Lib.hid hfin
      clear hs hfin
      go_wp2_with fail
      go_end0
      exact ⟨rfl, by rw [HFI.out]; exact HT.out, HF.out⟩
    · obtain ⟨p, hp⟩ : ∃ p : Nat, p = (jj - 1) / 2 := ⟨_, rfl⟩
      have hpz : ((jj : Int) - 1).tdiv 2 = (p : Int) := tdiv_half jj p hp (by omega)
      have hpl : p < l'.length := by omega
      have hpj : p < jj := by omega
      have hpn : ¬ (p : Int) = (jj : Int) := by omega
      have hpos : 0 < jj := by omega
      have hw1 : IntKind.i64.wrap ((jj : Int) - 1) = (jj : Int) - 1 := IntWalk.i64_in _ (by omega)
      have hwp : wrap64 (p : Int) = (p : Int) := wrap_small p (by omega)
      have hpb : ((p : Int) == (jj : Int)) = false := by rw [beq_eq_false_iff_ne]; exact hpn
      have HP := Lib.hid hp
      have HLE := Lib.hid (less_any B T ab N v l' jj p wr HT.out hjj hpl hl')
      clear hp h0
      go_upto_region 1 with fail
      go_cut [17] (fun s17 wx => s17 = .bool (!(ltE (atE l' jj) (atE l' p))) ∧ Hid (Below wr.heap.size wr wx))
      case first =>
        go_wp2_with fail
        refine HLE.out.mono ?_
        rintro e w1 ⟨rfl, hb1⟩
        go_wp2_with fail
        go_meet
        exact ⟨rfl, Lib.hid hb1⟩
      case rest =>
        obtain ⟨rfl, HBl⟩ := hcut
        have HT1 := Lib.hid (HT.out.below HBl.out)
        have HF1 := Lib.hid (HF.out.trans (HTurn.of_below T ab v HBl.out))
        clear HT HF HLE HBl hw1 hwp hpb
        cases hlt : ltE (atE l' jj) (atE l' p) with
        | false =>
          have hfin : upF l j = l' := by rw [← HU.out, upF_stop l' jj (by rw [← HP.out, hlt]; simp)]
          have HFI := Lib.hid hfin
          clear hfin
          go_wp2_with fail
          go_end0
          exact ⟨rfl, by rw [HFI.out]; exact HT1.out, HF1.out⟩
        | true =>
          have HS := Lib.hid (swap_go B T ab N v l' p jj wc HT1.out hpl hjj hl')
          have HUU : Hid (upF (swapE l' p jj) p = upF l j) := Lib.hid (by rw [← HU.out, upF_go l' jj ⟨hpos, by rw [← HP.out]; exact hlt⟩, ← HP.out])
          go_wp2_with fail
          refine HS.out.mono ?_
          rintro e w2 ⟨rfl, ht2, hf2⟩
          have HT2 := Lib.hid ht2
          have HF2 := Lib.hid (HF1.out.trans hf2)
          clear ht2 hf2
          go_wp2_with fail
          go_roundg p
          case measure => omega
          case rel => exact ⟨p, swapE l' p jj, Nat.le_refl _, by go_num, by rw [swapE_len]; exact hpl, by rw [swapE_len]; exact hl', HUU, HT2, HF2⟩

end Go.Proofs.YtjddimoeodecgaaGreat

/- container/heap's down over an indexed heap. -/
namespace Go.Proofs.YtjddimoeodecgaaGreat
open Go.RowKit Go.Lib
set_option linter.unusedVariables false

theorem downF_stop (l : List Ent) (i n : Nat) (h : ¬ (2 * i + 1 < n ∧ ltE (atE l (kidF l i n)) (atE l i) = true)) : downF l i n = (l, i) := by rw [downF, dif_neg h]
theorem downF_go (l : List Ent) (i n : Nat) (h : 2 * i + 1 < n ∧ ltE (atE l (kidF l i n)) (atE l i) = true) : downF l i n = downF (swapE l i (kidF l i n)) (kidF l i n) n := by rw [downF, dif_pos h]

set_option maxHeartbeats 1000000 in
theorem down_any (B T ab N : Nat) (v : Value) (l : List Ent) (i n : Nat) (w : World) (h : IsTree w B T ab v l N) (hi : i < l.length) (hn : n ≤ l.length) (hl : l.length ≤ 16384) :
    Calls Tryz.prog 164 #[.iface 181 (.pointer (some ⟨T, 0, none⟩)), .int .i64 i, .int .i64 n] w fun e w' => e = .returned (.bool (decide (i < (downF l i n).2))) ∧ IsTree w' B T ab v (downF l i n).1 N ∧ HTurn T ab v w w' v := by
  have H := Lib.hid h
  clear h
  go_enter Tryz.func164, Tryz.ntmps164
  go_wp2_with fail
  go_loopg [7] (n - i) (fun gg s7 wr => ∃ (ii : Nat) (l' : List Ent), n - ii ≤ gg ∧ s7 = .int .i64 ii ∧ ii < l'.length ∧ l'.length = l.length ∧ Hid (downF l' ii n = downF l i n) ∧ Hid (IsTree wr B T ab v l' N) ∧ Hid (HTurn T ab v w wr v))
  case atStart => exact ⟨i, l, Nat.le_refl _, rfl, hi, rfl, Lib.hid rfl, H, Lib.hid (HTurn.refl _ _ _ _)⟩
  case round =>
    obtain ⟨ii, l', hgg, rfl, hii, hl', HU, HT, HF⟩ := hrel
    obtain ⟨p, hp⟩ : ∃ p : Nat, p = 2 * ii + 1 := ⟨_, rfl⟩
    have hpz : 2 * (ii : Int) + 1 = (p : Int) := by omega
    have hp0 : ¬ (p : Int) < 0 := by omega
    by_cases hpn : p < n
    · have hpnz : (p : Int) < (n : Int) := by omega
      have hpnn : ¬ (n : Int) ≤ (p : Int) := by omega
      have hpl : p < l'.length := by omega
      have hl6 : l'.length ≤ 16384 := by omega
      have hK : kidF l' ii n = if p + 1 < n ∧ ltE (atE l' (p + 1)) (atE l' p) = true then p + 1 else p := by unfold kidF; rw [hp]
      have HK := Lib.hid hK
      have HP := Lib.hid hp
      have HLE := Lib.hid (fun (h2 : p + 1 < n) => less_any B T ab N v l' (p + 1) p wr HT.out (by omega) hpl hl6)
      have hkl := kidF_lt l' ii n (by omega)
      have hw1 : IntKind.i64.wrap (2 * (ii : Int)) = 2 * (ii : Int) := IntWalk.i64_in _ (by omega)
      have hw2 : IntKind.i64.wrap (2 * (ii : Int) + 1) = (p : Int) := by rw [IntWalk.i64_in _ (by omega)]; exact hpz
      have hw3 : IntKind.i64.wrap ((p : Int) + 1) = ((p + 1 : Nat) : Int) := by rw [IntWalk.i64_in _ (by omega)]; omega
      clear hK hp hpz
      go_upto_region 6 with fail
      go_cut [33] (fun s33 wx => s33 = .bool (decide (p + 1 < n) && ltE (atE l' (p + 1)) (atE l' p)) ∧ Hid (Below wr.heap.size wr wx))
      case first =>
        by_cases h2 : p + 1 < n
        · have h2z : ((p + 1 : Nat) : Int) < (n : Int) := by omega
          have h2d : decide (p + 1 < n) = true := decide_eq_true h2
          have HL2 := Lib.hid (HLE.out h2)
          clear h2
          go_wp2_with fail
          refine HL2.out.mono ?_
          rintro e w1 ⟨rfl, hb1⟩
          go_wp2_with fail
          go_meet
          exact ⟨by first | rfl | (rw [h2d]; rfl), Lib.hid hb1⟩
        · have h2z : ¬ ((p + 1 : Nat) : Int) < (n : Int) := by omega
          have h2d : decide (p + 1 < n) = false := decide_eq_false h2
          clear h2
          go_wp2_with fail
          go_meet
          exact ⟨by first | rfl | (rw [h2d]; rfl), Lib.hid (Below.refl _ _)⟩
      case rest =>
        obtain ⟨rfl, HBl⟩ := hcut
        have HT1 := Lib.hid (HT.out.below HBl.out)
        have HF1 := Lib.hid (HF.out.trans (HTurn.of_below T ab v HBl.out))
        clear HT HF HLE HBl
        obtain ⟨bb, hbb⟩ : ∃ bb : Bool, bb = (decide (p + 1 < n) && ltE (atE l' (p + 1)) (atE l' p)) := ⟨_, rfl⟩
        rw [← hbb]
        have hkk : kidF l' ii n = if bb = true then p + 1 else p := by
          rw [HK.out, hbb]
          simp only [Bool.and_eq_true, decide_eq_true_eq]
        obtain ⟨kd, hkd⟩ : ∃ kd, kd = kidF l' ii n := ⟨_, rfl⟩
        rw [← hkd] at hkk hkl
        have HKD := Lib.hid hkd
        have HKK := Lib.hid hkk
        clear hkd hkk hbb HK
        obtain ⟨wy, rfl⟩ : ∃ x : World, x = wc := ⟨_, rfl⟩
        go_upto_if 33 with fail
        go_cut [9] (fun s9 wx => s9 = .int .i64 kd ∧ wx = wy)
        case first =>
          cases bb with
          | true =>
            have hk2 := HKK.out
            rw [if_pos rfl] at hk2
            subst hk2
            go_wp2_with fail
            go_meet
            exact ⟨rfl, rfl⟩
          | false =>
            have hk2 := HKK.out
            rw [if_neg (by simp)] at hk2
            subst hk2
            go_wp2_with fail
            go_meet
            exact ⟨rfl, rfl⟩
        case rest =>
          obtain ⟨rfl, rfl⟩ := hcut
          have hkn : kd < l'.length := by omega
          have HLE := Lib.hid (less_any B T ab N v l' kd ii _ HT1.out hkn hii hl6)
          cases hlt : ltE (atE l' kd) (atE l' ii) with
          | false =>
            rw [hlt] at HLE
            have hfin : downF l i n = (l', ii) := by rw [← HU.out, downF_stop l' ii n (by rw [← HKD.out, hlt]; simp)]
            have HFI := Lib.hid hfin
            clear hfin hw1 hw2 hw3
            go_wp2_with fail
            refine HLE.out.mono ?_
            rintro e w1 ⟨rfl, hb1⟩
            have HT2 := Lib.hid (HT1.out.below hb1)
            have HF2 := Lib.hid (HF1.out.trans (HTurn.of_below T ab v hb1))
            clear hb1
            have hfz : decide ((i : Int) < (ii : Int)) = decide (i < ii) := by by_cases h : i < ii <;> simp [h]
            go_wp2_with fail
            go_ret
            exact ⟨by rw [HFI.out]; rfl, by rw [HFI.out]; exact HT2.out, HF2.out⟩
          | true =>
            rw [hlt] at HLE
            have HUU : Hid (downF (swapE l' ii kd) kd n = downF l i n) := Lib.hid (by rw [← HU.out, downF_go l' ii n ⟨by have := HP.out; omega, by rw [← HKD.out]; exact hlt⟩, ← HKD.out])
            clear hw1 hw2 hw3
            go_wp2_with fail
            refine HLE.out.mono ?_
            rintro e w1 ⟨rfl, hb1⟩
            have HT2 := Lib.hid (HT1.out.below hb1)
            have HF2 := Lib.hid (HF1.out.trans (HTurn.of_below T ab v hb1))
            have HS := Lib.hid (swap_go B T ab N v l' ii kd w1 HT2.out hii hkn hl6)
            clear hb1
            go_wp2_with fail
            refine HS.out.mono ?_
            rintro e w2 ⟨rfl, ht2, hf2⟩
            have HT3 := Lib.hid ht2
            have HF3 := Lib.hid (HF2.out.trans hf2)
            clear ht2 hf2
            go_wp2_with fail
            go_roundg (n - kd)
            case measure => omega
            case rel => exact ⟨kd, swapE l' ii kd, Nat.le_refl _, by go_num, by rw [swapE_len]; exact hkn, by rw [swapE_len]; exact hl', HUU, HT3, HF3⟩
    · have hpnn : (n : Int) ≤ (p : Int) := by omega
      have hfin : downF l i n = (l', ii) := by rw [← HU.out, downF_stop l' ii n (by omega)]
      have HFI := Lib.hid hfin
      have hfz : decide ((i : Int) < (ii : Int)) = decide (i < ii) := by by_cases h : i < ii <;> simp [h]
      have hw1 : IntKind.i64.wrap (2 * (ii : Int)) = 2 * (ii : Int) := IntWalk.i64_in _ (by omega)
      have hw2 : IntKind.i64.wrap (2 * (ii : Int) + 1) = (p : Int) := by rw [IntWalk.i64_in _ (by omega)]; exact hpz
      clear hfin hp hpz
      go_wp2_with fail
      go_ret
      exact ⟨by rw [HFI.out]; rfl, by rw [HFI.out]; exact HT.out, HF.out⟩

end Go.Proofs.YtjddimoeodecgaaGreat
