/- clique.within: the matrix of a cell. -/
import Derived.Test.YtjddimoeodecgaaGreatXG11
namespace Go.Proofs.YtjddimoeodecgaaGreat
open Go.RowKit Go.Lib Go.Sort Go.Proofs.YtjddimoeodecgaaGreatW.PrintWords Go.Proofs.YtjddimoeodecgaaGreatW.PrintLast Go.Proofs.YtjddimoeodecgaaGreatW.PrintMore
set_option linter.unusedVariables false
set_option maxRecDepth 100000

theorem bnd_in {N : Nat} {arcs : List Q.S95} (hg : Q.GOk N arcs) (cs : List Int) (c : Int) : ∀ u ∈ Q.bndOf arcs cs c, 0 ≤ u ∧ u < (N : Int) := by
  intro u hu
  have h1 : u ∈ (Q.edgeOf arcs cs c).mergeSort (fun x y => decide (x ≤ y)) := by
    unfold Q.bndOf Lib.compact Lib.compactUpTo at hu
    simp only [List.mem_map, List.mem_filter, List.mem_range] at hu
    obtain ⟨j, ⟨hj, _⟩, rfl⟩ := hu
    have hj' : j < ((Q.edgeOf arcs cs c).mergeSort (fun x y => decide (x ≤ y))).toArray.size := by simpa using hj
    rw [getElem!_pos _ j hj']
    simp
  rw [List.mem_mergeSort] at h1
  unfold Q.edgeOf at h1
  obtain ⟨a, ha, hu2⟩ := List.mem_flatMap.1 h1
  have he := hg.ends a ha
  unfold Q.endsOf at hu2
  split at hu2
  · cases hu2
  · rcases List.mem_append.1 hu2 with h | h
    · split at h
      · simp at h; subst h; exact he.1
      · cases h
    · split at h
      · simp at h; subst h; exact he.2
      · cases h

/-- The rows of a matrix, up to one. -/
noncomputable def matTo (N : Nat) (arcs : List Q.S95) (cs : List Int) (c : Int) (k : Nat) : List Nat := ((Q.bndOf arcs cs c).take k).flatMap (fun v => rowOf (dOf N arcs (Q.inB cs c) v.toNat) (Q.bndOf arcs cs c))
theorem matTo_all (N : Nat) (arcs : List Q.S95) (cs : List Int) (c : Int) : matTo N arcs cs c (Q.bndOf arcs cs c).length = Q.matOf N arcs cs c := by unfold matTo Q.matOf; rw [List.take_length]
theorem matTo_step (N : Nat) (arcs : List Q.S95) (cs : List Int) (c : Int) (k : Nat) (hk : k < (Q.bndOf arcs cs c).length) : matTo N arcs cs c (k + 1) = matTo N arcs cs c k ++ rowOf (dOf N arcs (Q.inB cs c) ((Q.bndOf arcs cs c).getD k 0).toNat) (Q.bndOf arcs cs c) := by
  unfold matTo
  rw [List.take_add_one, List.flatMap_append]
  congr 1
  rw [List.getD_eq_getElem?_getD, List.getElem?_eq_getElem hk]
  simp
theorem matTo_len (N : Nat) (arcs : List Q.S95) (cs : List Int) (c : Int) (hm : arcs.length ≤ 8192) (k : Nat) : (matTo N arcs cs c k).length ≤ k * 16384 := by
  have hb := Q.bnd_len arcs cs c
  unfold matTo
  have : ∀ l : List Int, (l.flatMap (fun v => rowOf (dOf N arcs (Q.inB cs c) v.toNat) (Q.bndOf arcs cs c))).length ≤ l.length * 16384 := by
    intro l
    induction l with
    | nil => simp
    | cons a r ih =>
      rw [List.flatMap_cons, List.length_append, List.length_cons, Nat.add_mul, Nat.one_mul]
      have : (rowOf (dOf N arcs (Q.inB cs c) a.toNat) (Q.bndOf arcs cs c)).length ≤ 16384 := by unfold rowOf; rw [List.length_map]; omega
      omega
  have h2 := this ((Q.bndOf arcs cs c).take k)
  have h3 : ((Q.bndOf arcs cs c).take k).length ≤ k := by rw [List.length_take]; omega
  have h4 := Nat.mul_le_mul_right 16384 h3
  omega

theorem own_lower {w : World} {B B' : Nat} {e : TypeId} {size n : Nat} {v : Value} {xs : List Value} (h : w.ownsRow B' e size v n xs) (hB : B ≤ B') : w.ownsRow B e size v n xs := by
  refine ⟨h.1, ?_⟩
  rcases h.2 with h1 | ⟨g, cap, cur, h1, h2, h3⟩
  · exact Or.inl h1
  · exact Or.inr ⟨g, cap, cur, h1, by omega, h3⟩

set_option maxHeartbeats 4000000 in
theorem matrix_any (N : Int) (arcs : List Q.S95) (A : Option Addr) (c : Nat) (BA : Option Addr) (bc : Nat) (bounds : List Int) (CA : Option Addr) (cc : Nat) (cells : List (List Int)) (level cell epoch : Int) (w0 w : World) (hb0 : Below w0.heap.size w0 w) (hf : Q.ArcsFit arcs) (hr : Kd.C Q.k95 w0 A arcs.length arcs) (hc : arcs.length ≤ c) (hn : NestIn w0 BA bc bounds CA cc cells) :
    Calls Tryz.prog 53 #[.agg #[.int .i64 N, .slice A arcs.length c], .agg #[.slice BA bounds.length bc, .slice CA cells.length cc], .int .i64 level, .int .i64 cell, .int .i64 epoch] w fun e w' => ∃ v, e = .returned (.tuple #[v, .int .i64 (Q.cellE N arcs bounds cells level cell)]) ∧
      (Q.cellE N arcs bounds cells level cell = 0 → MatV w.heap.size w' level cell epoch (Q.matOf N.toNat arcs (Q.levelRow cells level) cell) v) ∧ (¬ Q.cellE N arcs bounds cells level cell = 0 → v = .agg #[.int .i64 0, .int .i64 0, .int .i64 0, .slice none 0 0]) ∧ Below w.heap.size w w' := by
  obtain ⟨c0, c1, n0, n1, r0, hsz, hb1⟩ := boxes224 w (.int .i64 N) (.slice A arcs.length c) (.slice BA bounds.length bc) (.slice CA cells.length cc) (.int .i64 0) (.int .i64 0) (.int .i64 0) (.slice none 0 0) 24 28 37
  have HCK : Hid (∀ wx : World, Below w.heap.size w wx → Calls Tryz.prog 23 #[.agg #[.int .i64 N, .slice A arcs.length c], .agg #[.slice BA bounds.length bc, .slice CA cells.length cc], .int .i64 level, .int .i64 cell] wx fun e w' => ∃ A' n' c', e = .returned (.tuple #[.slice A' n' c', .int .i64 (Q.cellE N arcs bounds cells level cell)]) ∧ (Q.cellE N arcs bounds cells level cell = 0 → CutV w' (Q.bndOf arcs (cells.getD (level - 1).toNat []) cell) (.slice A' n' c')) ∧ Below wx.heap.size wx w') :=
    Lib.hid (fun wx hb => boundary_any N arcs A c BA bc bounds CA cc cells level cell w0 wx (hb0.trans (hb.mono hb0.size)) hf hr hc hn)
  have HOK : Hid (Q.cellE N arcs bounds cells level cell = 0 → (1 ≤ N ∧ Q.GOk N.toNat arcs) ∧ Q.NestOk N.toNat bounds cells ∧ 1 ≤ level ∧ level ≤ bounds.length) := Lib.hid (fun h => ⟨(Q.cellE_ok hf h).1, (Q.cellE_ok hf h).2.1, (Q.cellE_ok hf h).2.2.1⟩)
  have HB0 := Lib.hid hb0
  have HR := Lib.hid hr
  have HC := Lib.hid hc
  have HN := Lib.hid hn
  clear hf hr hc hn hb0
  generalize Q.cellE N arcs bounds cells level cell = ke at *
  go_enter Tryz.func53, Tryz.ntmps53
  go_upto_region 1 with fail
  generalize (((w.alloc (.cells #[.int .i64 N, .slice A arcs.length c] 24)).alloc (.cells #[.slice BA bounds.length bc, .slice CA cells.length cc] 28)).alloc (.cells #[.int .i64 0, .int .i64 0, .int .i64 0, .slice none 0 0] 37)) = w1 at *
  have HB1 := Lib.hid hb1
  have HCK1 := Lib.hid (HCK.out w1 hb1)
  have hs1 : w.heap.size + 3 ≤ w1.heap.size := by omega
  generalize hgx : w.heap.size = gx at *
  have HGX := Lib.hid hgx
  clear hb1 hsz HCK hgx
  go_upto_region 2 with (go_at_call 23; (with_reducible refine HCK1.out.mono ?_); rintro e w2 ⟨A', n', c', rfl, hcv, hb⟩; have HB := Lib.hid hb; have HCV := Lib.hid hcv; clear hb hcv)
  have hs2 : gx + 3 ≤ w2.heap.size := by have := HB.out.size; omega
  have d0 : (w2.alloc (.cells #[.slice A' n' c'] 25)).cell? ⟨gx, 0, none⟩ = some (.int .i64 N) := (World.cell?_of_block (w := w2) (heap_alloc_old w2 _ (by show gx < _; omega))).trans ((HB.out.cell (p := ⟨gx, 0, none⟩) (by show gx < w1.heap.size; omega)).trans c0)
  have d1 : (w2.alloc (.cells #[.slice A' n' c'] 25)).cell? ⟨gx, 1, none⟩ = some (.slice A arcs.length c) := (World.cell?_of_block (w := w2) (heap_alloc_old w2 _ (by show gx < _; omega))).trans ((HB.out.cell (p := ⟨gx, 1, none⟩) (by show gx < w1.heap.size; omega)).trans c1)
  have m1 : (w2.alloc (.cells #[.slice A' n' c'] 25)).cell? ⟨gx + 1, 1, none⟩ = some (.slice CA cells.length cc) := (World.cell?_of_block (w := w2) (heap_alloc_old w2 _ (by show gx + 1 < _; omega))).trans ((HB.out.cell (p := ⟨gx + 1, 1, none⟩) (by show gx + 1 < w1.heap.size; omega)).trans n1)
  have q0 : (w2.alloc (.cells #[.slice A' n' c'] 25)).heap[gx + 2]? = some (.cells #[.int .i64 0, .int .i64 0, .int .i64 0, .slice none 0 0] 37 (0, 0)) := (heap_alloc_old w2 _ (by omega)).trans ((HB.out.block (gx + 2) (by omega)).trans r0)
  have l2 : (w2.alloc (.cells #[.slice A' n' c'] 25)).cell? ⟨w2.heap.size, 0, none⟩ = some (.slice A' n' c') := by simp
  have hb3 : Below w2.heap.size w2 (w2.alloc (.cells #[.slice A' n' c'] 25)) := (Below.refl _ w2).alloc (Nat.le_refl _) _
  have hs3 : w2.heap.size + 1 = (w2.alloc (.cells #[.slice A' n' c'] 25)).heap.size := by simp
  generalize (w2.alloc (.cells #[.slice A' n' c'] 25)) = w3 at *
  have HB3 := Lib.hid ((HB1.out.trans (HB.out.mono (by omega))).trans (hb3.mono (by omega)))
  have HCV3 : Hid (ke = 0 → CutV w3 (Q.bndOf arcs (cells.getD (level - 1).toNat []) cell) (.slice A' n' c')) := Lib.hid (fun h => by
    obtain ⟨P, h1, h2⟩ := HCV.out h
    exact ⟨P, h1, Kd.C_below h2 hb3⟩)
  have Q0 := Lib.hid q0
  generalize hgl : w2.heap.size = gl at *
  clear c0 c1 n0 n1 r0 q0 HCK1 HB HB1 hb3 hgl HCV
  by_cases hke : ke = 0
  · obtain ⟨⟨hN1, hG⟩, hNest, hl1, hl2⟩ := HOK.out hke
    obtain ⟨P, hv, hPC⟩ := HCV3.out hke
    obtain ⟨n, rfl⟩ : ∃ n : Nat, N = (n : Int) := ⟨N.toNat, (Int.toNat_of_nonneg (by omega)).symm⟩
    rw [Int.toNat_natCast] at hG hNest
    simp only [Value.slice.injEq] at hv
    obtain ⟨h1, h2, h3⟩ := hv
    obtain ⟨j, hj⟩ : ∃ j : Nat, level = ((j + 1 : Nat) : Int) := ⟨(level - 1).toNat, by omega⟩
    have hjn : (level - 1).toNat = j := by omega
    rw [hjn] at h2 h3 hPC
    have H2 := Lib.hid h2
    have H3 := Lib.hid h3
    have hjc : j < cells.length := by have := hNest.len; omega
    have hbw : Below w0.heap.size w0 w3 := HB0.out.trans (HB3.out.mono (by have := HB0.out.size; have := HGX.out; omega))
    obtain ⟨cad, RA, rc, rfl, y00, hrc, hRow⟩ := HN.out.row j hjc
    have y0 := (hbw.cell (p := cad.add j) (World.block_lt_of_cell? w0 _ y00)).trans y00
    have hrp := Q.rightP_in (hNest.right (j := j) (by rw [← hNest.len]; exact hjc))
    have hws : IntKind.i64.wrap (level - 1) = (j : Int) := by rw [IntWalk.i64_in _ (by have := hNest.b5; omega)]; omega
    have hjz : (j : Int) < (cells.length : Int) := by omega
    have hn2 := hG.n2
    have hm := hG.m
    have hbl := Q.bnd_len arcs (cells.getD j []) cell
    have HBIN := Lib.hid (bnd_in hG (cells.getD j []) cell)
    have HPC := Lib.hid hPC
    have HROW := Lib.hid hRow
    have HRL := Lib.hid hrp.1
    have HG := Lib.hid hG
    have HKE := Lib.hid hke
    have HJN := Lib.hid hjn
    subst h1
    have HMS : Hid (∀ k, k < (Q.bndOf arcs (cells.getD j []) cell).length → matTo n arcs (cells.getD j []) cell (k + 1) = matTo n arcs (cells.getD j []) cell k ++ rowOf (dOf n arcs (Q.inB (cells.getD j []) cell) ((Q.bndOf arcs (cells.getD j []) cell).getD k 0).toNat) (Q.bndOf arcs (cells.getD j []) cell)) := Lib.hid (fun k hk => matTo_step n arcs (cells.getD j []) cell k hk)
    have HML := Lib.hid (matTo_len n arcs (cells.getD j []) cell hm)
    have HMT := Lib.hid (matTo_all n arcs (cells.getD j []) cell)
    have HMZ : Hid (matTo n arcs (cells.getD j []) cell 0 = []) := Lib.hid rfl
    have HLR : Hid (Q.levelRow cells level = cells.getD j []) := Lib.hid (by unfold Q.levelRow; rw [hjn])
    clear hN1 hNest hl1 hl2 hPC hj hjn hjc hbw h2 h3 y00 hrc hRow hrp hG HOK HCV3 HN
    generalize hrw : cells.getD j [] = row at *
    have HRW := Lib.hid hrw
    clear hrw
    have hmk := make_bools n (by omega)
    go_upto_region 5 with fail
    have hA4 : ((w3.alloc (.cells (Array.replicate n (Value.bool false)) 4)).alloc (.cells #[.slice (some ⟨w3.heap.size, 0, none⟩) n n] 137)).heap[w3.heap.size]? = some (.cells ((inTo row cell 0).map Value.bool).toArray 4 (0, 0)) := by
      rw [heap_alloc2_old]
      have e : inTo row cell 0 = List.replicate n false := by unfold inTo; rw [List.take_zero, List.map_nil, List.nil_append, Nat.sub_zero, HRL.out]
      rw [e]
      simp
    have hB4 : ((w3.alloc (.cells (Array.replicate n (Value.bool false)) 4)).alloc (.cells #[.slice (some ⟨w3.heap.size, 0, none⟩) n n] 137)).heap[w3.heap.size + 1]? = some (.cells #[.slice (some ⟨w3.heap.size, 0, none⟩) n n] 137 (0, 0)) := heap_alloc2_new _ _ _
    have hb4 : Below w3.heap.size w3 ((w3.alloc (.cells (Array.replicate n (Value.bool false)) 4)).alloc (.cells #[.slice (some ⟨w3.heap.size, 0, none⟩) n n] 137)) := ((Below.refl _ w3).alloc (Nat.le_refl _) _).alloc (by rw [World.size_alloc]; omega) _
    have hs4 : w3.heap.size + 2 ≤ ((w3.alloc (.cells (Array.replicate n (Value.bool false)) 4)).alloc (.cells #[.slice (some ⟨w3.heap.size, 0, none⟩) n n] 137)).heap.size := by simp
    generalize ((w3.alloc (.cells (Array.replicate n (Value.bool false)) 4)).alloc (.cells #[.slice (some ⟨w3.heap.size, 0, none⟩) n n] 137)) = w4 at *
    have p1 := (hb4.cell (p := ⟨gx + 1, 1, none⟩) (by show gx + 1 < w3.heap.size; omega)).trans m1
    have y1 := (hb4.cell (p := cad.add j) (World.block_lt_of_cell? w3 _ y0)).trans y0
    have HA4 := Lib.hid hA4
    have HB4 := Lib.hid hB4
    have HBW4 := Lib.hid hb4
    have D0 := Lib.hid d0
    have D1 := Lib.hid d1
    have L2 := Lib.hid l2
    have hgl : gl < w3.heap.size := by omega
    have HROW3 : Hid (Kd.C (Kd.int .i64) w3 RA row.length row) := Lib.hid (Kd.C_below HROW.out (HB0.out.trans (HB3.out.mono (by have := HB0.out.size; have := HGX.out; omega))))
    have HR3 : Hid (Kd.C Q.k95 w3 A arcs.length arcs) := Lib.hid (Kd.C_below HR.out (HB0.out.trans (HB3.out.mono (by have := HB0.out.size; have := HGX.out; omega))))
    generalize hib : w3.heap.size = ib at *
    have HIB := Lib.hid hib
    clear hA4 hB4 hb4 d0 d1 l2 m1 y0 hmk hib hs3
    go_wp2_with fail
    clear p1 y1 hke
    go_loopg [44] row.length (fun gg s44 wr => ∃ k : Nat, k ≤ row.length ∧ row.length - k ≤ gg ∧ s44 = .int .i64 k ∧ Hid (wr.heap[ib]? = some (.cells ((inTo row cell k).map Value.bool).toArray 4 (0, 0))) ∧ Hid (wr.heap[ib + 1]? = some (.cells #[.slice (some ⟨ib, 0, none⟩) n n] 137 (0, 0))) ∧ Hid (Below ib w3 wr))
    case atStart => exact ⟨0, Nat.zero_le _, by omega, rfl, HA4, HB4, HBW4⟩
    case round =>
      obtain ⟨k, hk1, hgg, rfl, HA, HBX, HBW⟩ := hrel
      by_cases hlt : k < row.length
      · have hltz : (k : Int) < (row.length : Int) := by omega
        have hkn : (k : Int) < (n : Int) := by have := HRL.out; omega
        have hwk : IntKind.i64.wrap ((k : Int) + 1) = ((k + 1 : Nat) : Int) := by rw [IntWalk.i64_in _ (by have := HRL.out; omega)]; omega
        have hbw : Below w3.heap.size w3 wr := by rw [HIB.out]; exact HBW.out
        obtain ⟨lad, rfl, x0⟩ := Q.int_cell (Kd.C_below HROW3.out hbw) k hlt
        have z0 : wr.cell? ⟨ib + 1, 0, none⟩ = some (.slice (some ⟨ib, 0, none⟩) n n) := by rw [cell_of_row _ _ 0 _ _ _ HBX.out]; rfl
        have hil := inTo_len row cell k hk1
        have z1 : wr.cell? ⟨ib, k, none⟩ = some (.bool ((inTo row cell k).getD k false)) := by
          rw [cell_of_row _ _ k _ _ _ HA.out]
          have : k < (inTo row cell k).length := by omega
          simp [this]
        have zf : wr.frozen? ⟨ib, k, none⟩ = false := by simp [World.frozen?, HA.out]
        have HSTP := Lib.hid (inTo_step row cell k hlt)
        generalize row.getD k 0 = rk at *
        clear hbw hil
        go_wp2_with fail
        have HWK := Lib.hid hwk
        clear hwk
        go_roundg (row.length - (k + 1))
        case measure => omega
        case rel =>
          refine ⟨k + 1, by omega, Nat.le_refl _, rfl, Lib.hid ?_, Lib.hid ?_, Lib.hid (HBW.out.setCell (Nat.le_refl _) _)⟩
          · rw [heap_setCell_same wr ib k _ _ _ HA.out, ← HSTP.out]
            have e3 : (rk == cell) = decide (rk = cell) := rfl
            simp [List.map_set, e3]
          · exact (heap_setCell_other wr ⟨ib, k, none⟩ (ib + 1) _ (by show ib + 1 ≠ ib; omega)).trans HBX.out
      · have : k = row.length := by omega
        subst this
        obtain ⟨wm, rfl⟩ : ∃ x : World, x = wr := ⟨_, rfl⟩
        have hkz : ¬ (row.length : Int) < (row.length : Int) := by omega
        rw [inTo_all] at HA
        have hwr : ib + 2 ≤ wm.heap.size := by have := lt_of_block HBX.out; omega
        have hb5 : Below wm.heap.size wm (wm.alloc (.cells #[.int .i64 level, .int .i64 cell, .int .i64 epoch, .slice none 0 0] 37)) := (Below.refl _ wm).alloc (Nat.le_refl _) _
        have hm5 := heap_alloc_new wm (.cells #[.int .i64 level, .int .i64 cell, .int .i64 epoch, .slice none 0 0] 37)
        have l5 : (wm.alloc (.cells #[.int .i64 level, .int .i64 cell, .int .i64 epoch, .slice none 0 0] 37)).cell? ⟨gl, 0, none⟩ = some (.slice A' n' c') := (World.cell?_of_block (w := wm) (heap_alloc_old wm _ (by show gl < _; omega))).trans ((HBW.out.cell (p := ⟨gl, 0, none⟩) (by show gl < ib; omega)).trans L2.out)
        have hmf : ∀ (fn : Fn) (first cap : Array Value) (w : World), (Instr.makeFunc fn first cap).run Tryz.prog w = .ok (.func fn first cap) w := fun _ _ _ _ => rfl
        have hbw3 : Below w3.heap.size w3 wm := by rw [HIB.out]; exact HBW.out
        have hrow : ∀ (v : Nat) (D : List Nat) (Dv : Value) (wx : World), v < n → D.length ≤ 1000000000 → MatAt wm wm.heap.size level cell epoch wx D Dv → Calls Tryz.prog 97 #[.int .i64 (v : Int), .pointer (some ⟨gx, 0, none⟩), .pointer (some ⟨ib + 1, 0, none⟩), .pointer (some ⟨gl, 0, none⟩), .pointer (some ⟨wm.heap.size, 0, none⟩)] wx fun e w' => e = .returned (.int .i64 0) ∧ ∃ Dv', MatAt wm wm.heap.size level cell epoch w' (D ++ rowOf (dOf n arcs (Q.inB row cell) v) (Q.bndOf arcs row cell)) Dv' := fun v D Dv wx hv hD hm' => by
          have hil : (Q.inB row cell).length = n := by unfold Q.inB; rw [List.length_map]; exact HRL.out
          have hBC := bools_C wm ib (Q.inB row cell) _ HA.out (by omega)
          have z0 : wm.cell? ⟨ib + 1, 0, none⟩ = some (.slice (some ⟨ib, 0, none⟩) (Q.inB row cell).length n) := by rw [cell_of_row _ _ 0 _ _ _ HBX.out, hil]; rfl
          have z12 : wm.cell? ⟨gl, 0, none⟩ = some (.slice A' (Q.bndOf arcs row cell).length (Q.bndOf arcs row cell).length) := by
            have h := (HBW.out.cell (p := ⟨gl, 0, none⟩) (by show gl < ib; omega)).trans L2.out
            rw [H2.out, H3.out] at h
            exact h
          exact row_any n arcs A c (Q.inB row cell) (some ⟨ib, 0, none⟩) n A' (Q.bndOf arcs row cell) gx (ib + 1) gl wm.heap.size level cell epoch v D Dv wm wx HG.out (Kd.C_below HR3.out hbw3) HC.out hBC (by omega) hil (Kd.C_below HPC.out hbw3) (by omega) HBIN.out hv rfl ((HBW.out.cell (p := ⟨gx, 0, none⟩) (by show gx < ib; omega)).trans D0.out) ((HBW.out.cell (p := ⟨gx, 1, none⟩) (by show gx < ib; omega)).trans D1.out) z0 z12 hD hm'
        have HROWC := Lib.hid hrow
        have HM5 : Hid (MatAt wm wm.heap.size level cell epoch (wm.alloc (.cells #[.int .i64 level, .int .i64 cell, .int .i64 epoch, .slice none 0 0] 37)) (matTo n arcs row cell 0) (.slice none 0 0)) := Lib.hid ⟨hm5, by rw [HMZ.out]; exact World.ownsRow_nil _ _ _ _, hb5⟩
        clear hrow hm5 hb5 hbw3
        go_wp2_with fail
        clear l5
        have hnl : n' = (Q.bndOf arcs row cell).length := H2.out
        have HNL := Lib.hid hnl
        generalize hgm : wm.heap.size = gm at *
        have HGMQ := Lib.hid hgm
        clear hnl hgm
        go_loopg [63] n' (fun gg s63 wq => ∃ (k : Nat) (Dv : Value), k ≤ n' ∧ n' - k ≤ gg ∧ s63 = .int .i64 k ∧ Hid (MatAt wm gm level cell epoch wq (matTo n arcs row cell k) Dv))
        case atStart => exact ⟨0, _, Nat.zero_le _, by omega, rfl, HM5⟩
        case round =>
          obtain ⟨k, Dv, hk1, hgg, rfl, HMA⟩ := hrel
          by_cases hlt : k < n'
          · have hltz : (k : Int) < (n' : Int) := by omega
            have hltb : k < (Q.bndOf arcs row cell).length := by rw [← HNL.out]; exact hlt
            have hwk : IntKind.i64.wrap ((k : Int) + 1) = ((k + 1 : Nat) : Int) := by rw [IntWalk.i64_in _ (by have := HNL.out; omega)]; omega
            have hbwm : Below w3.heap.size w3 wr := by rw [HIB.out]; exact HBW.out.trans (HMA.out.below.mono (by have := HGMQ.out; omega))
            obtain ⟨lad, hlad, x0⟩ := Q.int_cell (Kd.C_below HPC.out hbwm) k hltb
            subst hlad
            have hmem : (Q.bndOf arcs row cell).getD k 0 ∈ Q.bndOf arcs row cell := by rw [List.getD_eq_getElem?_getD, List.getElem?_eq_getElem hltb]; exact List.getElem_mem hltb
            obtain ⟨hv0, hv1⟩ := HBIN.out _ hmem
            obtain ⟨v, hv⟩ : ∃ v : Nat, (Q.bndOf arcs row cell).getD k 0 = (v : Int) := ⟨_, (Int.toNat_of_nonneg hv0).symm⟩
            have HST := Lib.hid (HMS.out k hltb)
            have hml := HML.out k
            have HCALL := Lib.hid (HROWC.out v (matTo n arcs row cell k) Dv wr (by omega) (by omega) HMA.out)
            rw [hv, Int.toNat_natCast] at HST
            rw [hv] at x0
            rw [← HST.out] at HCALL
            clear hltb hbwm hmem hv0 hv1 hv hml
            go_wp2_with ((with_reducible refine HCALL.out.mono ?_); rintro e wn ⟨rfl, Dv', hma'⟩; have HMA2 := Lib.hid hma'; clear hma')
            have HWK := Lib.hid hwk
            clear hwk
            go_roundg (n' - (k + 1))
            case measure => omega
            case rel => exact ⟨k + 1, Dv', by omega, Nat.le_refl _, rfl, HMA2⟩
          · have : k = n' := by omega
            subst this
            have hkz2 : ¬ (k : Int) < (k : Int) := by omega
            rw [HNL.out, HMT.out] at HMA
            obtain ⟨P9, m9, c9, rfl⟩ : ∃ P9 m9 c9, Dv = .slice P9 m9 c9 := by
              rcases HMA.out.row.2 with ⟨h, _⟩ | ⟨g, cap, cur, h, _⟩
              · exact ⟨_, _, _, h⟩
              · exact ⟨_, _, _, h⟩
            have hqs : gx + 2 < gm := by have := HGMQ.out; omega
            have hq9 : wr.heap[gx + 2]? = some (.cells #[.int .i64 0, .int .i64 0, .int .i64 0, .slice none 0 0] 37 (0, 0)) := (HMA.out.below.block (gx + 2) hqs).trans ((HBW.out.block (gx + 2) (by omega)).trans Q0.out)
            obtain ⟨x0, x1, x2, x3, xf⟩ := cells4 hq9
            obtain ⟨z0, z1, z2, z3, zf⟩ := cells4 HMA.out.box
            have HQ9 := Lib.hid hq9
            clear hq9
            go_wp2_with fail
            ((try simp only [Exit.inBlock, Exit.then]); refine bodyPost_ret (results_ct rfl _ _ (gx + 2) 37 #[.int .i64 level, .int .i64 cell, .int .i64 epoch, .slice P9 m9 c9] (0, 0) _ rfl (heap_set4 HQ9.out) Tryz.underlying37 rfl (by kernel_rfl)) rfl ?_)
            have hgx := HGX.out
            subst hgx
            refine ⟨_, by rw [HKE.out]; rfl, fun _ => ⟨_, rfl, ?_⟩, fun h => absurd HKE.out h, ?_⟩
            · rw [HLR.out]
              have h5 := own_lower (B := w.heap.size) HMA.out.row (by omega)
              refine row_stays h5 (fun j' hj' => ?_)
              have h6 := (HMA.out.row.lt j' hj').1
              have h7 : ∀ (wx : World) (o : Nat) (u : Value), (wx.setCell ⟨w.heap.size + 1 + 1, o, none⟩ u).heap[j']? = wx.heap[j']? := fun wx o u => heap_setCell_other wx ⟨w.heap.size + 1 + 1, o, none⟩ j' u (by show j' ≠ w.heap.size + 1 + 1; omega)
              rw [h7, h7, h7, h7]
            · exact below_set4 ((HB3.out.trans (HBW.out.mono (by omega))).trans (HMA.out.below.mono (by omega))) (by omega)
  · obtain ⟨x0, x1, x2, x3, xf⟩ := cells4 Q0.out
    go_wp2_with fail
    ((try simp only [Exit.inBlock, Exit.then]); refine bodyPost_ret (results_ct rfl _ _ (gx + 2) 37 #[.int .i64 0, .int .i64 0, .int .i64 0, .slice none 0 0] (0, 0) _ rfl (heap_set4 Q0.out) Tryz.underlying37 rfl (by kernel_rfl)) rfl ?_)
    have hgx := HGX.out
    subst hgx
    exact ⟨_, rfl, fun h => absurd h hke, fun _ => rfl, below_set4 HB3.out (by omega)⟩

end Go.Proofs.YtjddimoeodecgaaGreat

/- clique.Leaf. -/
namespace Go.Proofs.YtjddimoeodecgaaGreat
open Go.RowKit Go.Lib Go.Sort Go.Proofs.YtjddimoeodecgaaGreatW.PrintWords Go.Proofs.YtjddimoeodecgaaGreatW.PrintLast Go.Proofs.YtjddimoeodecgaaGreatW.PrintMore
set_option linter.unusedVariables false
set_option maxRecDepth 100000

theorem weighed_ok {N : Nat} {arcs : List Q.S95} (hg : Q.GOk N arcs) (inner ws : List Int) (hw : ∀ x ∈ ws, 0 ≤ x ∧ x < 4294967296) : Q.GOk N (Q.weighedOf arcs inner ws) := by
  have key : ∀ k, Q.GOk N (Q.weighTo arcs inner ws k) := by
    intro k
    induction k with
    | zero => exact hg
    | succ k ih =>
      refine ⟨ih.n1, ih.n2, ?_, ?_, ?_⟩
      · rw [Q.weighTo_len]; exact hg.m
      · intro a ha
        unfold Q.weighTo at ha
        rcases List.mem_or_eq_of_mem_set ha with h | h
        · exact ih.ends a h
        · subst h
          by_cases hl : (inner.getD k 0).toNat < (Q.weighTo arcs inner ws k).length
          · exact ih.ends ((Q.weighTo arcs inner ws k).getD (inner.getD k 0).toNat Q.z95) (by rw [List.getD_eq_getElem?_getD, List.getElem?_eq_getElem hl]; exact List.getElem_mem hl)
          · rw [List.set_eq_of_length_le (by omega)] at ha
            exact ih.ends _ ha
      · intro a ha
        unfold Q.weighTo at ha
        rcases List.mem_or_eq_of_mem_set ha with h | h
        · exact ih.wt a h
        · subst h
          show 0 ≤ ws.getD k 0 ∧ ws.getD k 0 < 4294967296
          by_cases hl : k < ws.length
          · exact hw _ (by rw [List.getD_eq_getElem?_getD, List.getElem?_eq_getElem hl]; exact List.getElem_mem hl)
          · rw [List.getD_eq_getElem?_getD, List.getElem?_eq_none (by omega)]
            simp
  exact key _
theorem inner_idx (arcs : List Q.S95) (cs : List Int) (c : Int) : ∀ i ∈ Q.innerOf arcs cs c, 0 ≤ i ∧ i < (arcs.length : Int) := by
  intro i hi
  unfold Q.innerOf Q.innerTo at hi
  obtain ⟨k, hk, rfl⟩ := List.mem_map.1 hi
  have := List.mem_range.1 (List.mem_filter.1 hk).1
  omega

/-- A matrix handed back, in the print's words. -/
def LeafV (B : Nat) (w : World) (r1 r2 r3 : Int) (r4 : List Int) (v : Value) : Prop := ∃ P m c, v = .agg #[.int .i64 r1, .int .i64 r2, .int .i64 r3, .slice P m c] ∧ w.ownsRow B 43 1 (.slice P m c) r4.length (r4.map (Value.int .u64))
theorem leafV_zero (B : Nat) (w : World) : LeafV B w 0 0 0 [] (.agg #[.int .i64 0, .int .i64 0, .int .i64 0, .slice none 0 0]) := ⟨_, _, _, rfl, World.ownsRow_nil _ _ _ _⟩
theorem leafV_mat {B : Nat} {w : World} {lv c ep : Int} {D : List Nat} {v : Value} (h : MatV B w lv c ep D v) : LeafV B w lv c ep (Q.natsI D) v := by
  obtain ⟨Dv, rfl, ho⟩ := h
  obtain ⟨P, m, c', rfl⟩ : ∃ P m c', Dv = .slice P m c' := by
    rcases ho.2 with ⟨h, _⟩ | ⟨g, cap, cur, h, _⟩
    · exact ⟨_, _, _, h⟩
    · exact ⟨_, _, _, h⟩
  refine ⟨P, m, c', rfl, ?_⟩
  have e : (Q.natsI D).map (Value.int .u64) = u64s D := by unfold Q.natsI u64s; rw [List.map_map]; rfl
  have e2 : (Q.natsI D).length = D.length := by unfold Q.natsI; rw [List.length_map]
  rw [e, e2]
  exact ho
theorem LeafV.kept {B B' : Nat} {w w' : World} {r1 r2 r3 : Int} {r4 : List Int} {v : Value} (h : LeafV B w r1 r2 r3 r4 v) (hB : B' ≤ B) (hk : ∀ j, B ≤ j → j < w.heap.size → w'.heap[j]? = w.heap[j]?) : LeafV B' w' r1 r2 r3 r4 v := by
  obtain ⟨P, m, c, h1, h2⟩ := h
  exact ⟨P, m, c, h1, own_lower (row_stays h2 (fun j hj => hk j (h2.lt j hj).1 (h2.lt j hj).2)) hB⟩

theorem Below.drewN_ {B : Nat} {w0 w : World} (h : RowKit.Below B w0 w) (k : Nat) : RowKit.Below B w0 (w.drewN k) := ⟨h.os, h.tape, h.output, h.size, h.block⟩

set_option maxHeartbeats 4000000 in
theorem leaf_any (N : Int) (arcs : List Q.S95) (A : Option Addr) (c : Nat) (BA : Option Addr) (bc : Nat) (bounds : List Int) (CA : Option Addr) (cc : Nat) (cells : List (List Int)) (cell epoch : Int) (WA : Option Addr) (wcp : Nat) (ws : List Int) (r1 r2 r3 : Int) (r4 : List Int) (r5 : Int) (w : World)
    (hr : Kd.C Q.k95 w A arcs.length arcs) (hc : arcs.length ≤ c) (hn : NestIn w BA bc bounds CA cc cells) (hw : Kd.C (Kd.int .u32) w WA ws.length ws)
    (h : Q.clique_Leaf.f N arcs bounds cells cell epoch ws = some (r1, r2, r3, r4, r5)) :
    Calls Tryz.prog 14 #[.agg #[.int .i64 N, .slice A arcs.length c], .agg #[.slice BA bounds.length bc, .slice CA cells.length cc], .int .i64 cell, .int .i64 epoch, .slice WA ws.length wcp] w fun e w' => ∃ v, e = .returned (.tuple #[v, .int .i64 r5]) ∧ LeafV w.heap.size w' r1 r2 r3 r4 v ∧ Below w.heap.size w w' := by
  unfold Q.clique_Leaf.f at h
  split at h
  rotate_left
  · cases h
  rename_i hfit
  obtain ⟨hf, hwf⟩ := hfit
  obtain ⟨c0, c1, n0, n1, r0, hsz, hb1⟩ := boxes224 w (.int .i64 N) (.slice A arcs.length c) (.slice BA bounds.length bc) (.slice CA cells.length cc) (.int .i64 0) (.int .i64 0) (.int .i64 0) (.slice none 0 0) 24 28 37
  have HCK : Hid (∀ wx : World, Below w.heap.size w wx → Calls Tryz.prog 28 #[.agg #[.int .i64 N, .slice A arcs.length c], .agg #[.slice BA bounds.length bc, .slice CA cells.length cc], .int .i64 1, .int .i64 cell] wx fun e w' => ∃ A' n' c', e = .returned (.tuple #[.slice A' n' c', .int .i64 (Q.cellE N arcs bounds cells 1 cell)]) ∧ (Q.cellE N arcs bounds cells 1 cell = 0 → CutV w' (Q.innerOf arcs (Q.levelRow cells 1) cell) (.slice A' n' c')) ∧ Below wx.heap.size wx w') :=
    Lib.hid (fun wx hb => inner_any N arcs A c BA bc bounds CA cc cells 1 cell w wx hb hf hr hc hn)
  have HOK : Hid (Q.cellE N arcs bounds cells 1 cell = 0 → 1 ≤ N ∧ Q.GOk N.toNat arcs) := Lib.hid (fun h => (Q.cellE_ok hf h).1)
  have HR := Lib.hid hr
  have HC := Lib.hid hc
  have HN := Lib.hid hn
  have HW := Lib.hid hw
  have HWF := Lib.hid hwf
  have H := Lib.hid h
  clear hf hwf hr hc hn hw h
  generalize hke : Q.cellE N arcs bounds cells 1 cell = ke at *
  have HKQ := Lib.hid hke
  clear hke
  go_enter Tryz.func14, Tryz.ntmps14
  go_upto_region 1 with fail
  generalize (((w.alloc (.cells #[.int .i64 N, .slice A arcs.length c] 24)).alloc (.cells #[.slice BA bounds.length bc, .slice CA cells.length cc] 28)).alloc (.cells #[.int .i64 0, .int .i64 0, .int .i64 0, .slice none 0 0] 37)) = w1 at *
  have HB1 := Lib.hid hb1
  have HCK1 := Lib.hid (HCK.out w1 hb1)
  have hs1 : w.heap.size + 3 ≤ w1.heap.size := by omega
  generalize hgx : w.heap.size = gx at *
  have HGX := Lib.hid hgx
  clear hb1 hsz HCK hgx
  go_upto_region 2 with (go_at_call 28; (with_reducible refine HCK1.out.mono ?_); rintro e w2 ⟨A', n', c', rfl, hcv, hb⟩; have HB := Lib.hid hb; have HCV := Lib.hid hcv; clear hb hcv)
  have hs2 : gx + 3 ≤ w2.heap.size := by have := HB.out.size; omega
  have d0 := (HB.out.cell (p := ⟨gx, 0, none⟩) (by show gx < w1.heap.size; omega)).trans c0
  have d1 := (HB.out.cell (p := ⟨gx, 1, none⟩) (by show gx < w1.heap.size; omega)).trans c1
  have m0 := (HB.out.cell (p := ⟨gx + 1, 0, none⟩) (by show gx + 1 < w1.heap.size; omega)).trans n0
  have m1 := (HB.out.cell (p := ⟨gx + 1, 1, none⟩) (by show gx + 1 < w1.heap.size; omega)).trans n1
  have q0 := (HB.out.block (gx + 2) (by omega)).trans r0
  have Q0 := Lib.hid q0
  have HB2 := Lib.hid (HB1.out.trans (HB.out.mono (by omega)))
  obtain ⟨x0, x1, x2, x3, xf⟩ := cells4 Q0.out
  clear c0 c1 n0 n1 r0 q0 HCK1 HB HB1
  by_cases hke : ke = 0
  · have H1 := H.out
    rw [if_pos hke] at H1
    by_cases hep : 0 ≤ epoch ∧ epoch ≤ 1073741824
    · rw [if_pos hep] at H1
      have HEP : Hid (∀ wx : World, Calls Tryz.prog 52 #[.int .i64 epoch] wx fun e w' => e = .returned (.bool true) ∧ Drawn0 wx w') := Lib.hid (fun wx => Q.clique_epochs.calls epoch true wx (by unfold Q.clique_epochs.f; rw [if_pos hep.1, decide_eq_true hep.2]))
      obtain ⟨P, hv, hPC⟩ := HCV.out hke
      simp only [Value.slice.injEq] at hv
      obtain ⟨h1, h2, h3⟩ := hv
      subst h1
      have hil : (Q.innerOf arcs (Q.levelRow cells 1) cell).length ≤ arcs.length := Q.inner_len arcs (Q.levelRow cells 1) cell arcs.length
      by_cases hwl : ws.length = (Q.innerOf arcs (Q.levelRow cells 1) cell).length
      · rw [if_pos hwl] at H1
        obtain ⟨hN1, hG⟩ := HOK.out hke
        obtain ⟨n, rfl⟩ : ∃ n : Nat, N = (n : Int) := ⟨N.toNat, (Int.toNat_of_nonneg (by omega)).symm⟩
        rw [Int.toNat_natCast] at hG
        have hWG := weighed_ok hG (Q.innerOf arcs (Q.levelRow cells 1) cell) ws HWF.out
        have hsw := Q.cellE_swap hG hWG bounds cells 1 cell
        unfold Q.clique_within.f at H1
        rw [if_pos hWG.fit, hsw, HKQ.out, if_pos hke, Int.toNat_natCast] at H1
        injection H1 with H1
        simp only [Prod.mk.injEq] at H1
        obtain ⟨rfl, rfl, rfl, rfl, rfl⟩ := H1
        have hwln : (Q.weighedOf arcs (Q.innerOf arcs (Q.levelRow cells 1) cell) ws).length = arcs.length := Q.weighTo_len _ _ _ _
        have hmm := hG.m
        have hbw2 : Below w.heap.size w w2 := by rw [HGX.out]; exact HB2.out
        have HWG : Hid (∀ wx : World, Below w2.heap.size w2 wx → Calls Tryz.prog 54 #[.agg #[.int .i64 (n : Int), .slice A arcs.length c], .slice A' n' c', .slice WA ws.length wcp] wx fun e w' => ∃ P cap, e = .returned (.agg #[.int .i64 (n : Int), .slice P arcs.length cap]) ∧ arcs.length ≤ cap ∧ ArcsP wx.heap.size w' P (Q.weighedOf arcs (Q.innerOf arcs (Q.levelRow cells 1) cell) ws) ∧ Below wx.heap.size wx w') := Lib.hid (fun wx hb => by
          rw [h2]
          exact weighed_any n arcs A c A' c' (Q.innerOf arcs (Q.levelRow cells 1) cell) WA wcp ws wx (Kd.C_below (Kd.C_below HR.out hbw2) hb) hmm (Kd.C_below hPC hb) (Kd.C_below (Kd.C_below HW.out hbw2) hb) hwl (by omega) (inner_idx arcs (Q.levelRow cells 1) cell))
        have HMX : Hid (∀ (P : Option Addr) (cap : Nat) (wx : World), Below w2.heap.size w2 wx → ArcsP w2.heap.size wx P (Q.weighedOf arcs (Q.innerOf arcs (Q.levelRow cells 1) cell) ws) → arcs.length ≤ cap → Calls Tryz.prog 53 #[.agg #[.int .i64 (n : Int), .slice P arcs.length cap], .agg #[.slice BA bounds.length bc, .slice CA cells.length cc], .int .i64 1, .int .i64 cell, .int .i64 epoch] wx fun e w' => ∃ P' m' c2, e = .returned (.tuple #[.agg #[.int .i64 1, .int .i64 cell, .int .i64 epoch, .slice P' m' c2], .int .i64 0]) ∧ w'.ownsRow wx.heap.size 43 1 (.slice P' m' c2) (Q.natsI (Q.matOf n (Q.weighedOf arcs (Q.innerOf arcs (Q.levelRow cells 1) cell) ws) (Q.levelRow cells 1) cell)).length ((Q.natsI (Q.matOf n (Q.weighedOf arcs (Q.innerOf arcs (Q.levelRow cells 1) cell) ws) (Q.levelRow cells 1) cell)).map (Value.int .u64)) ∧ Below wx.heap.size wx w') := Lib.hid (fun P cap wx hb hap hcap => by
          have hC : Kd.C Q.k95 wx P (Q.weighedOf arcs (Q.innerOf arcs (Q.levelRow cells 1) cell) ws).length (Q.weighedOf arcs (Q.innerOf arcs (Q.levelRow cells 1) cell) ws) := by
            rcases hap with he | ⟨g, rfl, hat, _, _⟩
            · rw [he]; exact arcs_C_nil _ _
            · exact hat.c (by rw [hwln]; omega)
          have hmx := matrix_any (n : Int) (Q.weighedOf arcs (Q.innerOf arcs (Q.levelRow cells 1) cell) ws) P cap BA bc bounds CA cc cells 1 cell epoch wx wx (Below.refl _ _) hWG.fit hC (by rw [hwln]; exact hcap) ((HN.out.below hbw2).below hb)
          rw [hwln] at hmx
          refine hmx.mono ?_
          rintro e w' ⟨v, he, h4, _, h6⟩
          rw [hsw, HKQ.out, hke] at he h4
          obtain ⟨P', m', c2, h7, h8⟩ := leafV_mat (h4 rfl)
          rw [h7] at he
          rw [Int.toNat_natCast] at h8
          exact ⟨P', m', c2, he, h8, h6⟩)
        have hwz : (ws.length : Int) = (n' : Int) := by omega
        have hwz2 : ws.length = n' := by omega
        generalize hDQ : Q.natsI (Q.matOf n (Q.weighedOf arcs (Q.innerOf arcs (Q.levelRow cells 1) cell) ws) (Q.levelRow cells 1) cell) = D at *
        have HDQ := Lib.hid hDQ
        clear hDQ
        generalize hWA : Q.weighedOf arcs (Q.innerOf arcs (Q.levelRow cells 1) cell) ws = warcs at *
        have HWA := Lib.hid hWA
        clear hWA
        have HWZ := Lib.hid hwz2
        clear hN1 hG hWG hsw hmm hbw2 hPC hwl hil h2 h3 hwln H HOK HCV hwz2
        go_upto_region 8 with (go_at_call 52; (with_reducible refine (HEP.out _).mono ?_); rintro e w3 ⟨rfl, nd, rfl⟩)
        clear hwz
        have k0 : (w2.drewN nd).cell? ⟨gx, 0, none⟩ = some (.int .i64 (n : Int)) := d0
        have k1 : (w2.drewN nd).cell? ⟨gx, 1, none⟩ = some (.slice A arcs.length c) := d1
        have k2 : (w2.drewN nd).cell? ⟨gx + 1, 0, none⟩ = some (.slice BA bounds.length bc) := m0
        have k3 : (w2.drewN nd).cell? ⟨gx + 1, 1, none⟩ = some (.slice CA cells.length cc) := m1
        have q3 : (w2.drewN nd).heap[gx + 1 + 1]? = some (.cells #[.int .i64 0, .int .i64 0, .int .i64 0, .slice none 0 0] 37 (0, 0)) := Q0.out
        have hb3 : Below w2.heap.size w2 (w2.drewN nd) := Below.drewN_ (Below.refl _ _) nd
        have hs3 : w2.heap.size = (w2.drewN nd).heap.size := rfl
        generalize (w2.drewN nd) = w3 at *
        have Q3 := Lib.hid q3
        have HB3 := Lib.hid hb3
        have HBG3 : Hid (Below gx w w3) := Lib.hid (HB2.out.trans (hb3.mono (by omega)))
        clear d0 d1 m0 m1 x0 x1 x2 x3 xf q3 hb3
        generalize hg3 : gx + 1 + 1 = g3 at *
        have HG3 := Lib.hid hg3
        clear hg3
        generalize hg2 : w2.heap.size = g2 at *
        clear hg2
        go_region_held3 (fun w' => w'.cell? ⟨gx, 0, none⟩ = some (.int .i64 (n : Int)) ∧ w'.cell? ⟨gx, 1, none⟩ = some (.slice A arcs.length c) ∧ w'.cell? ⟨gx + 1, 0, none⟩ = some (.slice BA bounds.length bc) ∧ w'.cell? ⟨gx + 1, 1, none⟩ = some (.slice CA cells.length cc)) (first | (refine ⟨?_, ?_, ?_, ?_⟩ <;> (repeat (first | (with_reducible assumption) | rw [World.cell?_setCell_other (h := by have := HG3.out; first | (simp; done) | (simp; omega))] | rw [drew_cell_all] | rw [hbI.cell (by first | omega | (simp; done) | (simp; omega))] | rw [hbG.cell (by first | omega | (simp; done) | (simp; omega))]))) | (go_keep; done))
          (first
            | (go_at_call 54; (with_reducible refine (HWG.out _ ?hra).mono ?_); (case hra => repeat (first | exact HB3.out | refine Below.drew ?_)); rintro e wG ⟨P, cap, rfl, hcap, hap, hbG⟩; have sG := hbG.size; (try simp at sG))
            | (go_at_call 53; (with_reducible refine (HMX.out P cap _ ?hra ?hrb hcap).mono ?_); (case hra => repeat (first | exact HB3.out | refine Below.trans ?_ (hbG.mono (by first | omega | (simp; done) | (simp; omega))) | refine Below.drew ?_)); (case hrb => exact hap.kept (by first | omega | (simp; done) | (simp; omega)) (by first | exact Nat.le_refl _ | (simp; done)) (fun _ _ _ => rfl)); rintro e wI ⟨P', m', c2, rfl, hown, hbI⟩; have sI := hbI.size; (try simp at sI); have qI : wI.heap[g3]? = some (.cells #[.int .i64 0, .int .i64 0, .int .i64 0, .slice none 0 0] 37 (0, 0)) := ((hbI.block g3 (by have := HG3.out; first | omega | (simp; omega))).trans (hbG.block g3 (by have := HG3.out; first | omega | (simp; omega)))).trans Q3.out; obtain ⟨x0, x1, x2, x3, xf⟩ := cells4 qI))
        all_goals
          go_wp2_with fail
          ((try simp only [Exit.inBlock, Exit.then]); refine bodyPost_ret (results_ct rfl _ _ g3 37 #[.int .i64 1, .int .i64 cell, .int .i64 epoch, .slice P' m' c2] (0, 0) _ rfl (heap_set4 qI) Tryz.underlying37 rfl (by kernel_rfl)) rfl ?_)
          have hgx := HGX.out
          have hg3 := HG3.out
          have sB := HBG3.out.size
          have hbT : Below w.heap.size w wI := by
            rw [hgx]
            exact ((HBG3.out.drew).trans (hbG.mono (by first | omega | (simp; omega)))).trans (hbI.mono (by first | omega | (simp; omega)))
          refine ⟨_, rfl, ⟨P', m', c2, rfl, ?_⟩, below_set4 hbT (by omega)⟩
          rw [HWA.out, HDQ.out]
          refine own_lower (row_stays hown (fun j' hj' => ?_)) ?_
          rotate_left
          · first | omega | (simp; omega)
          have h6 := (hown.lt j' hj').1
          have h7 : ∀ (wx : World) (o : Nat) (u : Value), (wx.setCell ⟨g3, o, none⟩ u).heap[j']? = wx.heap[j']? := fun wx o u => heap_setCell_other wx ⟨g3, o, none⟩ j' u (by show j' ≠ g3; first | omega | (simp at h6; omega))
          rw [h7, h7, h7, h7]
      · rw [if_neg hwl] at H1
        injection H1 with H1
        simp only [Prod.mk.injEq] at H1
        obtain ⟨rfl, rfl, rfl, rfl, rfl⟩ := H1
        have hwz : ¬ (ws.length : Int) = (n' : Int) := by omega
        clear h2 h3 hwl hPC
        go_wp2_with (go_at_call 52; (with_reducible refine (HEP.out _).mono ?_); rintro e w3 ⟨rfl, nd, rfl⟩)
        ((try simp only [Exit.inBlock, Exit.then]); refine bodyPost_ret (results_ct rfl _ _ (gx + 2) 37 #[.int .i64 0, .int .i64 0, .int .i64 0, .slice none 0 0] (0, 0) _ rfl (heap_set4 (w := w2.drewN nd) Q0.out) Tryz.underlying37 rfl (by kernel_rfl)) rfl ?_)
        have hgx := HGX.out
        subst hgx
        exact ⟨_, rfl, leafV_zero _ _, below_set4 (Below.drewN_ HB2.out nd) (by omega)⟩
    · rw [if_neg hep] at H1
      injection H1 with H1
      simp only [Prod.mk.injEq] at H1
      obtain ⟨rfl, rfl, rfl, rfl, rfl⟩ := H1
      have HEP : Hid (∀ wx : World, Calls Tryz.prog 52 #[.int .i64 epoch] wx fun e w' => e = .returned (.bool false) ∧ Drawn0 wx w') := Lib.hid (fun wx => Q.clique_epochs.calls epoch false wx (by
        unfold Q.clique_epochs.f
        split
        · rw [decide_eq_false (by omega)]
        · rfl))
      clear hep
      go_wp2_with (go_at_call 52; (with_reducible refine (HEP.out _).mono ?_); rintro e w3 ⟨rfl, nd, rfl⟩)
      ((try simp only [Exit.inBlock, Exit.then]); refine bodyPost_ret (results_ct rfl _ _ (gx + 2) 37 #[.int .i64 0, .int .i64 0, .int .i64 0, .slice none 0 0] (0, 0) _ rfl (heap_set4 (w := w2.drewN nd) Q0.out) Tryz.underlying37 rfl (by kernel_rfl)) rfl ?_)
      have hgx := HGX.out
      subst hgx
      exact ⟨_, rfl, leafV_zero _ _, below_set4 (Below.drewN_ HB2.out nd) (by omega)⟩
  · have H1 := H.out
    rw [if_neg hke] at H1
    injection H1 with H1
    simp only [Prod.mk.injEq] at H1
    obtain ⟨rfl, rfl, rfl, rfl, rfl⟩ := H1
    go_wp2_with fail
    ((try simp only [Exit.inBlock, Exit.then]); refine bodyPost_ret (results_ct rfl _ _ (gx + 2) 37 #[.int .i64 0, .int .i64 0, .int .i64 0, .slice none 0 0] (0, 0) _ rfl (heap_set4 Q0.out) Tryz.underlying37 rfl (by kernel_rfl)) rfl ?_)
    have hgx := HGX.out
    subst hgx
    exact ⟨_, rfl, leafV_zero _ _, below_set4 HB2.out (by omega)⟩

end Go.Proofs.YtjddimoeodecgaaGreat

/- clique.Leaf, in the print's form. -/
namespace Go.Proofs.YtjddimoeodecgaaGreat.Q
open Go.RowKit Go.Proofs.YtjddimoeodecgaaGreat Go.Proofs.YtjddimoeodecgaaGreatW.PrintWords Go.Proofs.YtjddimoeodecgaaGreatW.PrintLast
set_option linter.unusedVariables false
set_option maxRecDepth 100000

end Go.Proofs.YtjddimoeodecgaaGreat.Q

/- With weights that are no less no distance is less (plain); the example. -/
namespace Go.Proofs.YtjddimoeodecgaaGreat
open Go.RowKit Go.Proofs.YtjddimoeodecgaaGreatW.PrintWords Go.Proofs.YtjddimoeodecgaaGreatW.PrintLast
set_option linter.unusedVariables false
set_option maxRecDepth 100000

theorem dOf_spec {N : Nat} {arcs : List Q.S95} (hg : Q.GOk N arcs) (l : List Bool) (s : Nat) (hs : s < N) : InSol N arcs l s (dOf N arcs l s) := by
  have hx : ∃ d, InSol N arcs l s d := by
    unfold InSol
    by_cases h : l.getD s false = true
    · obtain ⟨L, _, hO⟩ := Q.outs_f false N arcs hg
      obtain ⟨n, fin, _, hsol⟩ := sol_any false hg (inMay arcs l) s hs hO
      exact ⟨fin.d, by rw [if_pos h]; exact hsol⟩
    · exact ⟨_, by rw [if_neg h]⟩
  unfold dOf
  rw [dif_pos hx]
  exact Classical.choose_spec hx

/-- Arcs of one shape, the second ones no lighter. -/
structure Heavier (a b : List Q.S95) : Prop where
  len : a.length = b.length
  f0 : ∀ i, (a.getD i Q.z95).f0 = (b.getD i Q.z95).f0
  f1 : ∀ i, (a.getD i Q.z95).f1 = (b.getD i Q.z95).f1
  f2 : ∀ i, (a.getD i Q.z95).f2.toNat ≤ (b.getD i Q.z95).f2.toNat
theorem Heavier.hd {a b : List Q.S95} (h : Heavier a b) (i : Nat) : Q.hd false (a.getD i Q.z95) = Q.hd false (b.getD i Q.z95) := by unfold Q.hd; rw [h.f0, h.f1]
theorem Heavier.tl {a b : List Q.S95} (h : Heavier a b) (i : Nat) : Q.tl false (a.getD i Q.z95) = Q.tl false (b.getD i Q.z95) := by unfold Q.tl; rw [h.f0, h.f1]

/-- Member by member no greater. -/
inductive LeL : List Nat → List Nat → Prop
  | nil : LeL [] []
  | cons {x y : Nat} {xs ys : List Nat} : x ≤ y → LeL xs ys → LeL (x :: xs) (y :: ys)
theorem LeL.all {xs ys : List Nat} (h : LeL xs ys) : xs.length = ys.length ∧ ∀ i : Nat, xs.getD i 0 ≤ ys.getD i 0 := by
  induction h with
  | nil => exact ⟨rfl, fun _ => Nat.le_refl _⟩
  | cons hx _ ih =>
    refine ⟨by simp [ih.1], fun i => ?_⟩
    cases i with
    | zero => simpa using hx
    | succ i => simpa using ih.2 i

theorem LeL.append {xs ys us vs : List Nat} (h : LeL xs ys) (k : LeL us vs) : LeL (xs ++ us) (ys ++ vs) := by
  induction h with
  | nil => exact k
  | cons hx _ ih => exact .cons hx ih

namespace Q
theorem within_f {a0 : Int} {arcs : List S95} {bounds : List Int} {cells : List (List Int)} {level c epoch : Int} (hf : ArcsFit arcs) :
    clique_within.f a0 arcs bounds cells level c epoch = if cellE a0 arcs bounds cells level c = 0 then some (level, c, epoch, natsI (matOf a0.toNat arcs (levelRow cells level) c), 0) else some (0, 0, 0, [], cellE a0 arcs bounds cells level c) := by
  unfold clique_within.f
  rw [if_pos hf]
end Q

end Go.Proofs.YtjddimoeodecgaaGreat
