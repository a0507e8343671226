/- What cell.Boundary and cell.Inner list (plain). -/
import Derived.Test.YtjddimoeodecgaaGreatXG09
import Derived.Sort.OwnSortedInts
namespace Go.Proofs.YtjddimoeodecgaaGreat.Q
open Go.RowKit Go.Proofs.YtjddimoeodecgaaGreatW.PrintWords Go.Proofs.YtjddimoeodecgaaGreatW.PrintLast
set_option linter.unusedVariables false
set_option maxRecDepth 100000

/-- The cells at an arc's ends. -/
def cellF (cs : List Int) (a : S95) : Int := cs.getD a.f0.toNat 0
def cellT (cs : List Int) (a : S95) : Int := cs.getD a.f1.toNat 0
/-- An arc's ends that lie in a cell, when it leaves or enters. -/
def endsOf (cs : List Int) (cell : Int) (a : S95) : List Int :=
  if cellF cs a = cellT cs a then [] else (if cellF cs a = cell then [a.f0] else []) ++ (if cellT cs a = cell then [a.f1] else [])
def edgeOf (arcs : List S95) (cs : List Int) (cell : Int) : List Int := arcs.flatMap (endsOf cs cell)
/-- A cell's boundary. -/
def bndOf (arcs : List S95) (cs : List Int) (cell : Int) : List Int := Lib.compact ((edgeOf arcs cs cell).mergeSort (fun x y => decide (x ≤ y)))
/-- Whether an arc lies inside a cell; which ones do. -/
def insideB (cs : List Int) (cell : Int) (a : S95) : Bool := decide (cellF cs a = cell) && decide (cellT cs a = cell)
def innerTo (arcs : List S95) (cs : List Int) (cell : Int) (i : Nat) : List Int := ((List.range i).filter (fun k => insideB cs cell (arcs.getD k z95))).map (fun k : Nat => (k : Int))
def innerOf (arcs : List S95) (cs : List Int) (cell : Int) : List Int := innerTo arcs cs cell arcs.length

theorem edge_step (arcs : List S95) (cs : List Int) (cell : Int) (i : Nat) (hi : i < arcs.length) : edgeOf (arcs.take (i + 1)) cs cell = edgeOf (arcs.take i) cs cell ++ endsOf cs cell (arcs.getD i z95) := by
  unfold edgeOf
  rw [List.take_add_one, List.flatMap_append, List.getD_eq_getElem?_getD, List.getElem?_eq_getElem hi]
  simp
theorem ends_len (cs : List Int) (cell : Int) (a : S95) : (endsOf cs cell a).length ≤ 2 := by
  unfold endsOf
  split
  · simp
  · rw [List.length_append]
    have h1 : (if cellF cs a = cell then [a.f0] else []).length ≤ 1 := by split <;> simp
    have h2 : (if cellT cs a = cell then [a.f1] else []).length ≤ 1 := by split <;> simp
    omega
theorem edge_len (arcs : List S95) (cs : List Int) (cell : Int) : (edgeOf arcs cs cell).length ≤ 2 * arcs.length := by
  unfold edgeOf
  induction arcs with
  | nil => simp
  | cons a r ih =>
    have := ends_len cs cell a
    simp only [List.flatMap_cons, List.length_append, List.length_cons]
    omega
theorem inner_len (arcs : List S95) (cs : List Int) (cell : Int) (i : Nat) : (innerTo arcs cs cell i).length ≤ i := by
  unfold innerTo
  rw [List.length_map]
  exact Nat.le_trans (List.length_filter_le _ _) (by simp)
theorem bnd_len (arcs : List S95) (cs : List Int) (cell : Int) : (bndOf arcs cs cell).length ≤ 2 * arcs.length := by
  unfold bndOf
  have h := Lib.compact_length_le ((edgeOf arcs cs cell).mergeSort (fun x y => decide (x ≤ y)))
  rw [List.length_mergeSort] at h
  have := edge_len arcs cs cell
  omega

/-- A row of numbers, from its cells. -/
theorem ints_C (w : World) (b : Nat) (l : List Int) (h : ∀ j, j < l.length → w.cell? ⟨b, j, none⟩ = some (.int .i64 (l.getD j 0))) (hl : l.length ≤ 1000000) : Kd.C (Kd.int .i64) w (some ⟨b, 0, none⟩) l.length l := by
  refine ⟨rfl, by omega, fun _ => ⟨_, rfl, fun j p hj => ?_⟩⟩
  have hjl : j < l.length := by
    rcases Nat.lt_or_ge j l.length with h' | h'
    · exact h'
    · rw [List.getElem?_eq_none h'] at hj; cases hj
  refine ⟨[.int .i64 p], rfl, rfl, fun i u hu => ?_⟩
  match i, hu with
  | 0, hu =>
    simp at hu
    subst hu
    have h1 := h j hjl
    rw [List.getD_eq_getElem?_getD, hj] at h1
    have e : ((⟨b, 0, none⟩ : Addr).add (j * (Kd.int .i64).sz + 0)) = ⟨b, j, none⟩ := by
      rw [Nat.add_zero, show (Kd.int .i64).sz = 1 from rfl, Nat.mul_one]
      unfold Addr.add
      split <;> simp_all
    rw [e]
    exact h1
theorem ints_C_nil (w : World) (A : Option Addr) : Kd.C (Kd.int .i64) w A ([] : List Int).length [] := ⟨rfl, by simp, fun h => by simp at h⟩

end Go.Proofs.YtjddimoeodecgaaGreat.Q

/- cell.looked, cell.cut. -/
namespace Go.Proofs.YtjddimoeodecgaaGreat
open Go.RowKit Go.Lib Go.Sort Go.Proofs.YtjddimoeodecgaaGreatW.PrintWords Go.Proofs.YtjddimoeodecgaaGreatW.PrintLast Go.Proofs.YtjddimoeodecgaaGreatW.PrintMore
set_option linter.unusedVariables false
set_option maxRecDepth 100000

/-- A level's row of labels, as a value. -/
def RowV (w : World) (cells : List (List Int)) (level : Int) (v : Value) : Prop :=
  ∃ (j : Nat) (RA : Option Addr) (rc : Nat), level = ((j + 1 : Nat) : Int) ∧ j < cells.length ∧ v = .slice RA (cells.getD j []).length rc ∧ (cells.getD j []).length ≤ rc ∧ Kd.C (Kd.int .i64) w RA (cells.getD j []).length (cells.getD j [])

set_option maxHeartbeats 2000000 in
theorem cellLooked_any (N : Int) (arcs : List Q.S95) (A : Option Addr) (c : Nat) (BA : Option Addr) (bc : Nat) (bounds : List Int) (CA : Option Addr) (cc : Nat) (cells : List (List Int)) (level cell : Int) (w0 w : World) (hb0 : Below w0.heap.size w0 w) (hf : Q.ArcsFit arcs) (hr : Kd.C Q.k95 w0 A arcs.length arcs) (hc : arcs.length ≤ c) (hn : NestIn w0 BA bc bounds CA cc cells) :
    Calls Tryz.prog 60 #[.agg #[.int .i64 N, .slice A arcs.length c], .agg #[.slice BA bounds.length bc, .slice CA cells.length cc], .int .i64 level, .int .i64 cell] w fun e w' => ∃ A' n' c', e = .returned (.tuple #[.slice A' n' c', .int .i64 (Q.cellE N arcs bounds cells level cell)]) ∧ (Q.cellE N arcs bounds cells level cell = 0 → RowV w0 cells level (.slice A' n' c')) ∧ Below w.heap.size w w' := by
  obtain ⟨c0, c1, n0, n1, hsz, hb1⟩ := two_boxes w (.int .i64 N) (.slice A arcs.length c) (.slice BA bounds.length bc) (.slice CA cells.length cc) 24 28
  have HCK : Hid (∀ wx : World, Below w.heap.size w wx → Calls Tryz.prog 59 #[.agg #[.int .i64 N, .slice A arcs.length c], .agg #[.slice BA bounds.length bc, .slice CA cells.length cc], .int .i64 level, .int .i64 cell] wx fun e w' => ∃ v, e = .returned (.tuple #[v, .int .i64 (Q.cellE N arcs bounds cells level cell)]) ∧ Below wx.heap.size wx w') :=
    Lib.hid (fun wx hb => members_any N arcs A c BA bc bounds CA cc cells level cell w0 wx (hb0.trans (hb.mono hb0.size)) hf hr hc hn)
  have HOK : Hid (Q.cellE N arcs bounds cells level cell = 0 → Q.NestOk N.toNat bounds cells ∧ 1 ≤ level ∧ level ≤ bounds.length) := Lib.hid (fun h => ⟨(Q.cellE_ok hf h).2.1, (Q.cellE_ok hf h).2.2.1⟩)
  have HB0 := Lib.hid hb0
  have HN := Lib.hid hn
  clear hf hr hc hn hb0
  generalize Q.cellE N arcs bounds cells level cell = ke at *
  go_enter Tryz.func60, Tryz.ntmps60
  go_upto_region 1 with fail
  generalize ((w.alloc (.cells #[.int .i64 N, .slice A arcs.length c] 24)).alloc (.cells #[.slice BA bounds.length bc, .slice CA cells.length cc] 28)) = w1 at *
  have HB1 := Lib.hid hb1
  have HCK1 := Lib.hid (HCK.out w1 hb1)
  have hs1 : w.heap.size + 2 ≤ w1.heap.size := by omega
  generalize hgx : w.heap.size = gx at *
  have HGX := Lib.hid hgx
  clear hb1 hsz HCK hgx
  go_upto_region 2 with (go_at_call 59; (with_reducible refine HCK1.out.mono ?_); rintro e w2 ⟨v, rfl, hb⟩; have HB := Lib.hid hb; clear hb)
  have m1 := (HB.out.cell (p := ⟨gx + 1, 1, none⟩) (by show gx + 1 < w1.heap.size; omega)).trans n1
  have HB2 := Lib.hid (HB1.out.trans (HB.out.mono (by omega)))
  clear c0 c1 n0 n1 HCK1 HB HB1
  by_cases hke : ke = 0
  · obtain ⟨hNest, hl1, hl2⟩ := HOK.out hke
    obtain ⟨j, hj⟩ : ∃ j : Nat, level = ((j + 1 : Nat) : Int) := ⟨(level - 1).toNat, by omega⟩
    have hlen := hNest.len
    have hb5 := hNest.b5
    have hjc : j < cells.length := by omega
    have hbw : Below w0.heap.size w0 w2 := HB0.out.trans (HB2.out.mono (by have := HB0.out.size; have := HGX.out; omega))
    obtain ⟨cad, RA, rc, rfl, y00, hrc, hRow⟩ := HN.out.row j hjc
    have y0 := (hbw.cell (p := cad.add j) (World.block_lt_of_cell? w0 _ y00)).trans y00
    have hws : IntKind.i64.wrap (level - 1) = (j : Int) := by rw [IntWalk.i64_in _ (by omega)]; omega
    have hjz : (j : Int) < (cells.length : Int) := by omega
    have HKE := Lib.hid hke
    have HRV : Hid (RowV w0 cells level (.slice RA (cells.getD j []).length rc)) := Lib.hid ⟨j, RA, rc, hj, hjc, rfl, hrc, hRow⟩
    clear hNest hlen hb5 hjc hbw hrc hRow y00 hj hl1 hl2
    generalize cells.getD j [] = row at *
    go_wp2_with fail
    go_ret2
    have hgx := HGX.out
    subst hgx
    exact ⟨_, _, _, by rw [HKE.out]; rfl, fun _ => HRV.out, HB2.out⟩
  · go_wp2_with fail
    go_ret2
    have hgx := HGX.out
    subst hgx
    exact ⟨_, _, _, rfl, fun h => absurd h hke, HB2.out⟩

theorem cut_any (b m cap : Nat) (w : World) (hm : m ≤ cap) :
    Calls Tryz.prog 62 #[.slice (some ⟨b, 0, none⟩) m cap] w fun e w' => e = .returned (.slice (some ⟨b, 0, none⟩) m m) ∧ w = w' := by
  have h0 : ¬ (cap : Int) < (m : Int) := by omega
  go_enter Tryz.func62, Tryz.ntmps62
  go_wp2_with fail
  go_ret
  exact ⟨rfl, rfl⟩
theorem cut_nil (w : World) :
    Calls Tryz.prog 62 #[.slice none 0 0] w fun e w' => e = .returned (.slice none 0 0) ∧ w = w' := by
  go_enter Tryz.func62, Tryz.ntmps62
  go_wp2_with fail
  go_ret
  exact ⟨rfl, rfl⟩

end Go.Proofs.YtjddimoeodecgaaGreat

/- cell.Boundary. -/
namespace Go.Proofs.YtjddimoeodecgaaGreat
open Go.RowKit Go.Lib Go.Sort Go.Proofs.YtjddimoeodecgaaGreatW.PrintWords Go.Proofs.YtjddimoeodecgaaGreatW.PrintLast Go.Proofs.YtjddimoeodecgaaGreatW.PrintMore
set_option linter.unusedVariables false
set_option maxRecDepth 100000

/-- Numbers that lie where a slice points that has no room. -/
def CutV (w : World) (l : List Int) (v : Value) : Prop := ∃ P, v = .slice P l.length l.length ∧ Kd.C (Kd.int .i64) w P l.length l

theorem intInfo : (Tryz.prog.info? 3).map (fun i => (i.zero, i.size, i.bytes)) = some (some (.int .i64 0), 1, 8) := by kernel_rfl

/-- Sorted, without doubles, cut. -/
theorem compact_cut (b cap : Nat) (zs : List Int) (w : World) (hH : Holds (Value.int .i64) w b 0 zs.toArray) (hb : b < w.heap.size) (hz : zs.length ≤ 1000000) (hcap : zs.length ≤ cap) :
    Calls Tryz.prog 63 #[.slice (some ⟨b, 0, none⟩) zs.length cap] w fun e w' => e = .returned (.slice (some ⟨b, 0, none⟩) (Lib.compact zs).length cap) ∧ (Lib.compact zs).length ≤ cap ∧ Kd.C (Kd.int .i64) w' (some ⟨b, 0, none⟩) (Lib.compact zs).length (Lib.compact zs) ∧ Below b w w' := by
  have hcell : ∀ j, j < zs.length → w.cell? ⟨b, 0 + j, none⟩ = some (.int .i64 (zs.getD j 0)) := fun j hj => by
    have h := (hH j (by simpa using hj)).1
    rw [h]
    simp [hj]
  have hfr : ∀ j, j < zs.length → w.frozen? ⟨b, 0 + j, none⟩ = false := fun j hj => (hH j (by simpa using hj)).2
  have h := Tryz.slices_Compact_int_cells b 0 zs.length cap zs w (Nat.le_refl _) (by omega) hcap hcell hfr
  rw [List.take_length] at h
  have hle := Lib.compact_length_le zs
  refine h.mono ?_
  rintro e w' ⟨rfl, q, rfl⟩
  refine ⟨rfl, by omega, Q.ints_C _ _ _ (fun j hj => ?_) (by omega), ?_⟩
  · have hjj : j < ((Lib.compact zs ++ List.replicate (zs.length - (Lib.compact zs).length) 0).map (Value.int .i64)).length := by simp; omega
    have h2 := World.cell?_setCells_in b ((Lib.compact zs ++ List.replicate (zs.length - (Lib.compact zs).length) 0).map (Value.int .i64)) 0 (w.drewN q) (fun i hi => by
      have hi' : i < zs.length := by simp at hi; omega
      have := hcell i hi'
      show (w.cell? ⟨b, 0 + i, none⟩).isSome = true
      rw [this]; rfl) j hjj
    rw [Nat.zero_add] at h2
    rw [h2]
    simp [hj]
  · have key : ∀ (vs : List Value) (o : Nat) (wx : World), Below b w wx → Below b w (wx.setCells b o vs) := by
      intro vs
      induction vs with
      | nil => intro o wx hx; exact hx
      | cons v r ih => intro o wx hx; exact ih (o + 1) _ (hx.setCell (Nat.le_refl _) v)
    exact key _ _ _ ⟨rfl, rfl, rfl, Nat.le_refl _, fun _ _ => rfl⟩

set_option maxHeartbeats 4000000 in
theorem boundary_fresh (N : Int) (arcs : List Q.S95) (A : Option Addr) (c : Nat) (BA : Option Addr) (bc : Nat) (bounds : List Int) (CA : Option Addr) (cc : Nat) (cells : List (List Int)) (level cell : Int) (w0 w : World) (hb0 : Below w0.heap.size w0 w) (hf : Q.ArcsFit arcs) (hr : Kd.C Q.k95 w0 A arcs.length arcs) (hc : arcs.length ≤ c) (hn : NestIn w0 BA bc bounds CA cc cells) :
    Calls Tryz.prog 23 #[.agg #[.int .i64 N, .slice A arcs.length c], .agg #[.slice BA bounds.length bc, .slice CA cells.length cc], .int .i64 level, .int .i64 cell] w fun e w' => ∃ A' n' c', e = .returned (.tuple #[.slice A' n' c', .int .i64 (Q.cellE N arcs bounds cells level cell)]) ∧ (Q.cellE N arcs bounds cells level cell = 0 → ∃ P, Value.slice A' n' c' = .slice P (Q.bndOf arcs (cells.getD (level - 1).toNat []) cell).length (Q.bndOf arcs (cells.getD (level - 1).toNat []) cell).length ∧ Kd.C (Kd.int .i64) w' P (Q.bndOf arcs (cells.getD (level - 1).toNat []) cell).length (Q.bndOf arcs (cells.getD (level - 1).toNat []) cell) ∧ ∀ g o z, P = some ⟨g, o, z⟩ → w.heap.size ≤ g) ∧ Below w.heap.size w w' := by
  obtain ⟨i0, hi, hz0, hz1, hz2⟩ := info_parts intInfo
  obtain ⟨c0, c1, n0, n1, hsz, hb1⟩ := two_boxes w (.int .i64 N) (.slice A arcs.length c) (.slice BA bounds.length bc) (.slice CA cells.length cc) 24 28
  have HCK : Hid (∀ wx : World, Below w.heap.size w wx → Calls Tryz.prog 60 #[.agg #[.int .i64 N, .slice A arcs.length c], .agg #[.slice BA bounds.length bc, .slice CA cells.length cc], .int .i64 level, .int .i64 cell] wx fun e w' => ∃ A' n' c', e = .returned (.tuple #[.slice A' n' c', .int .i64 (Q.cellE N arcs bounds cells level cell)]) ∧ (Q.cellE N arcs bounds cells level cell = 0 → RowV w0 cells level (.slice A' n' c')) ∧ Below wx.heap.size wx w') :=
    Lib.hid (fun wx hb => cellLooked_any N arcs A c BA bc bounds CA cc cells level cell w0 wx (hb0.trans (hb.mono hb0.size)) hf hr hc hn)
  have HOK : Hid (Q.cellE N arcs bounds cells level cell = 0 → Q.GOk N.toNat arcs ∧ Q.NestOk N.toNat bounds cells) := Lib.hid (fun h => ⟨(Q.cellE_ok hf h).1.2, (Q.cellE_ok hf h).2.1⟩)
  have HB0 := Lib.hid hb0
  have HR := Lib.hid hr
  clear hf hr hc hn hb0
  generalize Q.cellE N arcs bounds cells level cell = ke at *
  go_enter Tryz.func23, Tryz.ntmps23
  go_upto_region 1 with fail
  generalize ((w.alloc (.cells #[.int .i64 N, .slice A arcs.length c] 24)).alloc (.cells #[.slice BA bounds.length bc, .slice CA cells.length cc] 28)) = w1 at *
  have HB1 := Lib.hid hb1
  have HCK1 := Lib.hid (HCK.out w1 hb1)
  have hs1 : w.heap.size + 2 ≤ w1.heap.size := by omega
  generalize hgx : w.heap.size = gx at *
  have HGX := Lib.hid hgx
  clear hb1 hsz HCK hgx
  go_upto_region 2 with (go_at_call 60; (with_reducible refine HCK1.out.mono ?_); rintro e w2 ⟨A', n', c', rfl, hrv, hb⟩; have HB := Lib.hid hb; have HRV := Lib.hid hrv; clear hb hrv)
  have d1 := (HB.out.cell (p := ⟨gx, 1, none⟩) (by show gx < w1.heap.size; omega)).trans c1
  have HB2 := Lib.hid (HB1.out.trans (HB.out.mono (by omega)))
  have hs2 : gx + 2 ≤ w2.heap.size := by have := HB.out.size; omega
  clear c0 c1 n0 n1 HCK1 HB HB1
  by_cases hke : ke = 0
  · obtain ⟨hG, hNest⟩ := HOK.out hke
    obtain ⟨j, RA, rc, hj, hjc, hv, hrc, hRow⟩ := HRV.out hke
    have hvv : RA = A' ∧ (cells.getD j []).length = n' ∧ rc = c' := by
      simp only [Value.slice.injEq] at hv
      exact ⟨hv.1.symm, hv.2.1.symm, hv.2.2.symm⟩
    obtain ⟨rfl, rfl, rfl⟩ := hvv
    have hjn : (level - 1).toNat = j := by omega
    have HBW : Hid (Below w0.heap.size w0 w2) := Lib.hid (HB0.out.trans (HB2.out.mono (by have := HB0.out.size; have := HGX.out; omega)))
    have hrp := Q.rightP_in (hNest.right (j := j) (by rw [← hNest.len]; exact hjc))
    have hN2 := hG.n2
    have hm := hG.m
    have HEN := Lib.hid hG.ends
    have HJN := Lib.hid hjn
    have HKE := Lib.hid hke
    have HROW := Lib.hid hRow
    have HLEN : Hid ((cells.getD j []).length = N.toNat) := Lib.hid hrp.1
    clear hG hNest hjc hv hrc hRow hrp HOK HRV hjn hj
    generalize hrw : cells.getD j [] = row at *
    have HRW := Lib.hid hrw
    clear hrw
    go_wp2_with fail
    clear hke
    go_loopg [12, 29] arcs.length (fun gg s12 s29 wr => ∃ i : Nat, i ≤ arcs.length ∧ arcs.length - i ≤ gg ∧ s29 = .int .i64 i ∧ Hid (wr.ownsRow w2.heap.size 3 1 s12 (Q.edgeOf (arcs.take i) row cell).length ((Q.edgeOf (arcs.take i) row cell).map (Value.int .i64))) ∧ Hid (Below w2.heap.size w2 wr))
    case atStart => exact ⟨0, Nat.zero_le _, by omega, rfl, Lib.hid (World.ownsRow_nil _ _ _ _), Lib.hid (Below.refl _ _)⟩
    case round =>
      obtain ⟨i, hi1, hgg, rfl, HO, HB⟩ := hrel
      by_cases hlt : i < arcs.length
      · have hltz : (i : Int) < (arcs.length : Int) := by omega
        have hbw : Below w0.heap.size w0 wr := HBW.out.trans (HB.out.mono HBW.out.size)
        obtain ⟨ad, rfl, x0, x1, x2⟩ := arc_at (Kd.C_below HR.out hbw) i hlt
        have hwk : IntKind.i64.wrap ((i : Int) + 1) = ((i + 1 : Nat) : Int) := by rw [IntWalk.i64_in _ (by omega)]; omega
        have ha : arcs.getD i Q.z95 ∈ arcs := by rw [List.getD_eq_getElem?_getD, List.getElem?_eq_getElem hlt]; exact List.getElem_mem hlt
        obtain ⟨⟨q0, q1⟩, ⟨q2, q3⟩⟩ := HEN.out _ ha
        have HSTEP : Hid (Q.edgeOf (arcs.take (i + 1)) row cell = Q.edgeOf (arcs.take i) row cell ++ Q.endsOf row cell (arcs.getD i Q.z95)) := Lib.hid (Q.edge_step arcs row cell i hlt)
        have hel := Q.edge_len (arcs.take i) row cell
        rw [List.length_take] at hel
        obtain ⟨u, hu⟩ : ∃ u : Nat, (arcs.getD i Q.z95).f0 = (u : Int) := ⟨_, (Int.toNat_of_nonneg q0).symm⟩
        obtain ⟨v, hv⟩ : ∃ v : Nat, (arcs.getD i Q.z95).f1 = (v : Int) := ⟨_, (Int.toNat_of_nonneg q2).symm⟩
        have hln := HLEN.out
        obtain ⟨lad, rfl, y0⟩ := Q.int_cell (Kd.C_below HROW.out hbw) u (by omega)
        obtain ⟨lad', hlad, y1⟩ := Q.int_cell (Kd.C_below HROW.out hbw) v (by omega)
        cases hlad
        have hladb : (lad.add v).block < w2.heap.size := by
          obtain ⟨lad0, hl0, yy⟩ := Q.int_cell HROW.out v (by omega)
          cases hl0
          have := World.block_lt_of_cell? w0 _ yy
          have := HBW.out.size
          omega
        have hUL := HO.out.lt
        have huz : (u : Int) < (row.length : Int) := by omega
        have hvz : (v : Int) < (row.length : Int) := by omega
        have hcF : Q.cellF row (arcs.getD i Q.z95) = row.getD u 0 := by unfold Q.cellF; rw [hu, Int.toNat_natCast]
        have hcT : Q.cellT row (arcs.getD i Q.z95) = row.getD v 0 := by unfold Q.cellT; rw [hv, Int.toNat_natCast]
        have HEND : Hid (Q.endsOf row cell (arcs.getD i Q.z95) = if row.getD u 0 = row.getD v 0 then [] else (if row.getD u 0 = cell then [(u : Int)] else []) ++ (if row.getD v 0 = cell then [(v : Int)] else [])) := Lib.hid (by unfold Q.endsOf; rw [hcF, hcT, hu, hv])
        rw [hu] at x0
        rw [hv] at x1
        generalize (arcs.getD i Q.z95).f2 = x2v at *
        clear q0 q1 q2 q3 ha hln hcF hcT hu hv hbw
        generalize hfu : row.getD u 0 = fu at *
        generalize hfv : row.getD v 0 = fv at *
        clear hfu hfv
        go_upto_region 8 with fail
        have hb5 : Below w2.heap.size w2 (wr.alloc (.cells #[.int .i64 (u : Int), .int .i64 (v : Int), .int .u32 x2v] 95)) := HB.out.alloc HB.out.size _
        have g0 : (wr.alloc (.cells #[.int .i64 (u : Int), .int .i64 (v : Int), .int .u32 x2v] 95)).cell? ⟨wr.heap.size, 0, none⟩ = some (.int .i64 (u : Int)) := by simp
        have g1 : (wr.alloc (.cells #[.int .i64 (u : Int), .int .i64 (v : Int), .int .u32 x2v] 95)).cell? ⟨wr.heap.size, 1, none⟩ = some (.int .i64 (v : Int)) := by simp
        have z0 : (wr.alloc (.cells #[.int .i64 (u : Int), .int .i64 (v : Int), .int .u32 x2v] 95)).cell? (lad.add u) = some (.int .i64 fu) := (World.cell?_of_block (w := wr) (heap_alloc_old wr _ (World.block_lt_of_cell? wr _ y0))).trans y0
        have z1 : (wr.alloc (.cells #[.int .i64 (u : Int), .int .i64 (v : Int), .int .u32 x2v] 95)).cell? (lad.add v) = some (.int .i64 fv) := (World.cell?_of_block (w := wr) (heap_alloc_old wr _ (World.block_lt_of_cell? wr _ y1))).trans y1
        have HO5 := Lib.hid (HO.out.alloc (.cells #[.int .i64 (u : Int), .int .i64 (v : Int), .int .u32 x2v] 95))
        have hgs : wr.heap.size < (wr.alloc (.cells #[.int .i64 (u : Int), .int .i64 (v : Int), .int .u32 x2v] 95)).heap.size := by simp
        generalize (wr.alloc (.cells #[.int .i64 (u : Int), .int .i64 (v : Int), .int .u32 x2v] 95)) = wA at *
        generalize wr.heap.size = ga at *
        clear x0 x1 x2 y0 y1 HO
        go_cut [43] (fun s43 wx => s43 = .bool (decide (fu = fv)) ∧ Hid (wx = wA.drew))
        case first =>
          have dg0 : wA.drew.cell? ⟨ga, 0, none⟩ = some (.int .i64 (u : Int)) := g0
          have dg1 : wA.drew.cell? ⟨ga, 1, none⟩ = some (.int .i64 (v : Int)) := g1
          have dz0 : wA.drew.cell? (lad.add u) = some (.int .i64 fu) := z0
          have dz1 : wA.drew.cell? (lad.add v) = some (.int .i64 fv) := z1
          go_region
          all_goals
            go_wp2_with fail
            go_meet
            exact ⟨by first | rfl | (simp; done), Lib.hid rfl⟩
        case rest =>
          obtain ⟨rfl, HC⟩ := hcut
          have hwc := HC.out
          subst hwc
          have e0 : wA.drew.cell? ⟨ga, 0, none⟩ = some (.int .i64 (u : Int)) := g0
          have e1 : wA.drew.cell? ⟨ga, 1, none⟩ = some (.int .i64 (v : Int)) := g1
          have k0 : wA.drew.cell? (lad.add u) = some (.int .i64 fu) := z0
          have k1 : wA.drew.cell? (lad.add v) = some (.int .i64 fv) := z1
          have HB6 := Lib.hid hb5.drew
          have HO6 : Hid (wA.drew.ownsRow w2.heap.size 3 1 u12 (Q.edgeOf (arcs.take i) row cell).length ((Q.edgeOf (arcs.take i) row cell).map (Value.int .i64))) := Lib.hid HO5.out
          clear g0 g1 z0 z1 hb5 HO5 HC
          have hgs2 : ga < wA.drew.heap.size := hgs
          generalize wA.drew = wB at *
          by_cases hfv : fu = fv
          · have HE2 : Hid (Q.endsOf row cell (arcs.getD i Q.z95) = []) := Lib.hid (by rw [HEND.out, if_pos hfv])
            go_wp2_with fail
            have HWK := Lib.hid hwk
            clear hwk
            go_roundg (arcs.length - (i + 1))
            case measure => omega
            case rel =>
              refine ⟨i + 1, by omega, Nat.le_refl _, rfl, Lib.hid ?_, HB6⟩
              rw [HSTEP.out, HE2.out, List.append_nil]
              exact HO6.out
          · by_cases hc1 : fu = cell
            · have hc2 : ¬ fv = cell := fun h => hfv (hc1.trans h.symm)
              have HE2 : Hid (Q.endsOf row cell (arcs.getD i Q.z95) = [(u : Int)]) := Lib.hid (by rw [HEND.out, if_neg hfv, if_pos hc1, if_neg hc2]; rfl)
              go_wp2_with (at_builtin; refine wpList_append_own _ rfl _ _ 25 rfl w2.heap.size 3 i0 _ 1 8 Tryz.underlying25 hi hz0 hz1 hz2 rfl (by decide) _ _ _ rfl (HO6.out.alloc _) ⟨wB.heap.size, 0, none⟩ 1 1 [.int .i64 (u : Int)] rfl rfl (cell_one_new _ _ _) (by intro q hq; simp at hq; subst hq; rfl) (by unfold maxLen; omega) (by omega) (by have := HB6.out.size; simp; omega) ?_; intro v' w3 hown' hg3 hnil3; have e1b : w3.cell? ⟨ga, 1, none⟩ = some (.int .i64 (v : Int)) := hg3.cell ((World.cell?_of_block (w := wB) (heap_alloc_old wB _ hgs2)).trans e1) (fun h => by have := (hUL ga h.symm).2; omega); have k1b : w3.cell? (lad.add v) = some (.int .i64 fv) := hg3.cell ((World.cell?_of_block (w := wB) (heap_alloc_old wB _ (World.block_lt_of_cell? wB _ k1))).trans k1) (fun h => by have := (hUL _ h.symm).1; omega); go_frame)
              have HWK := Lib.hid hwk
              clear hwk
              go_roundg (arcs.length - (i + 1))
              case measure => omega
              case rel =>
                refine ⟨i + 1, by omega, Nat.le_refl _, rfl, Lib.hid ?_, Lib.hid ?_⟩
                · rw [HSTEP.out, HE2.out]
                  simpa using hown'
                · exact Below.grown (HB6.out.alloc HB6.out.size _) hg3 (fun k hk => (HO6.out.lt k hk).1) (by have := HB6.out.size; simp; omega)

            · by_cases hc2 : fv = cell
              · have HE2 : Hid (Q.endsOf row cell (arcs.getD i Q.z95) = [(v : Int)]) := Lib.hid (by rw [HEND.out, if_neg hfv, if_neg hc1, if_pos hc2]; rfl)
                go_wp2_with (at_builtin; refine wpList_append_own _ rfl _ _ 25 rfl w2.heap.size 3 i0 _ 1 8 Tryz.underlying25 hi hz0 hz1 hz2 rfl (by decide) _ _ _ rfl (HO6.out.alloc _) ⟨wB.heap.size, 0, none⟩ 1 1 [.int .i64 (v : Int)] rfl rfl (cell_one_new _ _ _) (by intro q hq; simp at hq; subst hq; rfl) (by unfold maxLen; omega) (by omega) (by have := HB6.out.size; simp; omega) ?_; intro v' w3 hown' hg3 hnil3; go_frame)
                have HWK := Lib.hid hwk
                clear hwk
                go_roundg (arcs.length - (i + 1))
                case measure => omega
                case rel =>
                  refine ⟨i + 1, by omega, Nat.le_refl _, rfl, Lib.hid ?_, Lib.hid ?_⟩
                  · rw [HSTEP.out, HE2.out]
                    simpa using hown'
                  · exact Below.grown (HB6.out.alloc HB6.out.size _) hg3 (fun k hk => (HO6.out.lt k hk).1) (by have := HB6.out.size; simp; omega)

              · have HE2 : Hid (Q.endsOf row cell (arcs.getD i Q.z95) = []) := Lib.hid (by rw [HEND.out, if_neg hfv, if_neg hc1, if_neg hc2]; rfl)
                go_wp2_with fail
                have HWK := Lib.hid hwk
                clear hwk
                go_roundg (arcs.length - (i + 1))
                case measure => omega
                case rel =>
                  refine ⟨i + 1, by omega, Nat.le_refl _, rfl, Lib.hid ?_, HB6⟩
                  rw [HSTEP.out, HE2.out, List.append_nil]
                  exact HO6.out
      · have : i = arcs.length := by omega
        subst this
        have hkz : ¬ (arcs.length : Int) < (arcs.length : Int) := by omega
        rw [List.take_length] at HO
        have hel := Q.edge_len arcs row cell
        have hbd : Q.bndOf arcs row cell = Lib.compact ((Q.edgeOf arcs row cell).mergeSort (fun x y => decide (x ≤ y))) := rfl
        have HBD := Lib.hid hbd
        clear hbd
        obtain ⟨hlen, ⟨rfl, hn0⟩ | ⟨g, cap, cur, rfl, hbase, hgb, h1, h2, h3, h4⟩⟩ := HO.out
        · have he0 : Q.edgeOf arcs row cell = [] := List.length_eq_zero_iff.1 hn0
          have HBN : Hid (Q.bndOf arcs row cell = []) := Lib.hid (by rw [HBD.out, he0]; simp [Lib.compact, Lib.compactUpTo])
          clear hn0 he0 hlen
          go_wp2_with (first
            | (go_at_call 61; refine (Tryz.slices_Sort_int_none none 0 _).mono ?_; rintro e w' ⟨rfl, rfl⟩)
            | (go_at_call 63; refine (Tryz.slices_Compact_int_empty none 0 _).mono ?_; rintro e w' ⟨rfl, rfl⟩)
            | (go_at_call 62; refine (cut_nil _).mono ?_; rintro e w' ⟨rfl, rfl⟩))
          go_ret2
          have hgx := HGX.out
          subst hgx
          refine ⟨_, _, _, by rw [HKE.out]; rfl, fun _ => ?_, HB2.out.trans (HB.out.mono (by omega))⟩
          rw [HJN.out, HRW.out, HBN.out]
          exact ⟨none, rfl, Q.ints_C_nil _ _, fun g o z h => by cases h⟩
        · have hglt : g < wr.heap.size := (Array.getElem?_eq_some_iff.1 hgb).1
          have HH : Hid (Holds (Value.int .i64) wr g 0 (Q.edgeOf arcs row cell).toArray) := Lib.hid (holds_of_blockI hgb (by simpa using h4))
          have HSL : Hid (((Q.edgeOf arcs row cell).mergeSort (fun x y => decide (x ≤ y))).length = (Q.edgeOf arcs row cell).length) := Lib.hid (List.length_mergeSort _)
          have HS := Lib.hid (Tryz.slices_Sort_int g 0 cap (Q.edgeOf arcs row cell) wr HH.out hglt (by omega))
          have HST : Hid (∀ (n : Nat) (os : Array Obj), Holds (Value.int .i64) (grow (putRow (Value.int .i64) (Sort.ahead wr n) g 0 ((Q.edgeOf arcs row cell).mergeSort (fun x y => decide (x ≤ y))).toArray) os) g 0 ((Q.edgeOf arcs row cell).mergeSort (fun x y => decide (x ≤ y))).toArray ∧ g < (grow (putRow (Value.int .i64) (Sort.ahead wr n) g 0 ((Q.edgeOf arcs row cell).mergeSort (fun x y => decide (x ≤ y))).toArray) os).heap.size ∧ Below w2.heap.size w2 (grow (putRow (Value.int .i64) (Sort.ahead wr n) g 0 ((Q.edgeOf arcs row cell).mergeSort (fun x y => decide (x ≤ y))).toArray) os)) := Lib.hid (fun n os => by
            have hs := heap_sortedI (n := n) (os := os) ((Q.edgeOf arcs row cell).mergeSort (fun x y => decide (x ≤ y))).toArray hgb
            refine ⟨holds_of_blockI hs (take_putCellsI cur _ (by rw [HSL.out]; omega)), (Array.getElem?_eq_some_iff.1 hs).1, ?_⟩
            exact Below.grown HB.out (grownBy_sortedI _) (fun k hk => by cases hk; exact hbase) HB.out.size)
          have hsl := HSL.out
          have hel2 : (Q.edgeOf arcs row cell).length ≤ cap := h1
          clear hlen hgb h1 h2 h3 h4 HH HO
          generalize Q.edgeOf arcs row cell = ed at *
          generalize hso : ed.mergeSort (fun x y => decide (x ≤ y)) = so at *
          have HSO := Lib.hid hso
          clear hso hsl
          go_wp2_with (first
            | (go_at_call 61; refine HS.out.mono ?_; rintro e w3 ⟨rfl, nn, os, hw3⟩; obtain ⟨k1, k2, k3⟩ := HST.out nn os; rw [← hw3] at k1 k2 k3; have K1 := Lib.hid k1; have K2 := Lib.hid k2; have K3 := Lib.hid k3; clear k1 k2 k3 hw3)
            | (go_at_call 63; (rw [← HSL.out]); refine (compact_cut g cap so _ K1.out K2.out (by have := HSL.out; omega) (by have := HSL.out; omega)).mono ?_; rintro e w4 ⟨rfl, hc4, hk4, hb4⟩; have HK4 := Lib.hid hk4; have HB4 := Lib.hid hb4; clear hk4 hb4)
            | (go_at_call 62; refine (cut_any g _ cap _ (by assumption)).mono ?_; rintro e w5 ⟨rfl, rfl⟩))
          go_ret2
          have hgx := HGX.out
          subst hgx
          refine ⟨_, _, _, by rw [HKE.out]; rfl, fun _ => ?_, (HB2.out.trans (K3.out.mono (by omega))).trans (HB4.out.mono (by have := hbase; omega))⟩
          rw [HJN.out, HRW.out, HBD.out]
          exact ⟨_, rfl, HK4.out, fun g' o z h => by cases h; have := hbase; have := HB2.out.size; omega⟩
  · go_wp2_with fail
    go_ret2
    have hgx := HGX.out
    subst hgx
    exact ⟨_, _, _, rfl, fun h => absurd h hke, HB2.out⟩


theorem boundary_any (N : Int) (arcs : List Q.S95) (A : Option Addr) (c : Nat) (BA : Option Addr) (bc : Nat) (bounds : List Int) (CA : Option Addr) (cc : Nat) (cells : List (List Int)) (level cell : Int) (w0 w : World) (hb0 : Below w0.heap.size w0 w) (hf : Q.ArcsFit arcs) (hr : Kd.C Q.k95 w0 A arcs.length arcs) (hc : arcs.length ≤ c) (hn : NestIn w0 BA bc bounds CA cc cells) :
    Calls Tryz.prog 23 #[.agg #[.int .i64 N, .slice A arcs.length c], .agg #[.slice BA bounds.length bc, .slice CA cells.length cc], .int .i64 level, .int .i64 cell] w fun e w' => ∃ A' n' c', e = .returned (.tuple #[.slice A' n' c', .int .i64 (Q.cellE N arcs bounds cells level cell)]) ∧ (Q.cellE N arcs bounds cells level cell = 0 → CutV w' (Q.bndOf arcs (cells.getD (level - 1).toNat []) cell) (.slice A' n' c')) ∧ Below w.heap.size w w' :=
  (boundary_fresh N arcs A c BA bc bounds CA cc cells level cell w0 w hb0 hf hr hc hn).mono (fun e w' ⟨A', n', c', h1, h2, h3⟩ => ⟨A', n', c', h1, fun h => by
    obtain ⟨P, h4, h5, _⟩ := h2 h
    exact ⟨P, h4, h5⟩, h3⟩)

end Go.Proofs.YtjddimoeodecgaaGreat

/- cell.chosen, cell.Inner. -/
namespace Go.Proofs.YtjddimoeodecgaaGreat
open Go.RowKit Go.Lib Go.Sort Go.Proofs.YtjddimoeodecgaaGreatW.PrintWords Go.Proofs.YtjddimoeodecgaaGreatW.PrintLast Go.Proofs.YtjddimoeodecgaaGreatW.PrintMore
set_option linter.unusedVariables false
set_option maxRecDepth 100000

namespace Q
/-- Which arcs are so, up to one. -/
def pickTo (p : S95 → Bool) (arcs : List S95) (i : Nat) : List Int := ((List.range i).filter (fun k => p (arcs.getD k z95))).map (fun k : Nat => (k : Int))
theorem pick_step (p : S95 → Bool) (arcs : List S95) (i : Nat) : pickTo p arcs (i + 1) = pickTo p arcs i ++ (if p (arcs.getD i z95) = true then [(i : Int)] else []) := by
  unfold pickTo
  rw [List.range_succ, List.filter_append, List.map_append]
  congr 1
  simp only [List.filter_cons, List.filter_nil]
  split <;> simp
theorem pick_len (p : S95 → Bool) (arcs : List S95) (i : Nat) : (pickTo p arcs i).length ≤ i := by
  unfold pickTo
  rw [List.length_map]
  exact Nat.le_trans (List.length_filter_le _ _) (by simp)
/-- An arc as a value. -/
def arcV (a : S95) : Value := .agg #[.int .i64 a.f0, .int .i64 a.f1, .int .u32 a.f2]
end Q

theorem cutV_of_own {w : World} {B : Nat} {l : List Int} {v : Value} (h : w.ownsRow B 3 1 v l.length (l.map (Value.int .i64))) (hl : l.length ≤ 1000000) :
    (v = .slice none 0 0 ∧ l = []) ∨ ∃ g cap, v = .slice (some ⟨g, 0, none⟩) l.length cap ∧ l.length ≤ cap ∧ B ≤ g ∧ g < w.heap.size ∧ Kd.C (Kd.int .i64) w (some ⟨g, 0, none⟩) l.length l := by
  obtain ⟨hlen, ⟨rfl, hn0⟩ | ⟨g, cap, cur, rfl, hbase, hgb, h1, h2, h3, h4⟩⟩ := h
  · exact Or.inl ⟨rfl, List.length_eq_zero_iff.1 hn0⟩
  · refine Or.inr ⟨g, cap, rfl, h1, hbase, (Array.getElem?_eq_some_iff.1 hgb).1, Q.ints_C _ _ _ (fun j hj => ?_) hl⟩
    have hH := holds_of_blockI hgb (by simpa using h4)
    have h5 := (hH j (by simpa using hj)).1
    rw [Nat.zero_add] at h5
    rw [h5]
    simp [hj]

theorem own_below {w w' : World} {B : Nat} {e : TypeId} {size n : Nat} {v : Value} {xs : List Value} (h : w.ownsRow B e size v n xs) (hb : Below w.heap.size w w') : w'.ownsRow B e size v n xs :=
  h.kept (row := none) ⟨hb.os, hb.tape, hb.output, hb.size, fun k hk _ => hb.block k hk⟩ (by cases v.ownBlock <;> simp)

set_option maxHeartbeats 4000000 in
theorem chosen_any (a0 : Int) (arcs : List Q.S95) (A : Option Addr) (c : Nat) (F : Nat) (caps : Array Value) (is : Q.S95 → Bool) (w0 w : World) (hb0 : Below w0.heap.size w0 w) (hr : Kd.C Q.k95 w0 A arcs.length arcs) (hm : arcs.length ≤ 8192)
    (hrun : ∀ (args : Array Value) (w : World), (callFunc F args).run Tryz.prog w = .ok (.enter F args) w)
    (his : ∀ (wx : World) (i : Nat), i < arcs.length → Below w.heap.size w wx → Calls Tryz.prog F (#[Q.arcV (arcs.getD i Q.z95)] ++ caps) wx fun e w' => e = .returned (.bool (is (arcs.getD i Q.z95))) ∧ Below wx.heap.size wx w') :
    Calls Tryz.prog 73 #[.agg #[.int .i64 a0, .slice A arcs.length c], .func (.func F) #[] caps] w fun e w' => ∃ A' n' c', e = .returned (.slice A' n' c') ∧ CutV w' (Q.pickTo is arcs arcs.length) (.slice A' n' c') ∧ Below w.heap.size w w' := by
  obtain ⟨i0, hi, hz0, hz1, hz2⟩ := info_parts intInfo
  have HR := Lib.hid hr
  have HB0 := Lib.hid hb0
  have HIS := Lib.hid his
  clear hr hb0 his
  go_enter Tryz.func73, Tryz.ntmps73
  go_wp2_with fail
  go_loopg [5, 11] arcs.length (fun gg s5 s11 wr => ∃ i : Nat, i ≤ arcs.length ∧ arcs.length - i ≤ gg ∧ s11 = .int .i64 i ∧ Hid (wr.ownsRow w.heap.size 3 1 s5 (Q.pickTo is arcs i).length ((Q.pickTo is arcs i).map (Value.int .i64))) ∧ Hid (Below w.heap.size w wr))
  case atStart => exact ⟨0, Nat.zero_le _, by omega, rfl, Lib.hid (World.ownsRow_nil _ _ _ _), Lib.hid ((Below.refl _ w).alloc (Nat.le_refl _) _)⟩
  case round =>
    obtain ⟨i, hi1, hgg, rfl, HO, HB⟩ := hrel
    by_cases hlt : i < arcs.length
    · have hltz : (i : Int) < (arcs.length : Int) := by omega
      have hbw : Below w0.heap.size w0 wr := HB0.out.trans (HB.out.mono HB0.out.size)
      obtain ⟨ad, rfl, x0, x1, x2⟩ := arc_at (Kd.C_below HR.out hbw) i hlt
      have hwk : IntKind.i64.wrap ((i : Int) + 1) = ((i + 1 : Nat) : Int) := by rw [IntWalk.i64_in _ (by omega)]; omega
      have HSTEP := Lib.hid (Q.pick_step is arcs i)
      have hel := Q.pick_len is arcs i
      have HIS2 := Lib.hid (HIS.out (wr.alloc (.cells #[.int .i64 (arcs.getD i Q.z95).f0, .int .i64 (arcs.getD i Q.z95).f1, .int .u32 (arcs.getD i Q.z95).f2] 95)) i hlt (HB.out.alloc HB.out.size _))
      unfold Q.arcV at HIS2
      generalize arcs.getD i Q.z95 = a at *
      obtain ⟨f0, f1, f2⟩ := a
      simp only at x0 x1 x2 HIS2
      cases hia : is ⟨f0, f1, f2⟩ with
      | false =>
        rw [hia] at HIS2 HSTEP
        have HST : Hid (Q.pickTo is arcs (i + 1) = Q.pickTo is arcs i) := Lib.hid (by rw [HSTEP.out]; simp)
        go_wp2_with ((with_reducible refine HIS2.out.mono ?_); rintro e w3 ⟨rfl, hb3⟩; have HB3 := Lib.hid hb3; clear hb3)
        have HWK := Lib.hid hwk
        clear hwk
        go_roundg (arcs.length - (i + 1))
        case measure => omega
        case rel =>
          refine ⟨i + 1, by omega, Nat.le_refl _, rfl, Lib.hid ?_, Lib.hid ?_⟩
          · rw [HST.out]
            exact own_below (HO.out.alloc _) HB3.out
          · exact (HB.out.alloc HB.out.size _).trans (HB3.out.mono (by have := HB.out.size; simp; omega))
      | true =>
        rw [hia] at HIS2 HSTEP
        have HST : Hid (Q.pickTo is arcs (i + 1) = Q.pickTo is arcs i ++ [(i : Int)]) := Lib.hid (by rw [HSTEP.out]; simp)
        go_wp2_with (first
          | ((with_reducible refine HIS2.out.mono ?_); rintro e w3 ⟨rfl, hb3⟩; have HO3 := Lib.hid (own_below (HO.out.alloc (.cells #[.int .i64 f0, .int .i64 f1, .int .u32 f2] 95)) hb3); have HB3 : Hid (Below w.heap.size w w3) := Lib.hid ((HB.out.alloc HB.out.size _).trans (hb3.mono (by have := HB.out.size; simp; omega))); clear hb3)
          | (at_builtin; refine wpList_append_own _ rfl _ _ 25 rfl w.heap.size 3 i0 _ 1 8 Tryz.underlying25 hi hz0 hz1 hz2 rfl (by decide) _ _ _ rfl (HO3.out.alloc _) ⟨w3.heap.size, 0, none⟩ 1 1 [.int .i64 (i : Int)] rfl rfl (cell_one_new _ _ _) (by intro q hq; simp at hq; subst hq; rfl) (by unfold maxLen; omega) (by omega) (by have := HB3.out.size; simp; omega) ?_; intro v' w4 hown' hg4 hnil4; go_frame))
        have HWK := Lib.hid hwk
        clear hwk
        go_roundg (arcs.length - (i + 1))
        case measure => omega
        case rel =>
          refine ⟨i + 1, by omega, Nat.le_refl _, rfl, Lib.hid ?_, Lib.hid ?_⟩
          · rw [HST.out]
            simpa using hown'
          · exact Below.grown (HB3.out.alloc HB3.out.size _) hg4 (fun k hk => (HO3.out.lt k hk).1) (by have := HB3.out.size; simp; omega)
    · have : i = arcs.length := by omega
      subst this
      have hkz : ¬ (arcs.length : Int) < (arcs.length : Int) := by omega
      have hpl := Q.pick_len is arcs arcs.length
      rcases cutV_of_own HO.out (by omega) with ⟨rfl, he⟩ | ⟨g, cap, rfl, hcap, hbg, hgl, hK⟩
      · have HE := Lib.hid he
        clear he
        go_wp2_with (go_at_call 62; refine (cut_nil _).mono ?_; rintro e w' ⟨rfl, rfl⟩)
        go_ret
        exact ⟨_, _, _, rfl, by rw [HE.out]; exact ⟨none, rfl, Q.ints_C_nil _ _⟩, HB.out⟩
      · have HK := Lib.hid hK
        clear hK
        go_wp2_with (go_at_call 62; refine (cut_any g _ cap _ hcap).mono ?_; rintro e w' ⟨rfl, rfl⟩)
        go_ret
        exact ⟨_, _, _, rfl, ⟨_, rfl, HK.out⟩, HB.out⟩

/-- cell.Inner's closure. -/
theorem inner1_any (cell : Int) (N : Nat) (arcs : List Q.S95) (RA : Option Addr) (rc : Nat) (row : List Int) (gl gc : Nat) (w : World) (hr : Kd.C (Kd.int .i64) w RA row.length row) (hln : row.length = N) (hg : Q.GOk N arcs)
    (cl : w.cell? ⟨gl, 0, none⟩ = some (.slice RA row.length rc)) (cc : w.cell? ⟨gc, 0, none⟩ = some (.int .i64 cell)) (i : Nat) (hi : i < arcs.length) :
    Calls Tryz.prog 74 #[Q.arcV (arcs.getD i Q.z95), .pointer (some ⟨gl, 0, none⟩), .pointer (some ⟨gc, 0, none⟩)] w fun e w' => e = .returned (.bool (Q.insideB row cell (arcs.getD i Q.z95))) ∧ Below w.heap.size w w' := by
  have ha : arcs.getD i Q.z95 ∈ arcs := by rw [List.getD_eq_getElem?_getD, List.getElem?_eq_getElem hi]; exact List.getElem_mem hi
  obtain ⟨⟨q0, q1⟩, ⟨q2, q3⟩⟩ := hg.ends _ ha
  generalize arcs.getD i Q.z95 = a at *
  obtain ⟨f0, f1, f2⟩ := a
  simp only at q0 q1 q2 q3
  obtain ⟨u, rfl⟩ : ∃ u : Nat, f0 = (u : Int) := ⟨f0.toNat, (Int.toNat_of_nonneg q0).symm⟩
  obtain ⟨v, rfl⟩ : ∃ v : Nat, f1 = (v : Int) := ⟨f1.toNat, (Int.toNat_of_nonneg q2).symm⟩
  obtain ⟨lad, rfl, y0⟩ := Q.int_cell hr u (by omega)
  obtain ⟨lad', hlad, y1⟩ := Q.int_cell hr v (by omega)
  cases hlad
  have huz : (u : Int) < (row.length : Int) := by omega
  have hvz : (v : Int) < (row.length : Int) := by omega
  have hF : Q.cellF row ⟨(u : Int), (v : Int), f2⟩ = row.getD u 0 := by unfold Q.cellF; simp only [Int.toNat_natCast]
  have hT : Q.cellT row ⟨(u : Int), (v : Int), f2⟩ = row.getD v 0 := by unfold Q.cellT; simp only [Int.toNat_natCast]
  unfold Q.insideB Q.arcV
  rw [hF, hT]
  simp only
  have b0 := World.block_lt_of_cell? w _ y0
  have b1 := World.block_lt_of_cell? w _ y1
  have b2 := World.block_lt_of_cell? w _ cl
  have b3 := World.block_lt_of_cell? w _ cc
  generalize row.getD u 0 = fu at *
  generalize row.getD v 0 = fv at *
  have hal : ∀ p : Addr, p.block < w.heap.size → (w.alloc (.cells #[.int .i64 (u : Int), .int .i64 (v : Int), .int .u32 f2] 95)).cell? p = w.cell? p := fun p hp => World.cell?_of_block (w := w) (heap_alloc_old w _ hp)
  have k0 := (hal _ b0).trans y0
  have k1 := (hal _ b1).trans y1
  have k2 := (hal ⟨gl, 0, none⟩ b2).trans cl
  have k3 := (hal ⟨gc, 0, none⟩ b3).trans cc
  have g0 : (w.alloc (.cells #[.int .i64 (u : Int), .int .i64 (v : Int), .int .u32 f2] 95)).cell? ⟨w.heap.size, 0, none⟩ = some (.int .i64 (u : Int)) := by simp
  have g1 : (w.alloc (.cells #[.int .i64 (u : Int), .int .i64 (v : Int), .int .u32 f2] 95)).cell? ⟨w.heap.size, 1, none⟩ = some (.int .i64 (v : Int)) := by simp
  have hb : Below w.heap.size w (w.alloc (.cells #[.int .i64 (u : Int), .int .i64 (v : Int), .int .u32 f2] 95)) := (Below.refl _ w).alloc (Nat.le_refl _) _
  clear hr hg ha hal y0 y1 cl cc hF hT b0 b1 b2 b3 q0 q1 q2 q3 hln
  by_cases h1 : fu = cell
  · rw [decide_eq_true h1, Bool.true_and]
    by_cases h2 : fv = cell
    · rw [decide_eq_true h2]
      go_enter Tryz.func74, Tryz.ntmps74
      go_upto_region 1 with fail
      generalize (w.alloc (.cells #[.int .i64 (u : Int), .int .i64 (v : Int), .int .u32 f2] 95)) = w1 at *
      have dk0 : w1.drew.cell? (lad.add u) = some (.int .i64 fu) := k0
      have dk1 : w1.drew.cell? (lad.add v) = some (.int .i64 fv) := k1
      have dk2 : w1.drew.cell? ⟨gl, 0, none⟩ = some (.slice (some lad) row.length rc) := k2
      have dk3 : w1.drew.cell? ⟨gc, 0, none⟩ = some (.int .i64 cell) := k3
      have dg0 : w1.drew.cell? ⟨w.heap.size, 0, none⟩ = some (.int .i64 (u : Int)) := g0
      have dg1 : w1.drew.cell? ⟨w.heap.size, 1, none⟩ = some (.int .i64 (v : Int)) := g1
      go_region
      all_goals
        go_wp2_with fail
        go_ret
        exact ⟨by first | rfl | (simp [hq2]; done) | (simp; done), hb.drew⟩
    · have hq2 : (fv == cell) = false := by simp [h2]
      rw [decide_eq_false h2]
      go_enter Tryz.func74, Tryz.ntmps74
      go_upto_region 1 with fail
      generalize (w.alloc (.cells #[.int .i64 (u : Int), .int .i64 (v : Int), .int .u32 f2] 95)) = w1 at *
      have dk0 : w1.drew.cell? (lad.add u) = some (.int .i64 fu) := k0
      have dk1 : w1.drew.cell? (lad.add v) = some (.int .i64 fv) := k1
      have dk2 : w1.drew.cell? ⟨gl, 0, none⟩ = some (.slice (some lad) row.length rc) := k2
      have dk3 : w1.drew.cell? ⟨gc, 0, none⟩ = some (.int .i64 cell) := k3
      have dg0 : w1.drew.cell? ⟨w.heap.size, 0, none⟩ = some (.int .i64 (u : Int)) := g0
      have dg1 : w1.drew.cell? ⟨w.heap.size, 1, none⟩ = some (.int .i64 (v : Int)) := g1
      go_region
      all_goals
        go_wp2_with fail
        go_ret
        exact ⟨by first | rfl | (simp [hq2]; done) | (simp; done), hb.drew⟩
  · have hq2 : (fu == cell) = false := by simp [h1]
    have hd : decide (fu = cell) = false := decide_eq_false h1
    rw [decide_eq_false h1, Bool.false_and]
    go_enter Tryz.func74, Tryz.ntmps74
    go_upto_region 1 with fail
    generalize (w.alloc (.cells #[.int .i64 (u : Int), .int .i64 (v : Int), .int .u32 f2] 95)) = w1 at *
    have dk0 : w1.drew.cell? (lad.add u) = some (.int .i64 fu) := k0
    have dk1 : w1.drew.cell? (lad.add v) = some (.int .i64 fv) := k1
    have dk2 : w1.drew.cell? ⟨gl, 0, none⟩ = some (.slice (some lad) row.length rc) := k2
    have dk3 : w1.drew.cell? ⟨gc, 0, none⟩ = some (.int .i64 cell) := k3
    have dg0 : w1.drew.cell? ⟨w.heap.size, 0, none⟩ = some (.int .i64 (u : Int)) := g0
    have dg1 : w1.drew.cell? ⟨w.heap.size, 1, none⟩ = some (.int .i64 (v : Int)) := g1
    go_region
    all_goals
      go_wp2_with fail
      go_ret
      exact ⟨by first | rfl | (simp [hq2]; done) | (simp; done), hb.drew⟩

set_option maxHeartbeats 4000000 in
theorem inner_any (N : Int) (arcs : List Q.S95) (A : Option Addr) (c : Nat) (BA : Option Addr) (bc : Nat) (bounds : List Int) (CA : Option Addr) (cc : Nat) (cells : List (List Int)) (level cell : Int) (w0 w : World) (hb0 : Below w0.heap.size w0 w) (hf : Q.ArcsFit arcs) (hr : Kd.C Q.k95 w0 A arcs.length arcs) (hc : arcs.length ≤ c) (hn : NestIn w0 BA bc bounds CA cc cells) :
    Calls Tryz.prog 28 #[.agg #[.int .i64 N, .slice A arcs.length c], .agg #[.slice BA bounds.length bc, .slice CA cells.length cc], .int .i64 level, .int .i64 cell] w fun e w' => ∃ A' n' c', e = .returned (.tuple #[.slice A' n' c', .int .i64 (Q.cellE N arcs bounds cells level cell)]) ∧ (Q.cellE N arcs bounds cells level cell = 0 → CutV w' (Q.innerOf arcs (cells.getD (level - 1).toNat []) cell) (.slice A' n' c')) ∧ Below w.heap.size w w' := by
  have HCK : Hid (∀ wx : World, Below w.heap.size w wx → Calls Tryz.prog 60 #[.agg #[.int .i64 N, .slice A arcs.length c], .agg #[.slice BA bounds.length bc, .slice CA cells.length cc], .int .i64 level, .int .i64 cell] wx fun e w' => ∃ A' n' c', e = .returned (.tuple #[.slice A' n' c', .int .i64 (Q.cellE N arcs bounds cells level cell)]) ∧ (Q.cellE N arcs bounds cells level cell = 0 → RowV w0 cells level (.slice A' n' c')) ∧ Below wx.heap.size wx w') :=
    Lib.hid (fun wx hb => cellLooked_any N arcs A c BA bc bounds CA cc cells level cell w0 wx (hb0.trans (hb.mono hb0.size)) hf hr hc hn)
  have HOK : Hid (Q.cellE N arcs bounds cells level cell = 0 → Q.GOk N.toNat arcs ∧ Q.NestOk N.toNat bounds cells) := Lib.hid (fun h => ⟨(Q.cellE_ok hf h).1.2, (Q.cellE_ok hf h).2.1⟩)
  have HB0 := Lib.hid hb0
  have HR := Lib.hid hr
  have hmf : ∀ (fn : Fn) (first cap : Array Value) (w : World), (Instr.makeFunc fn first cap).run Tryz.prog w = .ok (.func fn first cap) w := fun _ _ _ _ => rfl
  clear hf hr hc hn hb0
  generalize Q.cellE N arcs bounds cells level cell = ke at *
  have hs3 : (((w.alloc (.cells #[.int .i64 N, .slice A arcs.length c] 24)).alloc (.cells #[.slice BA bounds.length bc, .slice CA cells.length cc] 28)).alloc (.cells #[.int .i64 cell] 3)).heap.size = w.heap.size + 3 := by simp
  have hA : (((w.alloc (.cells #[.int .i64 N, .slice A arcs.length c] 24)).alloc (.cells #[.slice BA bounds.length bc, .slice CA cells.length cc] 28)).alloc (.cells #[.int .i64 cell] 3)).heap[w.heap.size]? = some (.cells #[.int .i64 N, .slice A arcs.length c] 24 (0, 0)) := by
    rw [heap_alloc_old _ _ (by simp; omega), heap_alloc_old _ _ (by simp), heap_alloc_new]
  have hB : (((w.alloc (.cells #[.int .i64 N, .slice A arcs.length c] 24)).alloc (.cells #[.slice BA bounds.length bc, .slice CA cells.length cc] 28)).alloc (.cells #[.int .i64 cell] 3)).heap[w.heap.size + 1]? = some (.cells #[.slice BA bounds.length bc, .slice CA cells.length cc] 28 (0, 0)) := by
    rw [heap_alloc_old _ _ (by simp), heap_alloc2_new]
  have hC : (((w.alloc (.cells #[.int .i64 N, .slice A arcs.length c] 24)).alloc (.cells #[.slice BA bounds.length bc, .slice CA cells.length cc] 28)).alloc (.cells #[.int .i64 cell] 3)).heap[w.heap.size + 2]? = some (.cells #[.int .i64 cell] 3 (0, 0)) := by
    have h := heap_alloc_new ((w.alloc (.cells #[.int .i64 N, .slice A arcs.length c] 24)).alloc (.cells #[.slice BA bounds.length bc, .slice CA cells.length cc] 28)) (.cells #[.int .i64 cell] 3)
    simp only [World.size_alloc] at h
    exact h
  have hb1 : Below w.heap.size w (((w.alloc (.cells #[.int .i64 N, .slice A arcs.length c] 24)).alloc (.cells #[.slice BA bounds.length bc, .slice CA cells.length cc] 28)).alloc (.cells #[.int .i64 cell] 3)) := (((Below.refl _ w).alloc (Nat.le_refl _) _).alloc (by rw [World.size_alloc]; omega) _).alloc (by simp; omega) _
  go_enter Tryz.func28, Tryz.ntmps28
  go_upto_region 1 with fail
  generalize (((w.alloc (.cells #[.int .i64 N, .slice A arcs.length c] 24)).alloc (.cells #[.slice BA bounds.length bc, .slice CA cells.length cc] 28)).alloc (.cells #[.int .i64 cell] 3)) = w1 at *
  have HB1 := Lib.hid hb1
  have HCK1 := Lib.hid (HCK.out w1 hb1)
  have c0 : w1.cell? ⟨w.heap.size, 0, none⟩ = some (.int .i64 N) := by rw [cell_of_row _ _ 0 _ _ _ hA]; rfl
  have c1 : w1.cell? ⟨w.heap.size, 1, none⟩ = some (.slice A arcs.length c) := by rw [cell_of_row _ _ 1 _ _ _ hA]; rfl
  have n0 : w1.cell? ⟨w.heap.size + 1, 0, none⟩ = some (.slice BA bounds.length bc) := by rw [cell_of_row _ _ 0 _ _ _ hB]; rfl
  have n1 : w1.cell? ⟨w.heap.size + 1, 1, none⟩ = some (.slice CA cells.length cc) := by rw [cell_of_row _ _ 1 _ _ _ hB]; rfl
  have k1 : w1.cell? ⟨w.heap.size + 2, 0, none⟩ = some (.int .i64 cell) := by rw [cell_of_row _ _ 0 _ _ _ hC]; rfl
  have hs1 : w.heap.size + 3 ≤ w1.heap.size := by omega
  generalize hgx : w.heap.size = gx at *
  have HGX := Lib.hid hgx
  clear hb1 hs3 HCK hgx hA hB hC
  go_upto_region 2 with (go_at_call 60; (with_reducible refine HCK1.out.mono ?_); rintro e w2 ⟨A', n', c', rfl, hrv, hb⟩; have HB := Lib.hid hb; have HRV := Lib.hid hrv; clear hb hrv)
  have d0 : (w2.alloc (.cells #[.slice A' n' c'] 25)).cell? ⟨gx, 0, none⟩ = some (.int .i64 N) := (World.cell?_of_block (w := w2) (heap_alloc_old w2 _ (by have := HB.out.size; show gx < _; omega))).trans ((HB.out.cell (p := ⟨gx, 0, none⟩) (by show gx < w1.heap.size; omega)).trans c0)
  have d1 : (w2.alloc (.cells #[.slice A' n' c'] 25)).cell? ⟨gx, 1, none⟩ = some (.slice A arcs.length c) := (World.cell?_of_block (w := w2) (heap_alloc_old w2 _ (by have := HB.out.size; show gx < _; omega))).trans ((HB.out.cell (p := ⟨gx, 1, none⟩) (by show gx < w1.heap.size; omega)).trans c1)
  have l1 : (w2.alloc (.cells #[.slice A' n' c'] 25)).cell? ⟨gx + 2, 0, none⟩ = some (.int .i64 cell) := (World.cell?_of_block (w := w2) (heap_alloc_old w2 _ (by have := HB.out.size; show gx + 2 < _; omega))).trans ((HB.out.cell (p := ⟨gx + 2, 0, none⟩) (by show gx + 2 < w1.heap.size; omega)).trans k1)
  have l2 : (w2.alloc (.cells #[.slice A' n' c'] 25)).cell? ⟨w2.heap.size, 0, none⟩ = some (.slice A' n' c') := by simp
  have hb3 : Below w2.heap.size w2 (w2.alloc (.cells #[.slice A' n' c'] 25)) := (Below.refl _ w2).alloc (Nat.le_refl _) _
  have hs2 : gx + 3 ≤ w2.heap.size := by have := HB.out.size; omega
  generalize (w2.alloc (.cells #[.slice A' n' c'] 25)) = w3 at *
  have HB3 := Lib.hid ((HB1.out.trans (HB.out.mono (by omega))).trans (hb3.mono (by omega)))
  have hs3 : gx + 3 ≤ w3.heap.size := by have := hb3.size; omega
  generalize hgl : w2.heap.size = gl at *
  clear c0 c1 n0 n1 k1 HCK1 HB HB1 hb3 hgl
  by_cases hke : ke = 0
  · obtain ⟨hG, hNest⟩ := HOK.out hke
    obtain ⟨j, RA, rc, hj, hjc, hv, hrc, hRow⟩ := HRV.out hke
    have hvv : RA = A' ∧ (cells.getD j []).length = n' ∧ rc = c' := by
      simp only [Value.slice.injEq] at hv
      exact ⟨hv.1.symm, hv.2.1.symm, hv.2.2.symm⟩
    obtain ⟨rfl, rfl, rfl⟩ := hvv
    have HJN : Hid ((level - 1).toNat = j) := Lib.hid (by omega)
    have hbw : Below w0.heap.size w0 w3 := HB0.out.trans (HB3.out.mono (by have := HB0.out.size; have := HGX.out; omega))
    have hrp := Q.rightP_in (hNest.right (j := j) (by rw [← hNest.len]; exact hjc))
    have HKE := Lib.hid hke
    have HBW := Lib.hid hbw
    have HCH : Hid (Calls Tryz.prog 73 #[.agg #[.int .i64 N, .slice A arcs.length c], .func (.func 74) #[] #[.pointer (some ⟨gl, 0, none⟩), .pointer (some ⟨gx + 2, 0, none⟩)]] w3 fun e w' => ∃ A' n' c', e = .returned (.slice A' n' c') ∧ CutV w' (Q.pickTo (Q.insideB (cells.getD j []) cell) arcs arcs.length) (.slice A' n' c') ∧ Below w3.heap.size w3 w') :=
      Lib.hid (chosen_any N arcs A c 74 #[.pointer (some ⟨gl, 0, none⟩), .pointer (some ⟨gx + 2, 0, none⟩)] (Q.insideB (cells.getD j []) cell) w0 w3 hbw HR.out hG.m (fun _ _ => rfl) (fun wx i hi hb => inner1_any cell N.toNat arcs RA rc (cells.getD j []) gl (gx + 2) wx (Kd.C_below (Kd.C_below hRow hbw) hb) hrp.1 hG ((hb.cell (World.block_lt_of_cell? w3 _ l2)).trans l2) ((hb.cell (World.block_lt_of_cell? w3 _ l1)).trans l1) i hi))
    clear hG hNest hjc hv hrc hRow hrp hbw hj
    generalize hrw : cells.getD j [] = row at *
    have HRW := Lib.hid hrw
    clear hrw l1 l2
    go_wp2_with (go_at_call 73; (with_reducible refine HCH.out.mono ?_); rintro e w4 ⟨A4, n4, c4, rfl, hcv, hb4⟩; have HCV := Lib.hid hcv; have HB4 := Lib.hid hb4; clear hcv hb4)
    go_ret2
    have hgx := HGX.out
    subst hgx
    refine ⟨_, _, _, by rw [HKE.out]; rfl, fun _ => ?_, HB3.out.trans (HB4.out.mono (by omega))⟩
    rw [HJN.out, HRW.out]
    exact HCV.out
  · go_wp2_with fail
    go_ret2
    have hgx := HGX.out
    subst hgx
    exact ⟨_, _, _, rfl, fun h => absurd h hke, HB3.out⟩

end Go.Proofs.YtjddimoeodecgaaGreat
