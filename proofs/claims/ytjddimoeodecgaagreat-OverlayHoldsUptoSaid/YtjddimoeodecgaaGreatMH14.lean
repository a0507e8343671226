/- Overlays kept while another block turns; equal rows of matrices; the chapter's example in memory. -/
import Derived.Test.YtjddimoeodecgaaGreatMG11
import Derived.BigQuiet
import Derived.BigRegion
import Derived.Test.YtjddimoeodecgaaGreatMH08
import Derived.Test.YtjddimoeodecgaaGreatXQx3
import Derived.Test.YtjddimoeodecgaaGreatXH10
import Derived.Deep.RegionHeld3
import Derived.Test.YtjddimoeodecgaaGreatXH09
import Derived.Test.YtjddimoeodecgaaGreatXH07
import Derived.Test.YtjddimoeodecgaaGreatMWSized
import Derived.Test.YtjddimoeodecgaaGreatRows
import Derived.JoinedCond
import Derived.Deep.CondSized
namespace Go.Proofs.YtjddimoeodecgaaGreat
open Go.RowKit Go.Lib Go.Maps Go.Proofs.YtjddimoeodecgaaGreatW.PrintWords Go.Proofs.YtjddimoeodecgaaGreatW.PrintLast Go.Proofs.YtjddimoeodecgaaGreatW.PrintMore
set_option linter.unusedVariables false
set_option maxRecDepth 100000

/-- An overlay stays while a block below it turns. -/
theorem Over.apart' {w w' : World} {B g ga : Nat} {vs : List Value} {pss : List (List (Mat × Value))} (h : Over w B g vs pss) (hg : w.grownBy w' (some ga)) (ha : ga < B) : Over w' B g vs pss := by
  have hne : ∀ b, B ≤ b → (some b : Option Nat) ≠ some ga := fun b hb e => by cases e; omega
  refine ⟨h.len, h.ge, (hg.block g h.lt (fun e => hne g h.ge e)).trans h.box, fun k hk => (h.rows k hk).kept hg ?_ (fun p hp hd => ?_), h.apG, h.apD, h.apR, h.apM⟩
  · cases hq : (vs.getD k nilV).ownBlock with
    | none => exact Or.inl rfl
    | some b => exact Or.inr (hne b ((h.rows k hk).row.lt b hq).1)
  · cases hq : p.2.ownBlock with
    | none => exact Or.inl rfl
    | some b => exact Or.inr (hne b ((((h.rows k hk).mats p hp).lt hd b hq).1))

/-- Rows of numbers, from the cells of their headers. -/
theorem rows_C (w : World) (g : Nat) (rows : List (List Int)) (h : ∀ j, j < rows.length → ∃ A c, w.cell? ⟨g, j, none⟩ = some (.slice A (rows.getD j []).length c) ∧ (rows.getD j []).length ≤ c ∧ Kd.C (Kd.int .i64) w A (rows.getD j []).length (rows.getD j [])) (hl : rows.length ≤ 1000000) : Kd.C (Kd.slice 3 (Kd.int .i64)) w (some ⟨g, 0, none⟩) rows.length rows := by
  refine ⟨rfl, by omega, fun _ => ⟨_, rfl, fun j p hj => ?_⟩⟩
  have hjl : j < rows.length := by
    rcases Nat.lt_or_ge j rows.length with h' | h'
    · exact h'
    · rw [List.getElem?_eq_none h'] at hj; cases hj
  have hp : rows.getD j [] = p := by rw [List.getD_eq_getElem?_getD, hj]; rfl
  obtain ⟨A, c, h1, h2, h3⟩ := h j hjl
  rw [hp] at h1 h2 h3
  refine ⟨[.slice A p.length c], rfl, ⟨A, c, rfl, h2, h3⟩, fun i u hu => ?_⟩
  match i, hu with
  | 0, hu =>
    simp at hu
    subst hu
    have e : ((⟨g, 0, none⟩ : Addr).add (j * (Kd.slice 3 (Kd.int .i64)).sz + 0)) = ⟨g, j, none⟩ := by
      rw [Nat.add_zero, show (Kd.slice 3 (Kd.int .i64)).sz = 1 from rfl, Nat.mul_one]
      unfold Addr.add
      split <;> simp_all
    rw [e]
    exact h1

/-- The example's arcs in memory. -/
theorem exArcs_at {w : World} {g x : Nat} {t : TypeId} (h : w.heap[g]? = some (.cells #[.int .i64 0, .int .i64 1, .int .u32 (x : Int), .int .i64 1, .int .i64 2, .int .u32 0, .int .i64 0, .int .i64 2, .int .u32 0] t (0, 0))) : ArcsAt w g (Q.exW x) := fun i hi => by
  have h3 : i < 3 := hi
  match i, h3 with
  | 0, _ => exact ⟨by simp [World.cell?, h]; rfl, by simp [World.cell?, h]; rfl, by simp [World.cell?, h]; rfl, by simp [World.frozen?, h]⟩
  | 1, _ => exact ⟨by simp [World.cell?, h]; rfl, by simp [World.cell?, h]; rfl, by simp [World.cell?, h]; rfl, by simp [World.frozen?, h]⟩
  | 2, _ => exact ⟨by simp [World.cell?, h]; rfl, by simp [World.cell?, h]; rfl, by simp [World.cell?, h]; rfl, by simp [World.frozen?, h]⟩
theorem exNest_in {w : World} {gb gr gc : Nat} {t1 t2 t3 : TypeId} (h1 : w.heap[gb]? = some (.cells #[.int .i64 2] t1 (0, 0))) (h2 : w.heap[gr]? = some (.cells #[.int .i64 0, .int .i64 0, .int .i64 1] t2 (0, 0))) (h3 : w.heap[gc]? = some (.cells #[.slice (some ⟨gr, 0, none⟩) 3 3] t3 (0, 0))) : NestIn w (some ⟨gb, 0, none⟩) 1 [2] (some ⟨gc, 0, none⟩) 1 [[0, 0, 1]] := by
  refine ⟨Q.ints_C w gb [2] (fun j hj => ?_) (by decide), by decide, rows_C w gc [[0, 0, 1]] (fun j hj => ?_) (by decide), by decide⟩
  · have h0 : j < 1 := hj
    match j, h0 with
    | 0, _ => simp [World.cell?, h1]
  · have h0 : j < 1 := hj
    match j, h0 with
    | 0, _ =>
      refine ⟨some ⟨gr, 0, none⟩, 3, by simp [World.cell?, h3], by decide, Q.ints_C w gr [0, 0, 1] (fun i hi => ?_) (by decide)⟩
      have h5 : i < 3 := hi
      match i, h5 with
      | 0, _ => simp [World.cell?, h2]
      | 1, _ => simp [World.cell?, h2]
      | 2, _ => simp [World.cell?, h2]
/-- Distances in a block. -/
theorem dists_C (w : World) (b : Nat) (l : List Int) (h : ∀ j, j < l.length → w.cell? ⟨b, j, none⟩ = some (.int .u64 (l.getD j 0))) (hl : l.length ≤ 1000000) : Kd.C (Kd.int .u64) w (some ⟨b, 0, none⟩) l.length l := by
  refine ⟨rfl, by omega, fun _ => ⟨_, rfl, fun j p hj => ?_⟩⟩
  have hjl : j < l.length := by
    rcases Nat.lt_or_ge j l.length with h' | h'
    · exact h'
    · rw [List.getElem?_eq_none h'] at hj; cases hj
  refine ⟨[.int .u64 p], rfl, rfl, fun i u hu => ?_⟩
  match i, hu with
  | 0, hu =>
    simp at hu
    subst hu
    have h1 := h j hjl
    rw [List.getD_eq_getElem?_getD, hj] at h1
    have e : ((⟨b, 0, none⟩ : Addr).add (j * (Kd.int .u64).sz + 0)) = ⟨b, j, none⟩ := by
      rw [Nat.add_zero, show (Kd.int .u64).sz = 1 from rfl, Nat.mul_one]
      unfold Addr.add
      split <;> simp_all
    rw [e]
    exact h1
namespace Q
theorem sameDists_refl (l : List Int) (hl : l.length ≤ 1000000000000) : flyoverbook_SameDists.f (l.length + 1) l l = some true := by
  unfold flyoverbook_SameDists.f
  have h : flyoverbook_SameDists.l0 (l.length + 1) l l 0 = some true := sameDists_loop l hl l.length _ 0 (by omega) (by omega)
  rw [if_pos rfl, h]
theorem large14_tot (N : Int) (arcs : List S95) : ∃ b, flyoverlaw14_large.f (arcs.length + 3) N arcs = some b := by
  obtain ⟨r, h⟩ := ref_tot N arcs
  unfold flyoverlaw14_large.f
  rw [h, Option.bind_some]
  split
  · split
    · exact ⟨_, rfl⟩
    · exact ⟨_, rfl⟩
  · exact ⟨_, rfl⟩
end Q

end Go.Proofs.YtjddimoeodecgaaGreat

/- The overlay chapter's example. -/
namespace Go.Proofs.YtjddimoeodecgaaGreat
open Go.RowKit Go.Lib Go.Maps Go.Proofs.YtjddimoeodecgaaGreatW.PrintWords Go.Proofs.YtjddimoeodecgaaGreatW.PrintLast Go.Proofs.YtjddimoeodecgaaGreatW.PrintMore
set_option linter.unusedVariables false
set_option maxRecDepth 100000

theorem heap_alloc_at (w : World) (o : Obj) (i : Nat) (h : i = w.heap.size) : (w.alloc o).heap[i]? = some o := by
  subst h
  exact heap_alloc_new w o
theorem six_boxes (w : World) (o1 o2 o3 o4 o5 o6 : Obj) : ((((((w.alloc o1).alloc o2).alloc o3).alloc o4).alloc o5).alloc o6).heap[w.heap.size]? = some o1 ∧ ((((((w.alloc o1).alloc o2).alloc o3).alloc o4).alloc o5).alloc o6).heap[w.heap.size + 1]? = some o2 ∧ ((((((w.alloc o1).alloc o2).alloc o3).alloc o4).alloc o5).alloc o6).heap[w.heap.size + 2]? = some o3 ∧ ((((((w.alloc o1).alloc o2).alloc o3).alloc o4).alloc o5).alloc o6).heap[w.heap.size + 3]? = some o4 ∧ ((((((w.alloc o1).alloc o2).alloc o3).alloc o4).alloc o5).alloc o6).heap[w.heap.size + 4]? = some o5 ∧ ((((((w.alloc o1).alloc o2).alloc o3).alloc o4).alloc o5).alloc o6).heap[w.heap.size + 5]? = some o6 ∧ ((((((w.alloc o1).alloc o2).alloc o3).alloc o4).alloc o5).alloc o6).heap.size = w.heap.size + 6 ∧ Below w.heap.size w ((((((w.alloc o1).alloc o2).alloc o3).alloc o4).alloc o5).alloc o6) := by
  refine ⟨?_, ?_, ?_, ?_, ?_, ?_, by simp, ?_⟩
  · rw [heap_alloc_old _ _ (by simp <;> omega), heap_alloc_old _ _ (by simp <;> omega), heap_alloc_old _ _ (by simp <;> omega), heap_alloc_old _ _ (by simp <;> omega), heap_alloc_old _ _ (by simp <;> omega), heap_alloc_new]
  · rw [heap_alloc_old _ _ (by simp <;> omega), heap_alloc_old _ _ (by simp <;> omega), heap_alloc_old _ _ (by simp <;> omega), heap_alloc_old _ _ (by simp <;> omega), heap_alloc_at _ _ _ (by simp)]
  · rw [heap_alloc_old _ _ (by simp <;> omega), heap_alloc_old _ _ (by simp <;> omega), heap_alloc_old _ _ (by simp <;> omega), heap_alloc_at _ _ _ (by simp)]
  · rw [heap_alloc_old _ _ (by simp <;> omega), heap_alloc_old _ _ (by simp <;> omega), heap_alloc_at _ _ _ (by simp)]
  · rw [heap_alloc_old _ _ (by simp <;> omega), heap_alloc_at _ _ _ (by simp)]
  · rw [heap_alloc_at _ _ _ (by simp)]
  · exact (((((((Below.refl _ w).alloc (Nat.le_refl _) _).alloc (by simp <;> omega) _).alloc (by simp <;> omega) _).alloc (by simp <;> omega) _).alloc (by simp <;> omega) _).alloc (by simp <;> omega) _)

/-- The example's graph and nest lie in memory. -/
structure ExIn (w : World) (ga x gb gr gc : Nat) : Prop where
  a : w.heap[ga]? = some (.cells #[.int .i64 0, .int .i64 1, .int .u32 (x : Int), .int .i64 1, .int .i64 2, .int .u32 0, .int .i64 0, .int .i64 2, .int .u32 0] 95 (0, 0))
  b : w.heap[gb]? = some (.cells #[.int .i64 2] 3 (0, 0))
  r : w.heap[gr]? = some (.cells #[.int .i64 0, .int .i64 0, .int .i64 1] 3 (0, 0))
  c : w.heap[gc]? = some (.cells #[.slice (some ⟨gr, 0, none⟩) 3 3] 25 (0, 0))
theorem ExIn.below {w w' : World} {ga x gb gr gc m : Nat} (h : ExIn w ga x gb gr gc) (hb : Below m w w') (h1 : ga < m) (h2 : gb < m) (h3 : gr < m) (h4 : gc < m) : ExIn w' ga x gb gr gc := ⟨(hb.block ga h1).trans h.a, (hb.block gb h2).trans h.b, (hb.block gr h3).trans h.r, (hb.block gc h4).trans h.c⟩
theorem ExIn.gn {w : World} {ga x gb gr gc : Nat} (h : ExIn w ga x gb gr gc) (hx : x < 4294967296) : GN w 3 (Q.exW x) (some ⟨ga, 0, none⟩) 3 (some ⟨gb, 0, none⟩) 1 [2] (some ⟨gc, 0, none⟩) 1 [[0, 0, 1]] :=
  ⟨Q.exW_ok x hx, (exArcs_at h.a).c (by show 3 ≤ 1000000; omega), by show 3 ≤ 3; omega, exNest_in h.b h.r h.c, by
    have h1 := Q.exW_check x hx
    show (Q.checkR 3 (Q.exW x) [2] [[0, 0, 1]]).2 = 0
    rw [h1]⟩

theorem exAll_any (w : World) (ga gb gr gc : Nat) (h : ExIn w ga 9 gb gr gc) :
    Calls Tryz.prog 37 #[.agg #[.int .i64 3, .slice (some ⟨ga, 0, none⟩) 3 3], .agg #[.slice (some ⟨gb, 0, none⟩) 1 1, .slice (some ⟨gc, 0, none⟩) 1 1], .int .i64 0] w fun e w' => ∃ g vs pss, e = .returned (.tuple #[.slice (some ⟨g, 0, none⟩) 1 1, .int .i64 0]) ∧ Over w' w.heap.size g vs pss ∧ pss.map (fun ps => ps.map (·.1)) = overO 3 (Q.exW 9) [[0, 0, 1]] 1 (fun _ _ => 0) ∧ Below w.heap.size w w' :=
  overAll_any 3 (Q.exW 9) (some ⟨ga, 0, none⟩) 3 (some ⟨gb, 0, none⟩) 1 [2] (some ⟨gc, 0, none⟩) 1 [[0, 0, 1]] w (h.gn (by omega)) 0 (by omega)
def exF : Nat → Nat → Nat := Q.fateF (Q.exW 4) [[0, 0, 1]] [0]
theorem exF_0 : exF 0 0 = 1 := by
  unfold exF Q.fateF Q.isStale
  rw [show ([[(0 : Int), 0, 1]]).getD 0 [] = [0, 0, 1] from rfl, Q.exW_stale 4]
  rfl
theorem exF_1 : exF 0 1 = 0 := by
  unfold exF Q.fateF Q.isStale
  rw [show ([[(0 : Int), 0, 1]]).getD 0 [] = [0, 0, 1] from rfl, Q.exW_stale 4]
  rfl
theorem exAnew : anewT exF (fun k => Q.manyOf (([[(0 : Int), 0, 1]]).getD k [])) 1 = 1 := by
  rw [anewT_step]
  have e : Q.manyOf (([[(0 : Int), 0, 1]]).getD 0 []) = 2 := Q.exW_many
  rw [show anewT exF (fun k => Q.manyOf (([[(0 : Int), 0, 1]]).getD k [])) 0 = 0 from rfl]
  show 0 + anewK exF 0 (Q.manyOf (([[(0 : Int), 0, 1]]).getD 0 [])) = 1
  rw [e, show (2 : Nat) = 0 + 1 + 1 from rfl, anewK_step, anewK_step, exF_0, exF_1]
  rfl
theorem exRenew_any (w : World) (ga gb gr gc go gi : Nat) (h : ExIn w ga 4 gb gr gc) (hO : OverIn w go (overO 3 (Q.exW 9) [[0, 0, 1]] 1 (fun _ _ => 0))) (hi : w.heap[gi]? = some (.cells #[.int .i64 0] 3 (0, 0))) :
    Calls Tryz.prog 42 #[.agg #[.int .i64 3, .slice (some ⟨ga, 0, none⟩) 3 3], .agg #[.slice (some ⟨gb, 0, none⟩) 1 1, .slice (some ⟨gc, 0, none⟩) 1 1], .slice (some ⟨go, 0, none⟩) 1 1, .slice (some ⟨gi, 0, none⟩) 1 1, .int .i64 1] w fun e w' => ∃ g vs pss, e = .returned (.tuple #[.slice (some ⟨g, 0, none⟩) 1 1, .int .i64 1, .int .i64 0]) ∧ Over w' w.heap.size g vs pss ∧ pss.map (fun ps => ps.map (·.1)) = overO 3 (Q.exW 4) [[0, 0, 1]] 1 (epF exF (fun _ _ => 0) 1) ∧ Below w.heap.size w w' := by
  have hII : Kd.C (Kd.int .i64) w (some ⟨gi, 0, none⟩) 1 [0] := Q.ints_C w gi [0] (fun j hj => by
    have h0 : j < 1 := hj
    match j, h0 with
    | 0, _ => simp [World.cell?, hi]) (by decide)
  have hse : Q.staleE (Q.exW 4) [0] = 0 := by decide
  have h1 := renew_any 3 (Q.exW 4) (some ⟨ga, 0, none⟩) 3 (some ⟨gb, 0, none⟩) 1 [2] (some ⟨gc, 0, none⟩) 1 [[0, 0, 1]] w (h.gn (by omega)) go 1 (overO 3 (Q.exW 9) [[0, 0, 1]] 1 (fun _ _ => 0)) hO
    (overO_ok (Q.exW_shape 9 4) (n := 3) [2] [[0, 0, 1]] (fun _ _ => 0) (fun k c _ _ => by omega)) (some ⟨gi, 0, none⟩) 1 [0] hII hse 1 (by omega) (overO_mem.2 (fun k c _ _ => by show (0 : Int) ≤ 1; omega)) (fun _ _ => 0) (fun k x hk hx h0 => by
      have hk1 : k < 1 := hk
      rw [overO_get _ _ hk1, overRow_get _ _ hx]
      have h2 := overM_kept (ep := fun _ _ => (0 : Int)) (epoch := 1) (Q.exW_ok 9 (by omega)) (Q.exW_ok 4 (by omega)) (Q.exW_shape 9 4) (Q.exW_but 9 4) (k := k) (c := x) (cells := [[0, 0, 1]]) (by
        have hk0 : k < 1 := hk
        obtain rfl : k = 0 := by omega
        rfl) h0
      unfold overM at h2 ⊢
      rw [epF_stays h0] at h2
      exact h2)
  have h3 : (overO 3 (Q.exW 9) [[0, 0, 1]] 1 (fun _ _ => 0)).length = 1 := overO_len _
  rw [h3] at h1
  have h4 : anewT (Q.fateF (Q.exW 4) [[0, 0, 1]] [0]) (fun k => Q.manyOf (([[(0 : Int), 0, 1]]).getD k [])) 1 = 1 := exAnew
  refine h1.mono ?_
  rintro e w' ⟨g, vs, pss, h5, h6, h7, h8⟩
  refine ⟨g, vs, pss, ?_, h6, h7, h8⟩
  rw [h5]
  show Ending.returned (.tuple #[_, .int .i64 ((anewT (Q.fateF (Q.exW 4) [[0, 0, 1]] [0]) (fun k => Q.manyOf (([[(0 : Int), 0, 1]]).getD k [])) 1 : Nat) : Int), _]) = _
  rw [h4]
  rfl

/-- The example's overlay, to be read. -/
theorem ex_read {w : World} {g x : Nat} {E : Nat → Nat → Int} (hx : x < 4294967296) (h : OverIn w g (overO 3 (Q.exW x) [[0, 0, 1]] 1 E)) : ∃ (A : Nat) (hc : Nat) (DP : Option Addr) (dc : Nat), w.cell? ⟨g, 0, none⟩ = some (.slice (some ⟨A, 0, none⟩) 2 hc) ∧ w.cell? ⟨A, 2, none⟩ = some (.int .i64 (E 0 0)) ∧ w.cell? ⟨A, 3, none⟩ = some (.slice DP 4 dc) ∧ 4 ≤ dc ∧ Kd.C (Kd.int .u64) w DP 4 [0, (x : Int), 18446744073709551615, 0] ∧ ∃ gd, DP = some ⟨gd, 0, none⟩ ∧ w.cell? ⟨gd, 1, none⟩ = some (.int .u64 (x : Int)) := by
  obtain ⟨HA, hc, h1, h2, h3⟩ := h 0 (by rw [overO_len]; omega)
  have e1 : (overO 3 (Q.exW x) [[0, 0, 1]] 1 E).getD 0 [] = overRow 3 (Q.exW x) [[0, 0, 1]] E 0 := overO_get _ _ (by omega)
  have e2 : (overRow 3 (Q.exW x) [[0, 0, 1]] E 0).length = 2 := by rw [overRow_len]; exact Q.exW_many
  have e3 : (overRow 3 (Q.exW x) [[0, 0, 1]] E 0).getD 0 zMat = ⟨1, 0, E 0 0, [0, x, infN, 0]⟩ := by
    rw [overRow_get 0 0 (by show 0 < Q.manyOf [0, 0, 1]; rw [Q.exW_many]; omega)]
    unfold overM
    show (⟨1, 0, E 0 0, Q.matOf 3 (Q.exW x) [0, 0, 1] 0⟩ : Mat) = _
    rw [Q.exW_mat x hx]
  rw [e1] at h1 h2 h3
  obtain ⟨A, DP, dc, h4, y0, y1, y2, y3, y4, -, y5, y6⟩ := h3 0 (by rw [e2]; omega)
  rw [e2, h4] at h1
  rw [e3] at y2 y3 y4 y5 y6
  obtain ⟨gd, h5, h6⟩ := y6 1 (by show 1 < 4; omega)
  exact ⟨A, hc, DP, dc, h1, y2, y3, y4, y5, gd, h5, h6⟩

set_option maxHeartbeats 8000000 in
theorem works14_any (w : World) : Calls Tryz.prog 35 #[] w fun e w' => e = .returned (.bool true) ∧ Below w.heap.size w w' := by
  obtain ⟨qa, qg, qb, qr, qc, qn, hsz, hb1⟩ := six_boxes w (.cells #[.int .i64 0, .int .i64 1, .int .u32 9, .int .i64 1, .int .i64 2, .int .u32 0, .int .i64 0, .int .i64 2, .int .u32 0] 95) (.cells #[.int .i64 3, .slice (some ⟨w.heap.size, 0, none⟩) 3 3] 24) (.cells #[.int .i64 2] 3) (.cells #[.int .i64 0, .int .i64 0, .int .i64 1] 3) (.cells #[.slice (some ⟨w.heap.size + 1 + 1 + 1, 0, none⟩) 3 3] 25) (.cells #[.slice (some ⟨w.heap.size + 1 + 1, 0, none⟩) 1 1, .slice (some ⟨w.heap.size + 1 + 1 + 1 + 1, 0, none⟩) 1 1] 28)
  rw [show w.heap.size + 2 = w.heap.size + 1 + 1 from rfl] at qb
  rw [show w.heap.size + 3 = w.heap.size + 1 + 1 + 1 from rfl] at qr
  rw [show w.heap.size + 4 = w.heap.size + 1 + 1 + 1 + 1 from rfl] at qc
  rw [show w.heap.size + 5 = w.heap.size + 1 + 1 + 1 + 1 + 1 from rfl] at qn
  go_enter Tryz.func35, Tryz.ntmps35
  go_upto_region 3 with fail
  generalize ((((((w.alloc (.cells #[.int .i64 0, .int .i64 1, .int .u32 9, .int .i64 1, .int .i64 2, .int .u32 0, .int .i64 0, .int .i64 2, .int .u32 0] 95)).alloc (.cells #[.int .i64 3, .slice (some ⟨w.heap.size, 0, none⟩) 3 3] 24)).alloc (.cells #[.int .i64 2] 3)).alloc (.cells #[.int .i64 0, .int .i64 0, .int .i64 1] 3)).alloc (.cells #[.slice (some ⟨w.heap.size + 1 + 1 + 1, 0, none⟩) 3 3] 25)).alloc (.cells #[.slice (some ⟨w.heap.size + 1 + 1, 0, none⟩) 1 1, .slice (some ⟨w.heap.size + 1 + 1 + 1 + 1, 0, none⟩) 1 1] 28)) = w1 at *
  have HB1 := Lib.hid hb1
  generalize hgn : w.heap.size + 1 + 1 + 1 + 1 + 1 = gn at *
  generalize hgc : w.heap.size + 1 + 1 + 1 + 1 = gc at *
  generalize hgr : w.heap.size + 1 + 1 + 1 = gr at *
  generalize hgb : w.heap.size + 1 + 1 = gb at *
  generalize hgg : w.heap.size + 1 = gg at *
  generalize hga : w.heap.size = ga at *
  have hex : ExIn w1 ga 9 gb gr gc := ⟨qa, qb, qr, qc⟩
  have HEX := Lib.hid hex
  have HGA := Lib.hid hga
  have HQG := Lib.hid qg
  have HQN := Lib.hid qn
  have hs : ga + 6 = w1.heap.size ∧ gg = ga + 1 ∧ gb = ga + 2 ∧ gr = ga + 3 ∧ gc = ga + 4 ∧ gn = ga + 5 := by omega
  have HS := Lib.hid hs
  clear hs
  have HBX : Hid (∀ wx : World, wx.heap[gg]? = some (.cells #[.int .i64 3, .slice (some ⟨ga, 0, none⟩) 3 3] 24 (0, 0)) → wx.heap[gn]? = some (.cells #[.slice (some ⟨gb, 0, none⟩) 1 1, .slice (some ⟨gc, 0, none⟩) 1 1] 28 (0, 0)) → wx.cell? ⟨gg, 0, none⟩ = some (.int .i64 3) ∧ wx.cell? ⟨gg, 1, none⟩ = some (.slice (some ⟨ga, 0, none⟩) 3 3) ∧ wx.cell? ⟨gn, 0, none⟩ = some (.slice (some ⟨gb, 0, none⟩) 1 1) ∧ wx.cell? ⟨gn, 1, none⟩ = some (.slice (some ⟨gc, 0, none⟩) 1 1)) := Lib.hid (fun wx h1 h2 => ⟨by rw [cell_of_row _ _ 0 _ _ _ h1]; rfl, by rw [cell_of_row _ _ 1 _ _ _ h1]; rfl, by rw [cell_of_row _ _ 0 _ _ _ h2]; rfl, by rw [cell_of_row _ _ 1 _ _ _ h2]; rfl⟩)
  have HAL := Lib.hid (exAll_any w1 ga gb gr gc hex)
  obtain ⟨x0, x1, x2, x3⟩ := HBX.out w1 qg qn
  clear hex hb1 qa qb qr qc qg qn hgn hgc hgr hgb hgg hga hsz
  go_upto_region 4 with (go_at_call 37; (with_reducible refine HAL.out.mono ?_); rintro e w2 ⟨go, vs, pss, rfl, hov, hps, hb⟩; have HOV := Lib.hid hov; have HPS := Lib.hid hps; have HB2 := Lib.hid hb; clear hov hps hb)
  clear x0 x1 x2 x3 HAL
  have hgo : w1.heap.size ≤ go := HOV.out.ge
  have HEX2 := Lib.hid (HEX.out.below HB2.out (by have := HS.out; omega) (by have := HS.out; omega) (by have := HS.out; omega) (by have := HS.out; omega))
  have HQG2 := Lib.hid ((HB2.out.block gg (by have := HS.out; omega)).trans HQG.out)
  have HQN2 := Lib.hid ((HB2.out.block gn (by have := HS.out; omega)).trans HQN.out)
  obtain ⟨x0, x1, x2, x3⟩ := HBX.out w2 HQG2.out HQN2.out
  have z2 : w2.cell? ⟨ga, 2, none⟩ = some (.int .u32 9) := by rw [cell_of_row _ _ 2 _ _ _ HEX2.out.a]; rfl
  have zf : w2.frozen? ⟨ga, 2, none⟩ = false := by simp [World.frozen?, HEX2.out.a]
  go_upto_region 5 with fail
  have hA3 : (w2.setCell ⟨ga, 2, none⟩ (.int .u32 4)).heap[ga]? = some (.cells #[.int .i64 0, .int .i64 1, .int .u32 ((4 : Nat) : Int), .int .i64 1, .int .i64 2, .int .u32 0, .int .i64 0, .int .i64 2, .int .u32 0] 95 (0, 0)) := by
    rw [heap_setCell_same w2 ga 2 _ _ (.int .u32 4) HEX2.out.a]
    rfl
  have hoth : ∀ b, b ≠ ga → (w2.setCell ⟨ga, 2, none⟩ (.int .u32 4)).heap[b]? = w2.heap[b]? := fun b hb => heap_setCell_other w2 ⟨ga, 2, none⟩ b _ hb
  have hex3 : ExIn (w2.setCell ⟨ga, 2, none⟩ (.int .u32 4)) ga 4 gb gr gc := ⟨hA3, (hoth gb (by have := HS.out; omega)).trans HEX2.out.b, (hoth gr (by have := HS.out; omega)).trans HEX2.out.r, (hoth gc (by have := HS.out; omega)).trans HEX2.out.c⟩
  have hq3 := (hoth gg (by have := HS.out; omega)).trans HQG2.out
  have hn3 := (hoth gn (by have := HS.out; omega)).trans HQN2.out
  have HOV3 := Lib.hid (HOV.out.apart' (grownBy_setCell w2 ga 2 (.int .u32 4)) (by have := HS.out; omega))
  have HB23 : Hid (Below ga w (w2.setCell ⟨ga, 2, none⟩ (.int .u32 4))) := Lib.hid ((HB1.out.trans (HB2.out.mono (by have := HS.out; omega))).setCell (by show ga ≤ ga; omega) _)
  have hs23 : w2.heap.size = (w2.setCell ⟨ga, 2, none⟩ (.int .u32 4)).heap.size := by simp
  clear x0 x1 x2 x3 z2 zf hA3 hoth HOV HEX HQG HQN HQG2 HQN2 HEX2
  generalize (w2.setCell ⟨ga, 2, none⟩ (.int .u32 4)) = w3 at *
  have hb4 : Below w3.heap.size w3 (w3.alloc (.cells #[.int .i64 0] 3)) := (Below.refl _ w3).alloc (Nat.le_refl _) _
  have hgi := heap_alloc_new w3 (.cells #[.int .i64 0] 3)
  have hw3 : w1.heap.size ≤ w3.heap.size := by have := HB2.out.size; omega
  have hex4 := hex3.below hb4 (by have := HS.out; omega) (by have := HS.out; omega) (by have := HS.out; omega) (by have := HS.out; omega)
  have HO3 := Lib.hid (by have h5 := HOV3.out.inn; rw [HPS.out] at h5; exact h5 : OverIn w3 go (overO 3 (Q.exW 9) [[0, 0, 1]] 1 (fun _ _ => 0)))
  have HO4 := Lib.hid (HO3.out.below hb4)
  have HRN := Lib.hid (exRenew_any _ ga gb gr gc go w3.heap.size hex4 HO4.out hgi)
  obtain ⟨x0, x1, x2, x3⟩ := HBX.out w3 hq3 hn3
  clear hb4 hgi hex4 hex3 hs23
  go_upto_region 6 with (go_at_call 42; (with_reducible refine HRN.out.mono ?_); rintro e w5 ⟨gr2, vs2, pss2, rfl, hov, hps, hb⟩; have HOV5 := Lib.hid hov; have HPS5 := Lib.hid hps; have HB45 := Lib.hid hb; clear hov hps hb)
  have HB5 : Hid (Below ga w w5) := Lib.hid (HB23.out.trans ((((Below.refl _ w3).alloc (Nat.le_refl _) _).trans (HB45.out.mono (by simp))).mono (by have := HB23.out.size; have := HGA.out; omega)))
  obtain ⟨OA, oc, DP, dc, o0, -, o3, o4, o5, -⟩ := ex_read (by omega) (HO4.out.below HB45.out)
  have HRI := HOV5.out.inn
  rw [HPS5.out] at HRI
  obtain ⟨RA, rc, EP, ec, r0, r2, r3, r4, -, gd, hEP, r5⟩ := ex_read (by omega) HRI
  rw [epF_anew (by rw [exF_0]; decide)] at r2
  subst hEP
  have hb6 : Below w5.heap.size w5 (w5.alloc (.cells #[.int .u64 0, .int .u64 9, .int .u64 18446744073709551615, .int .u64 0] 43)) := (Below.refl _ w5).alloc (Nat.le_refl _) _
  have hq6 := heap_alloc_new w5 (.cells #[.int .u64 0, .int .u64 9, .int .u64 18446744073709551615, .int .u64 0] 43)
  have hlit : Kd.C (Kd.int .u64) (w5.alloc (.cells #[.int .u64 0, .int .u64 9, .int .u64 18446744073709551615, .int .u64 0] 43)) (some ⟨w5.heap.size, 0, none⟩) 4 [0, ((9 : Nat) : Int), 18446744073709551615, 0] := dists_C _ _ [0, ((9 : Nat) : Int), 18446744073709551615, 0] (fun j hj => by
    have h4 : j < 4 := hj
    match j, h4 with
    | 0, _ => rw [cell_of_row _ _ 0 _ _ _ hq6]; rfl
    | 1, _ => rw [cell_of_row _ _ 1 _ _ _ hq6]; rfl
    | 2, _ => rw [cell_of_row _ _ 2 _ _ _ hq6]; rfl
    | 3, _ => rw [cell_of_row _ _ 3 _ _ _ hq6]; rfl) (by decide)
  have HSD : Hid (Calls Tryz.prog 50 #[.slice DP 4 dc, .slice (some ⟨w5.heap.size, 0, none⟩) 4 4] (w5.alloc (.cells #[.int .u64 0, .int .u64 9, .int .u64 18446744073709551615, .int .u64 0] 43)) fun e w' => e = .returned (.bool true) ∧ Below w5.heap.size w5 w') := Lib.hid (by
    have h := Q.flyoverbook_SameDists.calls _ DP dc [0, ((9 : Nat) : Int), 18446744073709551615, 0] (some ⟨w5.heap.size, 0, none⟩) 4 [0, ((9 : Nat) : Int), 18446744073709551615, 0] true _ (Kd.C_below o5 hb6) o4 hlit (Nat.le_refl _) (Q.sameDists_refl _ (by decide))
    refine h.mono ?_
    rintro e w' ⟨h1, h2⟩
    exact ⟨h1, hb6.trans (h2.below.mono hb6.size)⟩)
  have HR := Lib.hid (⟨r0, r2, r3, r5⟩ : w5.cell? ⟨gr2, 0, none⟩ = some (.slice (some ⟨RA, 0, none⟩) 2 rc) ∧ w5.cell? ⟨RA, 2, none⟩ = some (.int .i64 1) ∧ w5.cell? ⟨RA, 3, none⟩ = some (.slice (some ⟨gd, 0, none⟩) 4 ec) ∧ w5.cell? ⟨gd, 1, none⟩ = some (.int .u64 ((4 : Nat) : Int)))
  clear hb6 hq6 hlit o5 HRI r0 r2 r3 r5
  go_wp2_with (go_at_call 50; go_loud ((with_reducible refine HSD.out.mono ?_); rintro e w6 ⟨rfl, hb⟩; obtain ⟨q0, q2, q3, q5⟩ := HR.out; have r0 := (hb.cell (World.block_lt_of_cell? w5 _ q0)).trans q0; have r2 := (hb.cell (World.block_lt_of_cell? w5 _ q2)).trans q2; have r3 := (hb.cell (World.block_lt_of_cell? w5 _ q3)).trans q3; have r5 := (hb.cell (World.block_lt_of_cell? w5 _ q5)).trans q5; have HB56 := Lib.hid hb; clear hb q0 q2 q3 q5))
  go_ret
  have hga := HGA.out
  subst hga
  exact ⟨rfl, HB5.out.trans (HB56.out.mono (by have := HB5.out.size; omega))⟩

end Go.Proofs.YtjddimoeodecgaaGreat

/- Changes of weights (plain). -/
namespace Go.Proofs.YtjddimoeodecgaaGreat
open Go.RowKit Go.Lib Go.Maps Go.Proofs.YtjddimoeodecgaaGreatW.PrintWords Go.Proofs.YtjddimoeodecgaaGreatW.PrintLast Go.Proofs.YtjddimoeodecgaaGreatW.PrintMore
set_option linter.unusedVariables false
set_option maxRecDepth 100000

theorem weigh_shape (arcs : List Q.S95) (ids ws : List Int) (k : Nat) : Shape arcs (Q.weighTo arcs ids ws k) :=
  ⟨(Q.weighTo_len arcs ids ws k).symm, fun i => (Q.weighTo_get arcs ids ws k i).1.symm, fun i => (Q.weighTo_get arcs ids ws k i).2.symm⟩
theorem weigh_but (arcs : List Q.S95) (ids ws : List Int) (hin : ∀ i ∈ ids, 0 ≤ i) : ∀ k, k ≤ ids.length → SameBut arcs (Q.weighTo arcs ids ws k) ids
  | 0, _ => fun _ _ _ => rfl
  | k + 1, hk => fun i hi hn => by
    rw [weigh_but arcs ids ws hin k (by omega) i hi hn]
    have e : Q.weighTo arcs ids ws (k + 1) = (Q.weighTo arcs ids ws k).set (ids.getD k 0).toNat ⟨((Q.weighTo arcs ids ws k).getD (ids.getD k 0).toNat Q.z95).f0, ((Q.weighTo arcs ids ws k).getD (ids.getD k 0).toNat Q.z95).f1, ws.getD k 0⟩ := rfl
    rw [e]
    have hm : ids.getD k 0 ∈ ids := get_mem hk
    have h0 := hin _ hm
    have hne : (ids.getD k 0).toNat ≠ i := fun e => by
      have : ids.getD k 0 = (i : Int) := by omega
      rw [this] at hm
      exact hn hm
    rw [List.getD_eq_getElem?_getD (l := (Q.weighTo arcs ids ws k).set _ _), List.getElem?_set_ne hne, ← List.getD_eq_getElem?_getD]
theorem SameBut.trans {a b d : List Q.S95} {x y : List Int} (h : SameBut a b x) (k : SameBut b d y) (hl : a.length = b.length) : SameBut a d (x ++ y) := fun i hi hn => by
  rw [List.mem_append] at hn
  exact (h i hi (fun e => hn (Or.inl e))).trans (k i (by rw [← hl]; exact hi) (fun e => hn (Or.inr e)))

end Go.Proofs.YtjddimoeodecgaaGreat

/- graph.Change. -/
namespace Go.Proofs.YtjddimoeodecgaaGreat
open Go.RowKit Go.Lib Go.Sort Go.Proofs.YtjddimoeodecgaaGreatW.PrintWords Go.Proofs.YtjddimoeodecgaaGreatW.PrintLast Go.Proofs.YtjddimoeodecgaaGreatW.PrintMore
set_option linter.unusedVariables false
set_option maxRecDepth 100000

/-- A change of an arc's weight. -/
structure Chg where
  a : Int
  x : Int
def zCh : Chg := ⟨0, 0⟩
/-- Changes lie in memory. -/
def ChAt (w : World) (P : Option Addr) (ch : List Chg) : Prop := ∀ k, k < ch.length → ∃ ad, P = some ad ∧ w.cell? (ad.add (k * 2)) = some (.int .i64 (ch.getD k zCh).a) ∧ w.cell? ⟨(ad.add (k * 2)).block, (ad.add (k * 2)).off + 1, none⟩ = some (.int .u32 (ch.getD k zCh).x)
theorem ChAt.below {w w' : World} {P : Option Addr} {ch : List Chg} (h : ChAt w P ch) (hb : Below w.heap.size w w') : ChAt w' P ch := fun k hk => by
  obtain ⟨ad, h0, h1, h2⟩ := h k hk
  exact ⟨ad, h0, (hb.cell (World.block_lt_of_cell? w _ h1)).trans h1, (hb.cell (World.block_lt_of_cell? w _ h2)).trans h2⟩
def idsC (ch : List Chg) : List Int := ch.map (·.a)
def wsC (ch : List Chg) : List Int := ch.map (·.x)
theorem idsC_get (ch : List Chg) (k : Nat) (hk : k < ch.length) : (idsC ch).getD k 0 = (ch.getD k zCh).a := by
  unfold idsC
  rw [List.getD_eq_getElem?_getD, List.getElem?_map, List.getD_eq_getElem?_getD, List.getElem?_eq_getElem hk]
  rfl
theorem wsC_get (ch : List Chg) (k : Nat) (hk : k < ch.length) : (wsC ch).getD k 0 = (ch.getD k zCh).x := by
  unfold wsC
  rw [List.getD_eq_getElem?_getD, List.getElem?_map, List.getD_eq_getElem?_getD, List.getElem?_eq_getElem hk]
  rfl

set_option maxHeartbeats 4000000 in
theorem indexCh_any (F : Nat) (caps : Array Value) (p : Chg → Bool) (ch : List Chg) (P : Option Addr) (pc : Nat) (w : World) (hi : ChAt w P ch) (hl : ch.length ≤ 16384)
    (hrun : ∀ (args : Array Value) (w : World), (callFunc F args).run Tryz.prog w = .ok (.enter F args) w)
    (hp : ∀ (wx : World) (i : Nat), i < ch.length → Below w.heap.size w wx → Calls Tryz.prog F (#[.agg #[.int .i64 (ch.getD i zCh).a, .int .u32 (ch.getD i zCh).x]] ++ caps) wx fun e w' => e = .returned (.bool (p (ch.getD i zCh))) ∧ Below wx.heap.size wx w') :
    Calls Tryz.prog 122 #[.slice P ch.length pc, .func (.func F) #[] caps] w fun e w' => ∃ r : Int, e = .returned (.int .i64 r) ∧ decide (0 ≤ r) = ch.any p ∧ (-1 ≤ r ∧ r ≤ 16384) ∧ Below w.heap.size w w' := by
  have HI := Lib.hid hi
  have HP := Lib.hid hp
  clear hi hp
  go_enter Tryz.func122, Tryz.ntmps122
  go_wp2_with fail
  go_loopg [8] ch.length (fun gg s8 wr => ∃ i : Nat, i ≤ ch.length ∧ ch.length - i ≤ gg ∧ s8 = .int .i64 i ∧ Hid (∀ j, j < i → p (ch.getD j zCh) = false) ∧ Hid (Below w.heap.size w wr))
  case atStart => exact ⟨0, Nat.zero_le _, by omega, rfl, Lib.hid (fun j hj => absurd hj (by omega)), Lib.hid (Below.refl _ _)⟩
  case round =>
    obtain ⟨i, hi1, hgg, rfl, HF, HB⟩ := hrel
    obtain ⟨wm, rfl⟩ : ∃ x : World, x = wr := ⟨_, rfl⟩
    by_cases hlt : i < ch.length
    · have hltz : (i : Int) < (ch.length : Int) := by omega
      have hwk : IntKind.i64.wrap ((i : Int) + 1) = ((i + 1 : Nat) : Int) := by rw [IntWalk.i64_in _ (by omega)]; omega
      obtain ⟨ad, hIA, y0, y1⟩ := (HI.out.below HB.out) i hlt
      subst hIA
      have HPI := Lib.hid (HP.out wm i hlt HB.out)
      have hmem : ch.getD i zCh ∈ ch := by rw [List.getD_eq_getElem?_getD, List.getElem?_eq_getElem hlt]; exact List.getElem_mem hlt
      cases hpi : p (ch.getD i zCh) with
      | false =>
        rw [hpi] at HPI
        have HF2 : Hid (∀ j, j < i + 1 → p (ch.getD j zCh) = false) := Lib.hid (fun j hj => by
          by_cases e : j = i
          · rw [e]; exact hpi
          · exact HF.out j (by omega))
        clear hpi hmem
        generalize (ch.getD i zCh).a = xa at *
        generalize (ch.getD i zCh).x = xx at *
        go_wp2_with ((with_reducible refine HPI.out.mono ?_); rintro e w3 ⟨rfl, hb3⟩; have HB3 := Lib.hid hb3; clear hb3)
        have HWK := Lib.hid hwk
        clear hwk
        go_roundg (ch.length - (i + 1))
        case measure => omega
        case rel => exact ⟨i + 1, by omega, Nat.le_refl _, rfl, HF2, Lib.hid (HB.out.trans (HB3.out.mono HB.out.size))⟩
      | true =>
        rw [hpi] at HPI
        have HAN : Hid (ch.any p = true) := Lib.hid (List.any_eq_true.2 ⟨_, hmem, hpi⟩)
        clear hpi hmem
        generalize (ch.getD i zCh).a = xa at *
        generalize (ch.getD i zCh).x = xx at *
        go_wp2_with ((with_reducible refine HPI.out.mono ?_); rintro e w3 ⟨rfl, hb3⟩; have HB3 := Lib.hid hb3; clear hb3)
        go_ret
        exact ⟨_, rfl, by rw [HAN.out]; simp, by omega, HB.out.trans (HB3.out.mono HB.out.size)⟩
    · have : i = ch.length := by omega
      subst this
      have hkz : ¬ (ch.length : Int) < (ch.length : Int) := by omega
      go_wp2_with fail
      go_ret
      refine ⟨_, rfl, ?_, by omega, HB.out⟩
      have : ch.any p = false := by
        rw [List.any_eq_false]
        intro x hx
        obtain ⟨j, hj, rfl⟩ := List.mem_iff_getElem.1 hx
        have h1 := HF.out j hj
        rw [List.getD_eq_getElem?_getD, List.getElem?_eq_getElem hj] at h1
        simp only [Option.getD_some] at h1
        rw [h1]
        decide
      rw [this]
      decide

theorem containsCh_any (F : Nat) (caps : Array Value) (p : Chg → Bool) (ch : List Chg) (P : Option Addr) (pc : Nat) (w : World) (hi : ChAt w P ch) (hl : ch.length ≤ 16384)
    (hrun : ∀ (args : Array Value) (w : World), (callFunc F args).run Tryz.prog w = .ok (.enter F args) w)
    (hp : ∀ (wx : World) (i : Nat), i < ch.length → Below w.heap.size w wx → Calls Tryz.prog F (#[.agg #[.int .i64 (ch.getD i zCh).a, .int .u32 (ch.getD i zCh).x]] ++ caps) wx fun e w' => e = .returned (.bool (p (ch.getD i zCh))) ∧ Below wx.heap.size wx w') :
    Calls Tryz.prog 91 #[.slice P ch.length pc, .func (.func F) #[] caps] w fun e w' => e = .returned (.bool (ch.any p)) ∧ Below w.heap.size w w' := by
  have HX := Lib.hid (indexCh_any F caps p ch P pc w hi hl hrun hp)
  clear hp hi
  generalize ch.any p = b at *
  go_enter Tryz.func91, Tryz.ntmps91
  go_wp2_with (go_at_call 122; (with_reducible refine HX.out.mono ?_); rintro e w3 ⟨r, rfl, hr, hr2, hb3⟩; have HB3 := Lib.hid hb3; clear hb3)
  go_ret
  exact ⟨by rw [← hr]; rfl, HB3.out⟩

theorem change1_any (i x : Int) (A : Option Addr) (m c gx : Nat) (w : World) (h0 : w.cell? ⟨gx, 1, none⟩ = some (.slice A m c)) (hm : m ≤ 8192) :
    Calls Tryz.prog 92 #[.agg #[.int .i64 i, .int .u32 x], .pointer (some ⟨gx, 0, none⟩)] w fun e w' => e = .returned (.bool (Q.badId m i)) ∧ Below w.heap.size w w' := by
  have hgx := World.block_lt_of_cell? w _ h0
  have hb1 : Below w.heap.size w (w.alloc (.cells #[.int .i64 i, .int .u32 x] 87)) := (Below.refl _ w).alloc (Nat.le_refl _) _
  have h1 : (w.alloc (.cells #[.int .i64 i, .int .u32 x] 87)).cell? ⟨gx, 1, none⟩ = some (.slice A m c) := (hb1.cell hgx).trans h0
  have c0 : (w.alloc (.cells #[.int .i64 i, .int .u32 x] 87)).cell? ⟨w.heap.size, 0, none⟩ = some (.int .i64 i) := by simp
  have HB1 := Lib.hid hb1
  clear h0 hb1
  unfold Q.badId
  by_cases h1' : i < 0
  · have h2 : decide (i < 0) = true := decide_eq_true h1'
    rw [h2, Bool.true_or]
    go_enter Tryz.func92, Tryz.ntmps92
    go_upto_region 1 with fail
    generalize (w.alloc (.cells #[.int .i64 i, .int .u32 x] 87)) = w1 at *
    go_wp2_with fail
    go_ret
    exact ⟨rfl, HB1.out⟩
  · have h2 : decide (i < 0) = false := decide_eq_false h1'
    rw [h2, Bool.false_or]
    by_cases h3 : (m : Int) ≤ i
    · have h4 : decide ((m : Int) ≤ i) = true := decide_eq_true h3
      rw [h4]
      go_enter Tryz.func92, Tryz.ntmps92
      go_upto_region 1 with fail
      generalize (w.alloc (.cells #[.int .i64 i, .int .u32 x] 87)) = w1 at *
      go_wp2_with fail
      go_ret
      exact ⟨rfl, HB1.out⟩
    · have h4 : decide ((m : Int) ≤ i) = false := decide_eq_false h3
      rw [h4]
      go_enter Tryz.func92, Tryz.ntmps92
      go_upto_region 1 with fail
      generalize (w.alloc (.cells #[.int .i64 i, .int .u32 x] 87)) = w1 at *
      go_wp2_with fail
      go_ret
      exact ⟨rfl, HB1.out⟩

end Go.Proofs.YtjddimoeodecgaaGreat

/- graph.Change, whole. -/
namespace Go.Proofs.YtjddimoeodecgaaGreat
open Go.RowKit Go.Lib Go.Sort Go.Proofs.YtjddimoeodecgaaGreatW.PrintWords Go.Proofs.YtjddimoeodecgaaGreatW.PrintLast Go.Proofs.YtjddimoeodecgaaGreatW.PrintMore
set_option linter.unusedVariables false
set_option maxRecDepth 100000

namespace Q
def chE (arcs : List S95) (ch : List Chg) : Int := if ch.length > 16384 then 2 else if ch.any (fun c => badId arcs.length c.a) = true then 5 else 0
theorem chE_ok {arcs : List S95} {ch : List Chg} (h : chE arcs ch = 0) : ch.length ≤ 16384 ∧ ∀ i ∈ idsC ch, 0 ≤ i ∧ i < (arcs.length : Int) := by
  unfold chE at h
  split at h
  · omega
  · rename_i h1
    split at h
    · omega
    · rename_i h2
      refine ⟨by omega, fun i hi => ?_⟩
      unfold idsC at hi
      obtain ⟨c, hc, rfl⟩ := List.mem_map.1 hi
      have h3 : ¬ badId arcs.length c.a = true := fun e => h2 (List.any_eq_true.2 ⟨c, hc, e⟩)
      unfold badId at h3
      simp at h3
      omega
end Q

/-- What Change answers. -/
def ChangeV (w' : World) (B : Nat) (N : Int) (arcs : List Q.S95) (ch : List Chg) (e : Ending) : Prop :=
  ((Q.graphR N arcs).2 = 0 ∧ Q.chE arcs ch = 0 ∧ ∃ P cap, e = .returned (.tuple #[.agg #[.int .i64 N, .slice P arcs.length cap], .int .i64 0]) ∧ arcs.length ≤ cap ∧ ArcsP B w' P (Q.weighTo arcs (idsC ch) (wsC ch) ch.length)) ∨
  (¬ ((Q.graphR N arcs).2 = 0 ∧ Q.chE arcs ch = 0) ∧ ∃ E : Int, ¬ E = 0 ∧ e = .returned (.tuple #[.agg #[.int .i64 0, .slice none 0 0], .int .i64 E]))

theorem cells2 {w : World} {g : Nat} {x y : Value} {t : TypeId} (h : w.heap[g]? = some (.cells #[x, y] t (0, 0))) : w.cell? ⟨g, 0, none⟩ = some x ∧ w.cell? ⟨g, 1, none⟩ = some y ∧ ∀ o, w.frozen? ⟨g, o, none⟩ = false :=
  ⟨by rw [cell_of_row _ _ 0 _ _ _ h]; rfl, by rw [cell_of_row _ _ 1 _ _ _ h]; rfl, fun o => by simp [World.frozen?, h]⟩

set_option maxHeartbeats 8000000 in
theorem change_any (N : Int) (arcs : List Q.S95) (A : Option Addr) (c : Nat) (ch : List Chg) (CP : Option Addr) (pc : Nat) (w : World) (hf : Q.ArcsFit arcs) (hr : Kd.C Q.k95 w A arcs.length arcs) (hc : arcs.length ≤ c) (hch : ChAt w CP ch) :
    Calls Tryz.prog 44 #[.agg #[.int .i64 N, .slice A arcs.length c], .slice CP ch.length pc] w fun e w' => ChangeV w' w.heap.size N arcs ch e ∧ Below w.heap.size w w' := by
  obtain ⟨c0, c1, n0, n1, hsz, hb1⟩ := two_boxes w (.int .i64 N) (.slice A arcs.length c) (.int .i64 0) (.slice none 0 0) 24 24
  have hr0 : ((w.alloc (.cells #[.int .i64 N, .slice A arcs.length c] 24)).alloc (.cells #[.int .i64 0, .slice none 0 0] 24)).heap[w.heap.size + 1]? = some (.cells #[.int .i64 0, .slice none 0 0] 24 (0, 0)) := heap_alloc2_new _ _ _
  have HCK : Hid (∀ wx : World, Below w.heap.size w wx → Calls Tryz.prog 55 #[.agg #[.int .i64 N, .slice A arcs.length c]] wx fun e w' => e = .returned (.tuple #[.int .i64 (Q.graphR N arcs).1, .int .i64 (Q.graphR N arcs).2]) ∧ Below wx.heap.size wx w') :=
    Lib.hid (fun wx hb => Q.graph_Check.calls _ N A c arcs _ _ wx (Kd.C_below hr hb) hc (Q.graphR_f hf))
  have HCL : Hid (∀ wx : World, arcs.length ≤ 8192 → Below w.heap.size w wx → Calls Tryz.prog 93 #[.slice A arcs.length c] wx fun e w' => ∃ P cap, e = .returned (.slice P arcs.length cap) ∧ arcs.length ≤ cap ∧ ArcsP wx.heap.size w' P arcs ∧ Below wx.heap.size wx w') := Lib.hid (fun wx hm hb => clone_all arcs A c wx (Kd.C_below hr hb) hm)
  have HCH := Lib.hid hch
  have HGO : Hid ((Q.graphR N arcs).2 = 0 → arcs.length ≤ 8192) := Lib.hid (fun h => (Q.graphR_ok hf h).2.m)
  have HVV : Hid (∀ (w' : World) (e : Ending), (¬ ((Q.graphR N arcs).2 = 0 ∧ Q.chE arcs ch = 0) → (∃ E : Int, ¬ E = 0 ∧ e = .returned (.tuple #[.agg #[.int .i64 0, .slice none 0 0], .int .i64 E])) → ChangeV w' w.heap.size N arcs ch e)) := Lib.hid (fun w' e h1 h2 => Or.inr ⟨h1, h2⟩)
  have HVG : Hid (∀ (w' : World) (e : Ending), (Q.graphR N arcs).2 = 0 → Q.chE arcs ch = 0 → (∃ P cap, e = .returned (.tuple #[.agg #[.int .i64 N, .slice P arcs.length cap], .int .i64 0]) ∧ arcs.length ≤ cap ∧ ArcsP w.heap.size w' P (Q.weighTo arcs (idsC ch) (wsC ch) ch.length)) → ChangeV w' w.heap.size N arcs ch e) := Lib.hid (fun w' e h1 h2 h3 => Or.inl ⟨h1, h2, h3⟩)
  have HCE : Hid (Q.chE arcs ch = if ch.length > 16384 then 2 else if ch.any (fun c => Q.badId arcs.length c.a) = true then 5 else 0) := Lib.hid rfl
  have HOK : Hid (Q.chE arcs ch = 0 → ∀ i ∈ idsC ch, 0 ≤ i ∧ i < (arcs.length : Int)) := Lib.hid (fun h => (Q.chE_ok h).2)
  generalize hPV : (fun (w' : World) (e : Ending) => ChangeV w' w.heap.size N arcs ch e) = PV at *
  have HPV : Hid (∀ w' e, PV w' e = ChangeV w' w.heap.size N arcs ch e) := Lib.hid (fun w' e => by rw [← hPV])
  have hgoal : Calls Tryz.prog 44 #[.agg #[.int .i64 N, .slice A arcs.length c], .slice CP ch.length pc] w (fun e w' => PV w' e ∧ Below w.heap.size w w') := by
    have HVV2 : Hid (∀ (w' : World) (e : Ending), (¬ ((Q.graphR N arcs).2 = 0 ∧ Q.chE arcs ch = 0) → (∃ E : Int, ¬ E = 0 ∧ e = .returned (.tuple #[.agg #[.int .i64 0, .slice none 0 0], .int .i64 E])) → PV w' e)) := Lib.hid (fun w' e h1 h2 => by rw [HPV.out]; exact HVV.out w' e h1 h2)
    have HVG2 : Hid (∀ (w' : World) (e : Ending), (Q.graphR N arcs).2 = 0 → Q.chE arcs ch = 0 → (∃ P cap, e = .returned (.tuple #[.agg #[.int .i64 N, .slice P arcs.length cap], .int .i64 0]) ∧ arcs.length ≤ cap ∧ ArcsP w.heap.size w' P (Q.weighTo arcs (idsC ch) (wsC ch) ch.length)) → PV w' e) := Lib.hid (fun w' e h1 h2 h3 => by rw [HPV.out]; exact HVG.out w' e h1 h2 h3)
    clear HVV HVG HPV hPV hf hr hch
    generalize (Q.graphR N arcs).1 = k1 at *
    generalize (Q.graphR N arcs).2 = k2 at *
    go_enter Tryz.func44, Tryz.ntmps44
    go_upto_region 1 with fail
    generalize ((w.alloc (.cells #[.int .i64 N, .slice A arcs.length c] 24)).alloc (.cells #[.int .i64 0, .slice none 0 0] 24)) = w1 at *
    have HB1 := Lib.hid hb1
    have HR0 := Lib.hid hr0
    have hs1 : w.heap.size + 2 ≤ w1.heap.size := by omega
    have HCK1 := Lib.hid (HCK.out w1 hb1)
    generalize hgx : w.heap.size = gx at *
    have HGX := Lib.hid hgx
    have HBOX : Hid (∀ wx : World, Below w1.heap.size w1 wx → wx.cell? ⟨gx, 0, none⟩ = some (.int .i64 N) ∧ wx.cell? ⟨gx, 1, none⟩ = some (.slice A arcs.length c) ∧ wx.heap[gx + 1]? = some (.cells #[.int .i64 0, .slice none 0 0] 24 (0, 0)) ∧ Below gx w wx) := Lib.hid (fun wx hb =>
      ⟨(hb.cell (p := ⟨gx, 0, none⟩) (by show gx < w1.heap.size; omega)).trans c0, (hb.cell (p := ⟨gx, 1, none⟩) (by show gx < w1.heap.size; omega)).trans c1, (hb.block (gx + 1) (by omega)).trans hr0, HB1.out.trans (hb.mono (by omega))⟩)
    clear hb1 hsz hgx hr0 n0 n1 HCK
    by_cases hk : k2 = 0
    · subst hk
      have hm := HGO.out rfl
      by_cases hl : 16384 < ch.length
      · have hlz : (16384 : Int) < (ch.length : Int) := by omega
        have HE : Hid (Q.chE arcs ch = 2) := Lib.hid (by rw [HCE.out, if_pos hl])
        go_wp2_with (go_at_call 55; (with_reducible refine HCK1.out.mono ?_); rintro e w2 ⟨rfl, hb⟩; have HB2 := Lib.hid hb; have qI := (HBOX.out w2 hb).2.2.1; obtain ⟨z0, z1, zf⟩ := cells2 qI; clear hb)
        have qI := (HBOX.out w2 HB2.out).2.2.1
        have hbw := (HBOX.out w2 HB2.out).2.2.2
        ((try simp only [Exit.inBlock, Exit.then]); refine bodyPost_ret (results_ct rfl _ _ (gx + 1) 24 #[.int .i64 0, .slice none 0 0] (0, 0) _ rfl (heap_set2 qI) Tryz.underlying24 rfl (by kernel_rfl)) rfl ?_)
        have hgx := HGX.out
        subst hgx
        exact ⟨HVV2.out _ _ (fun h => by have := h.2; rw [HE.out] at this; omega) ⟨2, by decide, rfl⟩, (hbw.setCell (by show w.heap.size ≤ w.heap.size + 1; omega) _).setCell (by show w.heap.size ≤ w.heap.size + 1; omega) _⟩
      · have hlz : ¬ (16384 : Int) < (ch.length : Int) := by omega
        go_upto_region 6 with (go_at_call 55; (with_reducible refine HCK1.out.mono ?_); rintro e w2 ⟨rfl, hb⟩; have HB2 := Lib.hid hb; clear hb)
        clear HCK1 c0 c1
        obtain ⟨x0, x1, -, hbw⟩ := HBOX.out w2 HB2.out
        have hcf := containsCh_any 92 #[.pointer (some ⟨gx, 0, none⟩)] (fun c => Q.badId arcs.length c.a) ch CP pc w2 (HCH.out.below (by rw [HGX.out]; exact hbw)) (by omega) (fun _ _ => rfl) (fun wx i hi hb => change1_any (ch.getD i zCh).a (ch.getD i zCh).x A arcs.length c gx wx ((hb.cell (World.block_lt_of_cell? w2 _ x1)).trans x1) hm)
        have HCF := Lib.hid hcf
        clear hcf hbw
        have HCE2 : Hid (Q.chE arcs ch = if ch.any (fun c => Q.badId arcs.length c.a) = true then 5 else 0) := Lib.hid (by rw [HCE.out, if_neg hl])
        clear HCE
        generalize ch.any (fun c => Q.badId arcs.length c.a) = bq at *
        cases bq with
        | true =>
          have HE : Hid (Q.chE arcs ch = 5) := Lib.hid (by rw [HCE2.out, if_pos rfl])
          go_wp2_with (go_at_call 91; go_loud ((with_reducible refine HCF.out.mono ?_); rintro e w3 ⟨rfl, hb⟩; have HB3 : Hid (Below w1.heap.size w1 w3) := Lib.hid (HB2.out.trans (hb.mono HB2.out.size)); have qI := (HBOX.out w3 HB3.out).2.2.1; obtain ⟨z0, z1, zf⟩ := cells2 qI; clear hb))
          have qI := (HBOX.out w3 HB3.out).2.2.1
          have hbw := (HBOX.out w3 HB3.out).2.2.2
          ((try simp only [Exit.inBlock, Exit.then]); refine bodyPost_ret (results_ct rfl _ _ (gx + 1) 24 #[.int .i64 0, .slice none 0 0] (0, 0) _ rfl (heap_set2 qI) Tryz.underlying24 rfl (by kernel_rfl)) rfl ?_)
          have hgx := HGX.out
          subst hgx
          exact ⟨HVV2.out _ _ (fun h => by have := h.2; rw [HE.out] at this; omega) ⟨5, by decide, rfl⟩, (hbw.setCell (by show w.heap.size ≤ w.heap.size + 1; omega) _).setCell (by show w.heap.size ≤ w.heap.size + 1; omega) _⟩
        | false =>
          have HE : Hid (Q.chE arcs ch = 0) := Lib.hid (by rw [HCE2.out, if_neg (by decide)])
          have HIDX := Lib.hid (HOK.out HE.out)
          clear HCE2 HOK
          go_upto_region 8 with (go_at_call 91; go_loud ((with_reducible refine HCF.out.mono ?_); rintro e w3 ⟨rfl, hb⟩; have HB3 : Hid (Below w1.heap.size w1 w3) := Lib.hid (HB2.out.trans (hb.mono HB2.out.size)); clear hb))
          clear x0 x1 HCF
          obtain ⟨c0, c1, hr3, hbw⟩ := HBOX.out w3 HB3.out
          have hs3 : gx + 2 ≤ w3.heap.size := by have := HB3.out.size; omega
          have HBW3 := Lib.hid hbw
          have HR0' := Lib.hid hr3
          clear hbw hr3
          go_cut [8] (fun s8 wx => ∃ q P cap, s8 = .pointer (some ⟨q, 0, none⟩) ∧ arcs.length ≤ cap ∧ Hid (wx.heap[q]? = some (.cells #[.int .i64 N, .slice P arcs.length cap] 24 (0, 0))) ∧ w3.heap.size ≤ q ∧ Hid (∀ g, P = some ⟨g, 0, none⟩ → arcs ≠ [] → g ≠ q) ∧ Hid (ArcsP w3.heap.size wx P arcs) ∧ Hid (Below w3.heap.size w3 wx))
          case first =>
            go_region_held3 (fun w' => w'.cell? ⟨gx, 0, none⟩ = some (.int .i64 N) ∧ w'.cell? ⟨gx, 1, none⟩ = some (.slice A arcs.length c)) (first | (refine ⟨?_, ?_⟩ <;> (repeat (first | assumption | (simp; done) | (simp [*]; done) | rw [World.cell?_setCell_other (h := by first | (simp; done) | (simp; omega))] | rw [hbF.cell (by first | omega | (simp; done) | (simp; omega))] | rw [alloc_cell_old _ _ _ _ (by first | omega | (simp; done) | (simp; omega))] | rw [drew_cell_all]))) | (go_keep; done))
              (first | (go_at_call 93; (with_reducible refine (HCL.out _ hm ?hra).mono ?_); (case hra => repeat (first | exact HBW3.out | refine Below.drew ?_ | refine Below.alloc ?_ (by first | omega | (simp; done) | (simp; omega)) _)); rintro e wF ⟨P, cap, rfl, hcap, hap, hbF⟩; have sF := hbF.size; (try simp at sF); (try (have zq : wF.heap[w3.heap.size]? = some (.cells #[.int .i64 0, .slice none 0 0] 24 (0, 0)) := (hbF.block w3.heap.size (by simp)).trans (heap_alloc_new w3.drew _); have z0 : wF.cell? ⟨w3.heap.size, 0, none⟩ = some (.int .i64 0) := (by rw [cell_of_row _ _ 0 _ _ _ zq]; rfl); have z1 : wF.cell? ⟨w3.heap.size, 1, none⟩ = some (.slice none 0 0) := (by rw [cell_of_row _ _ 1 _ _ _ zq]; rfl); have zf : ∀ o, wF.frozen? ⟨w3.heap.size, o, none⟩ = false := (fun o => by simp [World.frozen?, zq])))))
            all_goals
              go_wp2_with fail
              go_meet
              first
                | exact ⟨_, P, cap, rfl, hcap, Lib.hid (heap_alloc_new _ _), hbF.size, Lib.hid (fun g hg hne => by rcases hap with h | ⟨g', h1, _, _, h4⟩; (· exact absurd h hne); (· rw [hg] at h1; cases h1; omega)), Lib.hid (hap.kept (Nat.le_refl _) (by simp) (fun g _ hg => heap_alloc_old _ _ hg)), Lib.hid (((Below.refl _ w3).drew.trans hbF).alloc hbF.size _)⟩
                | (have sz2 : w3.heap.size + 1 ≤ wF.heap.size := by { have := hbF.size; simp at this; omega }
                   refine ⟨_, P, cap, rfl, hcap, Lib.hid (heap_set2 zq), Nat.le_refl _, Lib.hid (fun g hg hne => ?_), Lib.hid ?_, Lib.hid ?_⟩
                   · rcases hap with h | ⟨g', h1, _, h3, h4⟩
                     · exact absurd h hne
                     · rw [hg] at h1
                       cases h1
                       simp at h3
                       omega
                   · refine hap.kept (by simp) (by simp) (fun g h3 hg => ?_)
                     simp at h3
                     rw [heap_setCell_other _ _ g _ (by show g ≠ w3.heap.size; omega), heap_setCell_other _ _ g _ (by show g ≠ w3.heap.size; omega)]
                   · exact ((((Below.refl _ w3).drew.alloc (Nat.le_refl _) _).trans (hbF.mono (by simp))).setCell (Nat.le_refl _) _).setCell (Nat.le_refl _) _)
          case rest =>
            obtain ⟨q, P, cap, rfl, hcap, HQ, hq1, HNE, HA, HB⟩ := hcut
            have HR1 := Lib.hid ((HB.out.block (gx + 1) (by omega)).trans HR0'.out)
            have HBC : Hid (Below gx w wc) := Lib.hid (HBW3.out.trans (HB.out.mono (by omega)))
            have HP : Hid (∀ _ : Nat, ∀ g, P = some ⟨g, 0, none⟩ → arcs ≠ [] → g ≠ q ∧ w3.heap.size ≤ g) := Lib.hid (fun _ g hg hne => ⟨HNE.out g hg hne, by
              rcases HA.out with h | ⟨g', h1, _, h3, _⟩
              · exact absurd h hne
              · rw [hg] at h1; cases h1; exact h3⟩)
            clear c0 c1 HB HR0'
            go_wp2_with fail
            go_loopg [36] ch.length (fun gg s36 wr => ∃ k : Nat, k ≤ ch.length ∧ ch.length - k ≤ gg ∧ s36 = .int .i64 k ∧ Hid (wr.heap[q]? = some (.cells #[.int .i64 N, .slice P arcs.length cap] 24 (0, 0))) ∧ Hid (wr.heap[gx + 1]? = some (.cells #[.int .i64 0, .slice none 0 0] 24 (0, 0))) ∧ Hid (ArcsP w3.heap.size wr P (Q.weighTo arcs (idsC ch) (wsC ch) k)) ∧ Hid (Below gx w wr))
            case atStart => exact ⟨0, Nat.zero_le _, by omega, rfl, HQ, HR1, HA, HBC⟩
            case round =>
              obtain ⟨k, hk1, hgg, rfl, HQ2, HR2, HA2, HB2'⟩ := hrel
              by_cases hlt : k < ch.length
              · have hltz : (k : Int) < (ch.length : Int) := by omega
                have hwk : IntKind.i64.wrap ((k : Int) + 1) = ((k + 1 : Nat) : Int) := by rw [IntWalk.i64_in _ (by omega)]; omega
                have hbw : Below w.heap.size w wr := by rw [HGX.out]; exact HB2'.out
                obtain ⟨cad, rfl, y0, y1⟩ := (HCH.out.below hbw) k hlt
                have hmem : (idsC ch).getD k 0 ∈ idsC ch := get_mem (by unfold idsC; rw [List.length_map]; exact hlt)
                obtain ⟨hi0, hi1⟩ := HIDX.out _ hmem
                rw [idsC_get ch k hlt] at hi0 hi1
                obtain ⟨i, hi⟩ : ∃ i : Nat, (ch.getD k zCh).a = (i : Int) := ⟨_, (Int.toNat_of_nonneg hi0).symm⟩
                have hil2 : i < arcs.length := by omega
                have hiz : (i : Int) < (arcs.length : Int) := by omega
                have hne : arcs ≠ [] := by intro e; rw [e] at hil2; simp at hil2
                have HST : Hid (Q.weighTo arcs (idsC ch) (wsC ch) (k + 1) = (Q.weighTo arcs (idsC ch) (wsC ch) k).set i ⟨((Q.weighTo arcs (idsC ch) (wsC ch) k).getD i Q.z95).f0, ((Q.weighTo arcs (idsC ch) (wsC ch) k).getD i Q.z95).f1, (ch.getD k zCh).x⟩) := Lib.hid (by
                  show (Q.weighTo arcs (idsC ch) (wsC ch) k).set ((idsC ch).getD k 0).toNat _ = _
                  rw [idsC_get ch k hlt, wsC_get ch k hlt, hi, Int.toNat_natCast])
                have hwl := Q.weighTo_len arcs (idsC ch) (wsC ch) k
                rw [hi] at y0
                rcases HA2.out with he | ⟨g, rfl, hat, hg1, hg2⟩
                · rw [he] at hwl; simp at hwl; omega
                obtain ⟨hgq, _⟩ := HP.out 0 g rfl hne
                obtain ⟨_, _, z2, zf⟩ := hat i (by rw [hwl]; exact hil2)
                have HAT := Lib.hid hat
                have HWL := Lib.hid hwl
                have q1c : wr.cell? ⟨q, 1, none⟩ = some (.slice (some ⟨g, 0, none⟩) arcs.length cap) := by rw [cell_of_row _ _ 1 _ _ _ HQ2.out]; rfl
                have hqr : q < wr.heap.size := lt_of_block HQ2.out
                have hgr : gx + 1 < wr.heap.size := lt_of_block HR2.out
                generalize (ch.getD k zCh).x = xw at *
                generalize ((Q.weighTo arcs (idsC ch) (wsC ch) k).getD i Q.z95).f2 = old at *
                clear hat hwl hi0 hi1 hi hmem hbw
                go_upto_region 12 with fail
                have hbA : Below wr.heap.size wr (wr.alloc (.cells #[.int .i64 (i : Int), .int .u32 xw] 87)) := (Below.refl _ wr).alloc (Nat.le_refl _) _
                have d0 : (wr.alloc (.cells #[.int .i64 (i : Int), .int .u32 xw] 87)).cell? ⟨wr.heap.size, 0, none⟩ = some (.int .i64 (i : Int)) := by simp
                have d1 : (wr.alloc (.cells #[.int .i64 (i : Int), .int .u32 xw] 87)).cell? ⟨wr.heap.size, 1, none⟩ = some (.int .u32 xw) := by simp
                have q1d := (hbA.cell (p := ⟨q, 1, none⟩) hqr).trans q1c
                have z2d := (hbA.cell (p := ⟨g, i * 3 + 2, none⟩) hg2).trans z2
                have HQ3 := Lib.hid ((hbA.block q hqr).trans HQ2.out)
                have HR3 := Lib.hid ((hbA.block (gx + 1) hgr).trans HR2.out)
                have HAT3 := Lib.hid (HAT.out.kept (hbA.block g hg2))
                have zfd := (HAT3.out i (by rw [HWL.out]; exact hil2)).2.2.2
                have hsz3 : g < (wr.alloc (.cells #[.int .i64 (i : Int), .int .u32 xw] 87)).heap.size := by simp; omega
                have HB3' : Hid (Below gx w (wr.alloc (.cells #[.int .i64 (i : Int), .int .u32 xw] 87))) := Lib.hid (HB2'.out.alloc (by have := HB2'.out.size; have := HGX.out; omega) _)
                generalize (wr.alloc (.cells #[.int .i64 (i : Int), .int .u32 xw] 87)) = wa at *
                generalize wr.heap.size = gc at *
                clear y0 y1 z2 zf q1c hbA HQ2 HR2 HAT HB2'
                go_wp2_with fail
                have HWK := Lib.hid hwk
                clear hwk
                go_roundg (ch.length - (k + 1))
                case measure => omega
                case rel =>
                  refine ⟨k + 1, by omega, Nat.le_refl _, rfl, Lib.hid ((heap_setCell_other wa ⟨g, i * 3 + 2, none⟩ q _ (by show q ≠ g; omega)).trans HQ3.out), Lib.hid ((heap_setCell_other wa ⟨g, i * 3 + 2, none⟩ (gx + 1) _ (by show gx + 1 ≠ g; omega)).trans HR3.out), Lib.hid ?_, Lib.hid (HB3'.out.setCell (by show gx ≤ g; omega) _)⟩
                  rw [HST.out]
                  exact Or.inr ⟨g, rfl, ArcsAt.set HAT3.out i xw (by rw [HWL.out]; exact hil2), hg1, by simpa using hsz3⟩
              · have : k = ch.length := by omega
                subst this
                have hkz : ¬ (ch.length : Int) < (ch.length : Int) := by omega
                have qc0 : wr.cell? ⟨q, 0, none⟩ = some (.int .i64 N) := by rw [cell_of_row _ _ 0 _ _ _ HQ2.out]; rfl
                have qc1 : wr.cell? ⟨q, 1, none⟩ = some (.slice P arcs.length cap) := by rw [cell_of_row _ _ 1 _ _ _ HQ2.out]; rfl
                have qI := HR2.out
                obtain ⟨z0, z1, zf⟩ := cells2 qI
                go_wp2_with fail
                ((try simp only [Exit.inBlock, Exit.then]); refine bodyPost_ret (results_ct rfl _ _ (gx + 1) 24 #[.int .i64 N, .slice P arcs.length cap] (0, 0) _ rfl (heap_set2 qI) Tryz.underlying24 rfl (by kernel_rfl)) rfl ?_)
                have hbw := HB2'.out
                have hgx := HGX.out
                subst hgx
                refine ⟨HVG2.out _ _ trivial HE.out ⟨P, cap, rfl, hcap, HA2.out.kept (by omega) (by simp) (fun g h3 hg => ?_)⟩, (hbw.setCell (by show w.heap.size ≤ w.heap.size + 1; omega) _).setCell (by show w.heap.size ≤ w.heap.size + 1; omega) _⟩
                rw [heap_setCell_other _ _ g _ (by show g ≠ w.heap.size + 1; omega), heap_setCell_other _ _ g _ (by show g ≠ w.heap.size + 1; omega)]
    · go_wp2_with (go_at_call 55; (with_reducible refine HCK1.out.mono ?_); rintro e w2 ⟨rfl, hb⟩; have HB2 := Lib.hid hb; have qI := (HBOX.out w2 hb).2.2.1; obtain ⟨z0, z1, zf⟩ := cells2 qI; clear hb)
      have qI := (HBOX.out w2 HB2.out).2.2.1
      have hbw := (HBOX.out w2 HB2.out).2.2.2
      ((try simp only [Exit.inBlock, Exit.then]); refine bodyPost_ret (results_ct rfl _ _ (gx + 1) 24 #[.int .i64 0, .slice none 0 0] (0, 0) _ rfl (heap_set2 qI) Tryz.underlying24 rfl (by kernel_rfl)) rfl ?_)
      have hgx := HGX.out
      subst hgx
      exact ⟨HVV2.out _ _ (fun h => hk h.1) ⟨k2, hk, rfl⟩, (hbw.setCell (by show w.heap.size ≤ w.heap.size + 1; omega) _).setCell (by show w.heap.size ≤ w.heap.size + 1; omega) _⟩
  refine hgoal.mono ?_
  rintro e w' ⟨h1, h2⟩
  rw [HPV.out] at h1
  exact ⟨h1, h2⟩

end Go.Proofs.YtjddimoeodecgaaGreat

/- The law's alike and arcsOf. -/
namespace Go.Proofs.YtjddimoeodecgaaGreat
open Go.RowKit Go.Lib Go.Maps Go.Proofs.YtjddimoeodecgaaGreatW.PrintWords Go.Proofs.YtjddimoeodecgaaGreatW.PrintLast Go.Proofs.YtjddimoeodecgaaGreatW.PrintMore
set_option linter.unusedVariables false
set_option maxRecDepth 100000

/-- Two overlays that say the same distances. -/
structure SameD (os ps : List (List Mat)) : Prop where
  len : os.length = ps.length
  five : os.length ≤ 5
  row : ∀ k, k < os.length → (os.getD k []).length = (ps.getD k []).length ∧ (os.getD k []).length ≤ 1024
  mat : ∀ k c, k < os.length → c < (os.getD k []).length → ((os.getD k []).getD c zMat).D = ((ps.getD k []).getD c zMat).D ∧ ((os.getD k []).getD c zMat).D.length ≤ 268435456
theorem drawn0_at {w w' : World} (h : Drawn0 w w') : ∃ m, w' = w.drewN m := by
  exact h.out

set_option maxHeartbeats 4000000 in
theorem alike_any (w : World) (os ps : List (List Mat)) (ga gb oc pc : Nat) (hO : OverIn w ga os) (hP : OverIn w gb ps) (h : SameD os ps) :
    Calls Tryz.prog 46 #[.slice (some ⟨ga, 0, none⟩) os.length oc, .slice (some ⟨gb, 0, none⟩) ps.length pc] w fun e w' => e = .returned (.bool true) ∧ Below w.heap.size w w' := by
  have HO := Lib.hid hO
  have HP := Lib.hid hP
  have hfive := h.five
  have HROW := Lib.hid h.row
  have HMAT := Lib.hid h.mat
  rw [← h.len]
  have HPL := Lib.hid h.len
  clear hO hP h
  generalize hol : os.length = ol at *
  have HOL := Lib.hid hol
  clear hol
  go_enter Tryz.func46, Tryz.ntmps46
  go_wp2_with fail
  go_loopg [14] ol (fun gg s14 wr => ∃ k : Nat, k ≤ ol ∧ ol - k ≤ gg ∧ s14 = .int .i64 k ∧ Hid (Below w.heap.size w wr))
  case atStart => exact ⟨0, Nat.zero_le _, by omega, rfl, Lib.hid (Below.refl _ _)⟩
  case round =>
    obtain ⟨k, hk1, hgg, rfl, HB0⟩ := hrel
    obtain ⟨wm, rfl⟩ : ∃ x : World, x = wr := ⟨_, rfl⟩
    by_cases hlt : k < ol
    · have hltz : (k : Int) < (ol : Int) := by omega
      have hwk : IntKind.i64.wrap ((k : Int) + 1) = ((k + 1 : Nat) : Int) := by rw [IntWalk.i64_in _ (by omega)]; omega
      obtain ⟨HA, hc, o1, o2, o3⟩ := (HO.out.below HB0.out) k (by rw [HOL.out]; exact hlt)
      obtain ⟨HB, hd, p1, p2, p3⟩ := (HP.out.below HB0.out) k (by rw [← HPL.out]; exact hlt)
      obtain ⟨hrl, hr4⟩ := HROW.out k hlt
      rw [← hrl] at p1 p2
      have HRL := Lib.hid hrl
      have HAM := Lib.hid o3
      have HBM := Lib.hid p3
      have HMT := Lib.hid (fun c => HMAT.out k c hlt)
      clear o2 p2 o3 p3 hrl
      generalize os.getD k [] = ra at *
      generalize ps.getD k [] = rb at *
      generalize hral : ra.length = rl at *
      have HRAL := Lib.hid hral
      clear hral
      go_upto_region 6 with fail
      go_quiet (fail)
      have HBQ : Hid (Below w.heap.size w (wm.drewN nq)) := Lib.hid (Below.drewN_ HB0.out nq)
      have HMQ : Hid (Below wm.heap.size wm (wm.drewN nq)) := Lib.hid (Below.drewN_ (Below.refl _ _) nq)
      have o1q : (wm.drewN nq).cell? ⟨ga, k, none⟩ = some (.slice HA rl hc) := (HMQ.out.cell (World.block_lt_of_cell? wm _ o1)).trans o1
      have p1q : (wm.drewN nq).cell? ⟨gb, k, none⟩ = some (.slice HB rl hd) := (HMQ.out.cell (World.block_lt_of_cell? wm _ p1)).trans p1
      generalize wm.drewN nq = wn at *
      clear o1 p1
      go_wp2_with fail
      go_loopg [33] rl (fun gg s33 wr => ∃ c : Nat, c ≤ rl ∧ rl - c ≤ gg ∧ s33 = .int .i64 c ∧ Hid (Below wn.heap.size wn wr))
      case atStart => exact ⟨0, Nat.zero_le _, by omega, rfl, Lib.hid (Below.refl _ _)⟩
      case round =>
        obtain ⟨c, hc1, hgg2, rfl, HBC⟩ := hrel
        obtain ⟨wq, rfl⟩ : ∃ x : World, x = wr := ⟨_, rfl⟩
        by_cases hltc : c < rl
        · have hltcz : (c : Int) < (rl : Int) := by omega
          have hwc : IntKind.i64.wrap ((c : Int) + 1) = ((c + 1 : Nat) : Int) := by rw [IntWalk.i64_in _ (by omega)]; omega
          have hbq : Below wm.heap.size wm wq := HMQ.out.trans (HBC.out.mono HMQ.out.size)
          obtain ⟨g1, DP, dc, hHA, y0, y1, y2, y3, hdc, -, hkc, -⟩ := (HAM.out.below hbq) c (by rw [HRAL.out]; exact hltc)
          obtain ⟨g2, EP, ec, hHB, z0, z1, z2, z3, hec, -, hkd, -⟩ := (HBM.out.below hbq) c (by rw [← HRL.out]; exact hltc)
          subst hHA
          subst hHB
          obtain ⟨hDD, hdl⟩ := HMT.out c hltc
          rw [← hDD] at z3 hec hkd
          have o1c := (HBC.out.cell (World.block_lt_of_cell? wn _ o1q)).trans o1q
          have p1c := (HBC.out.cell (World.block_lt_of_cell? wn _ p1q)).trans p1q
          generalize (ra.getD c zMat).D = D at *
          have hnl := (natsI_u64 D).2
          have HSD : Hid (∀ m : Nat, Calls Tryz.prog 50 #[.slice DP D.length dc, .slice EP D.length ec] (wq.drewN m) fun e w' => e = .returned (.bool true) ∧ ∃ n, w' = (wq.drewN m).drewN n) := Lib.hid (fun m => by
            have hbm : Below wq.heap.size wq (wq.drewN m) := Below.drewN_ (Below.refl _ _) m
            have h := Q.flyoverbook_SameDists.calls _ DP dc (Q.natsI D) EP ec (Q.natsI D) true (wq.drewN m) (Kd.C_below hkc hbm) (by rw [hnl]; exact hdc) (Kd.C_below hkd hbm) (by rw [hnl]; exact hec) (Q.sameDists_refl (Q.natsI D) (by rw [hnl]; omega))
            rw [hnl] at h
            refine h.mono ?_
            rintro e w' ⟨h1, h2⟩
            exact ⟨h1, drawn0_at h2⟩)
          clear hkc hkd hnl hdl hdc hec hDD y0 y1 y2 z0 z1 z2 hbq
          go_upto_region 11 with fail
          go_quiet ((go_at_call 50; exact Calls.quiet_of (HSD.out _)))
          have HBQ2 : Hid (Below wn.heap.size wn (wq.drewN nq)) := Lib.hid (Below.drewN_ HBC.out nq)
          generalize wq.drewN nq = wk at *
          go_wp2_with fail
          have HWC := Lib.hid hwc
          clear hwc
          go_roundg (rl - (c + 1))
          case measure => omega
          case rel => exact ⟨c + 1, by omega, Nat.le_refl _, rfl, HBQ2⟩
        · have : c = rl := by omega
          subst this
          have hkz : ¬ (c : Int) < (c : Int) := by omega
          go_wp2_with fail
          have HWK := Lib.hid hwk
          clear hwk
          go_roundg (ol - (k + 1))
          case measure => omega
          case rel => exact ⟨k + 1, by omega, Nat.le_refl _, rfl, Lib.hid (HBQ.out.trans (HBC.out.mono HBQ.out.size))⟩
    · have : k = ol := by omega
      subst this
      have hkz : ¬ (k : Int) < (k : Int) := by omega
      go_wp2_with fail
      go_ret
      exact ⟨rfl, HB0.out⟩

end Go.Proofs.YtjddimoeodecgaaGreat

/- Renew of a right overlay of other weights; graphs with changed weights. -/
namespace Go.Proofs.YtjddimoeodecgaaGreat
open Go.RowKit Go.Lib Go.Maps Go.Proofs.YtjddimoeodecgaaGreatW.PrintWords Go.Proofs.YtjddimoeodecgaaGreatW.PrintLast Go.Proofs.YtjddimoeodecgaaGreatW.PrintMore
set_option linter.unusedVariables false
set_option maxRecDepth 100000

/-- overlay.Renew of what was right under other weights. -/
theorem renewed_any (n : Nat) (arcs : List Q.S95) (A : Option Addr) (c : Nat) (BA : Option Addr) (bc : Nat) (bounds : List Int) (CA : Option Addr) (cc : Nat) (cells : List (List Int)) (w : World) (h : GN w n arcs A c BA bc bounds CA cc cells) (old : List Q.S95) (hgo : Q.GOk n old) (hs : Shape old arcs) (go : Nat) (E0 : Nat → Nat → Int) (epoch : Int) (hep : 0 ≤ epoch ∧ epoch ≤ 1073741824) (hE : ∀ k c, 0 ≤ E0 k c ∧ E0 k c ≤ epoch) (hO : OverIn w go (overO n old cells bounds.length E0)) (IA : Option Addr) (ic : Nat) (ids : List Int) (hi : Kd.C (Kd.int .i64) w IA ids.length ids) (hse : Q.staleE arcs ids = 0) (hb : SameBut old arcs ids) :
    Calls Tryz.prog 42 #[.agg #[.int .i64 (n : Int), .slice A arcs.length c], .agg #[.slice BA bounds.length bc, .slice CA cells.length cc], .slice (some ⟨go, 0, none⟩) bounds.length bounds.length, .slice IA ids.length ic, .int .i64 epoch] w fun e w' => ∃ g, e = .returned (.tuple #[.slice (some ⟨g, 0, none⟩) bounds.length bounds.length, .int .i64 (anewT (Q.fateF arcs cells ids) (fun k => Q.manyOf (cells.getD k [])) bounds.length : Nat), .int .i64 0]) ∧ OverIn w' g (overO n arcs cells bounds.length (epF (Q.fateF arcs cells ids) E0 epoch)) ∧ Below w.heap.size w w' := by
  have hok := overO_ok hs (n := n) bounds cells E0 (fun k c _ _ => ⟨(hE k c).1, Int.le_trans (hE k c).2 hep.2⟩)
  have h1 := renew_any n arcs A c BA bc bounds CA cc cells w h go bounds.length _ hO hok IA ic ids hi hse epoch hep (overO_mem.2 (fun k c _ _ => (hE k c).2)) E0 (fun k x hk hx h0 => by
    rw [overO_get _ _ hk, overRow_get _ _ hx]
    have h2 := overM_kept (ep := E0) (epoch := epoch) hgo h.g hs hb (k := k) (c := x) (cells := cells) (h.row k hk).1 h0
    unfold overM at h2 ⊢
    rw [epF_stays h0] at h2
    exact h2)
  rw [overO_len] at h1
  refine h1.mono ?_
  rintro e w' ⟨g, vs, pss, h1, h2, h3, h4⟩
  have h5 := h2.inn
  rw [h3] at h5
  exact ⟨g, h1, h5, h4⟩
theorem allIn_any (n : Nat) (arcs : List Q.S95) (A : Option Addr) (c : Nat) (BA : Option Addr) (bc : Nat) (bounds : List Int) (CA : Option Addr) (cc : Nat) (cells : List (List Int)) (w : World) (h : GN w n arcs A c BA bc bounds CA cc cells) (epoch : Int) (hep : 0 ≤ epoch ∧ epoch ≤ 1073741824) : Calls Tryz.prog 37 #[.agg #[.int .i64 (n : Int), .slice A arcs.length c], .agg #[.slice BA bounds.length bc, .slice CA cells.length cc], .int .i64 epoch] w fun e w' => ∃ g, e = .returned (.tuple #[.slice (some ⟨g, 0, none⟩) bounds.length bounds.length, .int .i64 0]) ∧ OverIn w' g (overO n arcs cells bounds.length (fun _ _ => epoch)) ∧ Below w.heap.size w w' := by
  refine (overAll_any n arcs A c BA bc bounds CA cc cells w h epoch hep).mono ?_
  rintro e w' ⟨g, vs, pss, h1, h2, h3, h4⟩
  have h5 := h2.inn
  rw [h3] at h5
  exact ⟨g, h1, h5, h4⟩
theorem epF_le {f : Nat → Nat → Nat} {ep : Nat → Nat → Int} {e0 e : Int} (h : ∀ k c, 0 ≤ ep k c ∧ ep k c ≤ e0) (he : 0 ≤ e) (hle : e0 ≤ e) (k c : Nat) : 0 ≤ epF f ep e k c ∧ epF f ep e k c ≤ e := by
  unfold epF
  split
  · have := h k c; omega
  · omega

/-- The graph that Change makes. -/
def arcsC (arcs : List Q.S95) (ch : List Chg) : List Q.S95 := Q.weighedOf arcs (idsC ch) (wsC ch)
theorem idsC_len (ch : List Chg) : (idsC ch).length = ch.length := by unfold idsC; rw [List.length_map]
theorem arcsC_eq (arcs : List Q.S95) (ch : List Chg) : Q.weighTo arcs (idsC ch) (wsC ch) ch.length = arcsC arcs ch := by
  unfold arcsC Q.weighedOf
  rw [idsC_len]
theorem arcsC_shape (arcs : List Q.S95) (ch : List Chg) : Shape arcs (arcsC arcs ch) := weigh_shape arcs (idsC ch) (wsC ch) _
theorem arcsC_but (arcs : List Q.S95) (ch : List Chg) (h : ∀ i ∈ idsC ch, 0 ≤ i) : SameBut arcs (arcsC arcs ch) (idsC ch) := weigh_but arcs (idsC ch) (wsC ch) h _ (Nat.le_refl _)
theorem arcsC_gok {n : Nat} {arcs : List Q.S95} {ch : List Chg} (hg : Q.GOk n arcs) (hx : ∀ c ∈ ch, 0 ≤ c.x ∧ c.x < 4294967296) : Q.GOk n (arcsC arcs ch) := weighed_ok hg (idsC ch) (wsC ch) (fun x hx' => by
  unfold wsC at hx'
  obtain ⟨c, hc, rfl⟩ := List.mem_map.1 hx'
  exact hx c hc)
theorem arcsC_len (arcs : List Q.S95) (ch : List Chg) : (arcsC arcs ch).length = arcs.length := Q.weighTo_len arcs (idsC ch) (wsC ch) _
theorem ArcsP.c {B : Nat} {w : World} {P : Option Addr} {l : List Q.S95} (h : ArcsP B w P l) (hl : l.length ≤ 1000000) : Kd.C Q.k95 w P l.length l := by
  rcases h with h | ⟨g, h1, h2, _, _⟩
  · subst h
    exact arcs_C_nil _ _
  · subst h1
    exact h2.c hl
/-- The nest is right for a graph of other weights, too. -/
theorem GN.weigh {w w' : World} {n : Nat} {arcs : List Q.S95} {A : Option Addr} {c : Nat} {BA : Option Addr} {bc : Nat} {bounds : List Int} {CA : Option Addr} {cc : Nat} {cells : List (List Int)} (h : GN w n arcs A c BA bc bounds CA cc cells) (hb : Below w.heap.size w w') {arcs' : List Q.S95} {A' : Option Addr} {c' : Nat} (hg : Q.GOk n arcs') (hr : Kd.C Q.k95 w' A' arcs'.length arcs') (hc : arcs'.length ≤ c') : GN w' n arcs' A' c' BA bc bounds CA cc cells := by
  refine ⟨hg, hr, hc, h.nest.below hb, ?_⟩
  have h1 := h.ck
  unfold Q.checkR at h1 ⊢
  rw [Q.graphR_of h.g] at h1
  rw [Q.graphR_of hg]
  exact h1

/-- graph.Change: what comes of it, and when it is well. -/
theorem changed_any (N : Int) (arcs : List Q.S95) (A : Option Addr) (c : Nat) (ch : List Chg) (CP : Option Addr) (pc : Nat) (w : World) (hf : Q.ArcsFit arcs) (hr : Kd.C Q.k95 w A arcs.length arcs) (hc : arcs.length ≤ c) (hch : ChAt w CP ch) (hx : ∀ c ∈ ch, 0 ≤ c.x ∧ c.x < 4294967296) :
    Calls Tryz.prog 44 #[.agg #[.int .i64 N, .slice A arcs.length c], .slice CP ch.length pc] w fun e w' => ∃ (M : Int) (arcs' : List Q.S95) (P : Option Addr) (cap : Nat) (F : Int), e = .returned (.tuple #[.agg #[.int .i64 M, .slice P arcs'.length cap], .int .i64 F]) ∧ Q.ArcsFit arcs' ∧ Kd.C Q.k95 w' P arcs'.length arcs' ∧ arcs'.length ≤ cap ∧ (F = 0 ↔ (Q.graphR N arcs).2 = 0 ∧ Q.chE arcs ch = 0) ∧ (F = 0 → M = N ∧ arcs' = arcsC arcs ch) ∧ Below w.heap.size w w' := by
  refine (change_any N arcs A c ch CP pc w hf hr hc hch).mono ?_
  rintro e w' ⟨⟨h1, h2, P, cap, h3, h4, h5⟩ | ⟨h1, E, h2, h3⟩, hb⟩
  · rw [arcsC_eq] at h5
    obtain ⟨hN, hG⟩ := Q.graphR_ok hf h1
    have hl := arcsC_len arcs ch
    have hm := hG.m
    refine ⟨N, arcsC arcs ch, P, cap, 0, by rw [hl]; exact h3, (arcsC_gok hG hx).fit, h5.c (by omega), by omega, ⟨fun _ => ⟨h1, h2⟩, fun _ => rfl⟩, fun _ => ⟨rfl, rfl⟩, hb⟩
  · exact ⟨0, [], none, 0, E, h3, (fun a ha => (by cases ha)), arcs_C_nil _ _, Nat.le_refl _, ⟨fun h => absurd h h2, fun h => absurd h h1⟩, fun h => absurd h h2, hb⟩

end Go.Proofs.YtjddimoeodecgaaGreat

/- OverlayTwice's walk. -/
namespace Go.Proofs.YtjddimoeodecgaaGreat
open Go.RowKit Go.Lib Go.Maps Go.Proofs.YtjddimoeodecgaaGreatW.PrintWords Go.Proofs.YtjddimoeodecgaaGreatW.PrintLast Go.Proofs.YtjddimoeodecgaaGreatW.PrintMore
set_option linter.unusedVariables false
set_option maxRecDepth 100000

theorem ids_ok {arcs : List Q.S95} {ids : List Int} (hl : ids.length ≤ 16384) (h : ∀ i ∈ ids, 0 ≤ i ∧ i < (arcs.length : Int)) : Q.staleE arcs ids = 0 := by
  unfold Q.staleE
  rw [if_neg (by omega)]
  have h1 : Q.idxOk arcs ids = true := by
    unfold Q.idxOk
    rw [List.all_eq_true]
    intro i hi
    have := h i hi
    simp only [Bool.and_eq_true, decide_eq_true_eq]
    exact this
  rw [if_pos h1]
theorem sameD_over {n : Nat} {arcs : List Q.S95} {cells : List (List Int)} {K : Nat} (h5 : K ≤ 5) (E1 E2 : Nat → Nat → Int) (h1 : ∀ k, k < K → Q.manyOf (cells.getD k []) ≤ 1024) (hm : arcs.length ≤ 8192) : SameD (overO n arcs cells K E1) (overO n arcs cells K E2) := by
  refine ⟨by rw [overO_len, overO_len], by rw [overO_len]; exact h5, fun k hk => ?_, fun k c hk hc => ?_⟩
  · rw [overO_len] at hk
    rw [overO_get _ _ hk, overO_get _ _ hk, overRow_len, overRow_len]
    exact ⟨rfl, h1 k hk⟩
  · rw [overO_len] at hk
    rw [overO_get _ _ hk] at hc ⊢
    rw [overRow_len] at hc
    rw [overO_get _ _ hk, overRow_get _ _ hc, overRow_get _ _ hc]
    refine ⟨rfl, ?_⟩
    show (Q.matOf n arcs (cells.getD k []) (c : Int)).length ≤ _
    rw [matOf_len]
    have h1 := Q.bnd_len arcs (cells.getD k []) (c : Int)
    have h2 : (Q.bndOf arcs (cells.getD k []) (c : Int)).length ≤ 16384 := by omega
    have h3 := Nat.mul_le_mul h2 h2
    omega
/-- A row of numbers of the call's own, to be read. -/
theorem ownInts_C {w : World} {B : Nat} {v : Value} {l : List Int} (h : w.ownsRow B 3 1 v l.length (l.map (Value.int .i64))) : ∃ A c, v = .slice A l.length c ∧ l.length ≤ c ∧ Kd.C (Kd.int .i64) w A l.length l := by
  obtain ⟨A, c, hv, hc, -⟩ := own_cap h
  subst hv
  exact ⟨A, c, rfl, hc, (Kd.R_reads' (Kd.R_of_own (enc := Value.int .i64) (ok := fun _ => True) h (fun _ _ => trivial))).2.2⟩

end Go.Proofs.YtjddimoeodecgaaGreat

/- How many cells are stale (plain). -/
namespace Go.Proofs.YtjddimoeodecgaaGreat
open Go.RowKit Go.Lib Go.Maps Go.Proofs.YtjddimoeodecgaaGreatW.PrintWords Go.Proofs.YtjddimoeodecgaaGreatW.PrintLast Go.Proofs.YtjddimoeodecgaaGreatW.PrintMore
set_option linter.unusedVariables false
set_option maxRecDepth 100000

theorem asc_eq : ∀ (a b : List Int), a.Pairwise (· < ·) → b.Pairwise (· < ·) → (∀ x, x ∈ a ↔ x ∈ b) → a = b
  | [], [], _, _, _ => rfl
  | [], y :: b, _, _, h => absurd ((h y).2 List.mem_cons_self) (by simp)
  | x :: a, [], _, _, h => absurd ((h x).1 List.mem_cons_self) (by simp)
  | x :: a, y :: b, ha, hb, h => by
    obtain ⟨ha1, ha2⟩ := List.pairwise_cons.1 ha
    obtain ⟨hb1, hb2⟩ := List.pairwise_cons.1 hb
    have hxy : x = y := by
      rcases List.mem_cons.1 ((h x).1 List.mem_cons_self) with e | e
      · exact e
      · rcases List.mem_cons.1 ((h y).2 List.mem_cons_self) with e2 | e2
        · exact e2.symm
        · have h1 := hb1 x e
          have h2 := ha1 y e2
          omega
    subst hxy
    congr 1
    refine asc_eq a b ha2 hb2 (fun z => ⟨fun hz => ?_, fun hz => ?_⟩)
    · rcases List.mem_cons.1 ((h z).1 (List.mem_cons_of_mem _ hz)) with e | e
      · have := ha1 z hz; omega
      · exact e
    · rcases List.mem_cons.1 ((h z).2 (List.mem_cons_of_mem _ hz)) with e | e
      · have := hb1 z hz; omega
      · exact e
theorem range_asc : ∀ (p : Nat → Bool) (m : Nat), (((List.range m).filter p).map (fun c : Nat => (c : Int))).Pairwise (· < ·) := by
  intro p m
  rw [List.pairwise_map]
  refine (List.Pairwise.filter p List.pairwise_lt_range).imp (fun h => ?_)
  omega
/-- The list of the stale cells has as many members as cells are made anew. -/
theorem stale_count (arcs : List Q.S95) (cells : List (List Int)) (ids : List Int) (k m : Nat) (hin : ∀ c ∈ Q.staleOf arcs (cells.getD k []) ids, 0 ≤ c ∧ c < (m : Int)) : (Q.staleOf arcs (cells.getD k []) ids).length = anewK (Q.fateF arcs cells ids) k m := by
  have hf : ∀ c : Nat, Q.fateF arcs cells ids k c ≠ 0 ↔ (c : Int) ∈ Q.staleOf arcs (cells.getD k []) ids := fun c => by
    unfold Q.fateF Q.isStale
    by_cases h : (c : Int) ∈ Q.staleOf arcs (cells.getD k []) ids
    · rw [if_pos (decide_eq_true h)]
      exact ⟨fun _ => h, fun _ => by split <;> omega⟩
    · rw [if_neg (by simpa using h)]
      exact ⟨fun q => absurd rfl q, fun q => absurd q h⟩
  have e := asc_eq _ _ (stale_asc arcs (cells.getD k []) ids) (range_asc (fun c => decide (Q.fateF arcs cells ids k c ≠ 0)) m) (fun x => by
    rw [List.mem_map]
    constructor
    · intro hx
      have h0 := hin x hx
      refine ⟨x.toNat, List.mem_filter.2 ⟨List.mem_range.2 (by omega), ?_⟩, by omega⟩
      rw [decide_eq_true_eq, hf]
      rw [Int.toNat_of_nonneg h0.1]
      exact hx
    · rintro ⟨c, hc, rfl⟩
      have h1 := (List.mem_filter.1 hc).2
      rw [decide_eq_true_eq] at h1
      exact (hf c).1 h1)
  have h2 := congrArg List.length e
  rw [List.length_map] at h2
  exact h2

end Go.Proofs.YtjddimoeodecgaaGreat

/- What OverlayHolds counts (plain); overlay.Late. -/
namespace Go.Proofs.YtjddimoeodecgaaGreat
open Go.RowKit Go.Lib Go.Maps Go.Proofs.YtjddimoeodecgaaGreatW.PrintWords Go.Proofs.YtjddimoeodecgaaGreatW.PrintLast Go.Proofs.YtjddimoeodecgaaGreatW.PrintMore
set_option linter.unusedVariables false
set_option maxRecDepth 100000

theorem stale_in {n : Nat} {arcs : List Q.S95} (hg : Q.GOk n arcs) {row : List Int} (hl : row.length = n) (hr : Q.rightP n row = true) {ids : List Int} (hi : ∀ i ∈ ids, 0 ≤ i ∧ i < (arcs.length : Int)) : ∀ c ∈ Q.staleOf arcs row ids, 0 ≤ c ∧ c < (Q.manyOf row : Int) := fun c hc => by
  obtain ⟨i, hid, hin⟩ := Q.mem_stale.1 hc
  obtain ⟨h0, h1⟩ := hi i hid
  have ha : arcs.getD i.toNat Q.z95 ∈ arcs := mem_getD (by omega)
  obtain ⟨⟨q0, q1⟩, -⟩ := hg.ends _ ha
  generalize arcs.getD i.toNat Q.z95 = a at *
  unfold Q.insideB at hin
  simp only [Bool.and_eq_true, decide_eq_true_eq] at hin
  have h2 := hin.1
  unfold Q.cellF at h2
  obtain ⟨x, hx, hxm⟩ := Q.lt_many (fun y hy => ((Q.rightP_in hr).2 y hy).1) (i := a.f0.toNat) (l := row) (by omega)
  rw [← h2, hx]
  omega
/-- A row's stale cells are as many as are made anew. -/
theorem stale_anew {n : Nat} {arcs b : List Q.S95} (hg : Q.GOk n arcs) (hs : Shape arcs b) {cells : List (List Int)} {k : Nat} (hl : (cells.getD k []).length = n) (hr : Q.rightP n (cells.getD k []) = true) {ids : List Int} (hi : ∀ i ∈ ids, 0 ≤ i ∧ i < (arcs.length : Int)) : (Q.staleOf arcs (cells.getD k []) ids).length = anewK (Q.fateF b cells ids) k (Q.manyOf (cells.getD k [])) := by
  have h1 := stale_count arcs cells ids k (Q.manyOf (cells.getD k [])) (stale_in hg hl hr hi)
  have h2 : Q.fateF arcs cells ids = Q.fateF b cells ids := by
    funext k c
    unfold Q.fateF Q.isStale
    rw [Q.stale_shape hs]
  rw [h1, h2]
theorem anewK_pos {f : Nat → Nat → Nat} {k : Nat} : ∀ {m : Nat}, 0 < anewK f k m ↔ ∃ c, c < m ∧ ¬ f k c = 0
  | 0 => by
    constructor
    · intro h
      simp [anewK] at h
    · rintro ⟨c, hc, _⟩
      omega
  | m + 1 => by
    rw [anewK_step]
    by_cases h : f k m = 0
    · rw [if_pos h, Nat.add_zero, anewK_pos]
      constructor
      · rintro ⟨c, hc, hn⟩
        exact ⟨c, by omega, hn⟩
      · rintro ⟨c, hc, hn⟩
        refine ⟨c, ?_, hn⟩
        rcases Nat.lt_or_ge c m with h1 | h1
        · exact h1
        · have : c = m := by omega
          rw [this] at hn
          exact absurd h hn
    · rw [if_neg h]
      exact ⟨fun _ => ⟨m, by omega, h⟩, fun _ => by omega⟩
theorem anewT_pos {f : Nat → Nat → Nat} {M : Nat → Nat} : ∀ {K : Nat}, 0 < anewT f M K ↔ ∃ k c, k < K ∧ c < M k ∧ ¬ f k c = 0
  | 0 => by
    constructor
    · intro h
      simp [anewT] at h
    · rintro ⟨k, c, hk, _⟩
      omega
  | K + 1 => by
    rw [anewT_step]
    constructor
    · intro h
      rcases Nat.eq_zero_or_pos (anewT f M K) with h0 | h0
      · obtain ⟨c, hc, hn⟩ := anewK_pos.1 (by omega : 0 < anewK f K (M K))
        exact ⟨K, c, by omega, hc, hn⟩
      · obtain ⟨k, c, hk, hc, hn⟩ := anewT_pos.1 h0
        exact ⟨k, c, by omega, hc, hn⟩
    · rintro ⟨k, c, hk, hc, hn⟩
      rcases Nat.lt_or_ge k K with h1 | h1
      · have := anewT_pos.2 ⟨k, c, h1, hc, hn⟩
        omega
      · have : k = K := by omega
        subst this
        have := anewK_pos.2 ⟨c, hc, hn⟩
        omega
/-- The latest epoch is 4 if any cell was made anew. -/
theorem late_four {n : Nat} {arcs : List Q.S95} {cells : List (List Int)} {K : Nat} {f : Nat → Nat → Nat} {L : Int} (h : IsLate (overO n arcs cells K (epF f (fun _ _ => 3) 4)) L) : L = 4 ↔ 0 < anewT f (fun k => Q.manyOf (cells.getD k [])) K := by
  rw [anewT_pos]
  constructor
  · intro hL
    rcases h.at' with h0 | ⟨l, hl, m, hm, he⟩
    · omega
    · obtain ⟨k, c, hk, hc, he2⟩ := overO_any (P := fun m => m.ep = L) ⟨l, hl, m, hm, he⟩
      refine ⟨k, c, hk, hc, fun h0 => ?_⟩
      have h1 : epF f (fun _ _ => 3) 4 k c = L := he2
      rw [epF_stays h0] at h1
      omega
  · rintro ⟨k, c, hk, hc, hn⟩
    have h1 : epF f (fun _ _ => 3) 4 k c ≤ L := (overO_mem (P := fun m => m.ep ≤ L)).1 h.ge k c hk hc
    rw [epF_anew hn] at h1
    rcases h.at' with h0 | ⟨l, hl, m, hm, he⟩
    · omega
    · obtain ⟨k2, c2, -, -, he2⟩ := overO_any (P := fun m => m.ep = L) ⟨l, hl, m, hm, he⟩
      have h2 : epF f (fun _ _ => 3) 4 k2 c2 = L := he2
      have h3 : epF f (fun _ _ => 3) 4 k2 c2 ≤ 4 := by
        unfold epF
        split
        · show (3 : Int) ≤ 4
          omega
        · omega
      omega
set_option maxHeartbeats 4000000 in
theorem late14_any (n : Nat) (arcs : List Q.S95) (A : Option Addr) (c : Nat) (BA : Option Addr) (bc : Nat) (bounds : List Int) (CA : Option Addr) (cc : Nat) (cells : List (List Int)) (w : World) (h : GN w n arcs A c BA bc bounds CA cc cells) (go oc : Nat) (os : List (List Mat)) (hO : OverIn w go os) (hok : OverOk arcs bounds cells os) :
    Calls Tryz.prog 48 #[.agg #[.int .i64 (n : Int), .slice A arcs.length c], .agg #[.slice BA bounds.length bc, .slice CA cells.length cc], .slice (some ⟨go, 0, none⟩) os.length oc] w fun e w' => ∃ L : Int, e = .returned (.tuple #[.int .i64 L, .int .i64 0]) ∧ IsLate os L ∧ Below w.heap.size w w' := by
  obtain ⟨c0, c1, n0, n1, hsz, hb1⟩ := two_boxes w (.int .i64 (n : Int)) (.slice A arcs.length c) (.slice BA bounds.length bc) (.slice CA cells.length cc) 24 28
  have HCK := Lib.hid (overCheck_any n arcs A c BA bc bounds CA cc cells _ (h.below hb1) go oc os (hO.below hb1) hok)
  have HLT := Lib.hid (fun (wx : World) (hb : Below w.heap.size w wx) => late_any wx go oc os (hO.below hb) (by rw [hok.len]; exact h.ok.b5) (fun k hk => by rw [hok.row k (by rw [← hok.len]; exact hk)]; exact (h.row k (by rw [← hok.len]; exact hk)).2.2))
  have HB1 := Lib.hid hb1
  clear h hO hok hb1
  generalize os.length = ol at *
  go_enter Tryz.func48, Tryz.ntmps48
  go_upto_region 1 with fail
  generalize ((w.alloc (.cells #[.int .i64 (n : Int), .slice A arcs.length c] 24)).alloc (.cells #[.slice BA bounds.length bc, .slice CA cells.length cc] 28)) = w1 at *
  have hs1 : w.heap.size + 2 ≤ w1.heap.size := by omega
  generalize hgx : w.heap.size = gx at *
  have HGX := Lib.hid hgx
  clear hgx hsz
  go_upto_region 4 with (go_at_call 87; (with_reducible refine HCK.out.mono ?_); rintro e w2 ⟨rfl, hb⟩; have HB2 : Hid (Below gx w w2) := Lib.hid (HB1.out.trans (hb.mono (by omega))); clear hb)
  have HL2 := Lib.hid (HLT.out w2 HB2.out)
  go_wp2_with (go_at_call 88; go_loud ((with_reducible refine HL2.out.mono ?_); rintro e w3 ⟨L, rfl, hL, hb⟩; have HLL := Lib.hid hL; have HB3 : Hid (Below gx w w3) := Lib.hid (HB2.out.trans (hb.mono (by rw [← HGX.out]; exact HB2.out.size))); clear hL hb))
  go_ret2
  have hgx := HGX.out
  subst hgx
  exact ⟨L, rfl, HLL.out, HB3.out⟩

end Go.Proofs.YtjddimoeodecgaaGreat

/- OverlayHolds' walk. -/
namespace Go.Proofs.YtjddimoeodecgaaGreat
open Go.RowKit Go.Lib Go.Maps Go.Proofs.YtjddimoeodecgaaGreatW.PrintWords Go.Proofs.YtjddimoeodecgaaGreatW.PrintLast Go.Proofs.YtjddimoeodecgaaGreatW.PrintMore
set_option linter.unusedVariables false
set_option maxRecDepth 100000

theorem IRow.slice {w : World} {B g : Nat} {v : Value} {l : List Int} (h : IRow w B g v l) : ∃ A c, v = .slice A l.length c := by
  rcases h with ⟨rfl, rfl⟩ | ⟨b, cap, h1, -⟩
  · exact ⟨none, 0, rfl⟩
  · exact ⟨_, _, h1⟩

set_option maxHeartbeats 16000000 in
theorem holds_any (N : Int) (arcs : List Q.S95) (A : Option Addr) (c : Nat) (BA : Option Addr) (bc : Nat) (bounds : List Int) (CA : Option Addr) (cc : Nat) (cells : List (List Int)) (LP : Option Addr) (lc : Nat) (ch : List Chg) (w : World)
    (hf : Q.ArcsFit arcs) (hr : Kd.C Q.k95 w A arcs.length arcs) (hc : arcs.length ≤ c) (hn : NestIn w BA bc bounds CA cc cells) (hch : ChAt w LP ch) (hxx : ∀ c ∈ ch, 0 ≤ c.x ∧ c.x < 4294967296) :
    Calls Tryz.prog 10 #[.agg #[.int .i64 N, .slice A arcs.length c], .agg #[.slice BA bounds.length bc, .slice CA cells.length cc], .slice LP ch.length lc] w fun e w' => e = .returned (.bool true) ∧ Below w.heap.size w w' := by
  obtain ⟨i0, hi0, hz0, hz1, hz2⟩ := info_parts intInfo
  obtain ⟨c0, c1, n0, n1, hsz, hb1⟩ := two_boxes w (.int .i64 N) (.slice A arcs.length c) (.slice BA bounds.length bc) (.slice CA cells.length cc) 24 28
  have HWK1 : Hid (∀ wx : World, Calls Tryz.prog 35 #[] wx fun e w' => e = .returned (.bool true) ∧ Below wx.heap.size wx w') := Lib.hid works14_any
  obtain ⟨lb, hlb⟩ := Q.large14_tot N arcs
  have HLG : Hid (∀ wx : World, Below w.heap.size w wx → Calls Tryz.prog 34 #[.agg #[.int .i64 N, .slice A arcs.length c]] wx fun e w' => e = .returned (.bool lb) ∧ Below wx.heap.size wx w') := Lib.hid (fun wx hb => Q.flyoverlaw14_large.calls _ N A c arcs lb wx (Kd.C_below hr hb) hc hlb)
  have HNC : Hid (∀ wx : World, Below w.heap.size w wx → Calls Tryz.prog 26 #[.agg #[.int .i64 N, .slice A arcs.length c], .agg #[.slice BA bounds.length bc, .slice CA cells.length cc]] wx fun e w' => e = .returned (.tuple #[.int .i64 (Q.checkR N arcs bounds cells).1, .int .i64 (Q.checkR N arcs bounds cells).2]) ∧ Below wx.heap.size wx w') :=
    Lib.hid (fun wx hb => nestCheck_any N arcs A c BA bc bounds CA cc cells wx hf (Kd.C_below hr hb) hc (hn.below hb))
  have HCG := Lib.hid (fun (wx : World) (hb : Below w.heap.size w wx) => changed_any N arcs A c ch LP lc wx hf (Kd.C_below hr hb) hc (hch.below hb) hxx)
  have HF := Lib.hid hf
  have HR := Lib.hid hr
  have HC := Lib.hid hc
  have HN := Lib.hid hn
  have HCH := Lib.hid hch
  have HXX := Lib.hid hxx
  have HCK : Hid ((Q.checkR N arcs bounds cells).2 = 0 → ∃ n : Nat, N = (n : Int) ∧ GN w n arcs A c BA bc bounds CA cc cells) := Lib.hid (fun hck => by
    obtain ⟨⟨hN1, hG⟩, hNest⟩ := Q.checkR_ok hf hck
    obtain ⟨n, rfl⟩ : ∃ n : Nat, N = (n : Int) := ⟨N.toNat, (Int.toNat_of_nonneg (by omega)).symm⟩
    rw [Int.toNat_natCast] at hG
    exact ⟨n, rfl, hG, hr, hc, hn, hck⟩)
  clear hf hr hc hn hlb hch hxx
  generalize (Q.checkR N arcs bounds cells).1 = k1 at *
  generalize (Q.checkR N arcs bounds cells).2 = k2 at *
  go_enter Tryz.func10, Tryz.ntmps10
  go_upto_region 1 with fail
  generalize ((w.alloc (.cells #[.int .i64 N, .slice A arcs.length c] 24)).alloc (.cells #[.slice BA bounds.length bc, .slice CA cells.length cc] 28)) = w1 at *
  have HB1 := Lib.hid hb1
  have hs1 : w.heap.size + 2 ≤ w1.heap.size := by omega
  generalize hgx : w.heap.size = gx at *
  have HGX := Lib.hid hgx
  have HBOX : Hid (∀ wx : World, Below w1.heap.size w1 wx → wx.cell? ⟨gx, 0, none⟩ = some (.int .i64 N) ∧ wx.cell? ⟨gx, 1, none⟩ = some (.slice A arcs.length c) ∧ wx.cell? ⟨gx + 1, 0, none⟩ = some (.slice BA bounds.length bc) ∧ wx.cell? ⟨gx + 1, 1, none⟩ = some (.slice CA cells.length cc) ∧ Below gx w wx) := Lib.hid (fun wx hb =>
    ⟨(hb.cell (p := ⟨gx, 0, none⟩) (by show gx < w1.heap.size; omega)).trans c0, (hb.cell (p := ⟨gx, 1, none⟩) (by show gx < w1.heap.size; omega)).trans c1, (hb.cell (p := ⟨gx + 1, 0, none⟩) (by show gx + 1 < w1.heap.size; omega)).trans n0, (hb.cell (p := ⟨gx + 1, 1, none⟩) (by show gx + 1 < w1.heap.size; omega)).trans n1, HB1.out.trans (hb.mono (by omega))⟩)
  have HWX : Hid (∀ wx : World, Below w1.heap.size w1 wx → Below w.heap.size w wx) := Lib.hid (fun wx hb => by rw [HGX.out]; exact (HBOX.out wx hb).2.2.2.2)
  clear hb1 hsz hgx
  go_upto_region 3 with (go_at_call 35; (with_reducible refine (HWK1.out _).mono ?_); rintro e w2 ⟨rfl, hb⟩; have HB2 := Lib.hid hb; clear hb)
  clear c0 c1 n0 n1 HWK1
  obtain ⟨x0, x1, x2, x3, hbw⟩ := HBOX.out w2 HB2.out
  have HNC2 := Lib.hid (HNC.out w2 hbw)
  clear hbw HNC
  go_upto_region 4 with (go_at_call 26; (with_reducible refine HNC2.out.mono ?_); rintro e w3 ⟨rfl, hb⟩; have HB3 : Hid (Below w1.heap.size w1 w3) := Lib.hid (HB2.out.trans (hb.mono HB2.out.size)); clear hb)
  clear x0 x1 x2 x3 HNC2 HB2
  obtain ⟨x0, x1, x2, x3, hbw⟩ := HBOX.out w3 HB3.out
  have HLG3 := Lib.hid (HLG.out w3 hbw)
  clear hbw HLG
  by_cases hk2 : k2 = 0
  · obtain ⟨n, rfl, hgn⟩ := HCK.out hk2
    subst hk2
    have HGN := Lib.hid hgn
    clear hgn HCK
    cases lb with
    | true =>
      go_wp2_with (go_at_call 34; (with_reducible refine HLG3.out.mono ?_); rintro e w4 ⟨rfl, hb⟩; have HB4 : Hid (Below w1.heap.size w1 w4) := Lib.hid (HB3.out.trans (hb.mono HB3.out.size)); clear hb)
      go_ret
      exact ⟨rfl, HWX.out _ HB4.out⟩
    | false =>
      go_upto_region 6 with (go_at_call 34; (with_reducible refine HLG3.out.mono ?_); rintro e w4 ⟨rfl, hb⟩; have HB4 : Hid (Below w1.heap.size w1 w4) := Lib.hid (HB3.out.trans (hb.mono HB3.out.size)); clear hb)
      clear x0 x1 x2 x3 HLG3 HB3
      obtain ⟨x0, x1, x2, x3, hbw⟩ := HBOX.out w4 HB4.out
      have HC4 := Lib.hid (HCG.out w4 hbw)
      clear hbw HCG
      go_upto_region 7 with (go_at_call 44; (with_reducible refine HC4.out.mono ?_); rintro e w5 ⟨M, arcs', P, cap, F, rfl, -, hr5, hc5, hi5, hj5, hb⟩; have HR5 := Lib.hid hr5; have HC5 := Lib.hid hc5; have HI5 := Lib.hid hi5; have HJ5 := Lib.hid hj5; have HB45 := Lib.hid hb; clear hr5 hc5 hi5 hj5 hb)
      have hq6 := heap_alloc_new w5 (.cells #[.int .i64 M, .slice P arcs'.length cap] 24)
      have hb6 : Below w5.heap.size w5 (w5.alloc (.cells #[.int .i64 M, .slice P arcs'.length cap] 24)) := (Below.refl _ w5).alloc (Nat.le_refl _) _
      have HR6 := Lib.hid (Kd.C_below HR5.out hb6)
      have HB46 : Hid (Below w4.heap.size w4 (w5.alloc (.cells #[.int .i64 M, .slice P arcs'.length cap] 24))) := Lib.hid (HB45.out.alloc HB45.out.size _)
      generalize (w5.alloc (.cells #[.int .i64 M, .slice P arcs'.length cap] 24)) = w6 at *
      obtain ⟨g9, hg9⟩ : ∃ g9, w5.heap.size = g9 := ⟨_, rfl⟩
      rw [hg9] at hq6
      rw [hg9]
      have HB6 : Hid (Below w1.heap.size w1 w6) := Lib.hid (HB4.out.trans (HB46.out.mono HB4.out.size))
      have hs16 : w1.heap.size ≤ w6.heap.size := HB6.out.size
      have HALLC : Hid (∀ wx : World, Below w6.heap.size w6 wx → (wx.cell? ⟨gx, 0, none⟩ = some (.int .i64 (n : Int)) ∧ wx.cell? ⟨gx, 1, none⟩ = some (.slice A arcs.length c) ∧ wx.cell? ⟨gx + 1, 0, none⟩ = some (.slice BA bounds.length bc) ∧ wx.cell? ⟨gx + 1, 1, none⟩ = some (.slice CA cells.length cc)) ∧ (wx.cell? ⟨g9, 0, none⟩ = some (.int .i64 M) ∧ wx.cell? ⟨g9, 1, none⟩ = some (.slice P arcs'.length cap)) ∧ Below w.heap.size w wx) := Lib.hid (fun wx hb => by
        have h1 : Below w1.heap.size w1 wx := HB6.out.trans (hb.mono hs16)
        obtain ⟨z0, z1, z2, z3, -⟩ := HBOX.out wx h1
        have h2 := (hb.block g9 (lt_of_block hq6)).trans hq6
        exact ⟨⟨z0, z1, z2, z3⟩, ⟨by rw [cell_of_row _ _ 0 _ _ _ h2]; rfl, by rw [cell_of_row _ _ 1 _ _ _ h2]; rfl⟩, HWX.out wx h1⟩)
      clear hq6 hb6 hg9 x0 x1 x2 x3 HC4 HR5 HB45
      by_cases hF : F = 0
      · subst hF
        obtain ⟨-, hchE⟩ := HI5.out.1 rfl
        obtain ⟨rfl, rfl⟩ := HJ5.out rfl
        obtain ⟨hl16, hin⟩ := Q.chE_ok hchE
        have HIN := Lib.hid hin
        have gb : Q.GOk n (arcsC arcs ch) := arcsC_gok HGN.out.g HXX.out
        have HGB := Lib.hid gb
        have HG6 : Hid (GN w6 n (arcsC arcs ch) P cap BA bc bounds CA cc cells) := Lib.hid (HGN.out.weigh (HALLC.out w6 (Below.refl _ _)).2.2 gb HR6.out HC5.out)
        have hb5 : bounds.length ≤ 5 := HGN.out.ok.b5
        have hcl : cells.length = bounds.length := HGN.out.ok.len
        have HCL := Lib.hid hcl
        have hIL := idsC_len ch
        have HIL := Lib.hid hIL
        have HAO := Lib.hid (allIn_any n arcs A c BA bc bounds CA cc cells w6 (HGN.out.below (HALLC.out w6 (Below.refl _ _)).2.2) 3 (by omega))
        have HRN := Lib.hid (fun (wx : World) (hb : Below w6.heap.size w6 wx) (go : Nat) (hO : OverIn wx go (overO n arcs cells bounds.length (fun _ _ => 3))) (IA : Option Addr) (ic : Nat) (hi : Kd.C (Kd.int .i64) wx IA (idsC ch).length (idsC ch)) => renewed_any n (arcsC arcs ch) P cap BA bc bounds CA cc cells wx (HG6.out.below hb) arcs HGN.out.g (arcsC_shape arcs ch) go (fun _ _ => 3) 4 (by omega) (fun _ _ => by omega) hO IA ic (idsC ch) hi (ids_ok (by rw [hIL]; exact hl16) (by rw [arcsC_len]; exact HIN.out)) (arcsC_but arcs ch (fun i hi => (HIN.out i hi).1)))
        have HAB := Lib.hid (fun (wx : World) (hb : Below w6.heap.size w6 wx) => allIn_any n (arcsC arcs ch) P cap BA bc bounds CA cc cells wx (HG6.out.below hb) 4 (by omega))
        have HSE : Hid (Q.staleE arcs (idsC ch) = 0) := Lib.hid (ids_ok (by rw [hIL]; exact hl16) HIN.out)
        have HST := Lib.hid (fun (wx : World) (hb : Below w6.heap.size w6 wx) (IA : Option Addr) (ic : Nat) (hi : Kd.C (Kd.int .i64) wx IA (idsC ch).length (idsC ch)) => stale_any n arcs A c BA bc bounds CA cc cells wx (HGN.out.below (HALLC.out wx hb).2.2) IA ic (idsC ch) hi)
        have HSL : Hid (∀ k, k < bounds.length → (Q.staleOf arcs (cells.getD k []) (idsC ch)).length = anewK (Q.fateF (arcsC arcs ch) cells (idsC ch)) k (Q.manyOf (cells.getD k []))) := Lib.hid (fun k hk => stale_anew HGN.out.g (arcsC_shape arcs ch) (HGN.out.row k hk).1 (HGN.out.row k hk).2.1 HIN.out)
        have HM4 : Hid (∀ k, k < bounds.length → Q.manyOf (cells.getD k []) ≤ 1024) := Lib.hid (fun k hk => (HGN.out.row k hk).2.2)
        clear hchE hin gb hcl hIL HI5 HJ5 HR6
        have HCHX : Hid (∀ wx : World, Below w6.heap.size w6 wx → ChAt wx LP ch) := Lib.hid (fun wx hb => HCH.out.below (HALLC.out wx hb).2.2)
        obtain ⟨⟨x0, x1, x2, x3⟩, ⟨y0, y1⟩, -⟩ := HALLC.out w6 (Below.refl _ _)
        go_upto_region 10 with (go_at_call 37; (with_reducible refine HAO.out.mono ?_); rintro e w7 ⟨go, rfl, hov, hb⟩; have HO7 := Lib.hid hov; have HB67 := Lib.hid hb; clear hov hb)
        clear x0 x1 x2 x3 y0 y1 HAO
        go_wp2_with fail
        go_loopg [12, 59] ch.length (fun gg s12 s59 wr => ∃ k : Nat, k ≤ ch.length ∧ ch.length - k ≤ gg ∧ s59 = .int .i64 k ∧ Hid (wr.ownsRow w7.heap.size 3 1 s12 ((idsC ch).take k).length (((idsC ch).take k).map (Value.int .i64))) ∧ Hid (Below w7.heap.size w7 wr))
        case atStart => exact ⟨0, Nat.zero_le _, by omega, rfl, Lib.hid (World.ownsRow_nil _ _ _ _), Lib.hid (Below.refl _ _)⟩
        case round =>
          obtain ⟨k, hk1, hgg, rfl, HOW, HB⟩ := hrel
          obtain ⟨wm, rfl⟩ : ∃ x : World, x = wr := ⟨_, rfl⟩
          by_cases hlt : k < ch.length
          · have hltz : (k : Int) < (ch.length : Int) := by omega
            have hwk : IntKind.i64.wrap ((k : Int) + 1) = ((k + 1 : Nat) : Int) := by rw [IntWalk.i64_in _ (by omega)]; omega
            obtain ⟨ad, hIA, y0, y1⟩ := (HCHX.out wm (HB67.out.trans (HB.out.mono HB67.out.size))) k hlt
            subst hIA
            have HTK : Hid ((idsC ch).take (k + 1) = (idsC ch).take k ++ [(ch.getD k zCh).a]) := Lib.hid (by
              have h1 : k < (idsC ch).length := by rw [HIL.out]; exact hlt
              rw [List.take_add_one, List.getElem?_eq_getElem h1]
              have h2 := idsC_get ch k hlt
              rw [List.getD_eq_getElem?_getD, List.getElem?_eq_getElem h1] at h2
              simp only [Option.getD_some] at h2
              rw [h2]
              rfl)
            have htl : ((idsC ch).take k).length ≤ 16384 := by
              rw [List.length_take]
              omega
            generalize (idsC ch).take k = tl at *
            generalize (ch.getD k zCh).a = xa at *
            generalize (ch.getD k zCh).x = xx at *
            go_upto_region 14 with fail
            have hbA : Below wm.heap.size wm (wm.alloc (.cells #[.int .i64 xa, .int .u32 xx] 87)) := (Below.refl _ wm).alloc (Nat.le_refl _) _
            have d0 : (wm.alloc (.cells #[.int .i64 xa, .int .u32 xx] 87)).cell? ⟨wm.heap.size, 0, none⟩ = some (.int .i64 xa) := by simp
            have HOW2 := Lib.hid (own_below HOW.out hbA)
            have HB2 : Hid (Below w7.heap.size w7 (wm.alloc (.cells #[.int .i64 xa, .int .u32 xx] 87))) := Lib.hid (HB.out.alloc HB.out.size _)
            generalize (wm.alloc (.cells #[.int .i64 xa, .int .u32 xx] 87)) = wa at *
            generalize wm.heap.size = gc at *
            clear y0 y1 hbA HOW HB
            have hswa : w7.heap.size ≤ wa.heap.size := HB2.out.size
            go_wp2_with (at_builtin; go_loud (refine wpList_append_own_at _ rfl _ _ 25 rfl w7.heap.size 3 i0 _ 1 8 Tryz.underlying25 hi0 hz0 hz1 hz2 rfl (by decide) _ _ _ rfl (HOW2.out.alloc _) ⟨wa.heap.size, 0, none⟩ 1 1 [.int .i64 xa] rfl rfl (World.news_of_block (cs := #[.int .i64 xa]) (t := 3) (fr := (0, 0)) (heap_alloc_new wa _)) (by simp [Value.oneCell']) (by unfold maxLen; omega) (by omega) (by simp; omega) ?_); intro v' wv hown5 hg5 hnil5 hat5; go_frame)
            have HWK := Lib.hid hwk
            clear hwk
            go_roundg (ch.length - (k + 1))
            case measure => omega
            case rel =>
              have hsw := HB2.out.size
              have hg6 : wa.grownBy wv u12.ownBlock := ⟨hg5.os, hg5.tape, hg5.output, by have h := hg5.size; simp at h; omega, fun j hj hne => (hg5.block j (by simp; omega) hne).trans (heap_alloc_old wa _ hj)⟩
              refine ⟨k + 1, by omega, Nat.le_refl _, rfl, Lib.hid ?_, Lib.hid (Below.grown HB2.out hg6 (fun j hj => (HOW2.out.lt j hj).1) hsw)⟩
              rw [HTK.out, List.length_append, List.map_append]
              exact hown5
          · have : k = ch.length := by omega
            subst this
            have hkz : ¬ (ch.length : Int) < (ch.length : Int) := by omega
            have h1 := HOW.out
            have h2 : (idsC ch).take ch.length = idsC ch := by rw [← HIL.out, List.take_length]
            rw [h2] at h1
            obtain ⟨IA, ic, rfl, -, hkc⟩ := ownInts_C h1
            have HKC := Lib.hid hkc
            have HBM : Hid (Below w6.heap.size w6 wm) := Lib.hid (HB67.out.trans (HB.out.mono HB67.out.size))
            have HOM := Lib.hid (HO7.out.below HB.out)
            clear h1 h2 hkc HOW
            have hbm8 : w6.heap.size ≤ wm.heap.size := HBM.out.size
            obtain ⟨⟨x0, x1, x2, x3⟩, ⟨y0, y1⟩, -⟩ := HALLC.out wm HBM.out
            have HRM := Lib.hid (HRN.out wm HBM.out go HOM.out IA ic HKC.out)
            clear HRN
            generalize hfq : Q.fateF (arcsC arcs ch) cells (idsC ch) = f at *
            have HLT := Lib.hid (fun (wx : World) (hb : Below w6.heap.size w6 wx) (g : Nat) (hO : OverIn wx g (overO n (arcsC arcs ch) cells bounds.length (epF f (fun _ _ => 3) 4))) => by
              have hok := overO_ok (Shape.refl (arcsC arcs ch)) (n := n) bounds cells (epF f (fun _ _ => 3) 4) (fun k c _ _ => by have := epF_le (f := f) (e0 := 3) (ep := fun _ _ => 3) (e := 4) (fun _ _ => by omega) (by omega) (by omega) k c; omega)
              have h1 := late14_any n (arcsC arcs ch) P cap BA bc bounds CA cc cells wx (HG6.out.below hb) g bounds.length _ hO hok
              rw [overO_len] at h1
              exact h1)
            have HAK : Hid (∀ (wx : World) (gb gc : Nat), OverIn wx gb (overO n (arcsC arcs ch) cells bounds.length (epF f (fun _ _ => 3) 4)) → OverIn wx gc (overO n (arcsC arcs ch) cells bounds.length (fun _ _ => 4)) → Calls Tryz.prog 46 #[.slice (some ⟨gb, 0, none⟩) bounds.length bounds.length, .slice (some ⟨gc, 0, none⟩) bounds.length bounds.length] wx fun e w' => e = .returned (.bool true) ∧ Below wx.heap.size wx w') := Lib.hid (fun wx gb gc hB hC => by
              have h1 := alike_any wx _ _ gb gc bounds.length bounds.length hB hC (sameD_over HG6.out.ok.b5 _ _ (fun k hk => (HG6.out.row k hk).2.2) HGB.out.m)
              rw [overO_len, overO_len] at h1
              exact h1)
            have HORW : Hid (∀ k, k < bounds.length → ((overO n (arcsC arcs ch) cells bounds.length (epF f (fun _ _ => 3) 4)).getD k []).length = Q.manyOf (cells.getD k []) ∧ ∀ x, x < Q.manyOf (cells.getD k []) → (((overO n (arcsC arcs ch) cells bounds.length (epF f (fun _ _ => 3) 4)).getD k []).getD x zMat).ep = epF f (fun _ _ => 3) 4 k x) := Lib.hid (fun k hk => by
              rw [overO_get _ _ hk]
              refine ⟨overRow_len k, fun x hx => ?_⟩
              rw [overRow_get k x hx]
              rfl)
            have HLFO : Hid (∀ L, IsLate (overO n (arcsC arcs ch) cells bounds.length (epF f (fun _ _ => 3) 4)) L → (L = 4 ↔ 0 < anewT f (fun k => Q.manyOf (cells.getD k [])) bounds.length)) := Lib.hid (fun L h => late_four h)
            have HOLN : Hid ((overO n (arcsC arcs ch) cells bounds.length (epF f (fun _ _ => 3) 4)).length = bounds.length) := Lib.hid (overO_len _)
            clear hfq
            generalize overO n (arcsC arcs ch) cells bounds.length (epF f (fun _ _ => 3) 4) = OR at *
            generalize overO n (arcsC arcs ch) cells bounds.length (fun _ _ => 4) = OW at *
            generalize (arcsC arcs ch).length = bl at *
            generalize hanq : anewT f (fun k => Q.manyOf (cells.getD k [])) bounds.length = an at *
            have HAN := Lib.hid hanq
            clear hanq
            go_upto_region 17 with (go_at_call 42; (with_reducible refine HRM.out.mono ?_); rintro e w8 ⟨gr, rfl, hov, hb⟩; have HR8 := Lib.hid hov; have HKC8 := Lib.hid (Kd.C_below HKC.out hb); have HB8 : Hid (Below w6.heap.size w6 w8) := Lib.hid (HBM.out.trans (hb.mono hbm8)); clear hov hb)
            clear x0 x1 x2 x3 y0 y1 HRM
            obtain ⟨⟨x0, x1, x2, x3⟩, ⟨y0, y1⟩, -⟩ := HALLC.out w8 HB8.out
            have HAB8 := Lib.hid (HAB.out w8 HB8.out)
            clear HAB
            go_upto_region 18 with (go_at_call 37; (with_reducible refine HAB8.out.mono ?_); rintro e w9 ⟨gw, rfl, hov, hb⟩; have HW9 := Lib.hid hov; have HR9 := Lib.hid (HR8.out.below hb); have HKC9 := Lib.hid (Kd.C_below HKC8.out hb); have HB9 : Hid (Below w6.heap.size w6 w9) := Lib.hid (HB8.out.trans (hb.mono HB8.out.size)); clear hov hb)
            clear x0 x1 x2 x3 y0 y1 HAB8
            obtain ⟨⟨x0, x1, x2, x3⟩, ⟨y0, y1⟩, -⟩ := HALLC.out w9 HB9.out
            have HST9 : Hid (Calls Tryz.prog 47 #[.agg #[.int .i64 (n : Int), .slice A arcs.length c], .agg #[.slice BA bounds.length bc, .slice CA cells.length cc], .slice IA (idsC ch).length ic] w9 fun e w' => ∃ g vs rows, e = .returned (.tuple #[.slice (some ⟨g, 0, none⟩) cells.length cells.length, .int .i64 0]) ∧ IRows w' w9.heap.size g vs rows ∧ vs.length = cells.length ∧ (∀ k, k < cells.length → rows.getD k [] = Q.staleOf arcs (cells.getD k []) (idsC ch)) ∧ Below w9.heap.size w9 w') := Lib.hid (by
              refine (HST.out w9 HB9.out IA ic HKC9.out).mono ?_
              rintro e w' ⟨⟨-, g, vs, rows, h1, h2, h3, h4⟩ | ⟨hne, -⟩, hb⟩
              · exact ⟨g, vs, rows, h1, h2, h3, h4, hb⟩
              · exact absurd HSE.out hne)
            clear HST
            go_upto_region 19 with (go_at_call 47; (with_reducible refine HST9.out.mono ?_); rintro e wA ⟨gs, vs, rows, rfl, hI, hvl, hR, hb⟩; have HIA := Lib.hid hI; have HVL := Lib.hid hvl; have HRS := Lib.hid hR; have HWA := Lib.hid (HW9.out.below hb); have HRA := Lib.hid (HR9.out.below hb); have HBA : Hid (Below w6.heap.size w6 wA) := Lib.hid (HB9.out.trans (hb.mono HB9.out.size)); clear hI hvl hR hb)
            clear x0 x1 x2 x3 y0 y1 HST9
            have HAKA := Lib.hid (HAK.out wA gr gw HRA.out HWA.out)
            clear HAK
            go_upto_region 21 with (go_at_call 46; (with_reducible refine HAKA.out.mono ?_); rintro e wB ⟨rfl, hb⟩; have HIB := Lib.hid (HIA.out.below hb); have HRB := Lib.hid (HRA.out.below hb); have HBB : Hid (Below w6.heap.size w6 wB) := Lib.hid (HBA.out.trans (hb.mono HBA.out.size)); clear hb)
            clear HAKA
            have hcl5 : cells.length ≤ 5 := by have := HCL.out; omega
            go_wp2_with fail
            go_loopg [22, 113] cells.length (fun gg s22 s113 wr => ∃ (k a : Nat), k ≤ cells.length ∧ cells.length - k ≤ gg ∧ s113 = .int .i64 k ∧ s22 = .int .i64 a ∧ a ≤ k * 1024 ∧ Hid (a = anewT f (fun k => Q.manyOf (cells.getD k [])) k) ∧ Hid (Below wB.heap.size wB wr))
            case atStart => exact ⟨0, 0, Nat.zero_le _, by omega, rfl, rfl, by omega, Lib.hid rfl, Lib.hid (Below.refl _ _)⟩
            case round =>
              obtain ⟨k, a, hk1, hgg, rfl, rfl, ha, HAT, HBL⟩ := hrel
              obtain ⟨wq, rfl⟩ : ∃ x : World, x = wr := ⟨_, rfl⟩
              by_cases hlt : k < cells.length
              · have hltz : (k : Int) < (cells.length : Int) := by omega
                have hwk : IntKind.i64.wrap ((k : Int) + 1) = ((k + 1 : Nat) : Int) := by rw [IntWalk.i64_in _ (by omega)]; omega
                have hkb : k < bounds.length := by have := HCL.out; omega
                have hI := HIB.out.below HBL.out
                have hkv : k < vs.length := by rw [HVL.out]; exact hlt
                have hcell := hI.cell k hkv
                obtain ⟨SA, sc, hsv⟩ := (hI.row k hkv).slice
                rw [hsv, HRS.out k hlt] at hcell
                have hsl := HSL.out k hkb
                rw [hsl] at hcell
                have hm4 := HM4.out k hkb
                have hak := anewK_le f k (Q.manyOf (cells.getD k []))
                have HST2 := Lib.hid (anewT_step f (fun k => Q.manyOf (cells.getD k [])) k)
                have HAKQ : ∃ ak, anewK f k (Q.manyOf (cells.getD k [])) = ak := ⟨_, rfl⟩
                obtain ⟨ak, haq⟩ := HAKQ
                have HAQ := Lib.hid haq
                rw [haq] at hcell hak
                have hwa : IntKind.i64.wrap ((a : Int) + (ak : Int)) = ((a + ak : Nat) : Int) := by rw [IntWalk.i64_in _ (by omega)]; omega
                clear hI hsv hsl haq
                go_wp2_with fail
                have HWK := Lib.hid hwk
                have HWA2 := Lib.hid hwa
                clear hwk hwa
                go_roundg (cells.length - (k + 1))
                case measure => omega
                case rel =>
                  refine ⟨k + 1, a + ak, by omega, Nat.le_refl _, rfl, by first | rfl | (simp; done), by omega, Lib.hid ?_, HBL⟩
                  rw [HST2.out, HAT.out]
                  show _ = anewT f (fun k => Q.manyOf (cells.getD k [])) k + anewK f k (Q.manyOf (cells.getD k []))
                  rw [HAQ.out]
              · have : k = cells.length := by omega
                subst this
                have hkz : ¬ (cells.length : Int) < (cells.length : Int) := by omega
                have haan : a = an := by rw [HAT.out, ← HAN.out, HCL.out]
                subst haan
                have hB2 := HBL.out
                have HRQ := Lib.hid (HRB.out.below HBL.out)
                have HBQ : Hid (Below w6.heap.size w6 wq) := Lib.hid (HBB.out.trans (HBL.out.mono HBB.out.size))
                clear hB2 HRB HIB HAT
                go_wp2_with fail
                go_loopg [24, 126] bounds.length (fun gg s24 s126 wr => ∃ (k b : Nat), k ≤ bounds.length ∧ bounds.length - k ≤ gg ∧ s126 = .int .i64 k ∧ s24 = .int .i64 b ∧ b ≤ k * 1024 ∧ Hid (b = anewT f (fun k => Q.manyOf (cells.getD k [])) k) ∧ Hid (Below wq.heap.size wq wr))
                case atStart => exact ⟨0, 0, Nat.zero_le _, by omega, rfl, rfl, by omega, Lib.hid rfl, Lib.hid (Below.refl _ _)⟩
                case round =>
                  obtain ⟨k, b, hk1, hgg, rfl, rfl, hb1, HBT, HBR⟩ := hrel
                  obtain ⟨wt, rfl⟩ : ∃ x : World, x = wr := ⟨_, rfl⟩
                  by_cases hlt : k < bounds.length
                  · have hltz : (k : Int) < (bounds.length : Int) := by omega
                    have hwk : IntKind.i64.wrap ((k : Int) + 1) = ((k + 1 : Nat) : Int) := by rw [IntWalk.i64_in _ (by omega)]; omega
                    obtain ⟨RA, rc, r1, -, r3⟩ := (HRQ.out.below HBR.out) k (by rw [HOLN.out]; exact hlt)
                    obtain ⟨hrl, hre⟩ := HORW.out k hlt
                    have hm4 := HM4.out k hlt
                    have HRE := Lib.hid hre
                    have HRM3 := Lib.hid r3
                    have HRLQ := Lib.hid hrl
                    rw [hrl] at r1
                    have HST3 := Lib.hid (anewT_step f (fun k => Q.manyOf (cells.getD k [])) k)
                    have HMQX : ∃ many, Q.manyOf (cells.getD k []) = many := ⟨_, rfl⟩
                    obtain ⟨many, hmq⟩ := HMQX
                    have HMQ := Lib.hid hmq
                    rw [hmq] at r1 hm4
                    have HRC := Lib.hid (World.block_lt_of_cell? wt _ r1)
                    clear hrl hre r3 hmq
                    go_wp2_with fail
                    go_loopg [24, 134] many (fun gg s24 s134 wr => ∃ (j d : Nat), j ≤ many ∧ many - j ≤ gg ∧ s134 = .int .i64 j ∧ s24 = .int .i64 d ∧ d ≤ k * 1024 + j ∧ Hid (d = b + anewK f k j) ∧ Hid (Below wt.heap.size wt wr))
                    case atStart => exact ⟨0, b, Nat.zero_le _, by omega, rfl, rfl, by omega, Lib.hid rfl, Lib.hid (Below.refl _ _)⟩
                    case round =>
                      obtain ⟨j, d, hj1, hgg2, rfl, rfl, hd1, HDB, HBJ⟩ := hrel
                      obtain ⟨wu, rfl⟩ : ∃ x : World, x = wr := ⟨_, rfl⟩
                      by_cases hltj : j < many
                      · have hltjz : (j : Int) < (many : Int) := by omega
                        have hwj : IntKind.i64.wrap ((j : Int) + 1) = ((j + 1 : Nat) : Int) := by rw [IntWalk.i64_in _ (by omega)]; omega
                        have hwd : IntKind.i64.wrap ((d : Int) + 1) = ((d + 1 : Nat) : Int) := by rw [IntWalk.i64_in _ (by omega)]; omega
                        have r1' := (HBJ.out.cell HRC.out).trans r1
                        obtain ⟨g1, DP, dc, hHA, -, -, y2, -, -⟩ := (HRM3.out.below HBJ.out) j (by rw [HRLQ.out, HMQ.out]; exact hltj)
                        subst hHA
                        rw [HRE.out j (by rw [HMQ.out]; exact hltj)] at y2
                        have HST4 := Lib.hid (anewK_step f k j)
                        by_cases hfz : f k j = 0
                        · rw [epF_stays hfz] at y2
                          rw [if_pos hfz] at HST4
                          have y2' : wu.cell? ⟨g1, j * 4 + 2, none⟩ = some (.int .i64 3) := y2
                          clear y2
                          go_wp2_with fail
                          have HWJ := Lib.hid hwj
                          have HWD := Lib.hid hwd
                          clear hwj hwd
                          go_roundg (many - (j + 1))
                          case measure => omega
                          case rel => exact ⟨j + 1, d, by omega, Nat.le_refl _, rfl, rfl, by omega, Lib.hid (by rw [HST4.out, HDB.out]; rfl), HBJ⟩
                        · rw [epF_anew hfz] at y2
                          rw [if_neg hfz] at HST4
                          have hfz2 := Lib.hid hfz
                          clear hfz
                          go_wp2_with fail
                          have HWJ := Lib.hid hwj
                          have HWD := Lib.hid hwd
                          clear hwj hwd
                          go_roundg (many - (j + 1))
                          case measure => omega
                          case rel => exact ⟨j + 1, d + 1, by omega, Nat.le_refl _, rfl, rfl, by omega, Lib.hid (by rw [HST4.out, HDB.out]; omega), HBJ⟩
                      · have : j = many := by omega
                        subst this
                        have hkz : ¬ (j : Int) < (j : Int) := by omega
                        go_wp2_with fail
                        have HWK := Lib.hid hwk
                        clear hwk
                        go_roundg (bounds.length - (k + 1))
                        case measure => omega
                        case rel =>
                          refine ⟨k + 1, d, by omega, Nat.le_refl _, rfl, rfl, by omega, Lib.hid ?_, Lib.hid (HBR.out.trans (HBJ.out.mono HBR.out.size))⟩
                          rw [HST3.out, HDB.out, HBT.out]
                          show _ = anewT f (fun k => Q.manyOf (cells.getD k [])) k + anewK f k (Q.manyOf (cells.getD k []))
                          rw [HMQ.out]
                  · have : k = bounds.length := by omega
                    subst this
                    have hkz2 : ¬ (bounds.length : Int) < (bounds.length : Int) := by omega
                    have hban : b = a := by rw [HBT.out, ← HAN.out]
                    subst hban
                    have HBZ : Hid (Below w6.heap.size w6 wt) := Lib.hid (HBQ.out.trans (HBR.out.mono HBQ.out.size))
                    have HLTZ := Lib.hid (HLT.out wt HBZ.out gr (HRQ.out.below HBR.out))
                    obtain ⟨⟨x0, x1, x2, x3⟩, ⟨y0, y1⟩, -⟩ := HALLC.out wt HBZ.out
                    clear HBT HLT
                    go_upto_region 39 with (go_at_call 48; go_loud ((with_reducible refine HLTZ.out.mono ?_); rintro e wy ⟨L, rfl, hL, hb⟩; have HLL := Lib.hid (HLFO.out L hL); have HBY : Hid (Below w6.heap.size w6 wy) := Lib.hid (HBZ.out.trans (hb.mono HBZ.out.size)); clear hL hb))
                    clear x0 x1 x2 x3 y0 y1
                    by_cases hpos : 0 < b
                    · have hL4 : L = 4 := HLL.out.2 hpos
                      subst hL4
                      have hpz : (0 : Int) < (b : Int) := by omega
                      go_wp2_with fail
                      go_ret
                      exact ⟨by first | rfl | (simp; done), (HALLC.out _ HBY.out).2.2⟩
                    · have hL4 : ¬ L = 4 := fun e => hpos (HLL.out.1 e)
                      have hpz : ¬ (0 : Int) < (b : Int) := by omega
                      have hLd : decide (L = 4) = false := decide_eq_false hL4
                      have hpd : decide ((0 : Int) < (b : Int)) = false := decide_eq_false hpz
                      go_wp2_with fail
                      go_ret
                      exact ⟨by first | rfl | (simp [hL4]; done), (HALLC.out _ HBY.out).2.2⟩
      · go_wp2_with fail
        go_ret
        exact ⟨rfl, (HALLC.out w6 (Below.refl _ _)).2.2⟩
  · go_wp2_with fail
    go_ret
    exact ⟨rfl, HWX.out _ HB3.out⟩

end Go.Proofs.YtjddimoeodecgaaGreat

/- Changes that an argument has. -/
namespace Go.Proofs.YtjddimoeodecgaaGreat
open Go.ChangeShapes Go.WideShapes Go.ChangeAt Go.RowKit Go.Proofs.YtjddimoeodecgaaGreatW.PrintWords Go.Proofs.YtjddimoeodecgaaGreatW.PrintLast
open Go.ChangeMaps (open_string shut_string)
set_option linter.unusedVariables false

section
variable {H : Type} {enc : TypeId × Value → H} {W : World} {base n : Nat} {sp : Nat → Bool} {held : Bool}
theorem chgs_of {v : Value} {y : DataW H × List MemPlace} (h : DataW.trod enc Tryz.prog W base (fun _ => true) held n 79 [v] = some y) (hw : ∀ k ∈ y.1.weights Tryz.prog 79, k ≤ reachBytes) :
    ∃ (A : Option Addr) (c : Nat) (l : List Chg), v = .slice A l.length c ∧ l.length ≤ c ∧ ChAt W A l ∧ (∀ x ∈ l, 0 ≤ x.x ∧ x.x < 4294967296) ∧ l.length ≤ 1000000000000000 := by
  rcases fields_of Tryz.underlying79 Tryz.underlying87 (by kernel_rfl) (by kernel_rfl) h with ⟨hcs, _⟩ | ⟨a, len, cap, m, D, Pl, hcs, _, hl, hm, hmm, hx, hi⟩
  · simp at hcs
    subst hcs
    exact ⟨none, 0, [], rfl, Nat.le_refl _, fun k hk => absurd hk (by simp), fun a ha => (by cases ha), by simp⟩
  · simp at hcs
    subst hcs
    simp only [if_true] at hmm
    subst hmm
    have hk := hw ((len + (m - len)) * Tryz.prog.bytesOf 87) (by
      rw [hx]
      simp only [DataW.weights, Tryz.underlying79, List.mem_cons, List.length_map, List.length_range]
      exact Or.inl trivial)
    have hby : Tryz.prog.bytesOf 87 = 16 := by kernel_rfl
    rw [hby] at hk
    unfold reachBytes at hk
    have each : ∀ i, i < len → ∃ x : Chg, (W.cell? (a.add (i * 2)) = some (.int .i64 x.a) ∧ W.cell? (a.add (i * 2 + 1)) = some (.int .u32 x.x)) ∧ (0 ≤ x.x ∧ x.x < 4294967296) := by
      intro i hil
      obtain ⟨ys, n2, hD, _, hyl, hf⟩ := hi i (by omega)
      obtain ⟨v0, y0, g0, e0, t0⟩ := hf 0 _ rfl
      obtain ⟨v1, y1, g1, e1, t1⟩ := hf 1 _ rfl
      obtain ⟨k0, q0, r0, wf0⟩ := DataW.trod_int Tryz.underlying3 t0
      obtain ⟨k1, q1, r1, wf1⟩ := DataW.trod_int Tryz.underlying41 t1
      simp only [List.cons.injEq, and_true] at q0 q1
      subst q0 q1
      have b1 := bounds_u32 wf1
      exact ⟨⟨k0, k1⟩, ⟨g0, g1⟩, by simp only; omega⟩
    obtain ⟨xs, hl2, hxs⟩ := list_of_each len zCh each
    subst hl2
    refine ⟨some a, _, xs, rfl, by omega, fun k hk2 => ?_, fun x hx2 => ?_, by omega⟩
    · obtain ⟨c0, c1⟩ := (hxs k hk2).1
      exact ⟨a, rfl, c0, by rw [← add_field _ _ 1 (by omega)]; exact c1⟩
    · obtain ⟨j, hj, hje⟩ := List.getElem_of_mem hx2
      have c1 := (hxs j hj).2
      have hg : xs.getD j zCh = x := by rw [List.getD_eq_getElem?_getD, List.getElem?_eq_getElem hj, Option.getD_some, hje]
      rw [hg] at c1
      exact c1
end

end Go.Proofs.YtjddimoeodecgaaGreat

/- OverlayHolds, the given row in its second form: a change makes few cells stale: a right overlay, renewed by the arcs that were changed, is right under the new weights; only cells inside of which a changed arc lies are made anew. -/
namespace Go.Proofs.YtjddimoeodecgaaGreat
open Go.ChangeShapes Go.WideShapes Go.ChangeAt Go.RowKit Go.Proofs.YtjddimoeodecgaaGreatW.PrintWords Go.Proofs.YtjddimoeodecgaaGreatW.PrintLast
open Go.ChangeMaps (open_string shut_string)
set_option linter.unusedVariables false

set_option maxRecDepth 100000 in
theorem holds_lifted (os : Os) (started : os.Started) (H : Type) (enc : TypeId × Value → H) (F0 : Stop.Interp) :
    ReturnsInHanded {} Tryz.checked os 10 .any ((Rows.OpenSpec.upto Rows.overlayHoldsSpec).pre6 enc Tryz.prog Tryz.f10 Rows.overlayHoldsUptoRow.domain false) (((Rows.OpenSpec.upto Rows.overlayHoldsSpec).at F0).post enc Tryz.prog Tryz.f10 false true false false) := by
  refine returnsInHanded_of_cond_sized (C := Tryz.checked) (s := Rows.OpenSpec.upto Rows.overlayHoldsSpec) (k := Rows.uptoSmall) rfl own13h started (by kernel_rfl) Tryz.func10
    (OpenSpec.witness (enc := enc) (C := Tryz.checked) (s := Rows.OpenSpec.upto Rows.overlayHoldsSpec) (k := Rows.uptoSmall) rfl false ⟨#[], #[.agg #[.int .i64 0, .slice none 0 0], .agg #[.slice none 0 0, .slice none 0 0], .slice none 0 0], []⟩ 8 (by kernel_rfl) (by kernel_rfl) (by kernel_rfl)
      (x := ([.agg [.lit (.int .i64 0), .nil], .agg [.nil, .nil], .nil], [], [])) (by kernel_rfl) (by kernel_rfl) (by kernel_rfl)) ?_
  intro W base args ds gs before hval0 hW hcnd _ hsz0 _
  have hsz : (DataW.weightsEach Tryz.prog (Tryz.f10.params.toList ++ (Rows.OpenSpec.upto Rows.overlayHoldsSpec).bare.plain.varTypes Tryz.prog) (ds ++ gs)).all (· ≤ reachBytes) = true := hsz0
  have hval : ∀ (j : Nat) t v, Tryz.f10.params[j]? = some t → args[j]? = some v → Value.okWide Tryz.prog W .any base t v := hval0
  have hW' := hW
  obtain ⟨p, q, hA0, hV, rfl, hfz, hnd⟩ := hW
  have hA : DataW.TrodAll enc Tryz.prog W 0 (fun _ => true) true Tryz.f10.params.toList args.toList ds p := hA0
  rw [Tryz.params10] at hA hval hsz
  obtain ⟨v0, vs0, d0, ds0, p0, q0, hargs, rfl, rfl, h0, r0⟩ := trodAll_cons hA
  obtain ⟨v1, vs1, d1, ds1, p1, q1, rfl, rfl, rfl, h1, r1⟩ := trodAll_cons r0
  obtain ⟨v2, vs2, d2, ds2, p2, q2, rfl, rfl, rfl, h2, r2⟩ := trodAll_cons r1
  obtain ⟨rfl, rfl, rfl⟩ := trodAll_nil r2
  obtain rfl : args = #[v0, v1, v2] := by cases args; simp_all
  obtain ⟨rfl, rfl⟩ := trodVars_none hV
  have k0 := h0
  have k1 := h1
  have k2 := h2
  have lt0 : ∀ x ∈ p0, x.block < W.heap.size := by obtain ⟨m, hm⟩ := k0; exact DataW.trod_lt m _ _ _ hm
  have lt1 : ∀ x ∈ p1, x.block < W.heap.size := by obtain ⟨m, hm⟩ := k1; exact DataW.trod_lt m _ _ _ hm
  have lt2 : ∀ x ∈ p2, x.block < W.heap.size := by obtain ⟨m, hm⟩ := k2; exact DataW.trod_lt m _ _ _ hm
  obtain ⟨x0, x1, y0, y1, n0, rfl, hd0, hp0, ha0, ha1⟩ := Go.Joins.open_agg2 Tryz.underlying24 (by kernel_rfl) (by kernel_rfl) (hval 0 24 v0 rfl rfl) h0
  obtain ⟨z0, z1, u0, u1, n1, rfl, hd1, hp1, hb0, hb1⟩ := Go.Joins.open_agg2 Tryz.underlying28 (by kernel_rfl) (by kernel_rfl) (hval 1 28 v1 rfl rfl) h1
  obtain ⟨n2, hi2⟩ := h2
  obtain ⟨LP0, LM0, LC0, rfl⟩ := okWide_slice Tryz.underlying79 (hval 2 79 v2 rfl rfl)
  have hi3 : DataW.trod enc Tryz.prog W 0 (fun _ => true) true n2 79 [.slice LP0 LM0 LC0] = some (d2, p2) := hi2
  obtain ⟨N, rfl⟩ := int_of ha0
  obtain ⟨A, c, arcs, rfl, hc, hr, hf⟩ := arcs_of ha1
  obtain ⟨BA, bc, bounds, rfl, hbc, hb, _⟩ := ints_of Tryz.underlying25 Tryz.underlying3 (by kernel_rfl) hb0
  obtain ⟨CA, cc, cells, rfl, hcc, hcl⟩ := rows_of hb1
  obtain ⟨LP, lc, ch, hlx, hlc, hch, hxx, _⟩ := chgs_of hi3 (fun k hk => by
    have h4 := List.all_eq_true.1 hsz _ (DataW.weights_mem_each (j := 2) (t := 79) (d := d2) rfl rfl k hk)
    simpa using h4)
  simp only [Value.slice.injEq] at hlx
  obtain ⟨rfl, rfl, rfl⟩ := hlx
  clear hA0 hval0 hsz0 hsz
  refine (holds_any N arcs A c BA bc bounds CA cc cells LP0 LC0 ch W hf hr hc ⟨hb, hbc, hcl, hcc⟩ hch hxx).mono fun e W' ⟨he, bel⟩ => ?_
  subst he
  exact ⟨_, rfl, _, _, _, [], _, [], hW', trodAll_mk1 (shut_bool Tryz.underlying4 _), (trodAll_cons_mk (Below.trod laidOut13h (by kernel_rfl) (of_decide_eq_true (by kernel_rfl)) k0 bel lt0) (trodAll_cons_mk (Below.trod laidOut13h (by kernel_rfl) (of_decide_eq_true (by kernel_rfl)) k1 bel lt1) (trodAll_cons_mk (Below.trod laidOut13h (by kernel_rfl) (of_decide_eq_true (by kernel_rfl)) k2 bel lt2) trodAll_mk0))), rfl, bel.frame _, fun h => by cases h⟩

theorem overlayHolds_holds : Rows.OverlayHoldsUptoSaid :=
  OpenClaim.holds_of_cond 10 Tryz.f10 rfl rfl rfl rfl rfl rfl rfl ⟨rfl, rfl, rfl, rfl, rfl⟩ rfl rfl rfl rfl rfl (by kernel_rfl) Tryz.func10 (by kernel_rfl)
    (of_decide_eq_true (by kernel_rfl)) (by unfold Func.isWrapper; first | (rw [if_pos (by decide +kernel)]; kernel_rfl) | (rw [if_neg (by decide +kernel)]; exact ⟨rfl, rfl⟩))
    (fun os started H enc _ F0 => holds_lifted os started H enc F0)

#print axioms overlayHolds_holds
end Go.Proofs.YtjddimoeodecgaaGreat
