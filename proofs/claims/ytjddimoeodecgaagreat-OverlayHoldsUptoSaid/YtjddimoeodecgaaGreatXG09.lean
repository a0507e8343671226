/- What nest.Check and nest.Members answer (plain). -/
import Derived.Test.YtjddimoeodecgaaGreatXG08
import Derived.Test.YtjddimoeodecgaaGreatXG07
namespace Go.Proofs.YtjddimoeodecgaaGreat.Q
open Go.RowKit Go.Proofs.YtjddimoeodecgaaGreatW.PrintWords Go.Proofs.YtjddimoeodecgaaGreatW.PrintLast
set_option linter.unusedVariables false
set_option maxRecDepth 100000

/-- The bound below a level. -/
def belowB (bounds : List Int) (i : Nat) : Int := if i = 0 then 0 else bounds.getD (i - 1) 0
/-- What is wrong within a level of cells. -/
def firstE (N : Nat) (c : List Int) (b : Int) : Int := if rightP N c = true then (if b < Lib.maxOf (countsOf c) then 90 else 0) else 80
/-- .. and with it and the one below. -/
def nestedB (cells : List (List Int)) (i : Nat) : Bool := if i = 0 then true else nestGo (fun _ => none) ((cells.getD (i - 1) []).zip (cells.getD i []))
def boundedB (bounds : List Int) (i : Nat) : Bool := decide (bounds.getD i 0 > belowB bounds i) && decide (bounds.getD i 0 ≤ 1024)
def stepE (N : Nat) (bounds : List Int) (cells : List (List Int)) (i : Nat) : Int :=
  if boundedB bounds i = true then (if firstE N (cells.getD i []) (bounds.getD i 0) = 0 then (if nestedB cells i = true then 0 else 110) else firstE N (cells.getD i []) (bounds.getD i 0)) else 1
def loopE (N : Nat) (bounds : List Int) (cells : List (List Int)) : Nat → Nat → Int × Int
  | 0, _ => (0, 0)
  | d + 1, i => if stepE N bounds cells i = 0 then loopE N bounds cells d (i + 1) else ((i : Int) + 1, stepE N bounds cells i)
def lensB (bounds : List Int) (cells : List (List Int)) : Bool := decide (bounds.length < 1) || decide (5 < bounds.length) || decide (cells.length ≠ bounds.length)
def nestE (N : Nat) (bounds : List Int) (cells : List (List Int)) : Int × Int := if lensB bounds cells = true then (0, 111) else loopE N bounds cells bounds.length 0

/-- What graph.Check answers. -/
def graphR (N : Int) (arcs : List S95) : Int × Int := (graph_Check.f (arcs.length + 3) N arcs).getD (0, -1)
theorem graphR_f {N : Int} {arcs : List S95} (hf : ArcsFit arcs) : graph_Check.f (arcs.length + 3) N arcs = some ((graphR N arcs).1, (graphR N arcs).2) := by
  obtain ⟨x, e, h, _⟩ := check_tot N arcs hf
  unfold graphR
  rw [h]
  rfl
theorem graphR_ok {N : Int} {arcs : List S95} (hf : ArcsFit arcs) (h0 : (graphR N arcs).2 = 0) : 1 ≤ N ∧ GOk N.toNat arcs := by
  obtain ⟨x, e, h, hz⟩ := check_tot N arcs hf
  unfold graphR at h0
  rw [h] at h0
  exact hz h0
theorem graphR_of {N : Nat} {arcs : List S95} (h : GOk N arcs) : graphR (N : Int) arcs = (0, 0) := by
  unfold graphR
  rw [check_f N arcs h _ (by omega)]
  rfl
theorem GOk.fit {N : Nat} {arcs : List S95} (h : GOk N arcs) : ArcsFit arcs := fun a ha => by
  have h1 := h.ends a ha
  have h2 := h.wt a ha
  have := h.n2
  omega

def checkR (N : Int) (arcs : List S95) (bounds : List Int) (cells : List (List Int)) : Int × Int :=
  if (graphR N arcs).2 = 0 then nestE N.toNat bounds cells else (0, (graphR N arcs).2)
/-- What nest.looked answers is wrong with a level. -/
def lookedE (N : Int) (arcs : List S95) (bounds : List Int) (cells : List (List Int)) (level : Int) : Int :=
  if (checkR N arcs bounds cells).2 = 0 then (if level < 1 then 111 else if level > (bounds.length : Int) then 111 else 0) else (checkR N arcs bounds cells).2
def cellE (N : Int) (arcs : List S95) (bounds : List Int) (cells : List (List Int)) (level cell : Int) : Int :=
  if lookedE N arcs bounds cells level = 0 then (if cell < 0 then 120 else if cell ≥ (manyOf (cells.getD (level - 1).toNat []) : Int) then 120 else 0) else lookedE N arcs bounds cells level

/-- What a right nest is. -/
structure NestOk (N : Nat) (bounds : List Int) (cells : List (List Int)) : Prop where
  len : cells.length = bounds.length
  b1 : 1 ≤ bounds.length
  b5 : bounds.length ≤ 5
  step : ∀ j, j < bounds.length → stepE N bounds cells j = 0

theorem loopE_ok (N : Nat) (bounds : List Int) (cells : List (List Int)) : ∀ (d i : Nat), (loopE N bounds cells d i).2 = 0 → ∀ j, i ≤ j → j < i + d → stepE N bounds cells j = 0
  | 0, i, _, j, h1, h2 => by omega
  | d + 1, i, h, j, h1, h2 => by
    unfold loopE at h
    split at h
    · rename_i h0
      by_cases e : j = i
      · rw [e]; exact h0
      · exact loopE_ok N bounds cells d (i + 1) h j (by omega) (by omega)
    · rename_i h0
      exact absurd h h0
theorem loopE_of (N : Nat) (bounds : List Int) (cells : List (List Int)) : ∀ (d i : Nat), (∀ j, i ≤ j → j < i + d → stepE N bounds cells j = 0) → loopE N bounds cells d i = (0, 0)
  | 0, i, _ => rfl
  | d + 1, i, h => by
    unfold loopE
    rw [if_pos (h i (Nat.le_refl _) (by omega))]
    exact loopE_of N bounds cells d (i + 1) (fun j h1 h2 => h j (by omega) (by omega))
theorem nestE_ok {N : Nat} {bounds : List Int} {cells : List (List Int)} (h : (nestE N bounds cells).2 = 0) : NestOk N bounds cells := by
  unfold nestE at h
  split at h
  · simp at h
  · rename_i hl
    simp only [lensB, Bool.or_eq_true, decide_eq_true_eq] at hl
    exact ⟨by omega, by omega, by omega, fun j hj => loopE_ok N bounds cells bounds.length 0 h j (by omega) (by omega)⟩
theorem NestOk.e {N : Nat} {bounds : List Int} {cells : List (List Int)} (h : NestOk N bounds cells) : nestE N bounds cells = (0, 0) := by
  unfold nestE
  rw [if_neg (by have := h.len; have := h.b1; have := h.b5; simp only [lensB, Bool.or_eq_true, decide_eq_true_eq]; omega)]
  exact loopE_of _ _ _ _ _ (fun j _ hj => h.step j (by omega))
theorem NestOk.right {N : Nat} {bounds : List Int} {cells : List (List Int)} (h : NestOk N bounds cells) {j : Nat} (hj : j < bounds.length) : rightP N (cells.getD j []) = true := by
  have h1 := h.step j hj
  unfold stepE at h1
  split at h1
  · split at h1
    · rename_i h2
      unfold firstE at h2
      split at h2
      · assumption
      · omega
    · rename_i h2; exact absurd h1 h2
  · omega
theorem NestOk.nested {N : Nat} {bounds : List Int} {cells : List (List Int)} (h : NestOk N bounds cells) {j : Nat} (hj : j < bounds.length) : nestedB cells j = true := by
  have h1 := h.step j hj
  unfold stepE at h1
  split at h1
  · split at h1
    · split at h1
      · assumption
      · omega
    · rename_i h2; exact absurd h1 h2
  · omega

theorem checkR_ok {N : Int} {arcs : List S95} {bounds : List Int} {cells : List (List Int)} (hf : ArcsFit arcs) (h : (checkR N arcs bounds cells).2 = 0) : (1 ≤ N ∧ GOk N.toNat arcs) ∧ NestOk N.toNat bounds cells := by
  unfold checkR at h
  split at h
  · rename_i h0
    exact ⟨graphR_ok hf h0, nestE_ok h⟩
  · rename_i h0
    exact absurd h h0
theorem cellE_ok {N : Int} {arcs : List S95} {bounds : List Int} {cells : List (List Int)} {level cell : Int} (hf : ArcsFit arcs) (h : cellE N arcs bounds cells level cell = 0) :
    (1 ≤ N ∧ GOk N.toNat arcs) ∧ NestOk N.toNat bounds cells ∧ (1 ≤ level ∧ level ≤ bounds.length) ∧ 0 ≤ cell ∧ cell < (manyOf (cells.getD (level - 1).toNat []) : Int) := by
  unfold cellE at h
  split at h
  · rename_i h1
    unfold lookedE at h1
    split at h1
    · rename_i h2
      have h3 := checkR_ok hf h2
      refine ⟨h3.1, h3.2, ?_, ?_⟩
      · split at h1
        · omega
        · split at h1
          · omega
          · omega
      · split at h
        · omega
        · split at h
          · omega
          · omega
    · rename_i h2; exact absurd h1 h2
  · rename_i h2; exact absurd h h2
/-- Of arcs that are right all is as of others. -/
theorem cellE_swap {N : Nat} {arcs arcs' : List S95} (h : GOk N arcs) (h' : GOk N arcs') (bounds : List Int) (cells : List (List Int)) (level cell : Int) : cellE (N : Int) arcs' bounds cells level cell = cellE (N : Int) arcs bounds cells level cell := by
  unfold cellE lookedE checkR
  rw [graphR_of h, graphR_of h']

end Go.Proofs.YtjddimoeodecgaaGreat.Q

/- nest.Check. -/
namespace Go.Proofs.YtjddimoeodecgaaGreat
open Go.RowKit Go.Lib Go.Sort Go.Proofs.YtjddimoeodecgaaGreatW.PrintWords Go.Proofs.YtjddimoeodecgaaGreatW.PrintLast Go.Proofs.YtjddimoeodecgaaGreatW.PrintMore
set_option linter.unusedVariables false
set_option maxRecDepth 100000

theorem first_e (N : Nat) (arcs : List Q.S95) (A : Option Addr) (c : Nat) (LA : Option Addr) (lc : Nat) (l : List Int) (bound : Int) (w : World) (hg : Q.GOk N arcs) (hr : Kd.C Q.k95 w A arcs.length arcs) (hc : arcs.length ≤ c) (hl : Kd.C (Kd.int .i64) w LA l.length l) (hlc : l.length ≤ lc) :
    Calls Tryz.prog 70 #[.agg #[.int .i64 (N : Int), .slice A arcs.length c], .slice LA l.length lc, .int .i64 bound] w fun e w' => e = .returned (.int .i64 (Q.firstE N l bound)) ∧ Below w.heap.size w w' := by
  refine (Q.first_any N arcs A c LA lc l bound w hg hr hc hl hlc).mono ?_
  rintro e w' ⟨r, h1, h2, h3⟩
  refine ⟨?_, h3⟩
  unfold Q.nest_first.f at h1
  rw [if_pos ⟨by omega, by rw [Int.toNat_natCast]; exact (Q.gokB_iff N arcs).2 hg⟩, Int.toNat_natCast] at h1
  rw [h2]
  unfold Q.firstE
  split at h1
  · rename_i h4
    rw [if_pos h4]
    split at h1 <;> (rename_i h5; injection h1 with h1; simp [h5, h1])
  · rename_i h4
    rw [if_neg h4]
    injection h1 with h1
    rw [h1]

theorem bounded_e (bounds : List Int) (i : Nat) (w : World) :
    Calls Tryz.prog 69 #[.int .i64 (bounds.getD i 0), .int .i64 (Q.belowB bounds i)] w fun e w' => e = .returned (.bool (Q.boundedB bounds i)) ∧ w' = w := by
  unfold Q.boundedB
  generalize bounds.getD i 0 = b
  generalize Q.belowB bounds i = bl
  by_cases h1 : b > bl
  · have h2 : bl < b := h1
    rw [decide_eq_true h1, Bool.true_and]
    go_enter Tryz.func69, Tryz.ntmps69
    go_wp2_with fail
    go_ret
    exact ⟨rfl, rfl⟩
  · have h2 : ¬ bl < b := h1
    rw [decide_eq_false h1, Bool.false_and]
    go_enter Tryz.func69, Tryz.ntmps69
    go_wp2_with fail
    go_ret
    exact ⟨rfl, rfl⟩

theorem within_e (N : Nat) (hN : N ≤ 1024) (cells : List (List Int)) (i : Nat) (h0 : 0 < i) (A0 : Option Addr) (c0 : Nat) (A1 : Option Addr) (c1 : Nat) (w : World) (hp : Q.rightP N (cells.getD (i - 1) []) = true) (hq : Q.rightP N (cells.getD i []) = true) (hr0 : Kd.C (Kd.int .i64) w A0 (cells.getD (i - 1) []).length (cells.getD (i - 1) [])) (hc0 : (cells.getD (i - 1) []).length ≤ c0) (hr1 : Kd.C (Kd.int .i64) w A1 (cells.getD i []).length (cells.getD i [])) (hc1 : (cells.getD i []).length ≤ c1) :
    Calls Tryz.prog 71 #[.slice A0 (cells.getD (i - 1) []).length c0, .slice A1 (cells.getD i []).length c1] w fun e w' => e = .returned (.bool (Q.nestedB cells i)) ∧ Below w.heap.size w w' := by
  refine Q.nest_within.calls A0 c0 _ A1 c1 _ _ w hr0 hc0 hr1 hc1 ?_
  have h1 := Q.rightP_in hp
  have h2 := Q.rightP_in hq
  unfold Q.nest_within.f
  rw [if_pos ⟨by omega, by omega, fun v hv => by have := h1.2 v hv; omega⟩]
  unfold Q.nestedB
  rw [if_neg (by omega)]

/-- A nest's two lists in memory. -/
structure NestIn (w : World) (BA : Option Addr) (bc : Nat) (bounds : List Int) (CA : Option Addr) (cc : Nat) (cells : List (List Int)) : Prop where
  b : Kd.C (Kd.int .i64) w BA bounds.length bounds
  bc : bounds.length ≤ bc
  c : Kd.C (Kd.slice 3 (Kd.int .i64)) w CA cells.length cells
  cc : cells.length ≤ cc
theorem NestIn.below {w w' : World} {BA : Option Addr} {bc : Nat} {bounds : List Int} {CA : Option Addr} {cc : Nat} {cells : List (List Int)} (h : NestIn w BA bc bounds CA cc cells) (hb : Below w.heap.size w w') : NestIn w' BA bc bounds CA cc cells := ⟨Kd.C_below h.b hb, h.bc, Kd.C_below h.c hb, h.cc⟩
/-- A level's row. -/
theorem NestIn.row {w : World} {BA : Option Addr} {bc : Nat} {bounds : List Int} {CA : Option Addr} {cc : Nat} {cells : List (List Int)} (h : NestIn w BA bc bounds CA cc cells) (i : Nat) (hi : i < cells.length) :
    ∃ ad RA rc, CA = some ad ∧ w.cell? (ad.add i) = some (.slice RA (cells.getD i []).length rc) ∧ (cells.getD i []).length ≤ rc ∧ Kd.C (Kd.int .i64) w RA (cells.getD i []).length (cells.getD i []) := by
  obtain ⟨ad, A0, c0, h1, h2, h3, h4⟩ := Q.at_L5 h.c (i : Int) (by omega) (by omega)
  have e : Q.rd_L5 cells (i : Int) = cells.getD i [] := by unfold Q.rd_L5; simp
  rw [e] at h2 h3 h4
  rw [Int.toNat_natCast] at h2
  exact ⟨ad, A0, c0, h1, h2, h3, h4⟩

theorem graph_e (N : Int) (arcs : List Q.S95) (A : Option Addr) (c : Nat) (w : World) (hf : Q.ArcsFit arcs) (hr : Kd.C Q.k95 w A arcs.length arcs) (hc : arcs.length ≤ c) :
    Calls Tryz.prog 55 #[.agg #[.int .i64 N, .slice A arcs.length c]] w fun e w' => e = .returned (.tuple #[.int .i64 (Q.graphR N arcs).1, .int .i64 (Q.graphR N arcs).2]) ∧ Below w.heap.size w w' :=
  Q.graph_Check.calls (arcs.length + 3) N A c arcs _ _ w hr hc (Q.graphR_f hf)

set_option maxHeartbeats 1000000 in
theorem nestCheck_bad (N : Int) (arcs : List Q.S95) (A : Option Addr) (c : Nat) (BA : Option Addr) (bc : Nat) (bounds : List Int) (CA : Option Addr) (cc : Nat) (cells : List (List Int)) (w : World) (hf : Q.ArcsFit arcs) (hr : Kd.C Q.k95 w A arcs.length arcs) (hc : arcs.length ≤ c) (h0 : ¬ (Q.graphR N arcs).2 = 0) :
    Calls Tryz.prog 26 #[.agg #[.int .i64 N, .slice A arcs.length c], .agg #[.slice BA bounds.length bc, .slice CA cells.length cc]] w fun e w' => e = .returned (.tuple #[.int .i64 (Q.checkR N arcs bounds cells).1, .int .i64 (Q.checkR N arcs bounds cells).2]) ∧ Below w.heap.size w w' := by
  have e : Q.checkR N arcs bounds cells = (0, (Q.graphR N arcs).2) := by unfold Q.checkR; rw [if_neg h0]
  rw [e]
  have hb1 : Below w.heap.size w ((w.alloc (.cells #[.int .i64 N, .slice A arcs.length c] 24)).alloc (.cells #[.slice BA bounds.length bc, .slice CA cells.length cc] 28)) := ((Below.refl _ w).alloc (Nat.le_refl _) _).alloc (by rw [World.size_alloc]; omega) _
  have HG := Lib.hid (graph_e N arcs A c ((w.alloc (.cells #[.int .i64 N, .slice A arcs.length c] 24)).alloc (.cells #[.slice BA bounds.length bc, .slice CA cells.length cc] 28)) hf (Kd.C_below hr hb1) hc)
  have c0 : ((w.alloc (.cells #[.int .i64 N, .slice A arcs.length c] 24)).alloc (.cells #[.slice BA bounds.length bc, .slice CA cells.length cc] 28)).cell? ⟨w.heap.size, 0, none⟩ = some (.int .i64 N) := by rw [alloc_cell_old _ _ _ _ (by simp)]; simp
  have c1 : ((w.alloc (.cells #[.int .i64 N, .slice A arcs.length c] 24)).alloc (.cells #[.slice BA bounds.length bc, .slice CA cells.length cc] 28)).cell? ⟨w.heap.size, 1, none⟩ = some (.slice A arcs.length c) := by rw [alloc_cell_old _ _ _ _ (by simp)]; simp
  have HB1 := Lib.hid hb1
  clear e hf hr hc hb1
  generalize (Q.graphR N arcs).2 = ge at *
  generalize (Q.graphR N arcs).1 = gl at *
  go_enter Tryz.func26, Tryz.ntmps26
  go_upto_region 1 with fail
  generalize ((w.alloc (.cells #[.int .i64 N, .slice A arcs.length c] 24)).alloc (.cells #[.slice BA bounds.length bc, .slice CA cells.length cc] 28)) = w1 at *
  have hs1 := HB1.out.size
  go_wp2_with (go_at_call 55; (with_reducible refine HG.out.mono ?_); rintro e w2 ⟨rfl, hb⟩; have HB := Lib.hid hb; clear hb)
  go_ret2
  exact ⟨rfl, HB1.out.trans (HB.out.mono hs1)⟩

set_option maxHeartbeats 4000000 in
theorem nestCheck_good (N : Nat) (arcs : List Q.S95) (A : Option Addr) (c : Nat) (BA : Option Addr) (bc : Nat) (bounds : List Int) (CA : Option Addr) (cc : Nat) (cells : List (List Int)) (w : World) (hg : Q.GOk N arcs) (hr : Kd.C Q.k95 w A arcs.length arcs) (hc : arcs.length ≤ c) (hn : NestIn w BA bc bounds CA cc cells) :
    Calls Tryz.prog 26 #[.agg #[.int .i64 (N : Int), .slice A arcs.length c], .agg #[.slice BA bounds.length bc, .slice CA cells.length cc]] w fun e w' => e = .returned (.tuple #[.int .i64 (Q.nestE N bounds cells).1, .int .i64 (Q.nestE N bounds cells).2]) ∧ Below w.heap.size w w' := by
  have hb1 : Below w.heap.size w ((w.alloc (.cells #[.int .i64 N, .slice A arcs.length c] 24)).alloc (.cells #[.slice BA bounds.length bc, .slice CA cells.length cc] 28)) := ((Below.refl _ w).alloc (Nat.le_refl _) _).alloc (by rw [World.size_alloc]; omega) _
  have HG := Lib.hid (graph_e (N : Int) arcs A c ((w.alloc (.cells #[.int .i64 N, .slice A arcs.length c] 24)).alloc (.cells #[.slice BA bounds.length bc, .slice CA cells.length cc] 28)) hg.fit (Kd.C_below hr hb1) hc)
  rw [Q.graphR_of hg] at HG
  simp only at HG
  have c0 : ((w.alloc (.cells #[.int .i64 N, .slice A arcs.length c] 24)).alloc (.cells #[.slice BA bounds.length bc, .slice CA cells.length cc] 28)).cell? ⟨w.heap.size, 0, none⟩ = some (.int .i64 N) := by rw [alloc_cell_old _ _ _ _ (by simp)]; simp
  have c1 : ((w.alloc (.cells #[.int .i64 N, .slice A arcs.length c] 24)).alloc (.cells #[.slice BA bounds.length bc, .slice CA cells.length cc] 28)).cell? ⟨w.heap.size, 1, none⟩ = some (.slice A arcs.length c) := by rw [alloc_cell_old _ _ _ _ (by simp)]; simp
  have n0 : ((w.alloc (.cells #[.int .i64 N, .slice A arcs.length c] 24)).alloc (.cells #[.slice BA bounds.length bc, .slice CA cells.length cc] 28)).cell? ⟨w.heap.size + 1, 0, none⟩ = some (.slice BA bounds.length bc) := by rw [cell_of_row _ (w.heap.size + 1) 0 _ _ _ (heap_alloc2_new _ _ _)]; rfl
  have n1 : ((w.alloc (.cells #[.int .i64 N, .slice A arcs.length c] 24)).alloc (.cells #[.slice BA bounds.length bc, .slice CA cells.length cc] 28)).cell? ⟨w.heap.size + 1, 1, none⟩ = some (.slice CA cells.length cc) := by rw [cell_of_row _ (w.heap.size + 1) 1 _ _ _ (heap_alloc2_new _ _ _)]; rfl
  have hsz : ((w.alloc (.cells #[.int .i64 N, .slice A arcs.length c] 24)).alloc (.cells #[.slice BA bounds.length bc, .slice CA cells.length cc] 28)).heap.size = w.heap.size + 2 := by simp
  have HR := Lib.hid hr
  have HN := Lib.hid hn
  have HGK := Lib.hid hg
  have HC := Lib.hid hc
  have HB1 := Lib.hid hb1
  clear hg hr hc hb1 hn
  go_enter Tryz.func26, Tryz.ntmps26
  go_upto_region 1 with fail
  generalize ((w.alloc (.cells #[.int .i64 N, .slice A arcs.length c] 24)).alloc (.cells #[.slice BA bounds.length bc, .slice CA cells.length cc] 28)) = w1 at *
  have hs1 : w.heap.size + 2 ≤ w1.heap.size := by omega
  clear hsz
  generalize hgx : w.heap.size = gx at *
  have HGX := Lib.hid hgx
  clear hgx
  go_upto_region 4 with (go_at_call 55; (with_reducible refine HG.out.mono ?_); rintro e w2 ⟨rfl, hb⟩; have HB := Lib.hid hb; clear hb)
  have d0 := (HB.out.cell (p := ⟨gx, 0, none⟩) (by show gx < w1.heap.size; omega)).trans c0
  have d1 := (HB.out.cell (p := ⟨gx, 1, none⟩) (by show gx < w1.heap.size; omega)).trans c1
  have m0 := (HB.out.cell (p := ⟨gx + 1, 0, none⟩) (by show gx + 1 < w1.heap.size; omega)).trans n0
  have m1 := (HB.out.cell (p := ⟨gx + 1, 1, none⟩) (by show gx + 1 < w1.heap.size; omega)).trans n1
  have hs2 : gx + 2 ≤ w2.heap.size := by have := HB.out.size; omega
  have HB2 := Lib.hid (HB1.out.trans (HB.out.mono (by omega)))
  clear c0 c1 n0 n1 HG HB HB1
  cases hlb : Q.lensB bounds cells with
  | true =>
    have he : Q.nestE N bounds cells = (0, 111) := by unfold Q.nestE; rw [if_pos hlb]
    simp only [Q.lensB, Bool.or_eq_true, decide_eq_true_eq] at hlb
    have HE := Lib.hid he
    clear he
    by_cases h1 : bounds.length < 1
    · have z1 : (bounds.length : Int) < 1 := by omega
      clear hlb h1
      go_wp2_with fail
      go_ret2
      have hgx := HGX.out
      subst hgx
      exact ⟨by rw [HE.out]; rfl, HB2.out⟩
    · have z1 : ¬ (bounds.length : Int) < 1 := by omega
      by_cases h2 : 5 < bounds.length
      · have z2 : (5 : Int) < (bounds.length : Int) := by omega
        clear hlb h1 h2
        go_wp2_with fail
        go_ret2
        have hgx := HGX.out
        subst hgx
        exact ⟨by rw [HE.out]; rfl, HB2.out⟩
      · have z2 : ¬ (5 : Int) < (bounds.length : Int) := by omega
        have z3 : ¬ (cells.length : Int) = (bounds.length : Int) := by omega
        clear hlb h1 h2
        go_wp2_with fail
        go_ret2
        have hgx := HGX.out
        subst hgx
        exact ⟨by rw [HE.out]; rfl, HB2.out⟩
  | false =>
    have he : Q.nestE N bounds cells = Q.loopE N bounds cells bounds.length 0 := by unfold Q.nestE; rw [if_neg (by rw [hlb]; simp)]
    have hlb' : ¬ (Q.lensB bounds cells = true) := by rw [hlb]; simp
    simp only [Q.lensB, Bool.or_eq_true, decide_eq_true_eq] at hlb'
    have HLEN : Hid (cells.length = bounds.length) := Lib.hid (by omega)
    have z1 : ¬ (bounds.length : Int) < 1 := by omega
    have z2 : ¬ (5 : Int) < (bounds.length : Int) := by omega
    have z3 : (cells.length : Int) = (bounds.length : Int) := by omega
    have HE := Lib.hid he
    clear he hlb hlb'
    go_wp2_with fail
    have hN2 := HGK.out.n2
    go_loopg [8, 42] bounds.length (fun gg s8 s42 wr => ∃ i : Nat, i ≤ bounds.length ∧ bounds.length - i ≤ gg ∧ s42 = .int .i64 i ∧ s8 = .int .i64 (Q.belowB bounds i) ∧ Hid (Q.nestE N bounds cells = Q.loopE N bounds cells (bounds.length - i) i) ∧ Hid (0 < i → Q.rightP N (cells.getD (i - 1) []) = true) ∧ Hid (Below gx w wr) ∧ Hid (Below w2.heap.size w2 wr))
    case atStart => exact ⟨0, Nat.zero_le _, by omega, rfl, rfl, HE, Lib.hid (fun h => by omega), HB2, Lib.hid (Below.refl _ _)⟩
    case round =>
      obtain ⟨i, hi1, hgg, rfl, rfl, HEI, HPR, HBG, HBW⟩ := hrel
      by_cases hlt : i < bounds.length
      · have hltz : (i : Int) < (bounds.length : Int) := by omega
        have hltc : (i : Int) < (cells.length : Int) := by omega
        have hwk : IntKind.i64.wrap ((i : Int) + 1) = ((i + 1 : Nat) : Int) := by rw [IntWalk.i64_in _ (by omega)]; omega
        have HST : Hid (Q.nestE N bounds cells = if Q.stepE N bounds cells i = 0 then Q.loopE N bounds cells (bounds.length - (i + 1)) (i + 1) else ((i : Int) + 1, Q.stepE N bounds cells i)) := Lib.hid (by
          rw [HEI.out, show bounds.length - i = (bounds.length - (i + 1)) + 1 by omega]
          rfl)
        have hbw : Below w.heap.size w wr := by rw [HGX.out]; exact HBG.out
        obtain ⟨bad, rfl, x0⟩ := Q.int_cell (Kd.C_below HN.out.b hbw) i hlt
        obtain ⟨cad, RA, rc, rfl, y0, hrc, hRow⟩ := (HN.out.below hbw).row i (by omega)
        have e0 := (HBW.out.cell (p := ⟨gx, 0, none⟩) (by show gx < w2.heap.size; omega)).trans d0
        have e1 := (HBW.out.cell (p := ⟨gx, 1, none⟩) (by show gx < w2.heap.size; omega)).trans d1
        have m2 := (HBW.out.cell (p := ⟨gx + 1, 1, none⟩) (by show gx + 1 < w2.heap.size; omega)).trans m1
        have hgw : gx + 2 ≤ wr.heap.size := by have := HBW.out.size; omega
        have HBD := Lib.hid (bounded_e bounds i)
        have HFI : Hid (∀ wx : World, Below wr.heap.size wr wx → Calls Tryz.prog 70 #[.agg #[.int .i64 (N : Int), .slice A arcs.length c], .slice RA (cells.getD i []).length rc, .int .i64 (bounds.getD i 0)] wx fun e w' => e = .returned (.int .i64 (Q.firstE N (cells.getD i []) (bounds.getD i 0))) ∧ Below wx.heap.size wx w') :=
          Lib.hid (fun wx hb => first_e N arcs A c RA rc _ _ wx HGK.out (Kd.C_below (Kd.C_below HR.out hbw) hb) HC.out (Kd.C_below hRow hb) hrc)
        have HROW := Lib.hid hRow
        have HRC := Lib.hid hrc
        clear d0 d1 m0 m1 hRow hrc
        have HBI : Hid (Q.belowB bounds (i + 1) = bounds.getD i 0) := Lib.hid (by unfold Q.belowB; rw [if_neg (by omega), Nat.add_sub_cancel])
        cases hbd : Q.boundedB bounds i with
        | false =>
          have HEX : Hid (Q.nestE N bounds cells = (((i + 1 : Nat) : Int), 1)) := Lib.hid (by
            have hs : Q.stepE N bounds cells i = 1 := by unfold Q.stepE; rw [if_neg (by rw [hbd]; simp)]
            rw [HST.out, hs]; rfl)
          rw [hbd] at HBD
          generalize bounds.getD i 0 = bi at *
          generalize Q.belowB bounds i = bl at *
          go_wp2_with (go_at_call 69; (with_reducible refine (HBD.out _).mono ?_); rintro e w3 ⟨rfl, hw⟩; have hw2 := hw.symm; subst hw2; clear hw)
          go_ret2
          have hgx := HGX.out
          subst hgx
          exact ⟨by rw [HEX.out]; rfl, HBG.out⟩
        | true =>
          rw [hbd] at HBD
          have HST2 : Hid (Q.stepE N bounds cells i = if Q.firstE N (cells.getD i []) (bounds.getD i 0) = 0 then (if Q.nestedB cells i = true then 0 else 110) else Q.firstE N (cells.getD i []) (bounds.getD i 0)) := Lib.hid (by unfold Q.stepE; rw [if_pos hbd])
          generalize hbi : bounds.getD i 0 = bi at *
          generalize hrw : cells.getD i [] = row at *
          generalize hfe : Q.firstE N row bi = fe at *
          generalize Q.belowB bounds i = bl at *
          have HFE := Lib.hid hfe
          have HRW := Lib.hid hrw
          clear hbi hfe hbd hrw
          go_upto_region 13 with (go_at_call 69; (with_reducible refine (HBD.out _).mono ?_); rintro e w3 ⟨rfl, hw⟩; have hw2 := hw.symm; subst hw2; clear hw)
          go_cut [11] (fun s11 wx => s11 = .int .i64 fe ∧ Hid (Below wr.heap.size wr wx))
          case first =>
            go_region_held3 (fun w' => w'.cell? ⟨gx, 0, none⟩ = some (.int .i64 (N : Int)) ∧ w'.cell? ⟨gx, 1, none⟩ = some (.slice A arcs.length c) ∧ w'.cell? ⟨gx + 1, 1, none⟩ = some (.slice (some cad) cells.length cc) ∧ w'.cell? (cad.add i) = some (.slice RA row.length rc)) (first | (refine ⟨?_, ?_, ?_, ?_⟩ <;> (repeat (first | assumption | (simp; done) | (simp [*]; done) | rw [drew_cell_all]))) | (go_keep; done))
              (first | (go_at_call 70; (with_reducible refine (HFI.out _ ?hra).mono ?_); (case hra => exact (Below.refl _ _).drew); rintro e wF ⟨rfl, hbF⟩; have fe0 := (hbF.cell (p := ⟨gx, 0, none⟩) (by show gx < wr.heap.size; omega)).trans e0; have fe1 := (hbF.cell (p := ⟨gx, 1, none⟩) (by show gx < wr.heap.size; omega)).trans e1; have fm2 := (hbF.cell (p := ⟨gx + 1, 1, none⟩) (by show gx + 1 < wr.heap.size; omega)).trans m2; have fy0 := (hbF.cell (p := cad.add i) (World.block_lt_of_cell? wr _ y0)).trans y0))
            all_goals
              go_wp2_with fail
              go_meet
              refine ⟨rfl, Lib.hid ?_⟩
              first | exact (Below.refl _ _).drew.trans hbF
          case rest =>
            obtain ⟨rfl, HC1⟩ := hcut
            have m3 := (HC1.out.cell (p := ⟨gx + 1, 1, none⟩) (by show gx + 1 < wr.heap.size; omega)).trans m2
            have y1 := (HC1.out.cell (p := cad.add i) (World.block_lt_of_cell? wr _ y0)).trans y0
            have hgc : gx + 2 ≤ wc.heap.size := by have := HC1.out.size; omega
            have HBGC := Lib.hid (HBG.out.trans (HC1.out.mono (by omega)))
            have HBWC := Lib.hid (HBW.out.trans (HC1.out.mono (by have := HBW.out.size; omega)))
            have HROWC := Lib.hid (Kd.C_below HROW.out HC1.out)
            clear e0 e1 m2 y0 x0 HFI HBD
            by_cases hfe0 : fe = 0
            · subst hfe0
              rw [if_pos rfl] at HST2
              have hrp : Q.rightP N row = true := by
                have h := HFE.out
                unfold Q.firstE at h
                split at h
                · assumption
                · omega
              have HRP := Lib.hid hrp
              have HNX : Hid (Q.nestedB cells i = true → Q.nestE N bounds cells = Q.loopE N bounds cells (bounds.length - (i + 1)) (i + 1)) := Lib.hid (fun h => by
                have hs : Q.stepE N bounds cells i = 0 := by rw [HST2.out, if_pos h]
                rw [HST.out, hs, if_pos rfl])
              have HEX : Hid (Q.nestedB cells i = false → Q.nestE N bounds cells = (((i + 1 : Nat) : Int), 110)) := Lib.hid (fun h => by
                have hs : Q.stepE N bounds cells i = 110 := by rw [HST2.out, h]; rfl
                rw [HST.out, hs]; rfl)
              clear hrp HST HST2 HFE
              go_upto_region 16 with fail
              go_cut [83] (fun s83 wx => s83 = .bool (!(Q.nestedB cells i)) ∧ Hid (Below wc.heap.size wc wx))
              case first =>
                by_cases hi0 : i = 0
                · subst hi0
                  have hnb : Q.nestedB cells 0 = true := rfl
                  go_region
                  all_goals
                    go_wp2_with fail
                    go_meet
                    exact ⟨by rw [hnb]; rfl, Lib.hid (Below.refl _ _).drew⟩
                · have hi0z : (0 : Int) < (i : Int) := by omega
                  have hi0n : 0 < i := by omega
                  have hi0t : (i == 0) = false := by simp; omega
                  have hi0d : decide (0 < i) = true := by simp; omega
                  have hi0e : decide ((0 : Int) < (i : Int)) = true := by simp; omega
                  have hwm : IntKind.i64.wrap ((i : Int) - 1) = ((i - 1 : Nat) : Int) := by rw [IntWalk.i64_in _ (by omega)]; omega
                  have hbwc : Below w.heap.size w wc := by rw [HGX.out]; exact HBGC.out
                  obtain ⟨cad', PA, pc, hcad, yp, hpc, hPRow⟩ := (HN.out.below hbwc).row (i - 1) (by omega)
                  cases hcad
                  have hpr := HPR.out (by omega)
                  have hRowC := HROWC.out
                  have hrp2 := HRP.out
                  have hrc2 := HRC.out
                  rw [← HRW.out] at hRowC hrp2 hrc2
                  have HWI : Hid (∀ wx : World, Below wc.heap.size wc wx → Calls Tryz.prog 71 #[.slice PA (cells.getD (i - 1) []).length pc, .slice RA (cells.getD i []).length rc] wx fun e w' => e = .returned (.bool (Q.nestedB cells i)) ∧ Below wx.heap.size wx w') :=
                    Lib.hid (fun wx hb => within_e N hN2 cells i (by omega) PA pc RA rc wx hpr hrp2 (Kd.C_below hPRow hb) hpc (Kd.C_below hRowC hb) hrc2)
                  rw [HRW.out] at HWI
                  clear hRowC hrp2 hrc2 hPRow hpr
                  have him : ((i - 1 : Nat) : Int) < (cells.length : Int) := by omega
                  have him2 : ((i - 1 : Nat) : Int) < (bounds.length : Int) := by omega
                  generalize cells.getD (i - 1) [] = prow at *
                  generalize Q.nestedB cells i = nb at *
                  generalize hip : i - 1 = ip at *
                  have HIP := Lib.hid hip
                  clear hip
                  go_region_held3 (fun w' => w'.cell? ⟨gx + 1, 1, none⟩ = some (.slice (some cad) cells.length cc) ∧ w'.cell? (cad.add i) = some (.slice RA row.length rc) ∧ w'.cell? (cad.add ip) = some (.slice PA prow.length pc)) (first | (refine ⟨?_, ?_, ?_⟩ <;> (repeat (first | assumption | (simp; done) | (simp [*]; done) | rw [drew_cell_all]))) | (go_keep; done))
                    (first | (go_at_call 71; (with_reducible refine (HWI.out _ ?hra).mono ?_); (case hra => exact (Below.refl _ _).drew); rintro e wF ⟨rfl, hbF⟩; have fm2 := (hbF.cell (p := ⟨gx + 1, 1, none⟩) (by show gx + 1 < wc.heap.size; omega)).trans m3; have fy0 := (hbF.cell (p := cad.add i) (World.block_lt_of_cell? wc _ y1)).trans y1; have fy1 := (hbF.cell (p := cad.add ip) (World.block_lt_of_cell? wc _ yp)).trans yp))
                  all_goals
                    go_wp2_with fail
                    go_meet
                    exact ⟨rfl, Lib.hid ((Below.refl _ _).drew.trans hbF)⟩
              case rest =>
                obtain ⟨rfl, HC2⟩ := hcut
                clear m3 y1
                cases hnb : Q.nestedB cells i with
                | true =>
                  have HNX2 := Lib.hid (HNX.out hnb)
                  go_wp2_with fail
                  have HWK := Lib.hid hwk
                  clear hwk
                  go_roundg (bounds.length - (i + 1))
                  case measure => omega
                  case rel => exact ⟨i + 1, by omega, Nat.le_refl _, rfl, by rw [HBI.out], HNX2, Lib.hid (fun _ => by rw [Nat.add_sub_cancel, HRW.out]; exact HRP.out), Lib.hid (HBGC.out.trans (HC2.out.mono (by omega))), Lib.hid (HBWC.out.trans (HC2.out.mono (by have := HBWC.out.size; omega)))⟩
                | false =>
                  have HEX2 := Lib.hid (HEX.out hnb)
                  go_wp2_with fail
                  go_ret2
                  have hgx := HGX.out
                  subst hgx
                  exact ⟨by rw [HEX2.out]; rfl, HBGC.out.trans (HC2.out.mono (by omega))⟩
            · have HEX : Hid (Q.nestE N bounds cells = (((i + 1 : Nat) : Int), fe)) := Lib.hid (by
                rw [HST.out, HST2.out, if_neg hfe0, if_neg hfe0]; rfl)
              go_wp2_with fail
              go_ret2
              have hgx := HGX.out
              subst hgx
              exact ⟨by rw [HEX.out]; rfl, HBGC.out⟩
      · have : i = bounds.length := by omega
        have hkz : ¬ (i : Int) < (bounds.length : Int) := by omega
        have HEZ : Hid (Q.nestE N bounds cells = (0, 0)) := Lib.hid (by rw [HEI.out, show bounds.length - i = 0 by omega]; rfl)
        clear this
        go_wp2_with fail
        go_ret2
        have hgx := HGX.out
        subst hgx
        exact ⟨by rw [HEZ.out]; rfl, HBG.out⟩

end Go.Proofs.YtjddimoeodecgaaGreat

/- nest.at, nest.looked. -/
namespace Go.Proofs.YtjddimoeodecgaaGreat
open Go.RowKit Go.Lib Go.Sort Go.Proofs.YtjddimoeodecgaaGreatW.PrintWords Go.Proofs.YtjddimoeodecgaaGreatW.PrintLast Go.Proofs.YtjddimoeodecgaaGreatW.PrintMore
set_option linter.unusedVariables false
set_option maxRecDepth 100000

theorem nestCheck_any (N : Int) (arcs : List Q.S95) (A : Option Addr) (c : Nat) (BA : Option Addr) (bc : Nat) (bounds : List Int) (CA : Option Addr) (cc : Nat) (cells : List (List Int)) (w : World) (hf : Q.ArcsFit arcs) (hr : Kd.C Q.k95 w A arcs.length arcs) (hc : arcs.length ≤ c) (hn : NestIn w BA bc bounds CA cc cells) :
    Calls Tryz.prog 26 #[.agg #[.int .i64 N, .slice A arcs.length c], .agg #[.slice BA bounds.length bc, .slice CA cells.length cc]] w fun e w' => e = .returned (.tuple #[.int .i64 (Q.checkR N arcs bounds cells).1, .int .i64 (Q.checkR N arcs bounds cells).2]) ∧ Below w.heap.size w w' := by
  by_cases h0 : (Q.graphR N arcs).2 = 0
  · obtain ⟨h1, h2⟩ := Q.graphR_ok hf h0
    obtain ⟨n, rfl⟩ : ∃ n : Nat, N = (n : Int) := ⟨N.toNat, (Int.toNat_of_nonneg (by omega)).symm⟩
    rw [Int.toNat_natCast] at h2
    have e : Q.checkR (n : Int) arcs bounds cells = Q.nestE n bounds cells := by unfold Q.checkR; rw [if_pos h0, Int.toNat_natCast]
    rw [e]
    exact nestCheck_good n arcs A c BA bc bounds CA cc cells w h2 hr hc hn
  · exact nestCheck_bad N arcs A c BA bc bounds CA cc cells w hf hr hc h0

theorem heap_set2 {w : World} {g : Nat} {x y a b : Value} {t : TypeId} (h : w.heap[g]? = some (.cells #[x, y] t (0, 0))) : ((w.setCell ⟨g, 0, none⟩ a).setCell ⟨g, 1, none⟩ b).heap[g]? = some (.cells #[a, b] t (0, 0)) := by
  have h1 := heap_setCell_same w g 0 _ _ a h
  have h2 := heap_setCell_same (w.setCell ⟨g, 0, none⟩ a) g 1 _ _ b h1
  rw [h2]
  rfl

set_option maxHeartbeats 1000000 in
theorem nestAt_any (BA : Option Addr) (bc bn : Nat) (cad : Addr) (cn cc j : Nat) (RA : Option Addr) (n rc : Nat) (w : World) (hj : j < cn) (hcn : cn ≤ 1000) (hcell : w.cell? (cad.add j) = some (.slice RA n rc)) :
    Calls Tryz.prog 77 #[.agg #[.slice BA bn bc, .slice (some cad) cn cc], .int .i64 ((j + 1 : Nat) : Int)] w fun e w' => e = .returned (.agg #[.slice RA n rc, .int .i64 ((j + 1 : Nat) : Int)]) ∧ Below w.heap.size w w' := by
  have hlt := World.block_lt_of_cell? w _ hcell
  generalize hj1 : j + 1 = j1 at *
  have hws : IntKind.i64.wrap ((j1 : Int) - 1) = (j : Int) := by rw [IntWalk.i64_in _ (by omega)]; omega
  have hjz : (j : Int) < (cn : Int) := by omega
  clear hj1
  have c0 : ((w.alloc (.cells #[.slice BA bn bc, .slice (some cad) cn cc] 28)).alloc (.cells #[.slice none 0 0, .int .i64 0] 115)).cell? (cad.add j) = some (.slice RA n rc) := by
    rw [World.cell?_of_block (w := w.alloc (.cells #[.slice BA bn bc, .slice (some cad) cn cc] 28)) (heap_alloc_old _ _ (by simp; omega)), World.cell?_of_block (w := w) (heap_alloc_old _ _ hlt)]
    exact hcell
  have c1 : ((w.alloc (.cells #[.slice BA bn bc, .slice (some cad) cn cc] 28)).alloc (.cells #[.slice none 0 0, .int .i64 0] 115)).cell? ⟨w.heap.size, 1, none⟩ = some (.slice (some cad) cn cc) := by rw [alloc_cell_old _ _ _ _ (by simp)]; simp
  have r0 : ((w.alloc (.cells #[.slice BA bn bc, .slice (some cad) cn cc] 28)).alloc (.cells #[.slice none 0 0, .int .i64 0] 115)).heap[w.heap.size + 1]? = some (.cells #[.slice none 0 0, .int .i64 0] 115 (0, 0)) := heap_alloc2_new _ _ _
  have hb : Below w.heap.size w ((w.alloc (.cells #[.slice BA bn bc, .slice (some cad) cn cc] 28)).alloc (.cells #[.slice none 0 0, .int .i64 0] 115)) := ((Below.refl _ w).alloc (Nat.le_refl _) _).alloc (by rw [World.size_alloc]; omega) _
  clear hcell
  go_enter Tryz.func77, Tryz.ntmps77
  go_upto_region 1 with fail
  generalize ((w.alloc (.cells #[.slice BA bn bc, .slice (some cad) cn cc] 28)).alloc (.cells #[.slice none 0 0, .int .i64 0] 115)) = w1 at *
  have x0 : w1.cell? ⟨w.heap.size + 1, 0, none⟩ = some (.slice none 0 0) := by rw [cell_of_row _ _ 0 _ _ _ r0]; rfl
  have x1 : w1.cell? ⟨w.heap.size + 1, 1, none⟩ = some (.int .i64 0) := by rw [cell_of_row _ _ 1 _ _ _ r0]; rfl
  have f0 : ∀ o, w1.frozen? ⟨w.heap.size + 1, o, none⟩ = false := fun o => by simp [World.frozen?, r0]
  have R0 := Lib.hid r0
  clear r0
  go_wp2_with fail
  ((try simp only [Exit.inBlock, Exit.then]); refine bodyPost_ret (results_cell_row rfl _ _ (w.heap.size + 1) 115 #[.slice RA n rc, .int .i64 (j1 : Int)] (0, 0) _ rfl (heap_set2 R0.out) Tryz.underlying115 rfl (by kernel_rfl)) rfl ?_)
  exact ⟨rfl, (hb.setCell (by show w.heap.size ≤ w.heap.size + 1; omega) _).setCell (by show w.heap.size ≤ w.heap.size + 1; omega) _⟩

/-- A level of a nest, as a value. -/
def LevelV (w : World) (cells : List (List Int)) (level : Int) (v : Value) : Prop :=
  ∃ (j : Nat) (RA : Option Addr) (rc : Nat), level = ((j + 1 : Nat) : Int) ∧ j < cells.length ∧ v = .agg #[.slice RA (cells.getD j []).length rc, .int .i64 level] ∧ (cells.getD j []).length ≤ rc ∧ Kd.C (Kd.int .i64) w RA (cells.getD j []).length (cells.getD j [])
theorem LevelV.below {w w' : World} {cells : List (List Int)} {level : Int} {v : Value} (h : LevelV w cells level v) (hb : Below w.heap.size w w') : LevelV w' cells level v := by
  obtain ⟨j, RA, rc, h1, h2, h3, h4, h5⟩ := h
  exact ⟨j, RA, rc, h1, h2, h3, h4, Kd.C_below h5 hb⟩

/-- Three new blocks of two cells. -/
theorem three_boxes (w : World) (a b x y p q : Value) (t u v : TypeId) :
    let w1 := ((w.alloc (.cells #[a, b] t)).alloc (.cells #[x, y] u)).alloc (.cells #[p, q] v)
    w1.cell? ⟨w.heap.size, 0, none⟩ = some a ∧ w1.cell? ⟨w.heap.size, 1, none⟩ = some b ∧ w1.cell? ⟨w.heap.size + 1, 0, none⟩ = some x ∧ w1.cell? ⟨w.heap.size + 1, 1, none⟩ = some y ∧ w1.heap[w.heap.size + 2]? = some (.cells #[p, q] v (0, 0)) ∧ w1.heap.size = w.heap.size + 3 ∧ Below w.heap.size w w1 := by
  intro w1
  have hA : w1.heap[w.heap.size]? = some (.cells #[a, b] t (0, 0)) := by
    show (((w.alloc (.cells #[a, b] t)).alloc (.cells #[x, y] u)).alloc (.cells #[p, q] v)).heap[w.heap.size]? = _
    rw [heap_alloc_old _ _ (by simp; omega), heap_alloc_old _ _ (by simp), heap_alloc_new]
  have hB : w1.heap[w.heap.size + 1]? = some (.cells #[x, y] u (0, 0)) := by
    show (((w.alloc (.cells #[a, b] t)).alloc (.cells #[x, y] u)).alloc (.cells #[p, q] v)).heap[w.heap.size + 1]? = _
    rw [heap_alloc_old _ _ (by simp), heap_alloc2_new]
  have hC : w1.heap[w.heap.size + 2]? = some (.cells #[p, q] v (0, 0)) := by
    have h := heap_alloc_new ((w.alloc (.cells #[a, b] t)).alloc (.cells #[x, y] u)) (.cells #[p, q] v)
    simp only [World.size_alloc] at h
    exact h
  refine ⟨?_, ?_, ?_, ?_, hC, by simp [w1], ?_⟩
  · rw [cell_of_row _ _ 0 _ _ _ hA]; rfl
  · rw [cell_of_row _ _ 1 _ _ _ hA]; rfl
  · rw [cell_of_row _ _ 0 _ _ _ hB]; rfl
  · rw [cell_of_row _ _ 1 _ _ _ hB]; rfl
  · exact (((Below.refl _ w).alloc (Nat.le_refl _) _).alloc (by rw [World.size_alloc]; omega) _).alloc (by simp; omega) _

set_option maxHeartbeats 2000000 in
theorem nestLooked_any (N : Int) (arcs : List Q.S95) (A : Option Addr) (c : Nat) (BA : Option Addr) (bc : Nat) (bounds : List Int) (CA : Option Addr) (cc : Nat) (cells : List (List Int)) (level : Int) (w0 w : World) (hb0 : Below w0.heap.size w0 w) (hf : Q.ArcsFit arcs) (hr : Kd.C Q.k95 w0 A arcs.length arcs) (hc : arcs.length ≤ c) (hn : NestIn w0 BA bc bounds CA cc cells) :
    Calls Tryz.prog 110 #[.agg #[.int .i64 N, .slice A arcs.length c], .agg #[.slice BA bounds.length bc, .slice CA cells.length cc], .int .i64 level] w fun e w' => ∃ v, e = .returned (.tuple #[v, .int .i64 (Q.lookedE N arcs bounds cells level)]) ∧ (Q.lookedE N arcs bounds cells level = 0 → LevelV w0 cells level v) ∧ (∃ A' n' c' z', v = .agg #[.slice A' n' c', .int .i64 z']) ∧ Below w.heap.size w w' := by
  obtain ⟨c0, c1, n0, n1, r0, hsz, hb1⟩ := three_boxes w (.int .i64 N) (.slice A arcs.length c) (.slice BA bounds.length bc) (.slice CA cells.length cc) (.slice none 0 0) (.int .i64 0) 24 28 115
  have HCK : Hid (∀ wx : World, Below w.heap.size w wx → Calls Tryz.prog 26 #[.agg #[.int .i64 N, .slice A arcs.length c], .agg #[.slice BA bounds.length bc, .slice CA cells.length cc]] wx fun e w' => e = .returned (.tuple #[.int .i64 (Q.checkR N arcs bounds cells).1, .int .i64 (Q.checkR N arcs bounds cells).2]) ∧ Below wx.heap.size wx w') :=
    Lib.hid (fun wx hb => nestCheck_any N arcs A c BA bc bounds CA cc cells wx hf (Kd.C_below (Kd.C_below hr hb0) hb) hc ((hn.below hb0).below hb))
  have HLE : Hid (Q.lookedE N arcs bounds cells level = if (Q.checkR N arcs bounds cells).2 = 0 then (if level < 1 then 111 else if level > (bounds.length : Int) then 111 else 0) else (Q.checkR N arcs bounds cells).2) := Lib.hid rfl
  have HOK : Hid ((Q.checkR N arcs bounds cells).2 = 0 → cells.length = bounds.length ∧ bounds.length ≤ 5) := Lib.hid (fun h => ⟨(Q.checkR_ok hf h).2.len, (Q.checkR_ok hf h).2.b5⟩)
  have HN := Lib.hid hn
  have HB0 := Lib.hid hb0
  clear hf hr hc hn hb0
  generalize Q.lookedE N arcs bounds cells level = le at *
  generalize (Q.checkR N arcs bounds cells).2 = ce at *
  generalize (Q.checkR N arcs bounds cells).1 = cl at *
  go_enter Tryz.func110, Tryz.ntmps110
  go_upto_region 1 with fail
  generalize (((w.alloc (.cells #[.int .i64 N, .slice A arcs.length c] 24)).alloc (.cells #[.slice BA bounds.length bc, .slice CA cells.length cc] 28)).alloc (.cells #[.slice none 0 0, .int .i64 0] 115)) = w1 at *
  have HB1 := Lib.hid hb1
  have HCK1 := Lib.hid (HCK.out w1 hb1)
  have hs1 : w.heap.size + 3 ≤ w1.heap.size := by omega
  generalize hgx : w.heap.size = gx at *
  have HGX := Lib.hid hgx
  clear hb1 hsz HCK hgx
  go_upto_region 2 with (go_at_call 26; (with_reducible refine HCK1.out.mono ?_); rintro e w2 ⟨rfl, hb⟩; have HB := Lib.hid hb; clear hb)
  have m0 := (HB.out.cell (p := ⟨gx + 1, 0, none⟩) (by show gx + 1 < w1.heap.size; omega)).trans n0
  have m1 := (HB.out.cell (p := ⟨gx + 1, 1, none⟩) (by show gx + 1 < w1.heap.size; omega)).trans n1
  have q0 := (HB.out.block (gx + 2) (by omega)).trans r0
  have x0 : w2.cell? ⟨gx + 2, 0, none⟩ = some (.slice none 0 0) := by rw [cell_of_row _ _ 0 _ _ _ q0]; rfl
  have x1 : w2.cell? ⟨gx + 2, 1, none⟩ = some (.int .i64 0) := by rw [cell_of_row _ _ 1 _ _ _ q0]; rfl
  have f0 : ∀ o, w2.frozen? ⟨gx + 2, o, none⟩ = false := fun o => by simp [World.frozen?, q0]
  have Q0 := Lib.hid q0
  have hs2 : gx + 3 ≤ w2.heap.size := by have := HB.out.size; omega
  have HB2 := Lib.hid (HB1.out.trans (HB.out.mono (by omega)))
  clear c0 c1 n0 n1 r0 q0 HCK1 HB HB1
  by_cases hce : ce = 0
  · subst hce
    obtain ⟨hlen, hb5⟩ := HOK.out rfl
    by_cases hl1 : level < 1
    · have hle : le = 111 := by rw [HLE.out, if_pos rfl, if_pos hl1]
      have HE := Lib.hid hle
      clear hle
      go_wp2_with fail
      ((try simp only [Exit.inBlock, Exit.then]); refine bodyPost_ret (results_ct rfl _ _ (gx + 2) 115 #[.slice none 0 0, .int .i64 0] (0, 0) _ rfl (heap_set2 Q0.out) Tryz.underlying115 rfl (by kernel_rfl)) rfl ?_)
      have hgx := HGX.out
      subst hgx
      exact ⟨_, by rw [HE.out]; rfl, fun h => by rw [HE.out] at h; omega, ⟨_, _, _, _, rfl⟩, (HB2.out.setCell (by show w.heap.size ≤ w.heap.size + 2; omega) _).setCell (by show w.heap.size ≤ w.heap.size + 2; omega) _⟩
    · by_cases hl2 : level > (bounds.length : Int)
      · have hle : le = 111 := by rw [HLE.out, if_pos rfl, if_neg hl1, if_pos hl2]
        have HE := Lib.hid hle
        have hl3 : (bounds.length : Int) < level := hl2
        clear hle
        go_wp2_with fail
        ((try simp only [Exit.inBlock, Exit.then]); refine bodyPost_ret (results_ct rfl _ _ (gx + 2) 115 #[.slice none 0 0, .int .i64 0] (0, 0) _ rfl (heap_set2 Q0.out) Tryz.underlying115 rfl (by kernel_rfl)) rfl ?_)
        have hgx := HGX.out
        subst hgx
        exact ⟨_, by rw [HE.out]; rfl, fun h => by rw [HE.out] at h; omega, ⟨_, _, _, _, rfl⟩, (HB2.out.setCell (by show w.heap.size ≤ w.heap.size + 2; omega) _).setCell (by show w.heap.size ≤ w.heap.size + 2; omega) _⟩
      · have hle : le = 0 := by rw [HLE.out, if_pos rfl, if_neg hl1, if_neg hl2]
        have HE := Lib.hid hle
        have hl3 : ¬ (bounds.length : Int) < level := hl2
        obtain ⟨j, hj⟩ : ∃ j : Nat, level = ((j + 1 : Nat) : Int) := ⟨(level - 1).toNat, by omega⟩
        have hjc : j < cells.length := by omega
        have hbw : Below w.heap.size w w2 := by rw [HGX.out]; exact HB2.out
        obtain ⟨cad, RA, rc, rfl, y00, hrc, hRow⟩ := HN.out.row j hjc
        have y0 := ((HB0.out.trans (hbw.mono HB0.out.size)).cell (p := cad.add j) (World.block_lt_of_cell? w0 _ y00)).trans y00
        have HAT : Hid (Calls Tryz.prog 77 #[.agg #[.slice BA bounds.length bc, .slice (some cad) cells.length cc], .int .i64 level] w2 fun e w' => e = .returned (.agg #[.slice RA (cells.getD j []).length rc, .int .i64 level]) ∧ Below w2.heap.size w2 w') := Lib.hid (by
          rw [hj]
          exact nestAt_any BA bc bounds.length cad cells.length cc j RA _ rc w2 hjc (by omega) y0)
        have HRC := Lib.hid hrc
        have HROW := Lib.hid hRow
        have HJ := Lib.hid hj
        have HLN := Lib.hid hlen
        clear hle hrc hRow y0 y00 hj hlen
        generalize hrow : cells.getD j [] = row at *
        have HRW := Lib.hid hrow
        clear hrow
        go_wp2_with (go_at_call 77; (with_reducible refine HAT.out.mono ?_); rintro e w3 ⟨rfl, hb3⟩; have q3 := (hb3.block (gx + 2) (by omega)).trans Q0.out; have y0 : w3.cell? ⟨gx + 2, 0, none⟩ = some (.slice none 0 0) := (hb3.cell (p := ⟨gx + 2, 0, none⟩) (by show gx + 2 < w2.heap.size; omega)).trans x0; have y1 : w3.cell? ⟨gx + 2, 1, none⟩ = some (.int .i64 0) := (hb3.cell (p := ⟨gx + 2, 1, none⟩) (by show gx + 2 < w2.heap.size; omega)).trans x1; have g0 : ∀ o, w3.frozen? ⟨gx + 2, o, none⟩ = false := (fun o => by simp [World.frozen?, q3]); have Q3 := Lib.hid q3; have HB3 := Lib.hid hb3; clear hb3 q3)
        ((try simp only [Exit.inBlock, Exit.then]); refine bodyPost_ret (results_ct rfl _ _ (gx + 2) 115 #[.slice RA row.length rc, .int .i64 level] (0, 0) _ rfl (heap_set2 Q3.out) Tryz.underlying115 rfl (by kernel_rfl)) rfl ?_)
        have hbs : Below w2.heap.size w2 w3 := HB3.out
        have hb4 : Below w.heap.size w ((w3.setCell ⟨gx + 2, 0, none⟩ (.slice RA row.length rc)).setCell ⟨gx + 2, 1, none⟩ (.int .i64 level)) := by
          rw [HGX.out]
          exact ((HB2.out.trans (hbs.mono (by omega))).setCell (by show gx ≤ gx + 2; omega) _).setCell (by show gx ≤ gx + 2; omega) _
        refine ⟨_, by rw [HE.out]; rfl, fun _ => ⟨j, RA, rc, HJ.out, by omega, by rw [HRW.out], by rw [HRW.out]; exact HRC.out, ?_⟩, ⟨_, _, _, _, rfl⟩, hb4⟩
        rw [HRW.out]
        exact HROW.out
  · have hle : le = ce := by rw [HLE.out, if_neg hce]
    subst hle
    go_wp2_with fail
    ((try simp only [Exit.inBlock, Exit.then]); refine bodyPost_ret (results_ct rfl _ _ (gx + 2) 115 #[.slice none 0 0, .int .i64 0] (0, 0) _ rfl (heap_set2 Q0.out) Tryz.underlying115 rfl (by kernel_rfl)) rfl ?_)
    have hgx := HGX.out
    subst hgx
    exact ⟨_, rfl, fun h => absurd h hce, ⟨_, _, _, _, rfl⟩, (HB2.out.setCell (by show w.heap.size ≤ w.heap.size + 2; omega) _).setCell (by show w.heap.size ≤ w.heap.size + 2; omega) _⟩

theorem manyOf_wrap {N : Nat} (hN : N ≤ 1024) {l : List Int} (h : Q.rightP N l = true) (h0 : 0 < l.length) : wrap64 (Lib.maxOf l + 1) = (Q.manyOf l : Int) := by
  have h1 := Q.rightP_in h
  have h2 := h1.2 _ (Q.maxOf_mem h0)
  unfold Q.manyOf wrap64
  omega

theorem many_any {N : Nat} (h1 : 1 ≤ N) (hN : N ≤ 1024) {l : List Int} (h : Q.rightP N l = true) (RA : Option Addr) (rc : Nat) (w : World) (hr : Kd.C (Kd.int .i64) w RA l.length l) (hc : l.length ≤ rc) :
    Calls Tryz.prog 111 #[.slice RA l.length rc] w fun e w' => e = .returned (.int .i64 (Q.manyOf l : Int)) ∧ Below w.heap.size w w' := by
  have h2 := Q.rightP_in h
  refine (Q.nest_labels_many.calls RA rc l (Q.manyOf l : Int) w hr hc ?_).mono ?_
  · unfold Q.nest_labels_many.f
    rw [if_pos (by omega), manyOf_wrap hN h (by omega)]
  · rintro e w' ⟨rfl, k, rfl⟩
    exact ⟨rfl, rfl, rfl, rfl, Nat.le_refl _, fun _ _ => rfl⟩

set_option maxHeartbeats 2000000 in
theorem cellOf_any (N : Int) (arcs : List Q.S95) (A : Option Addr) (c : Nat) (BA : Option Addr) (bc : Nat) (bounds : List Int) (CA : Option Addr) (cc : Nat) (cells : List (List Int)) (level cell : Int) (w0 w : World) (hb0 : Below w0.heap.size w0 w) (hf : Q.ArcsFit arcs) (hr : Kd.C Q.k95 w0 A arcs.length arcs) (hc : arcs.length ≤ c) (hn : NestIn w0 BA bc bounds CA cc cells) :
    Calls Tryz.prog 76 #[.agg #[.int .i64 N, .slice A arcs.length c], .agg #[.slice BA bounds.length bc, .slice CA cells.length cc], .int .i64 level, .int .i64 cell] w fun e w' => ∃ v, e = .returned (.tuple #[v, .int .i64 (Q.cellE N arcs bounds cells level cell)]) ∧ (Q.cellE N arcs bounds cells level cell = 0 → LevelV w0 cells level v) ∧ (∃ A' n' c' z', v = .agg #[.slice A' n' c', .int .i64 z']) ∧ Below w.heap.size w w' := by
  obtain ⟨c0, c1, n0, n1, r0, hsz, hb1⟩ := three_boxes w (.int .i64 N) (.slice A arcs.length c) (.slice BA bounds.length bc) (.slice CA cells.length cc) (.slice none 0 0) (.int .i64 0) 24 28 115
  have HCK : Hid (∀ wx : World, Below w.heap.size w wx → Calls Tryz.prog 110 #[.agg #[.int .i64 N, .slice A arcs.length c], .agg #[.slice BA bounds.length bc, .slice CA cells.length cc], .int .i64 level] wx fun e w' => ∃ v, e = .returned (.tuple #[v, .int .i64 (Q.lookedE N arcs bounds cells level)]) ∧ (Q.lookedE N arcs bounds cells level = 0 → LevelV w0 cells level v) ∧ (∃ A' n' c' z', v = .agg #[.slice A' n' c', .int .i64 z']) ∧ Below wx.heap.size wx w') :=
    Lib.hid (fun wx hb => nestLooked_any N arcs A c BA bc bounds CA cc cells level w0 wx (hb0.trans (hb.mono hb0.size)) hf hr hc hn)
  have HCE : Hid (Q.cellE N arcs bounds cells level cell = if Q.lookedE N arcs bounds cells level = 0 then (if cell < 0 then 120 else if cell ≥ (Q.manyOf (cells.getD (level - 1).toNat []) : Int) then 120 else 0) else Q.lookedE N arcs bounds cells level) := Lib.hid rfl
  have HOK : Hid (Q.lookedE N arcs bounds cells level = 0 → (1 ≤ N ∧ Q.GOk N.toNat arcs) ∧ Q.NestOk N.toNat bounds cells) := Lib.hid (fun h => by
    unfold Q.lookedE at h
    split at h
    · rename_i h1; exact Q.checkR_ok hf h1
    · rename_i h1; exact absurd h h1)
  have HB0 := Lib.hid hb0
  clear hf hr hc hn hb0
  generalize Q.cellE N arcs bounds cells level cell = ke at *
  generalize Q.lookedE N arcs bounds cells level = le at *
  go_enter Tryz.func76, Tryz.ntmps76
  go_upto_region 1 with fail
  generalize (((w.alloc (.cells #[.int .i64 N, .slice A arcs.length c] 24)).alloc (.cells #[.slice BA bounds.length bc, .slice CA cells.length cc] 28)).alloc (.cells #[.slice none 0 0, .int .i64 0] 115)) = w1 at *
  have HB1 := Lib.hid hb1
  have HCK1 := Lib.hid (HCK.out w1 hb1)
  have hs1 : w.heap.size + 3 ≤ w1.heap.size := by omega
  generalize hgx : w.heap.size = gx at *
  have HGX := Lib.hid hgx
  clear hb1 hsz HCK hgx
  go_upto_region 2 with (go_at_call 110; (with_reducible refine HCK1.out.mono ?_); rintro e w2 ⟨v, rfl, hlv, ⟨A', n', c', z', rfl⟩, hb⟩; have HB := Lib.hid hb; have HLV := Lib.hid hlv; clear hb hlv)
  have hs2 : gx + 3 ≤ w2.heap.size := by have := HB.out.size; omega
  have q0 : (w2.alloc (.cells #[.slice A' n' c', .int .i64 z'] 115)).heap[gx + 2]? = some (.cells #[.slice none 0 0, .int .i64 0] 115 (0, 0)) := (heap_alloc_old _ _ (by omega)).trans ((HB.out.block (gx + 2) (by omega)).trans r0)
  have hk := heap_alloc_new w2 (.cells #[.slice A' n' c', .int .i64 z'] 115)
  have hb3 : Below w2.heap.size w2 (w2.alloc (.cells #[.slice A' n' c', .int .i64 z'] 115)) := (Below.refl _ w2).alloc (Nat.le_refl _) _
  have hs3 : w2.heap.size < (w2.alloc (.cells #[.slice A' n' c', .int .i64 z'] 115)).heap.size := by simp
  generalize (w2.alloc (.cells #[.slice A' n' c', .int .i64 z'] 115)) = w3 at *
  have HLV3 := Lib.hid HLV.out
  have HB3 := Lib.hid ((HB1.out.trans (HB.out.mono (by omega))).trans (hb3.mono (by omega)))
  have x0 : w3.cell? ⟨gx + 2, 0, none⟩ = some (.slice none 0 0) := by rw [cell_of_row _ _ 0 _ _ _ q0]; rfl
  have x1 : w3.cell? ⟨gx + 2, 1, none⟩ = some (.int .i64 0) := by rw [cell_of_row _ _ 1 _ _ _ q0]; rfl
  have f0 : ∀ o, w3.frozen? ⟨gx + 2, o, none⟩ = false := fun o => by simp [World.frozen?, q0]
  have k0 : w3.cell? ⟨w2.heap.size, 0, none⟩ = some (.slice A' n' c') := by rw [cell_of_row _ _ 0 _ _ _ hk]; rfl
  have k1 : w3.cell? ⟨w2.heap.size, 1, none⟩ = some (.int .i64 z') := by rw [cell_of_row _ _ 1 _ _ _ hk]; rfl
  have Q0 := Lib.hid q0
  generalize hgk : w2.heap.size = gk at *
  clear c0 c1 n0 n1 r0 q0 hk HCK1 HB HLV HB1 hb3 hgk
  by_cases hle : le = 0
  · subst hle
    have hlv := HLV3.out rfl
    obtain ⟨⟨hN1, hG⟩, hNest⟩ := HOK.out rfl
    obtain ⟨j, RA, rc, hj, hjc, hv, hrc, hRow⟩ := hlv
    have hbw3 : Below w0.heap.size w0 w3 := HB0.out.trans (HB3.out.mono (by have := HB0.out.size; have := HGX.out; omega))
    have hvv : RA = A' ∧ (cells.getD j []).length = n' ∧ rc = c' ∧ level = z' := by
      injection hv with hv
      have h1 := congrArg (fun a => a[0]?) hv
      have h2 := congrArg (fun a => a[1]?) hv
      simp only [List.getElem?_toArray, List.getElem?_cons_zero, List.getElem?_cons_succ, Option.some.injEq, Value.slice.injEq, Value.int.injEq, true_and] at h1 h2
      exact ⟨h1.1.symm, h1.2.1.symm, h1.2.2.symm, h2.symm⟩
    obtain ⟨rfl, rfl, rfl, rfl⟩ := hvv
    have hjn : (level - 1).toNat = j := by omega
    rw [if_pos rfl, hjn] at HCE
    have hrp := hNest.right (j := j) (by rw [← hNest.len]; exact hjc)
    have HMN : Hid (∀ wx : World, Below w3.heap.size w3 wx → Calls Tryz.prog 111 #[.slice RA (cells.getD j []).length rc] wx fun e w' => e = .returned (.int .i64 (Q.manyOf (cells.getD j []) : Int)) ∧ Below wx.heap.size wx w') := Lib.hid (fun wx hb => many_any (N := N.toNat) (by omega) hG.n2 hrp RA rc wx (Kd.C_below (Kd.C_below hRow hbw3) hb) hrc)
    have HMN1 := Lib.hid (HMN.out w3 (Below.refl _ _))
    have HLVW : Hid (LevelV w0 cells level (.agg #[.slice RA (cells.getD j []).length rc, .int .i64 level])) := Lib.hid ⟨j, RA, rc, hj, hjc, rfl, hrc, hRow⟩
    clear hbw3
    clear HLV3 HOK hrc hRow hv hG hNest hrp hj hjc hjn HMN
    generalize hrw : cells.getD j [] = row at *
    clear hrw
    generalize hmo : (Q.manyOf row : Int) = mo at *
    clear hmo
    by_cases hc0 : cell < 0
    · have hke : ke = 120 := by rw [HCE.out, if_pos hc0]
      have HE := Lib.hid hke
      clear hke
      go_wp2_with fail
      ((try simp only [Exit.inBlock, Exit.then]); refine bodyPost_ret (results_ct rfl _ _ (gx + 2) 115 #[.slice none 0 0, .int .i64 0] (0, 0) _ rfl (heap_set2 Q0.out) Tryz.underlying115 rfl (by kernel_rfl)) rfl ?_)
      have hgx := HGX.out
      subst hgx
      exact ⟨_, by rw [HE.out]; rfl, fun h => by rw [HE.out] at h; omega, ⟨_, _, _, _, rfl⟩, (HB3.out.setCell (by show w.heap.size ≤ w.heap.size + 2; omega) _).setCell (by show w.heap.size ≤ w.heap.size + 2; omega) _⟩
    · by_cases hc1 : cell ≥ mo
      · have hke : ke = 120 := by rw [HCE.out, if_neg hc0, if_pos hc1]
        have HE := Lib.hid hke
        have hc2 : mo ≤ cell := hc1
        clear hke
        go_wp2_with (go_at_call 111; (with_reducible refine HMN1.out.mono ?_); rintro e w4 ⟨rfl, hb4⟩; have q4 := (hb4.block (gx + 2) (by omega)).trans Q0.out; have y0 : w4.cell? ⟨gx + 2, 0, none⟩ = some (.slice none 0 0) := (hb4.cell (p := ⟨gx + 2, 0, none⟩) (by show gx + 2 < w3.heap.size; omega)).trans x0; have y1 : w4.cell? ⟨gx + 2, 1, none⟩ = some (.int .i64 0) := (hb4.cell (p := ⟨gx + 2, 1, none⟩) (by show gx + 2 < w3.heap.size; omega)).trans x1; have g0 : ∀ o, w4.frozen? ⟨gx + 2, o, none⟩ = false := (fun o => by simp [World.frozen?, q4]); have l0 : w4.cell? ⟨gk, 0, none⟩ = some (.slice RA row.length rc) := (hb4.cell (p := ⟨gk, 0, none⟩) hs3).trans k0; have l1 : w4.cell? ⟨gk, 1, none⟩ = some (.int .i64 level) := (hb4.cell (p := ⟨gk, 1, none⟩) hs3).trans k1; have Q4 := Lib.hid q4; have HB4 := Lib.hid hb4; clear hb4 q4)
        ((try simp only [Exit.inBlock, Exit.then]); refine bodyPost_ret (results_ct rfl _ _ (gx + 2) 115 #[.slice none 0 0, .int .i64 0] (0, 0) _ rfl (heap_set2 Q4.out) Tryz.underlying115 rfl (by kernel_rfl)) rfl ?_)
        have hb5 : Below w.heap.size w ((w4.setCell ⟨gx + 2, 0, none⟩ (.slice none 0 0)).setCell ⟨gx + 2, 1, none⟩ (.int .i64 0)) := by
          rw [HGX.out]
          exact ((HB3.out.trans (HB4.out.mono (by omega))).setCell (by show gx ≤ gx + 2; omega) _).setCell (by show gx ≤ gx + 2; omega) _
        exact ⟨_, by rw [HE.out]; rfl, fun h => by rw [HE.out] at h; omega, ⟨_, _, _, _, rfl⟩, hb5⟩
      · have hke : ke = 0 := by rw [HCE.out, if_neg hc0, if_neg hc1]
        have HE := Lib.hid hke
        have hc2 : ¬ mo ≤ cell := hc1
        clear hke
        go_wp2_with (go_at_call 111; (with_reducible refine HMN1.out.mono ?_); rintro e w4 ⟨rfl, hb4⟩; have q4 := (hb4.block (gx + 2) (by omega)).trans Q0.out; have y0 : w4.cell? ⟨gx + 2, 0, none⟩ = some (.slice none 0 0) := (hb4.cell (p := ⟨gx + 2, 0, none⟩) (by show gx + 2 < w3.heap.size; omega)).trans x0; have y1 : w4.cell? ⟨gx + 2, 1, none⟩ = some (.int .i64 0) := (hb4.cell (p := ⟨gx + 2, 1, none⟩) (by show gx + 2 < w3.heap.size; omega)).trans x1; have g0 : ∀ o, w4.frozen? ⟨gx + 2, o, none⟩ = false := (fun o => by simp [World.frozen?, q4]); have l0 : w4.cell? ⟨gk, 0, none⟩ = some (.slice RA row.length rc) := (hb4.cell (p := ⟨gk, 0, none⟩) hs3).trans k0; have l1 : w4.cell? ⟨gk, 1, none⟩ = some (.int .i64 level) := (hb4.cell (p := ⟨gk, 1, none⟩) hs3).trans k1; have Q4 := Lib.hid q4; have HB4 := Lib.hid hb4; clear hb4 q4)
        ((try simp only [Exit.inBlock, Exit.then]); refine bodyPost_ret (results_ct rfl _ _ (gx + 2) 115 #[.slice RA row.length rc, .int .i64 level] (0, 0) _ rfl (heap_set2 Q4.out) Tryz.underlying115 rfl (by kernel_rfl)) rfl ?_)
        have hb5 : Below w.heap.size w ((w4.setCell ⟨gx + 2, 0, none⟩ (.slice RA row.length rc)).setCell ⟨gx + 2, 1, none⟩ (.int .i64 level)) := by
          rw [HGX.out]
          exact ((HB3.out.trans (HB4.out.mono (by omega))).setCell (by show gx ≤ gx + 2; omega) _).setCell (by show gx ≤ gx + 2; omega) _
        exact ⟨_, by rw [HE.out]; rfl, fun h => HLVW.out, ⟨_, _, _, _, rfl⟩, hb5⟩
  · have hke : ke = le := by rw [HCE.out, if_neg hle]
    subst hke
    go_wp2_with fail
    ((try simp only [Exit.inBlock, Exit.then]); refine bodyPost_ret (results_ct rfl _ _ (gx + 2) 115 #[.slice none 0 0, .int .i64 0] (0, 0) _ rfl (heap_set2 Q0.out) Tryz.underlying115 rfl (by kernel_rfl)) rfl ?_)
    have hgx := HGX.out
    subst hgx
    exact ⟨_, rfl, fun h => absurd h hle, ⟨_, _, _, _, rfl⟩, (HB3.out.setCell (by show w.heap.size ≤ w.heap.size + 2; omega) _).setCell (by show w.heap.size ≤ w.heap.size + 2; omega) _⟩

end Go.Proofs.YtjddimoeodecgaaGreat

/- nest.Members: what is wrong with a cell. -/
namespace Go.Proofs.YtjddimoeodecgaaGreat
open Go.RowKit Go.Lib Go.Sort Go.Proofs.YtjddimoeodecgaaGreatW.PrintWords Go.Proofs.YtjddimoeodecgaaGreatW.PrintLast Go.Proofs.YtjddimoeodecgaaGreatW.PrintMore
set_option linter.unusedVariables false
set_option maxRecDepth 100000

namespace Q
theorem members_loop (l : List Int) (c : Int) (hl : l.length ≤ 17592186044415) (d : Nat) : ∀ (k i : Nat) (acc : List Int), i + d = l.length → acc.length ≤ i → d < k → ∃ r, nest_labels_members.l0 k c acc l (l.length : Int) (i : Int) = some r := by
  induction d with
  | zero =>
    intro k i acc hi ha hk
    obtain ⟨k, rfl⟩ : ∃ m, k = m + 1 := ⟨k - 1, by omega⟩
    simp only [nest_labels_members.l0]
    rw [if_neg (by omega)]
    exact ⟨_, rfl⟩
  | succ d ih =>
    intro k i acc hi ha hk
    obtain ⟨k, rfl⟩ : ∃ m, k = m + 1 := ⟨k - 1, by omega⟩
    have hw : wrap64 ((i : Int) + 1) = ((i + 1 : Nat) : Int) := by unfold wrap64; omega
    simp only [nest_labels_members.l0]
    rw [if_pos (by omega), if_pos (by omega), if_pos (by omega), hw]
    split
    · rw [if_pos (by omega)]
      exact ih k (i + 1) _ (by omega) (by simp; omega) (by omega)
    · exact ih k (i + 1) _ (by omega) (by omega) (by omega)
theorem members_tot (l : List Int) (c : Int) (hl : l.length ≤ 17592186044415) : ∃ r, nest_labels_members.f (l.length + 1) l c = some r := by
  unfold nest_labels_members.f
  exact members_loop l c hl l.length _ 0 [] (by omega) (by simp) (by omega)
end Q

theorem two_boxes (w : World) (a b x y : Value) (t u : TypeId) :
    let w1 := (w.alloc (.cells #[a, b] t)).alloc (.cells #[x, y] u)
    w1.cell? ⟨w.heap.size, 0, none⟩ = some a ∧ w1.cell? ⟨w.heap.size, 1, none⟩ = some b ∧ w1.cell? ⟨w.heap.size + 1, 0, none⟩ = some x ∧ w1.cell? ⟨w.heap.size + 1, 1, none⟩ = some y ∧ w1.heap.size = w.heap.size + 2 ∧ Below w.heap.size w w1 := by
  intro w1
  have hA : w1.heap[w.heap.size]? = some (.cells #[a, b] t (0, 0)) := by
    show ((w.alloc (.cells #[a, b] t)).alloc (.cells #[x, y] u)).heap[w.heap.size]? = _
    rw [heap_alloc_old _ _ (by simp), heap_alloc_new]
  have hB : w1.heap[w.heap.size + 1]? = some (.cells #[x, y] u (0, 0)) := heap_alloc2_new _ _ _
  refine ⟨?_, ?_, ?_, ?_, by simp [w1], ?_⟩
  · rw [cell_of_row _ _ 0 _ _ _ hA]; rfl
  · rw [cell_of_row _ _ 1 _ _ _ hA]; rfl
  · rw [cell_of_row _ _ 0 _ _ _ hB]; rfl
  · rw [cell_of_row _ _ 1 _ _ _ hB]; rfl
  · exact ((Below.refl _ w).alloc (Nat.le_refl _) _).alloc (by rw [World.size_alloc]; omega) _

set_option maxHeartbeats 2000000 in
theorem members_any (N : Int) (arcs : List Q.S95) (A : Option Addr) (c : Nat) (BA : Option Addr) (bc : Nat) (bounds : List Int) (CA : Option Addr) (cc : Nat) (cells : List (List Int)) (level cell : Int) (w0 w : World) (hb0 : Below w0.heap.size w0 w) (hf : Q.ArcsFit arcs) (hr : Kd.C Q.k95 w0 A arcs.length arcs) (hc : arcs.length ≤ c) (hn : NestIn w0 BA bc bounds CA cc cells) :
    Calls Tryz.prog 59 #[.agg #[.int .i64 N, .slice A arcs.length c], .agg #[.slice BA bounds.length bc, .slice CA cells.length cc], .int .i64 level, .int .i64 cell] w fun e w' => ∃ v, e = .returned (.tuple #[v, .int .i64 (Q.cellE N arcs bounds cells level cell)]) ∧ Below w.heap.size w w' := by
  obtain ⟨c0, c1, n0, n1, hsz, hb1⟩ := two_boxes w (.int .i64 N) (.slice A arcs.length c) (.slice BA bounds.length bc) (.slice CA cells.length cc) 24 28
  have HCK : Hid (∀ wx : World, Below w.heap.size w wx → Calls Tryz.prog 76 #[.agg #[.int .i64 N, .slice A arcs.length c], .agg #[.slice BA bounds.length bc, .slice CA cells.length cc], .int .i64 level, .int .i64 cell] wx fun e w' => ∃ v, e = .returned (.tuple #[v, .int .i64 (Q.cellE N arcs bounds cells level cell)]) ∧ (Q.cellE N arcs bounds cells level cell = 0 → LevelV w0 cells level v) ∧ (∃ A' n' c' z', v = .agg #[.slice A' n' c', .int .i64 z']) ∧ Below wx.heap.size wx w') :=
    Lib.hid (fun wx hb => cellOf_any N arcs A c BA bc bounds CA cc cells level cell w0 wx (hb0.trans (hb.mono hb0.size)) hf hr hc hn)
  have HOK : Hid (Q.cellE N arcs bounds cells level cell = 0 → (1 ≤ N ∧ Q.GOk N.toNat arcs) ∧ Q.NestOk N.toNat bounds cells) := Lib.hid (fun h => ⟨(Q.cellE_ok hf h).1, (Q.cellE_ok hf h).2.1⟩)
  have HB0 := Lib.hid hb0
  clear hf hr hc hn hb0
  generalize Q.cellE N arcs bounds cells level cell = ke at *
  go_enter Tryz.func59, Tryz.ntmps59
  go_upto_region 1 with fail
  generalize ((w.alloc (.cells #[.int .i64 N, .slice A arcs.length c] 24)).alloc (.cells #[.slice BA bounds.length bc, .slice CA cells.length cc] 28)) = w1 at *
  have HB1 := Lib.hid hb1
  have HCK1 := Lib.hid (HCK.out w1 hb1)
  have hs1 : w.heap.size + 2 ≤ w1.heap.size := by omega
  generalize hgx : w.heap.size = gx at *
  have HGX := Lib.hid hgx
  clear hb1 hsz HCK hgx
  go_upto_region 2 with (go_at_call 76; (with_reducible refine HCK1.out.mono ?_); rintro e w2 ⟨v, rfl, hlv, ⟨A', n', c', z', rfl⟩, hb⟩; have HB := Lib.hid hb; have HLV := Lib.hid hlv; clear hb hlv)
  have hk := heap_alloc_new w2 (.cells #[.slice A' n' c', .int .i64 z'] 115)
  have hb3 : Below w2.heap.size w2 (w2.alloc (.cells #[.slice A' n' c', .int .i64 z'] 115)) := (Below.refl _ w2).alloc (Nat.le_refl _) _
  have hs2 : gx + 2 ≤ w2.heap.size := by have := HB.out.size; omega
  generalize (w2.alloc (.cells #[.slice A' n' c', .int .i64 z'] 115)) = w3 at *
  have HB3 := Lib.hid ((HB1.out.trans (HB.out.mono (by omega))).trans (hb3.mono (by omega)))
  have k0 : w3.cell? ⟨w2.heap.size, 0, none⟩ = some (.slice A' n' c') := by rw [cell_of_row _ _ 0 _ _ _ hk]; rfl
  generalize hgk : w2.heap.size = gk at *
  have hs3 : gx + 2 ≤ w3.heap.size := by have := hb3.size; omega
  clear c0 c1 n0 n1 hk HCK1 HB HB1 hb3 hgk
  by_cases hke : ke = 0
  · obtain ⟨⟨hN1, hG⟩, hNest⟩ := HOK.out hke
    obtain ⟨j, RA, rc, hj, hjc, hv, hrc, hRow⟩ := HLV.out hke
    have hvv : RA = A' ∧ (cells.getD j []).length = n' ∧ rc = c' ∧ level = z' := by
      injection hv with hv
      have h1 := congrArg (fun a => a[0]?) hv
      have h2 := congrArg (fun a => a[1]?) hv
      simp only [List.getElem?_toArray, List.getElem?_cons_zero, List.getElem?_cons_succ, Option.some.injEq, Value.slice.injEq, Value.int.injEq, true_and] at h1 h2
      exact ⟨h1.1.symm, h1.2.1.symm, h1.2.2.symm, h2.symm⟩
    obtain ⟨rfl, rfl, rfl, rfl⟩ := hvv
    have hbw3 : Below w0.heap.size w0 w3 := HB0.out.trans (HB3.out.mono (by have := HB0.out.size; have := HGX.out; omega))
    have hrp := Q.rightP_in (hNest.right (j := j) (by rw [← hNest.len]; exact hjc))
    obtain ⟨r, hr⟩ := Q.members_tot (cells.getD j []) cell (by have := hG.n2; omega)
    have HMB : Hid (Calls Tryz.prog 78 #[.slice RA (cells.getD j []).length rc, .int .i64 cell] w3 fun e w' => ∃ v0_ : Value, e = .returned v0_ ∧ Below w3.heap.size w3 w') := Lib.hid ((Q.nest_labels_members.calls _ RA rc _ cell r w3 (Kd.C_below hRow hbw3) hrc hr).mono (by rintro e w' ⟨v, h1, h2, h3⟩; exact ⟨v, h1, h3⟩))
    have HKE := Lib.hid hke
    clear hN1 hG hNest hj hjc hv hrc hRow hbw3 hrp hr
    generalize cells.getD j [] = row at *
    go_wp2_with (go_at_call 78; (with_reducible refine HMB.out.mono ?_); rintro e w4 ⟨v, rfl, hb4⟩; have HB4 := Lib.hid hb4; clear hb4)
    go_ret2
    have hgx := HGX.out
    subst hgx
    exact ⟨_, by rw [HKE.out]; rfl, HB3.out.trans (HB4.out.mono (by omega))⟩
  · go_wp2_with fail
    go_ret2
    have hgx := HGX.out
    subst hgx
    exact ⟨_, rfl, HB3.out⟩

end Go.Proofs.YtjddimoeodecgaaGreat
