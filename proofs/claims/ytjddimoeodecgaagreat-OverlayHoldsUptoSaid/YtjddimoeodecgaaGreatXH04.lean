/- A cell's matrix as a metric (plain): zeros, sums, and the distances in the whole graph. -/
import Derived.Test.YtjddimoeodecgaaGreatXG12
import Derived.BigQuiet
import Derived.Test.YtjddimoeodecgaaGreatXG09
import Derived.Maps.AppendAt
import Derived.Test.YtjddimoeodecgaaGreatXG07
import Derived.Test.YtjddimoeodecgaaGreatXG06
namespace Go.Proofs.YtjddimoeodecgaaGreat
open Go.RowKit Go.Proofs.YtjddimoeodecgaaGreatW.PrintWords Go.Proofs.YtjddimoeodecgaaGreatW.PrintLast
set_option linter.unusedVariables false
set_option maxRecDepth 100000

/-- What members of a flat matrix are. -/
theorem flat_len (f : Int → List Nat) (b : Nat) (hf : ∀ v, (f v).length = b) : ∀ l : List Int, (l.flatMap f).length = l.length * b
  | [] => by simp
  | v :: l => by
    rw [List.flatMap_cons, List.length_append, hf, flat_len f b hf l, List.length_cons, Nat.add_mul, Nat.one_mul, Nat.add_comm]
theorem flat_get (f : Int → List Nat) (b : Nat) (hf : ∀ v, (f v).length = b) : ∀ (l : List Int) (i j : Nat), i < l.length → j < b → (l.flatMap f).getD (i * b + j) 0 = (f (l.getD i 0)).getD j 0
  | [], i, j, hi, _ => absurd hi (by simp)
  | v :: l, 0, j, hi, hj => by
    rw [List.flatMap_cons, Nat.zero_mul, Nat.zero_add, List.getD_eq_getElem?_getD, List.getElem?_append_left (by rw [hf]; exact hj), ← List.getD_eq_getElem?_getD]
    rfl
  | v :: l, i + 1, j, hi, hj => by
    have h := flat_get f b hf l i j (by simpa using hi) hj
    have e : (i + 1) * b + j = b + (i * b + j) := by rw [Nat.add_mul, Nat.one_mul]; omega
    rw [List.flatMap_cons, e, List.getD_eq_getElem?_getD, List.getElem?_append_right (by rw [hf]; omega), hf, Nat.add_sub_cancel_left, ← List.getD_eq_getElem?_getD, h]
    rfl
theorem rowOf_len (d : List Nat) (l : List Int) : (rowOf d l).length = l.length := by unfold rowOf; rw [List.length_map]
theorem rowOf_get (d : List Nat) (l : List Int) (j : Nat) (hj : j < l.length) : (rowOf d l).getD j 0 = d.getD (l.getD j 0).toNat 0 := by
  unfold rowOf
  simp [hj]
theorem matOf_len (N : Nat) (arcs : List Q.S95) (cs : List Int) (c : Int) : (Q.matOf N arcs cs c).length = (Q.bndOf arcs cs c).length * (Q.bndOf arcs cs c).length := by
  unfold Q.matOf
  exact flat_len _ _ (fun v => rowOf_len _ _) _
theorem matOf_get (N : Nat) (arcs : List Q.S95) (cs : List Int) (c : Int) (i j : Nat) (hi : i < (Q.bndOf arcs cs c).length) (hj : j < (Q.bndOf arcs cs c).length) :
    (Q.matOf N arcs cs c).getD (i * (Q.bndOf arcs cs c).length + j) 0 = (dOf N arcs (Q.inB cs c) ((Q.bndOf arcs cs c).getD i 0).toNat).getD ((Q.bndOf arcs cs c).getD j 0).toNat 0 := by
  unfold Q.matOf
  rw [flat_get _ _ (fun v => rowOf_len _ _) _ i j hi hj, rowOf_get _ _ j hj]

/-- A boundary vertex lies in its cell. -/
theorem bnd_cell (arcs : List Q.S95) (cs : List Int) (c : Int) : ∀ u ∈ Q.bndOf arcs cs c, cs.getD u.toNat 0 = c := by
  intro u hu
  have h1 : u ∈ (Q.edgeOf arcs cs c).mergeSort (fun x y => decide (x ≤ y)) := by
    unfold Q.bndOf Lib.compact Lib.compactUpTo at hu
    simp only [List.mem_map, List.mem_filter, List.mem_range] at hu
    obtain ⟨j, ⟨hj, _⟩, rfl⟩ := hu
    have hj' : j < ((Q.edgeOf arcs cs c).mergeSort (fun x y => decide (x ≤ y))).toArray.size := by simpa using hj
    rw [getElem!_pos _ j hj']
    simp
  rw [List.mem_mergeSort] at h1
  unfold Q.edgeOf at h1
  obtain ⟨a, ha, hu2⟩ := List.mem_flatMap.1 h1
  unfold Q.endsOf at hu2
  split at hu2
  · cases hu2
  · rcases List.mem_append.1 hu2 with h | h
    · split at h
      · rename_i hc; simp at h; subst h; exact hc
      · cases h
    · split at h
      · rename_i hc; simp at h; subst h; exact hc
      · cases h
theorem inB_get (cs : List Int) (c : Int) (u : Nat) (hu : u < cs.length) : (Q.inB cs c).getD u false = decide (cs.getD u 0 = c) := by
  unfold Q.inB
  simp [hu]
theorem bnd_inB {N : Nat} {arcs : List Q.S95} (hg : Q.GOk N arcs) (cs : List Int) (c : Int) (hl : cs.length = N) : ∀ u ∈ Q.bndOf arcs cs c, (Q.inB cs c).getD u.toNat false = true := by
  intro u hu
  have h1 := bnd_in hg cs c u hu
  have h2 := bnd_cell arcs cs c u hu
  rw [inB_get _ _ _ (by omega), h2]
  simp

theorem addD_assoc (a b c : Nat) (ha : a < 18446744073709551616) (hb : b < 18446744073709551616) (hc : c < 18446744073709551616) : addD (addD a b) c = addD a (addD b c) := by
  unfold addD
  split <;> split <;> (try split) <;> (try split) <;> omega
theorem addD_zero (a : Nat) (ha : a < 18446744073709551616) : addD a 0 = a := by unfold addD; rw [if_pos (by omega)]; rfl
theorem addD_inf (a b : Nat) (h : a = infN ∨ b = infN) : addD a b = infN := by
  unfold addD infN at *
  split <;> omega

theorem Rch.lt {back : Bool} {arcs : List Q.S95} {may : Nat → Bool} {s u x : Nat} (h : Rch back arcs may s u x) : x < 18446744073709551616 := by
  cases h with
  | start => omega
  | arc x i hi hm h => exact addD_lt _ _
theorem Rch.trans {N : Nat} {arcs : List Q.S95} (hg : Q.GOk N arcs) {back : Bool} {may : Nat → Bool} {s u v x y : Nat} (h : Rch back arcs may s u x) (k : Rch back arcs may u v y) : Rch back arcs may s v (addD x y) := by
  induction k with
  | start => rw [addD_zero _ h.lt]; exact h
  | arc y i hi hm k ih =>
    have hmem : arcs.getD i Q.z95 ∈ arcs := by rw [List.getD_eq_getElem?_getD, List.getElem?_eq_getElem hi]; exact List.getElem_mem hi
    have hw := hg.wt _ hmem
    rw [← addD_assoc _ _ _ h.lt k.lt (by omega)]
    exact Rch.arc _ i hi hm ih
theorem Rch.more {arcs : List Q.S95} {back : Bool} {may may' : Nat → Bool} (hm : ∀ i, may i = true → may' i = true) {s u x : Nat} (h : Rch back arcs may s u x) : Rch back arcs may' s u x := by
  induction h with
  | start => exact .start
  | arc x i hi h1 h ih => exact .arc x i hi (hm i h1) ih

/-- The three laws of distances within some vertices, s and t among them. -/
theorem sol_zero {N : Nat} {arcs : List Q.S95} {may : Nat → Bool} {s : Nat} {d : List Nat} (h : Sol false N arcs may s d) (hs : s < N) : d.getD s 0 = 0 := by
  have := h.low s 0 hs .start
  omega
theorem sol_tri {N : Nat} {arcs : List Q.S95} (hg : Q.GOk N arcs) {may : Nat → Bool} {s t : Nat} {d e : List Nat} (h : Sol false N arcs may s d) (k : Sol false N arcs may t e) (hs : s < N) (ht : t < N) (u : Nat) (hu : u < N) : d.getD u 0 ≤ addD (d.getD t 0) (e.getD u 0) := by
  rcases h.rch t ht with h1 | h1
  · rw [addD_inf _ _ (Or.inl h1)]; have := h.lt u; unfold infN; omega
  · rcases k.rch u hu with h2 | h2
    · rw [addD_inf _ _ (Or.inr h2)]; have := h.lt u; unfold infN; omega
    · exact h.low u _ hu (h1.trans hg h2)
theorem sol_more {N : Nat} {arcs : List Q.S95} {may may' : Nat → Bool} (hm : ∀ i, may i = true → may' i = true) {s : Nat} {d e : List Nat} (h : Sol false N arcs may s d) (k : Sol false N arcs may' s e) (u : Nat) (hu : u < N) : e.getD u 0 ≤ d.getD u 0 := by
  rcases h.rch u hu with h1 | h1
  · rw [h1]; have := k.lt u; unfold infN; omega
  · exact k.low u _ hu (h1.more hm)

/-- What the law asks of a matrix. -/
structure Metric (N : Nat) (arcs : List Q.S95) (l : List Int) (D : List Nat) : Prop where
  len : D.length = l.length * l.length
  lt : ∀ i, D.getD i 0 < 18446744073709551616
  zero : ∀ i, i < l.length → D.getD (i * l.length + i) 0 = 0
  tri : ∀ i j k, i < l.length → j < l.length → k < l.length → D.getD (i * l.length + j) 0 ≤ addD (D.getD (i * l.length + k) 0) (D.getD (k * l.length + j) 0)
  low : ∀ i j d, i < l.length → j < l.length → Sol false N arcs (fun _ => true) (l.getD i 0).toNat d → d.getD (l.getD j 0).toNat 0 ≤ D.getD (i * l.length + j) 0

theorem mat_metric {N : Nat} {arcs : List Q.S95} (hg : Q.GOk N arcs) (cs : List Int) (c : Int) (hl : cs.length = N) : Metric N arcs (Q.bndOf arcs cs c) (Q.matOf N arcs cs c) := by
  have hin := bnd_in hg cs c
  have hb := bnd_inB hg cs c hl
  have hsol : ∀ i, i < (Q.bndOf arcs cs c).length → (0 ≤ (Q.bndOf arcs cs c).getD i 0 ∧ (Q.bndOf arcs cs c).getD i 0 < (N : Int)) ∧ Sol false N arcs (inMay arcs (Q.inB cs c)) ((Q.bndOf arcs cs c).getD i 0).toNat (dOf N arcs (Q.inB cs c) ((Q.bndOf arcs cs c).getD i 0).toNat) := by
    intro i hi
    have hmem : (Q.bndOf arcs cs c).getD i 0 ∈ Q.bndOf arcs cs c := by rw [List.getD_eq_getElem?_getD, List.getElem?_eq_getElem hi]; exact List.getElem_mem hi
    have h1 := hin _ hmem
    refine ⟨h1, ?_⟩
    have h2 := dOf_spec hg (Q.inB cs c) ((Q.bndOf arcs cs c).getD i 0).toNat (by omega)
    unfold InSol at h2
    rw [if_pos (hb _ hmem)] at h2
    exact h2
  have hlen := matOf_len N arcs cs c
  refine ⟨hlen, fun i => ?_, fun i hi => ?_, fun i j k hi hj hk => ?_, fun i j d hi hj hd => ?_⟩
  · by_cases hi : i < (Q.matOf N arcs cs c).length
    · have h0 : 0 < (Q.bndOf arcs cs c).length := by
        rcases Nat.eq_zero_or_pos (Q.bndOf arcs cs c).length with h | h
        · rw [hlen, h] at hi; omega
        · exact h
      have hq : i / (Q.bndOf arcs cs c).length < (Q.bndOf arcs cs c).length := by rw [hlen] at hi; exact Nat.div_lt_of_lt_mul hi
      have hr : i % (Q.bndOf arcs cs c).length < (Q.bndOf arcs cs c).length := Nat.mod_lt _ h0
      have he : i / (Q.bndOf arcs cs c).length * (Q.bndOf arcs cs c).length + i % (Q.bndOf arcs cs c).length = i := Nat.div_add_mod' i _
      rw [← he, matOf_get N arcs cs c _ _ hq hr]
      exact (hsol _ hq).2.lt _
    · rw [List.getD_eq_getElem?_getD, List.getElem?_eq_none (by omega)]
      simp
  · rw [matOf_get N arcs cs c i i hi hi]
    have h := hsol i hi
    exact sol_zero h.2 (by omega)
  · rw [matOf_get N arcs cs c i j hi hj, matOf_get N arcs cs c i k hi hk, matOf_get N arcs cs c k j hk hj]
    have h1 := hsol i hi
    have h2 := hsol j hj
    have h3 := hsol k hk
    exact sol_tri hg h1.2 h3.2 (by omega) (by omega) _ (by omega)
  · rw [matOf_get N arcs cs c i j hi hj]
    have h1 := hsol i hi
    have h2 := hsol j hj
    exact sol_more (fun _ _ => rfl) h1.2 hd _ (by omega)

end Go.Proofs.YtjddimoeodecgaaGreat

/- cell.Between. -/
namespace Go.Proofs.YtjddimoeodecgaaGreat
open Go.RowKit Go.Lib Go.Sort Go.Proofs.YtjddimoeodecgaaGreatW.PrintWords Go.Proofs.YtjddimoeodecgaaGreatW.PrintLast Go.Proofs.YtjddimoeodecgaaGreatW.PrintMore
set_option linter.unusedVariables false
set_option maxRecDepth 100000

namespace Q
/-- Whether an arc lies between two children of a cell. -/
def betweenB (cs below : List Int) (cell : Int) (a : S95) : Bool := insideB cs cell a && decide (cellF below a ≠ cellT below a)
def betweenOf (arcs : List S95) (cs below : List Int) (cell : Int) : List Int := pickTo (betweenB cs below cell) arcs arcs.length
/-- The error that cell.Between and nest.Children tell. -/
def upE (N : Int) (arcs : List S95) (bounds : List Int) (cells : List (List Int)) (level cell : Int) : Int :=
  if cellE N arcs bounds cells level cell = 0 then (if level = 1 then 111 else 0) else cellE N arcs bounds cells level cell
end Q

set_option maxHeartbeats 2000000 in
/-- cell.Between's closure. -/
theorem between1_any (cell : Int) (N : Nat) (arcs : List Q.S95) (RA : Option Addr) (rc : Nat) (row : List Int) (SA : Option Addr) (sc : Nat) (bel : List Int) (gl gc gb : Nat) (w : World) (hr : Kd.C (Kd.int .i64) w RA row.length row) (hln : row.length = N) (hs : Kd.C (Kd.int .i64) w SA bel.length bel) (hls : bel.length = N) (hg : Q.GOk N arcs)
    (cl : w.cell? ⟨gl, 0, none⟩ = some (.slice RA row.length rc)) (cc : w.cell? ⟨gc, 0, none⟩ = some (.int .i64 cell)) (cb : w.cell? ⟨gb, 0, none⟩ = some (.slice SA bel.length sc)) (i : Nat) (hi : i < arcs.length) :
    Calls Tryz.prog 75 #[Q.arcV (arcs.getD i Q.z95), .pointer (some ⟨gl, 0, none⟩), .pointer (some ⟨gc, 0, none⟩), .pointer (some ⟨gb, 0, none⟩)] w fun e w' => e = .returned (.bool (Q.betweenB row bel cell (arcs.getD i Q.z95))) ∧ Below w.heap.size w w' := by
  have ha : arcs.getD i Q.z95 ∈ arcs := by rw [List.getD_eq_getElem?_getD, List.getElem?_eq_getElem hi]; exact List.getElem_mem hi
  obtain ⟨⟨q0, q1⟩, ⟨q2, q3⟩⟩ := hg.ends _ ha
  generalize arcs.getD i Q.z95 = a at *
  obtain ⟨f0, f1, f2⟩ := a
  simp only at q0 q1 q2 q3
  obtain ⟨u, rfl⟩ : ∃ u : Nat, f0 = (u : Int) := ⟨f0.toNat, (Int.toNat_of_nonneg q0).symm⟩
  obtain ⟨v, rfl⟩ : ∃ v : Nat, f1 = (v : Int) := ⟨f1.toNat, (Int.toNat_of_nonneg q2).symm⟩
  obtain ⟨lad, rfl, y0⟩ := Q.int_cell hr u (by omega)
  obtain ⟨lad', hlad, y1⟩ := Q.int_cell hr v (by omega)
  cases hlad
  obtain ⟨sad, rfl, t0⟩ := Q.int_cell hs u (by omega)
  obtain ⟨sad', hsad, t1⟩ := Q.int_cell hs v (by omega)
  cases hsad
  have huz : (u : Int) < (row.length : Int) := by omega
  have hvz : (v : Int) < (row.length : Int) := by omega
  have husz : (u : Int) < (bel.length : Int) := by omega
  have hvsz : (v : Int) < (bel.length : Int) := by omega
  have hF : ∀ r : List Int, Q.cellF r ⟨(u : Int), (v : Int), f2⟩ = r.getD u 0 := fun r => by unfold Q.cellF; simp only [Int.toNat_natCast]
  have hT : ∀ r : List Int, Q.cellT r ⟨(u : Int), (v : Int), f2⟩ = r.getD v 0 := fun r => by unfold Q.cellT; simp only [Int.toNat_natCast]
  unfold Q.betweenB Q.insideB Q.arcV
  rw [hF, hT, hF, hT]
  simp only
  have b0 := World.block_lt_of_cell? w _ y0
  have b1 := World.block_lt_of_cell? w _ y1
  have b2 := World.block_lt_of_cell? w _ cl
  have b3 := World.block_lt_of_cell? w _ cc
  have b4 := World.block_lt_of_cell? w _ cb
  have b5 := World.block_lt_of_cell? w _ t0
  have b6 := World.block_lt_of_cell? w _ t1
  generalize row.getD u 0 = fu at *
  generalize row.getD v 0 = fv at *
  generalize bel.getD u 0 = bu at *
  generalize bel.getD v 0 = bv at *
  have hal : ∀ p : Addr, p.block < w.heap.size → (w.alloc (.cells #[.int .i64 (u : Int), .int .i64 (v : Int), .int .u32 f2] 95)).cell? p = w.cell? p := fun p hp => World.cell?_of_block (w := w) (heap_alloc_old w _ hp)
  have k0 := (hal _ b0).trans y0
  have k1 := (hal _ b1).trans y1
  have k2 := (hal ⟨gl, 0, none⟩ b2).trans cl
  have k3 := (hal ⟨gc, 0, none⟩ b3).trans cc
  have k4 := (hal ⟨gb, 0, none⟩ b4).trans cb
  have k5 := (hal _ b5).trans t0
  have k6 := (hal _ b6).trans t1
  have g0 : (w.alloc (.cells #[.int .i64 (u : Int), .int .i64 (v : Int), .int .u32 f2] 95)).cell? ⟨w.heap.size, 0, none⟩ = some (.int .i64 (u : Int)) := by simp
  have g1 : (w.alloc (.cells #[.int .i64 (u : Int), .int .i64 (v : Int), .int .u32 f2] 95)).cell? ⟨w.heap.size, 1, none⟩ = some (.int .i64 (v : Int)) := by simp
  have hb : Below w.heap.size w (w.alloc (.cells #[.int .i64 (u : Int), .int .i64 (v : Int), .int .u32 f2] 95)) := (Below.refl _ w).alloc (Nat.le_refl _) _
  clear hr hg ha hal y0 y1 cl cc cb t0 t1 hF hT b0 b1 b2 b3 b4 b5 b6 q0 q1 q2 q3 hln hs hls
  by_cases h1 : fu = cell
  · have d1 : decide (fu = cell) = true := decide_eq_true h1
    have e1 : (fu == cell) = true := by simp [h1]
    rw [d1, Bool.true_and]
    by_cases h2 : fv = cell
    · have d2 : decide (fv = cell) = true := decide_eq_true h2
      have e2 : (fv == cell) = true := by simp [h2]
      rw [d2, Bool.true_and]
      go_enter Tryz.func75, Tryz.ntmps75
      go_upto_region 1 with fail
      generalize (w.alloc (.cells #[.int .i64 (u : Int), .int .i64 (v : Int), .int .u32 f2] 95)) = w1 at *
      go_quiet (fail)
      go_wp2_with fail
      go_ret
      exact ⟨by first | rfl | (congr 2; by_cases h3 : bu = bv <;> simp [h3]), Below.drewN_ hb _⟩
    · have d2 : decide (fv = cell) = false := decide_eq_false h2
      have e2 : (fv == cell) = false := by simp [h2]
      rw [d2, Bool.false_and]
      go_enter Tryz.func75, Tryz.ntmps75
      go_upto_region 1 with fail
      generalize (w.alloc (.cells #[.int .i64 (u : Int), .int .i64 (v : Int), .int .u32 f2] 95)) = w1 at *
      go_quiet (fail)
      go_wp2_with fail
      go_ret
      exact ⟨rfl, Below.drewN_ hb _⟩
  · have d1 : decide (fu = cell) = false := decide_eq_false h1
    have e1 : (fu == cell) = false := by simp [h1]
    rw [d1, Bool.false_and, Bool.false_and]
    go_enter Tryz.func75, Tryz.ntmps75
    go_upto_region 1 with fail
    generalize (w.alloc (.cells #[.int .i64 (u : Int), .int .i64 (v : Int), .int .u32 f2] 95)) = w1 at *
    go_quiet (fail)
    go_wp2_with fail
    go_ret
    exact ⟨rfl, Below.drewN_ hb _⟩

set_option maxHeartbeats 4000000 in
theorem between_any (N : Int) (arcs : List Q.S95) (A : Option Addr) (c : Nat) (BA : Option Addr) (bc : Nat) (bounds : List Int) (CA : Option Addr) (cc : Nat) (cells : List (List Int)) (level cell : Int) (w0 w : World) (hb0 : Below w0.heap.size w0 w) (hf : Q.ArcsFit arcs) (hr : Kd.C Q.k95 w0 A arcs.length arcs) (hc : arcs.length ≤ c) (hn : NestIn w0 BA bc bounds CA cc cells) :
    Calls Tryz.prog 29 #[.agg #[.int .i64 N, .slice A arcs.length c], .agg #[.slice BA bounds.length bc, .slice CA cells.length cc], .int .i64 level, .int .i64 cell] w fun e w' => ∃ A' n' c', e = .returned (.tuple #[.slice A' n' c', .int .i64 (Q.upE N arcs bounds cells level cell)]) ∧ (Q.upE N arcs bounds cells level cell = 0 → CutV w' (Q.betweenOf arcs (cells.getD (level - 1).toNat []) (cells.getD (level - 2).toNat []) cell) (.slice A' n' c')) ∧ Below w.heap.size w w' := by
  have HCK : Hid (∀ wx : World, Below w.heap.size w wx → Calls Tryz.prog 60 #[.agg #[.int .i64 N, .slice A arcs.length c], .agg #[.slice BA bounds.length bc, .slice CA cells.length cc], .int .i64 level, .int .i64 cell] wx fun e w' => ∃ A' n' c', e = .returned (.tuple #[.slice A' n' c', .int .i64 (Q.cellE N arcs bounds cells level cell)]) ∧ (Q.cellE N arcs bounds cells level cell = 0 → RowV w0 cells level (.slice A' n' c')) ∧ Below wx.heap.size wx w') :=
    Lib.hid (fun wx hb => cellLooked_any N arcs A c BA bc bounds CA cc cells level cell w0 wx (hb0.trans (hb.mono hb0.size)) hf hr hc hn)
  have HOK : Hid (Q.cellE N arcs bounds cells level cell = 0 → Q.GOk N.toNat arcs ∧ Q.NestOk N.toNat bounds cells ∧ 1 ≤ level ∧ level ≤ bounds.length) := Lib.hid (fun h => ⟨(Q.cellE_ok hf h).1.2, (Q.cellE_ok hf h).2.1, (Q.cellE_ok hf h).2.2.1⟩)
  have HB0 := Lib.hid hb0
  have HR := Lib.hid hr
  have HN := Lib.hid hn
  have hmf : ∀ (fn : Fn) (first cap : Array Value) (w : World), (Instr.makeFunc fn first cap).run Tryz.prog w = .ok (.func fn first cap) w := fun _ _ _ _ => rfl
  clear hf hr hc hn hb0
  unfold Q.upE
  generalize Q.cellE N arcs bounds cells level cell = ke at *
  generalize hue : (if ke = 0 then (if level = 1 then (111 : Int) else 0) else ke) = ue at *
  have HUE := Lib.hid hue
  clear hue
  have hs3 : (((w.alloc (.cells #[.int .i64 N, .slice A arcs.length c] 24)).alloc (.cells #[.slice BA bounds.length bc, .slice CA cells.length cc] 28)).alloc (.cells #[.int .i64 cell] 3)).heap.size = w.heap.size + 3 := by simp
  have hA : (((w.alloc (.cells #[.int .i64 N, .slice A arcs.length c] 24)).alloc (.cells #[.slice BA bounds.length bc, .slice CA cells.length cc] 28)).alloc (.cells #[.int .i64 cell] 3)).heap[w.heap.size]? = some (.cells #[.int .i64 N, .slice A arcs.length c] 24 (0, 0)) := by
    rw [heap_alloc_old _ _ (by simp; omega), heap_alloc_old _ _ (by simp), heap_alloc_new]
  have hB : (((w.alloc (.cells #[.int .i64 N, .slice A arcs.length c] 24)).alloc (.cells #[.slice BA bounds.length bc, .slice CA cells.length cc] 28)).alloc (.cells #[.int .i64 cell] 3)).heap[w.heap.size + 1]? = some (.cells #[.slice BA bounds.length bc, .slice CA cells.length cc] 28 (0, 0)) := by
    rw [heap_alloc_old _ _ (by simp), heap_alloc2_new]
  have hC : (((w.alloc (.cells #[.int .i64 N, .slice A arcs.length c] 24)).alloc (.cells #[.slice BA bounds.length bc, .slice CA cells.length cc] 28)).alloc (.cells #[.int .i64 cell] 3)).heap[w.heap.size + 2]? = some (.cells #[.int .i64 cell] 3 (0, 0)) := by
    have h := heap_alloc_new ((w.alloc (.cells #[.int .i64 N, .slice A arcs.length c] 24)).alloc (.cells #[.slice BA bounds.length bc, .slice CA cells.length cc] 28)) (.cells #[.int .i64 cell] 3)
    simp only [World.size_alloc] at h
    exact h
  have hb1 : Below w.heap.size w (((w.alloc (.cells #[.int .i64 N, .slice A arcs.length c] 24)).alloc (.cells #[.slice BA bounds.length bc, .slice CA cells.length cc] 28)).alloc (.cells #[.int .i64 cell] 3)) := (((Below.refl _ w).alloc (Nat.le_refl _) _).alloc (by rw [World.size_alloc]; omega) _).alloc (by simp; omega) _
  go_enter Tryz.func29, Tryz.ntmps29
  go_upto_region 1 with fail
  generalize (((w.alloc (.cells #[.int .i64 N, .slice A arcs.length c] 24)).alloc (.cells #[.slice BA bounds.length bc, .slice CA cells.length cc] 28)).alloc (.cells #[.int .i64 cell] 3)) = w1 at *
  have HB1 := Lib.hid hb1
  have HCK1 := Lib.hid (HCK.out w1 hb1)
  have c0 : w1.cell? ⟨w.heap.size, 0, none⟩ = some (.int .i64 N) := by rw [cell_of_row _ _ 0 _ _ _ hA]; rfl
  have c1 : w1.cell? ⟨w.heap.size, 1, none⟩ = some (.slice A arcs.length c) := by rw [cell_of_row _ _ 1 _ _ _ hA]; rfl
  have n0 : w1.cell? ⟨w.heap.size + 1, 0, none⟩ = some (.slice BA bounds.length bc) := by rw [cell_of_row _ _ 0 _ _ _ hB]; rfl
  have n1 : w1.cell? ⟨w.heap.size + 1, 1, none⟩ = some (.slice CA cells.length cc) := by rw [cell_of_row _ _ 1 _ _ _ hB]; rfl
  have k1 : w1.cell? ⟨w.heap.size + 2, 0, none⟩ = some (.int .i64 cell) := by rw [cell_of_row _ _ 0 _ _ _ hC]; rfl
  have hs1 : w.heap.size + 3 ≤ w1.heap.size := by omega
  generalize hgx : w.heap.size = gx at *
  have HGX := Lib.hid hgx
  clear hb1 hs3 HCK hgx hA hB hC
  go_upto_region 2 with (go_at_call 60; (with_reducible refine HCK1.out.mono ?_); rintro e w2 ⟨A', n', c', rfl, hrv, hb⟩; have HB := Lib.hid hb; have HRV := Lib.hid hrv; clear hb hrv)
  have d0 : (w2.alloc (.cells #[.slice A' n' c'] 25)).cell? ⟨gx, 0, none⟩ = some (.int .i64 N) := (World.cell?_of_block (w := w2) (heap_alloc_old w2 _ (by have := HB.out.size; show gx < _; omega))).trans ((HB.out.cell (p := ⟨gx, 0, none⟩) (by show gx < w1.heap.size; omega)).trans c0)
  have d1 : (w2.alloc (.cells #[.slice A' n' c'] 25)).cell? ⟨gx, 1, none⟩ = some (.slice A arcs.length c) := (World.cell?_of_block (w := w2) (heap_alloc_old w2 _ (by have := HB.out.size; show gx < _; omega))).trans ((HB.out.cell (p := ⟨gx, 1, none⟩) (by show gx < w1.heap.size; omega)).trans c1)
  have m1 : (w2.alloc (.cells #[.slice A' n' c'] 25)).cell? ⟨gx + 1, 1, none⟩ = some (.slice CA cells.length cc) := (World.cell?_of_block (w := w2) (heap_alloc_old w2 _ (by have := HB.out.size; show gx + 1 < _; omega))).trans ((HB.out.cell (p := ⟨gx + 1, 1, none⟩) (by show gx + 1 < w1.heap.size; omega)).trans n1)
  have l1 : (w2.alloc (.cells #[.slice A' n' c'] 25)).cell? ⟨gx + 2, 0, none⟩ = some (.int .i64 cell) := (World.cell?_of_block (w := w2) (heap_alloc_old w2 _ (by have := HB.out.size; show gx + 2 < _; omega))).trans ((HB.out.cell (p := ⟨gx + 2, 0, none⟩) (by show gx + 2 < w1.heap.size; omega)).trans k1)
  have l2 : (w2.alloc (.cells #[.slice A' n' c'] 25)).cell? ⟨w2.heap.size, 0, none⟩ = some (.slice A' n' c') := by simp
  have hb3 : Below w2.heap.size w2 (w2.alloc (.cells #[.slice A' n' c'] 25)) := (Below.refl _ w2).alloc (Nat.le_refl _) _
  have hs2 : gx + 3 ≤ w2.heap.size := by have := HB.out.size; omega
  have hgl3 : w2.heap.size < (w2.alloc (.cells #[.slice A' n' c'] 25)).heap.size := by simp
  generalize (w2.alloc (.cells #[.slice A' n' c'] 25)) = w3 at *
  have HB3 := Lib.hid ((HB1.out.trans (HB.out.mono (by omega))).trans (hb3.mono (by omega)))
  have hs3 : gx + 3 ≤ w3.heap.size := by have := hb3.size; omega
  generalize hgl : w2.heap.size = gl at *
  clear c0 c1 n0 n1 k1 HCK1 HB HB1 hb3 hgl
  by_cases hke : ke = 0
  · by_cases hl1 : level = 1
    · have hue : ue = 111 := by rw [← HUE.out, if_pos hke, if_pos hl1]
      have HU := Lib.hid hue
      clear hue
      go_wp2_with fail
      go_ret2
      have hgx := HGX.out
      subst hgx
      exact ⟨_, _, _, by rw [HU.out]; rfl, fun h => absurd (HU.out.symm.trans h) (by decide), HB3.out⟩
    · have hue : ue = 0 := by rw [← HUE.out, if_pos hke, if_neg hl1]
      have HU := Lib.hid hue
      clear hue
      obtain ⟨hG, hNest, hlv1, hlv2⟩ := HOK.out hke
      obtain ⟨j, RA, rc, hj, hjc, hv, hrc, hRow⟩ := HRV.out hke
      have hvv : RA = A' ∧ (cells.getD j []).length = n' ∧ rc = c' := by
        simp only [Value.slice.injEq] at hv
        exact ⟨hv.1.symm, hv.2.1.symm, hv.2.2.symm⟩
      obtain ⟨rfl, rfl, rfl⟩ := hvv
      have HJN : Hid ((level - 1).toNat = j) := Lib.hid (by omega)
      obtain ⟨j2, hj2⟩ : ∃ j2 : Nat, (level - 2).toNat = j2 := ⟨_, rfl⟩
      have HJN2 := Lib.hid hj2
      have hj2c : j2 < cells.length := by omega
      have hbw : Below w0.heap.size w0 w3 := HB0.out.trans (HB3.out.mono (by have := HB0.out.size; have := HGX.out; omega))
      obtain ⟨cad, SA, sc, rfl, y00, hsc, hSow⟩ := HN.out.row j2 hj2c
      have y0 := (hbw.cell (p := cad.add j2) (World.block_lt_of_cell? w0 _ y00)).trans y00
      have hws : IntKind.i64.wrap (level - 2) = (j2 : Int) := by rw [IntWalk.i64_in _ (by have := hNest.b5; omega)]; omega
      have hjz : (j2 : Int) < (cells.length : Int) := by omega
      have hrp := Q.rightP_in (hNest.right (j := j) (by rw [← hNest.len]; exact hjc))
      have hsp := Q.rightP_in (hNest.right (j := j2) (by rw [← hNest.len]; exact hj2c))
      have HBW := Lib.hid hbw
      have HG := Lib.hid hG
      have HRL := Lib.hid hrp.1
      have HSL := Lib.hid hsp.1
      have HROW := Lib.hid hRow
      have HSOW := Lib.hid hSow
      clear hG hNest hjc hv hrc hRow hrp hbw hj hsp hSow y00 hlv1 hlv2 hj2
      generalize hrw : cells.getD j [] = row at *
      generalize hsw : cells.getD j2 [] = bel at *
      have HRW := Lib.hid hrw
      have HSW := Lib.hid hsw
      clear hrw hsw
      have HGL2 := Lib.hid l2
      have HGL1 := Lib.hid l1
      clear l2 l1
      go_upto_region 7 with fail
      have z0 : (w3.alloc (.cells #[.slice SA bel.length sc] 25)).cell? ⟨gx, 0, none⟩ = some (.int .i64 N) := (World.cell?_of_block (w := w3) (heap_alloc_old w3 _ (by show gx < _; omega))).trans d0
      have z1 : (w3.alloc (.cells #[.slice SA bel.length sc] 25)).cell? ⟨gx, 1, none⟩ = some (.slice A arcs.length c) := (World.cell?_of_block (w := w3) (heap_alloc_old w3 _ (by show gx < _; omega))).trans d1
      have z2 : (w3.alloc (.cells #[.slice SA bel.length sc] 25)).cell? ⟨gx + 2, 0, none⟩ = some (.int .i64 cell) := (World.cell?_of_block (w := w3) (heap_alloc_old w3 _ (by show gx + 2 < _; omega))).trans HGL1.out
      have z3 : (w3.alloc (.cells #[.slice SA bel.length sc] 25)).cell? ⟨gl, 0, none⟩ = some (.slice RA row.length rc) := (World.cell?_of_block (w := w3) (heap_alloc_old w3 _ (by show gl < _; omega))).trans HGL2.out
      have z4 : (w3.alloc (.cells #[.slice SA bel.length sc] 25)).cell? ⟨w3.heap.size, 0, none⟩ = some (.slice SA bel.length sc) := by simp
      have hb5 : Below w3.heap.size w3 (w3.alloc (.cells #[.slice SA bel.length sc] 25)) := (Below.refl _ w3).alloc (Nat.le_refl _) _
      generalize (w3.alloc (.cells #[.slice SA bel.length sc] 25)) = w5 at *
      have hbw5 : Below w0.heap.size w0 w5 := HBW.out.trans (hb5.mono (HBW.out.size))
      have HB5 : Hid (Below gx w w5) := Lib.hid (HB3.out.trans (hb5.mono (by omega)))
      generalize hgb : w3.heap.size = gb at *
      have hs5 : gx + 3 ≤ w5.heap.size := by have := hb5.size; omega
      have HCH : Hid (Calls Tryz.prog 73 #[.agg #[.int .i64 N, .slice A arcs.length c], .func (.func 75) #[] #[.pointer (some ⟨gl, 0, none⟩), .pointer (some ⟨gx + 2, 0, none⟩), .pointer (some ⟨gb, 0, none⟩)]] w5 fun e w' => ∃ A' n' c', e = .returned (.slice A' n' c') ∧ CutV w' (Q.pickTo (Q.betweenB row bel cell) arcs arcs.length) (.slice A' n' c') ∧ Below w5.heap.size w5 w') :=
        Lib.hid (chosen_any N arcs A c 75 #[.pointer (some ⟨gl, 0, none⟩), .pointer (some ⟨gx + 2, 0, none⟩), .pointer (some ⟨gb, 0, none⟩)] (Q.betweenB row bel cell) w0 w5 hbw5 HR.out HG.out.m (fun _ _ => rfl) (fun wx i hi hb => between1_any cell N.toNat arcs RA rc row SA sc bel gl (gx + 2) gb wx (Kd.C_below (Kd.C_below HROW.out hbw5) hb) HRL.out (Kd.C_below (Kd.C_below HSOW.out hbw5) hb) HSL.out HG.out ((hb.cell (World.block_lt_of_cell? w5 _ z3)).trans z3) ((hb.cell (World.block_lt_of_cell? w5 _ z2)).trans z2) ((hb.cell (World.block_lt_of_cell? w5 _ z4)).trans z4) i hi))
      clear hb5 hbw5 z2 z3 z4 y0 d0 d1 m1
      go_wp2_with (go_at_call 73; (with_reducible refine HCH.out.mono ?_); rintro e w4 ⟨A4, n4, c4, rfl, hcv, hb4⟩; have HCV := Lib.hid hcv; have HB4 := Lib.hid hb4; clear hcv hb4)
      go_ret2
      have hgx := HGX.out
      subst hgx
      refine ⟨_, _, _, by rw [HU.out]; rfl, fun _ => ?_, HB5.out.trans (HB4.out.mono (by omega))⟩
      rw [HJN.out, HRW.out, HJN2.out, HSW.out]
      exact HCV.out
  · have hue : ue = ke := by rw [← HUE.out, if_neg hke]
    have HU := Lib.hid hue
    clear hue
    go_wp2_with fail
    go_ret2
    have hgx := HGX.out
    subst hgx
    exact ⟨_, _, _, by first | (rw [HU.out]; done) | (rw [HU.out]; rfl), fun h => absurd (HU.out.symm.trans h) hke, HB3.out⟩

end Go.Proofs.YtjddimoeodecgaaGreat

/- nest.Children. -/
namespace Go.Proofs.YtjddimoeodecgaaGreat
open Go.RowKit Go.Lib Go.Sort Go.Proofs.YtjddimoeodecgaaGreatW.PrintWords Go.Proofs.YtjddimoeodecgaaGreatW.PrintLast Go.Proofs.YtjddimoeodecgaaGreatW.PrintMore
set_option linter.unusedVariables false
set_option maxRecDepth 100000

namespace Q
/-- A cell's vertices, up to one. -/
def memTo (l : List Int) (c : Int) (i : Nat) : List Int := ((List.range i).filter (fun k => decide (l.getD k 0 = c))).map (fun k : Nat => (k : Int))
def memOf (l : List Int) (c : Int) : List Int := memTo l c l.length
theorem mem_step (l : List Int) (c : Int) (i : Nat) : memTo l c (i + 1) = memTo l c i ++ (if l.getD i 0 = c then [(i : Int)] else []) := by
  unfold memTo
  rw [List.range_succ, List.filter_append, List.map_append]
  congr 1
  simp only [List.filter_cons, List.filter_nil, decide_eq_true_eq]
  split <;> simp
theorem mem_len (l : List Int) (c : Int) (i : Nat) : (memTo l c i).length ≤ i := by
  unfold memTo
  rw [List.length_map]
  exact Nat.le_trans (List.length_filter_le _ _) (by simp)
theorem memf_loop (l : List Int) (c : Int) (hl : l.length ≤ 17592186044415) (d : Nat) : ∀ (k i : Nat), i + d = l.length → d < k → nest_labels_members.l0 k c (memTo l c i) l (l.length : Int) (i : Int) = some (memOf l c) := by
  induction d with
  | zero =>
    intro k i hi hk
    obtain ⟨k, rfl⟩ : ∃ m, k = m + 1 := ⟨k - 1, by omega⟩
    simp only [nest_labels_members.l0]
    rw [if_neg (by omega)]
    have : i = l.length := by omega
    subst this
    rfl
  | succ d ih =>
    intro k i hi hk
    obtain ⟨k, rfl⟩ : ∃ m, k = m + 1 := ⟨k - 1, by omega⟩
    have hw : wrap64 ((i : Int) + 1) = ((i + 1 : Nat) : Int) := by unfold wrap64; omega
    have hrd : Go.Proofs.YtjddimoeodecgaaGreatW.PrintWords.rd l (i : Int) = l.getD i 0 := by unfold Go.Proofs.YtjddimoeodecgaaGreatW.PrintWords.rd; rw [Int.toNat_natCast]
    have hml := mem_len l c i
    have h := ih k (i + 1) (by omega) (by omega)
    rw [mem_step] at h
    simp only [nest_labels_members.l0]
    rw [if_pos (by omega), if_pos (by omega), if_pos (by omega), hw, hrd]
    split
    · rename_i hc
      rw [if_pos hc] at h
      rw [if_pos (by omega)]
      exact h
    · rename_i hc
      rw [if_neg hc, List.append_nil] at h
      exact h
theorem members_f (l : List Int) (c : Int) (hl : l.length ≤ 17592186044415) : nest_labels_members.f (l.length + 1) l c = some (memOf l c) := by
  unfold nest_labels_members.f
  exact memf_loop l c hl l.length _ 0 (by omega) (by omega)
theorem mem_in {l : List Int} {c v : Int} (h : v ∈ memOf l c) : 0 ≤ v ∧ v < (l.length : Int) ∧ l.getD v.toNat 0 = c := by
  unfold memOf memTo at h
  obtain ⟨k, hk, rfl⟩ := List.mem_map.1 h
  have h1 := List.mem_filter.1 hk
  have h2 := List.mem_range.1 h1.1
  have h3 : l.getD k 0 = c := by simpa using h1.2
  exact ⟨by omega, by omega, by rw [Int.toNat_natCast]; exact h3⟩
theorem mem_of {l : List Int} {c : Int} {k : Nat} (hk : k < l.length) (h : l.getD k 0 = c) : (k : Int) ∈ memOf l c := by
  unfold memOf memTo
  exact List.mem_map.2 ⟨k, List.mem_filter.2 ⟨List.mem_range.2 hk, by simpa using h⟩, rfl⟩

/-- The cells below in a cell. -/
def rawOf (row bel : List Int) (cell : Int) : List Int := (memOf row cell).map (fun v => bel.getD v.toNat 0)
def kidsOf (row bel : List Int) (cell : Int) : List Int := Lib.compact ((rawOf row bel cell).mergeSort (fun x y => decide (x ≤ y)))
end Q

theorem clipInt_any (blk m cap : Nat) (w : World) (hm : m ≤ cap) :
    Calls Tryz.prog 79 #[.slice (some ⟨blk, 0, none⟩) m cap] w fun e w' => e = .returned (.slice (some ⟨blk, 0, none⟩) m m) ∧ w = w' := by
  have h0 : ¬ (cap : Int) < (m : Int) := by omega
  go_enter Tryz.func79, Tryz.ntmps79
  go_wp2_with fail
  go_ret
  exact ⟨rfl, rfl⟩
theorem clipInt_nil (w : World) :
    Calls Tryz.prog 79 #[.slice none 0 0] w fun e w' => e = .returned (.slice none 0 0) ∧ w = w' := by
  go_enter Tryz.func79, Tryz.ntmps79
  go_wp2_with fail
  go_ret
  exact ⟨rfl, rfl⟩

set_option maxHeartbeats 4000000 in
theorem children_any (N : Int) (arcs : List Q.S95) (A : Option Addr) (c : Nat) (BA : Option Addr) (bc : Nat) (bounds : List Int) (CA : Option Addr) (cc : Nat) (cells : List (List Int)) (level cell : Int) (w0 w : World) (hb0 : Below w0.heap.size w0 w) (hf : Q.ArcsFit arcs) (hr : Kd.C Q.k95 w0 A arcs.length arcs) (hc : arcs.length ≤ c) (hn : NestIn w0 BA bc bounds CA cc cells) :
    Calls Tryz.prog 30 #[.agg #[.int .i64 N, .slice A arcs.length c], .agg #[.slice BA bounds.length bc, .slice CA cells.length cc], .int .i64 level, .int .i64 cell] w fun e w' => ∃ A' n' c', e = .returned (.tuple #[.slice A' n' c', .int .i64 (Q.upE N arcs bounds cells level cell)]) ∧ (Q.upE N arcs bounds cells level cell = 0 → CutV w' (Q.kidsOf (cells.getD (level - 1).toNat []) (cells.getD (level - 2).toNat []) cell) (.slice A' n' c')) ∧ Below w.heap.size w w' := by
  obtain ⟨i0, hi, hz0, hz1, hz2⟩ := info_parts intInfo
  obtain ⟨c0, c1, n0, n1, hsz, hb1⟩ := two_boxes w (.int .i64 N) (.slice A arcs.length c) (.slice BA bounds.length bc) (.slice CA cells.length cc) 24 28
  have HCK : Hid (∀ wx : World, Below w.heap.size w wx → Calls Tryz.prog 76 #[.agg #[.int .i64 N, .slice A arcs.length c], .agg #[.slice BA bounds.length bc, .slice CA cells.length cc], .int .i64 level, .int .i64 cell] wx fun e w' => ∃ v, e = .returned (.tuple #[v, .int .i64 (Q.cellE N arcs bounds cells level cell)]) ∧ (Q.cellE N arcs bounds cells level cell = 0 → LevelV w0 cells level v) ∧ (∃ A' n' c' z', v = .agg #[.slice A' n' c', .int .i64 z']) ∧ Below wx.heap.size wx w') :=
    Lib.hid (fun wx hb => cellOf_any N arcs A c BA bc bounds CA cc cells level cell w0 wx (hb0.trans (hb.mono hb0.size)) hf hr hc hn)
  have HOK : Hid (Q.cellE N arcs bounds cells level cell = 0 → (1 ≤ N ∧ Q.GOk N.toNat arcs) ∧ Q.NestOk N.toNat bounds cells ∧ 1 ≤ level ∧ level ≤ bounds.length) := Lib.hid (fun h => ⟨(Q.cellE_ok hf h).1, (Q.cellE_ok hf h).2.1, (Q.cellE_ok hf h).2.2.1⟩)
  have HB0 := Lib.hid hb0
  have HN := Lib.hid hn
  clear hf hr hc hn hb0
  unfold Q.upE
  generalize Q.cellE N arcs bounds cells level cell = ke at *
  generalize hue : (if ke = 0 then (if level = 1 then (111 : Int) else 0) else ke) = ue at *
  have HUE := Lib.hid hue
  clear hue
  go_enter Tryz.func30, Tryz.ntmps30
  go_upto_region 1 with fail
  generalize ((w.alloc (.cells #[.int .i64 N, .slice A arcs.length c] 24)).alloc (.cells #[.slice BA bounds.length bc, .slice CA cells.length cc] 28)) = w1 at *
  have HB1 := Lib.hid hb1
  have HCK1 := Lib.hid (HCK.out w1 hb1)
  have hs1 : w.heap.size + 2 ≤ w1.heap.size := by omega
  generalize hgx : w.heap.size = gx at *
  have HGX := Lib.hid hgx
  clear hb1 hsz HCK hgx
  go_upto_region 2 with (go_at_call 76; (with_reducible refine HCK1.out.mono ?_); rintro e w2 ⟨v, rfl, hlv, ⟨A', n', c', z', rfl⟩, hb⟩; have HB := Lib.hid hb; have HLV := Lib.hid hlv; clear hb hlv)
  have hk := heap_alloc_new w2 (.cells #[.slice A' n' c', .int .i64 z'] 115)
  have hb3 : Below w2.heap.size w2 (w2.alloc (.cells #[.slice A' n' c', .int .i64 z'] 115)) := (Below.refl _ w2).alloc (Nat.le_refl _) _
  have hs2 : gx + 2 ≤ w2.heap.size := by have := HB.out.size; omega
  have hgk3 : w2.heap.size < (w2.alloc (.cells #[.slice A' n' c', .int .i64 z'] 115)).heap.size := by simp
  have d0 := (HB.out.cell (p := ⟨gx + 1, 0, none⟩) (by show gx + 1 < w1.heap.size; omega)).trans n0
  have d1 := (HB.out.cell (p := ⟨gx + 1, 1, none⟩) (by show gx + 1 < w1.heap.size; omega)).trans n1
  have e0 := (hb3.cell (p := ⟨gx + 1, 0, none⟩) (by show gx + 1 < w2.heap.size; omega)).trans d0
  have e1 := (hb3.cell (p := ⟨gx + 1, 1, none⟩) (by show gx + 1 < w2.heap.size; omega)).trans d1
  generalize (w2.alloc (.cells #[.slice A' n' c', .int .i64 z'] 115)) = w3 at *
  have HB3 := Lib.hid ((HB1.out.trans (HB.out.mono (by omega))).trans (hb3.mono (by omega)))
  have k0 : w3.cell? ⟨w2.heap.size, 0, none⟩ = some (.slice A' n' c') := by rw [cell_of_row _ _ 0 _ _ _ hk]; rfl
  have k1 : w3.cell? ⟨w2.heap.size, 1, none⟩ = some (.int .i64 z') := by rw [cell_of_row _ _ 1 _ _ _ hk]; rfl
  generalize hgk : w2.heap.size = gk at *
  have hs3 : gx + 2 ≤ w3.heap.size := by have := hb3.size; omega
  clear c0 c1 n0 n1 d0 d1 hk HCK1 HB HB1 hb3 hgk
  by_cases hke : ke = 0
  · obtain ⟨⟨hN1, hG⟩, hNest, hlv1, hlv2⟩ := HOK.out hke
    obtain ⟨j, RA, rc, hj, hjc, hv, hrc, hRow⟩ := HLV.out hke
    have hvv : RA = A' ∧ (cells.getD j []).length = n' ∧ rc = c' ∧ level = z' := by
      injection hv with hv
      have h1 := congrArg (fun a => a[0]?) hv
      have h2 := congrArg (fun a => a[1]?) hv
      simp only [List.getElem?_toArray, List.getElem?_cons_zero, List.getElem?_cons_succ, Option.some.injEq, Value.slice.injEq, Value.int.injEq, true_and] at h1 h2
      exact ⟨h1.1.symm, h1.2.1.symm, h1.2.2.symm, h2.symm⟩
    obtain ⟨rfl, rfl, rfl, rfl⟩ := hvv
    by_cases hl1 : level = 1
    · have hue : ue = 111 := by rw [← HUE.out, if_pos hke, if_pos hl1]
      have HU := Lib.hid hue
      clear hue
      go_wp2_with fail
      go_ret2
      have hgx := HGX.out
      subst hgx
      exact ⟨_, _, _, by rw [HU.out]; rfl, fun h => absurd (HU.out.symm.trans h) (by decide), HB3.out⟩
    · have hue : ue = 0 := by rw [← HUE.out, if_pos hke, if_neg hl1]
      have HU := Lib.hid hue
      clear hue
      have HJN : Hid ((level - 1).toNat = j) := Lib.hid (by omega)
      obtain ⟨j2, hj2⟩ : ∃ j2 : Nat, (level - 2).toNat = j2 := ⟨_, rfl⟩
      have HJN2 := Lib.hid hj2
      have hj2c : j2 < cells.length := by omega
      have hbw3 : Below w0.heap.size w0 w3 := HB0.out.trans (HB3.out.mono (by have := HB0.out.size; have := HGX.out; omega))
      obtain ⟨cad, SA, sc, rfl, y00, hsc, hSow⟩ := HN.out.row j2 hj2c
      have y0 := (hbw3.cell (p := cad.add j2) (World.block_lt_of_cell? w0 _ y00)).trans y00
      obtain ⟨j1, hj1⟩ : ∃ j1 : Nat, j1 = j2 + 1 := ⟨_, rfl⟩
      have hws : IntKind.i64.wrap (level - 1) = (j1 : Int) := by rw [IntWalk.i64_in _ (by have := hNest.b5; omega)]; omega
      have HAT : Hid (∀ wx : World, Below w3.heap.size w3 wx → Calls Tryz.prog 77 #[.agg #[.slice BA bounds.length bc, .slice (some cad) cells.length cc], .int .i64 (j1 : Int)] wx fun e w' => e = .returned (.agg #[.slice SA (cells.getD j2 []).length sc, .int .i64 (j1 : Int)]) ∧ Below wx.heap.size wx w') := Lib.hid (fun wx hb => by
        rw [hj1]
        exact nestAt_any BA bc bounds.length cad cells.length cc j2 SA (cells.getD j2 []).length sc wx hj2c (by have := hNest.len; have := hNest.b5; omega) ((hb.cell (World.block_lt_of_cell? w3 _ y0)).trans y0))
      have hrp := Q.rightP_in (hNest.right (j := j) (by rw [← hNest.len]; exact hjc))
      have hsp := Q.rightP_in (hNest.right (j := j2) (by rw [← hNest.len]; exact hj2c))
      have hn2 := hG.n2
      have hm := Q.members_f (cells.getD j []) cell (by omega)
      have HMB : Hid (∀ wx : World, Below w3.heap.size w3 wx → Calls Tryz.prog 78 #[.slice RA (cells.getD j []).length rc, .int .i64 cell] wx fun e w' => ∃ v0_ : Value, e = .returned v0_ ∧ Kd.R (Kd.int .i64) 3 w' wx.heap.size (fun _ => True) v0_ (Q.memOf (cells.getD j []) cell) ∧ Below wx.heap.size wx w') := Lib.hid (fun wx hb => Q.nest_labels_members.calls _ RA rc _ cell _ wx (Kd.C_below (Kd.C_below hRow hbw3) hb) hrc hm)
      have HKE := Lib.hid hke
      have HRL := Lib.hid hrp.1
      have HSL := Lib.hid hsp.1
      have HSOW : Hid (Kd.C (Kd.int .i64) w3 SA (cells.getD j2 []).length (cells.getD j2 [])) := Lib.hid (Kd.C_below hSow hbw3)
      have hrn : (cells.getD j []).length ≤ 1024 := by rw [hrp.1]; exact hn2
      have HSR : Hid ((cells.getD j2 []).length = (cells.getD j []).length) := Lib.hid (by rw [hsp.1, hrp.1])
      clear hN1 hG hNest hj hjc hv hrc hRow hbw3 hrp hsp hm y00 hSow hlv1 hlv2 hn2 hj2 hj1 y0
      generalize hrw : cells.getD j [] = row at *
      generalize hsw : cells.getD j2 [] = bel at *
      have HRW := Lib.hid hrw
      have HSW := Lib.hid hsw
      clear hrw hsw
      go_upto_region 7 with (go_at_call 77; (with_reducible refine (HAT.out _ (Below.refl _ _)).mono ?_); rintro e w4 ⟨rfl, hb4⟩; have HB4 := Lib.hid hb4; clear hb4)
      have hq := heap_alloc_new w4 (.cells #[.slice SA bel.length sc, .int .i64 (j1 : Int)] 115)
      have hb5 : Below w4.heap.size w4 (w4.alloc (.cells #[.slice SA bel.length sc, .int .i64 (j1 : Int)] 115)) := (Below.refl _ w4).alloc (Nat.le_refl _) _
      have HB35 : Hid (Below w3.heap.size w3 (w4.alloc (.cells #[.slice SA bel.length sc, .int .i64 (j1 : Int)] 115))) := Lib.hid (HB4.out.trans (hb5.mono HB4.out.size))
      have hgb : w4.heap.size < (w4.alloc (.cells #[.slice SA bel.length sc, .int .i64 (j1 : Int)] 115)).heap.size := by simp
      generalize (w4.alloc (.cells #[.slice SA bel.length sc, .int .i64 (j1 : Int)] 115)) = w5 at *
      have q0 : w5.cell? ⟨w4.heap.size, 0, none⟩ = some (.slice SA bel.length sc) := by rw [cell_of_row _ _ 0 _ _ _ hq]; rfl
      generalize hgbq : w4.heap.size = gb at *
      have m0 := (HB35.out.cell (p := ⟨gk, 0, none⟩) hgk3).trans k0
      have HMB5 := Lib.hid (HMB.out w5 HB35.out)
      have hs35 := HB35.out.size
      clear hq hb5 HB4 HMB HAT hgbq k0 k1 e0 e1 hws
      go_wp2_with (go_at_call 78; go_loud ((with_reducible refine HMB5.out.mono ?_); rintro e w6 ⟨v, rfl, hR, hb6⟩; obtain ⟨MA, mc, rfl⟩ := Kd.R_slice hR; have HMC := Lib.hid (Kd.R_reads' hR).2.2; have HB6 := Lib.hid hb6; clear hR hb6))
      have HMIN : Hid (∀ v ∈ Q.memOf row cell, 0 ≤ v ∧ v < (row.length : Int)) := Lib.hid (fun v hv => ⟨(Q.mem_in hv).1, (Q.mem_in hv).2.1⟩)
      have hml : (Q.memOf row cell).length ≤ row.length := Q.mem_len row cell row.length
      have HRAW : Hid (Q.rawOf row bel cell = (Q.memOf row cell).map (fun v => bel.getD v.toNat 0)) := Lib.hid rfl
      have HKID : Hid (Q.kidsOf row bel cell = Lib.compact ((Q.rawOf row bel cell).mergeSort (fun x y => decide (x ≤ y)))) := Lib.hid rfl
      generalize Q.memOf row cell = mem at *
      generalize Q.rawOf row bel cell = raw at *
      have HB56 : Hid (Below w5.heap.size w5 w6) := HB6
      have hs56 := HB6.out.size
      have q6 := (HB6.out.cell (p := ⟨gb, 0, none⟩) hgb).trans q0
      have HQ6 := Lib.hid q6
      have HB36 : Hid (Below w3.heap.size w3 w6) := Lib.hid (HB35.out.trans (HB6.out.mono hs35))
      clear q0 q6 m0 HMB5
      go_loopg [13, 39] mem.length (fun gg s13 s39 wr => ∃ i : Nat, i ≤ mem.length ∧ mem.length - i ≤ gg ∧ s39 = .int .i64 i ∧ Hid (wr.ownsRow w6.heap.size 3 1 s13 ((mem.take i).map (fun v => bel.getD v.toNat 0)).length (((mem.take i).map (fun v => bel.getD v.toNat 0)).map (Value.int .i64))) ∧ Hid (Below w6.heap.size w6 wr))
      case atStart => exact ⟨0, Nat.zero_le _, by omega, rfl, Lib.hid (World.ownsRow_nil _ _ _ _), Lib.hid (Below.refl _ _)⟩
      case round =>
        obtain ⟨i, hi1, hgg, rfl, HO, HB⟩ := hrel
        by_cases hlt : i < mem.length
        · have hltz : (i : Int) < (mem.length : Int) := by omega
          have hwk : IntKind.i64.wrap ((i : Int) + 1) = ((i + 1 : Nat) : Int) := by rw [IntWalk.i64_in _ (by omega)]; omega
          obtain ⟨mad, rfl, x0⟩ := Q.int_cell (Kd.C_below HMC.out HB.out) i hlt
          have hmem : mem.getD i 0 ∈ mem := by rw [List.getD_eq_getElem?_getD, List.getElem?_eq_getElem hlt]; exact List.getElem_mem hlt
          obtain ⟨hv0, hv1⟩ := HMIN.out _ hmem
          obtain ⟨v, hv⟩ : ∃ v : Nat, mem.getD i 0 = (v : Int) := ⟨_, (Int.toNat_of_nonneg hv0).symm⟩
          rw [hv] at x0 hv1
          have hvl : v < bel.length := by have := HSR.out; omega
          have hvz : (v : Int) < (bel.length : Int) := by omega
          obtain ⟨sad, rfl, x1⟩ := Q.int_cell (Kd.C_below (Kd.C_below HSOW.out HB36.out) (HB.out.mono (Nat.le_refl _))) v hvl
          have x2 := (HB.out.cell (p := ⟨gb, 0, none⟩) (by show gb < _; omega)).trans HQ6.out
          have HST : Hid ((mem.take (i + 1)).map (fun v => bel.getD v.toNat 0) = (mem.take i).map (fun v => bel.getD v.toNat 0) ++ [bel.getD v 0]) := Lib.hid (by
            rw [List.take_add_one, List.map_append, List.getElem?_eq_getElem hlt]
            have : mem[i] = (v : Int) := by rw [← hv, List.getD_eq_getElem?_getD, List.getElem?_eq_getElem hlt]; rfl
            rw [this]
            simp)
          have htl : ((mem.take i).map (fun v => bel.getD v.toNat 0)).length ≤ 1024 := by rw [List.length_map, List.length_take]; omega
          generalize bel.getD v 0 = bv at *
          clear hmem hv0 hv1 hv hvl
          go_wp2_with (at_builtin; refine wpList_append_own _ rfl _ _ 25 rfl w6.heap.size 3 i0 _ 1 8 Tryz.underlying25 hi hz0 hz1 hz2 rfl (by decide) _ _ _ rfl (HO.out.alloc _) ⟨wr.heap.size, 0, none⟩ 1 1 [.int .i64 bv] rfl rfl (cell_one_new _ _ _) (by intro q hq; simp at hq; subst hq; rfl) (by unfold maxLen; omega) (by omega) (by have := HB.out.size; simp; omega) ?_; intro v' w7 hown' hg7 hnil7; go_frame)
          have HWK := Lib.hid hwk
          clear hwk
          go_roundg (mem.length - (i + 1))
          case measure => omega
          case rel =>
            refine ⟨i + 1, by omega, Nat.le_refl _, rfl, Lib.hid ?_, Lib.hid ?_⟩
            · rw [HST.out]
              simpa using hown'
            · exact Below.grown (HB.out.alloc HB.out.size _) hg7 (fun k hk => (HO.out.lt k hk).1) (by have := HB.out.size; simp; omega)
        · have : i = mem.length := by omega
          subst this
          have hkz : ¬ (mem.length : Int) < (mem.length : Int) := by omega
          rw [List.take_length, ← HRAW.out] at HO
          have hel : raw.length ≤ 1024 := by rw [HRAW.out, List.length_map]; omega
          have hbs := HB3.out.size
          have HBT : Hid (Below gx w wr) := Lib.hid ((HB3.out.trans (HB36.out.mono (by omega))).trans (HB.out.mono (by omega)))
          obtain ⟨hlen, ⟨rfl, hn0⟩ | ⟨g, cap, cur, rfl, hbase, hgb2, h1, h2, h3, h4⟩⟩ := HO.out
          · have he0 : raw = [] := List.length_eq_zero_iff.1 hn0
            have HBN : Hid (Q.kidsOf row bel cell = []) := Lib.hid (by rw [HKID.out, he0]; simp [Lib.compact, Lib.compactUpTo])
            clear hn0 he0 hlen
            go_wp2_with (first
              | (go_at_call 61; refine (Tryz.slices_Sort_int_none none 0 _).mono ?_; rintro e w' ⟨rfl, rfl⟩)
              | (go_at_call 63; refine (Tryz.slices_Compact_int_empty none 0 _).mono ?_; rintro e w' ⟨rfl, rfl⟩)
              | (go_at_call 79; refine (clipInt_nil _).mono ?_; rintro e w' ⟨rfl, rfl⟩))
            go_ret2
            have hgx := HGX.out
            subst hgx
            refine ⟨_, _, _, by rw [HU.out]; rfl, fun _ => ?_, HBT.out⟩
            rw [HJN.out, HRW.out, HJN2.out, HSW.out, HBN.out]
            exact ⟨none, rfl, Q.ints_C_nil _ _⟩
          · have hglt : g < wr.heap.size := (Array.getElem?_eq_some_iff.1 hgb2).1
            have HH : Hid (Holds (Value.int .i64) wr g 0 raw.toArray) := Lib.hid (holds_of_blockI hgb2 (by simpa using h4))
            have HSL2 : Hid ((raw.mergeSort (fun x y => decide (x ≤ y))).length = raw.length) := Lib.hid (List.length_mergeSort _)
            have HS := Lib.hid (Tryz.slices_Sort_int g 0 cap raw wr HH.out hglt (by omega))
            have HST : Hid (∀ (n : Nat) (os : Array Obj), Holds (Value.int .i64) (grow (putRow (Value.int .i64) (Sort.ahead wr n) g 0 (raw.mergeSort (fun x y => decide (x ≤ y))).toArray) os) g 0 (raw.mergeSort (fun x y => decide (x ≤ y))).toArray ∧ g < (grow (putRow (Value.int .i64) (Sort.ahead wr n) g 0 (raw.mergeSort (fun x y => decide (x ≤ y))).toArray) os).heap.size ∧ Below w6.heap.size w6 (grow (putRow (Value.int .i64) (Sort.ahead wr n) g 0 (raw.mergeSort (fun x y => decide (x ≤ y))).toArray) os)) := Lib.hid (fun n os => by
              have hs := heap_sortedI (n := n) (os := os) (raw.mergeSort (fun x y => decide (x ≤ y))).toArray hgb2
              refine ⟨holds_of_blockI hs (take_putCellsI cur _ (by rw [HSL2.out]; omega)), (Array.getElem?_eq_some_iff.1 hs).1, ?_⟩
              exact Below.grown HB.out (grownBy_sortedI _) (fun k hk => by cases hk; exact hbase) HB.out.size)
            have hsl := HSL2.out
            have hel2 : raw.length ≤ cap := h1
            clear hlen hgb2 h1 h2 h3 h4 HH HO HRAW
            generalize hso : raw.mergeSort (fun x y => decide (x ≤ y)) = so at *
            have HSO := Lib.hid hso
            clear hso hsl
            go_wp2_with (first
              | (go_at_call 61; refine HS.out.mono ?_; rintro e w8 ⟨rfl, nn, os, hw8⟩; obtain ⟨k1, k2, k3⟩ := HST.out nn os; rw [← hw8] at k1 k2 k3; have K1 := Lib.hid k1; have K2 := Lib.hid k2; have K3 := Lib.hid k3; clear k1 k2 k3 hw8)
              | (go_at_call 63; (rw [← HSL2.out]); refine (compact_cut g cap so _ K1.out K2.out (by have := HSL2.out; omega) (by have := HSL2.out; omega)).mono ?_; rintro e w9 ⟨rfl, hc9, hk9, hb9⟩; have HK9 := Lib.hid hk9; have HB9 := Lib.hid hb9; clear hk9 hb9)
              | (go_at_call 79; refine (clipInt_any g _ cap _ (by assumption)).mono ?_; rintro e w10 ⟨rfl, rfl⟩))
            go_ret2
            have hgx := HGX.out
            subst hgx
            have hb36 := HB36.out.size
            refine ⟨_, _, _, by rw [HU.out]; rfl, fun _ => ?_, ((HB3.out.trans (HB36.out.mono (by omega))).trans (K3.out.mono (by omega))).trans (HB9.out.mono (by have := hbase; omega))⟩
            rw [HJN.out, HRW.out, HJN2.out, HSW.out, HKID.out]
            exact ⟨_, rfl, HK9.out⟩
  · have hue : ue = ke := by rw [← HUE.out, if_neg hke]
    have HU := Lib.hid hue
    clear hue
    go_wp2_with fail
    go_ret2
    have hgx := HGX.out
    subst hgx
    exact ⟨_, _, _, by first | (rw [HU.out]; done) | (rw [HU.out]; rfl), fun h => absurd (HU.out.symm.trans h) hke, HB3.out⟩

end Go.Proofs.YtjddimoeodecgaaGreat

/- clique.Check. -/
namespace Go.Proofs.YtjddimoeodecgaaGreat
open Go.RowKit Go.Lib Go.Sort Go.Proofs.YtjddimoeodecgaaGreatW.PrintWords Go.Proofs.YtjddimoeodecgaaGreatW.PrintLast Go.Proofs.YtjddimoeodecgaaGreatW.PrintMore
set_option linter.unusedVariables false
set_option maxRecDepth 100000

/-- The error that clique.Check tells of a matrix. -/
def Q.matE (N : Int) (arcs : List Q.S95) (bounds : List Int) (cells : List (List Int)) (lv c ep : Int) (dn : Nat) : Int :=
  if (Q.checkR N arcs bounds cells).2 = 0 then (if Q.cellE N arcs bounds cells lv c = 0 ∧ (0 ≤ ep ∧ ep ≤ 1073741824) ∧ dn = (Q.bndOf arcs (Q.levelRow cells lv) c).length * (Q.bndOf arcs (Q.levelRow cells lv) c).length then 0 else 130) else (Q.checkR N arcs bounds cells).2

set_option maxHeartbeats 4000000 in
theorem check_any (N : Int) (arcs : List Q.S95) (A : Option Addr) (c : Nat) (BA : Option Addr) (bc : Nat) (bounds : List Int) (CA : Option Addr) (cc : Nat) (cells : List (List Int)) (level cell epoch : Int) (DA : Option Addr) (dn dc : Nat) (w : World) (hdn : dn ≤ 9000000000000000000)
    (hf : Q.ArcsFit arcs) (hr : Kd.C Q.k95 w A arcs.length arcs) (hc : arcs.length ≤ c) (hn : NestIn w BA bc bounds CA cc cells) :
    Calls Tryz.prog 33 #[.agg #[.int .i64 N, .slice A arcs.length c], .agg #[.slice BA bounds.length bc, .slice CA cells.length cc], .agg #[.int .i64 level, .int .i64 cell, .int .i64 epoch, .slice DA dn dc]] w fun e w' => e = .returned (.int .i64 (Q.matE N arcs bounds cells level cell epoch dn)) ∧ Below w.heap.size w w' := by
  obtain ⟨c0, c1, n0, n1, r0, hsz, hb1⟩ := boxes224 w (.int .i64 N) (.slice A arcs.length c) (.slice BA bounds.length bc) (.slice CA cells.length cc) (.int .i64 level) (.int .i64 cell) (.int .i64 epoch) (.slice DA dn dc) 24 28 37
  have HCK : Hid (∀ wx : World, Below w.heap.size w wx → Calls Tryz.prog 26 #[.agg #[.int .i64 N, .slice A arcs.length c], .agg #[.slice BA bounds.length bc, .slice CA cells.length cc]] wx fun e w' => e = .returned (.tuple #[.int .i64 (Q.checkR N arcs bounds cells).1, .int .i64 (Q.checkR N arcs bounds cells).2]) ∧ Below wx.heap.size wx w') :=
    Lib.hid (fun wx hb => nestCheck_any N arcs A c BA bc bounds CA cc cells wx hf (Kd.C_below hr hb) hc (hn.below hb))
  have HBN : Hid (∀ wx : World, Below w.heap.size w wx → Calls Tryz.prog 23 #[.agg #[.int .i64 N, .slice A arcs.length c], .agg #[.slice BA bounds.length bc, .slice CA cells.length cc], .int .i64 level, .int .i64 cell] wx fun e w' => ∃ A' n' c', e = .returned (.tuple #[.slice A' n' c', .int .i64 (Q.cellE N arcs bounds cells level cell)]) ∧ (Q.cellE N arcs bounds cells level cell = 0 → CutV w' (Q.bndOf arcs (cells.getD (level - 1).toNat []) cell) (.slice A' n' c')) ∧ Below wx.heap.size wx w') :=
    Lib.hid (fun wx hb => boundary_any N arcs A c BA bc bounds CA cc cells level cell w wx hb hf hr hc hn)
  have HEP : Hid (∀ wx : World, Calls Tryz.prog 52 #[.int .i64 epoch] wx fun e w' => e = .returned (.bool (decide (0 ≤ epoch ∧ epoch ≤ 1073741824))) ∧ Drawn0 wx w') := Lib.hid (fun wx => Q.clique_epochs.calls epoch _ wx (by
    unfold Q.clique_epochs.f
    by_cases h0 : 0 ≤ epoch
    · rw [if_pos h0]; congr 1; by_cases h1 : epoch ≤ 1073741824 <;> simp [h0, h1]
    · rw [if_neg h0]; congr 1; simp [h0]))
  have HOK : Hid (Q.cellE N arcs bounds cells level cell = 0 → arcs.length ≤ 8192) := Lib.hid (fun h => (Q.cellE_ok hf h).1.2.m)
  have HBL := Lib.hid (Q.bnd_len arcs (cells.getD (level - 1).toNat []) cell)
  clear hf hr hc hn
  unfold Q.matE Q.levelRow
  generalize hk1 : (Q.checkR N arcs bounds cells).1 = k1 at *
  generalize hk2 : (Q.checkR N arcs bounds cells).2 = k2 at *
  generalize hke : Q.cellE N arcs bounds cells level cell = ke at *
  generalize Q.bndOf arcs (cells.getD (level - 1).toNat []) cell = l at *
  generalize hme : (if k2 = 0 then (if ke = 0 ∧ (0 ≤ epoch ∧ epoch ≤ 1073741824) ∧ dn = l.length * l.length then (0 : Int) else 130) else k2) = me at *
  have HME := Lib.hid hme
  clear hk1 hk2 hke hme
  go_enter Tryz.func33, Tryz.ntmps33
  go_upto_region 1 with fail
  generalize (((w.alloc (.cells #[.int .i64 N, .slice A arcs.length c] 24)).alloc (.cells #[.slice BA bounds.length bc, .slice CA cells.length cc] 28)).alloc (.cells #[.int .i64 level, .int .i64 cell, .int .i64 epoch, .slice DA dn dc] 37)) = w1 at *
  have HB1 := Lib.hid hb1
  have HCK1 := Lib.hid (HCK.out w1 hb1)
  have hs1 : w.heap.size + 3 ≤ w1.heap.size := by omega
  generalize hgx : w.heap.size = gx at *
  have HGX := Lib.hid hgx
  clear hb1 hsz HCK hgx
  go_upto_region 2 with (go_at_call 26; (with_reducible refine HCK1.out.mono ?_); rintro e w2 ⟨rfl, hb⟩; have HB := Lib.hid hb; clear hb)
  have hs2 : gx + 3 ≤ w2.heap.size := by have := HB.out.size; omega
  have d0 := (HB.out.cell (p := ⟨gx, 0, none⟩) (by show gx < w1.heap.size; omega)).trans c0
  have d1 := (HB.out.cell (p := ⟨gx, 1, none⟩) (by show gx < w1.heap.size; omega)).trans c1
  have m0 := (HB.out.cell (p := ⟨gx + 1, 0, none⟩) (by show gx + 1 < w1.heap.size; omega)).trans n0
  have m1 := (HB.out.cell (p := ⟨gx + 1, 1, none⟩) (by show gx + 1 < w1.heap.size; omega)).trans n1
  have q0 := (HB.out.block (gx + 2) (by omega)).trans r0
  have Q0 := Lib.hid q0
  have HB2 := Lib.hid (HB1.out.trans (HB.out.mono (by omega)))
  obtain ⟨x0, x1, x2, x3, -⟩ := cells4 Q0.out
  clear c0 c1 n0 n1 r0 q0 HCK1 HB HB1
  by_cases hk2 : k2 = 0
  · have HBN2 := Lib.hid (HBN.out w2 HB2.out)
    clear HBN
    go_upto_region 5 with (go_at_call 23; (with_reducible refine HBN2.out.mono ?_); rintro e w3 ⟨A', n', c', rfl, hcv, hb⟩; have HCV := Lib.hid hcv; have HB := Lib.hid hb; clear hcv hb)
    have HB3 := Lib.hid (HB2.out.trans (HB.out.mono (by omega)))
    have q3 := (HB.out.block (gx + 2) (by omega)).trans Q0.out
    obtain ⟨y0, y1, y2, y3, -⟩ := cells4 q3
    clear x0 x1 x2 x3 d0 d1 m0 m1 q3 HBN2
    by_cases hke : ke = 0
    · obtain ⟨P, hv, -⟩ := HCV.out hke
      simp only [Value.slice.injEq] at hv
      obtain ⟨-, hl, -⟩ := hv
      have hm := HOK.out hke
      have hbl := HBL.out
      have hn16 : n' ≤ 16384 := by omega
      have hbb : n' * n' ≤ 268435456 := Nat.mul_le_mul hn16 hn16
      have hsq : IntKind.i64.wrap ((n' : Int) * (n' : Int)) = ((n' * n' : Nat) : Int) := by rw [IntWalk.i64_in _ (by rw [← Int.natCast_mul]; omega), Int.natCast_mul]
      rw [← hl] at HME
      obtain ⟨sq, hq⟩ : ∃ sq : Nat, sq = n' * n' := ⟨_, rfl⟩
      rw [← hq] at hsq HME
      clear hl hm hbl hbb hq
      by_cases hep : 0 ≤ epoch ∧ epoch ≤ 1073741824
      · rw [decide_eq_true hep] at HEP
        by_cases hd : dn = sq
        · have hme : me = 0 := by rw [← HME.out, if_pos hk2, if_pos ⟨hke, hep, hd⟩]
          have HM := Lib.hid hme
          clear hme hep
          go_wp2_with (go_at_call 52; (with_reducible refine (HEP.out _).mono ?_); rintro e w4 ⟨rfl, nd, rfl⟩)
          go_ret
          have hgx := HGX.out
          subst hgx
          exact ⟨by first | (rw [HM.out]; done) | (rw [HM.out]; rfl), Below.drewN_ HB3.out nd⟩
        · have hme : me = 130 := by rw [← HME.out, if_pos hk2, if_neg (fun h => hd h.2.2)]
          have HM := Lib.hid hme
          have hdz : ¬ (dn : Int) = (sq : Int) := by omega
          clear hme hep
          go_wp2_with (go_at_call 52; (with_reducible refine (HEP.out _).mono ?_); rintro e w4 ⟨rfl, nd, rfl⟩)
          go_ret
          have hgx := HGX.out
          subst hgx
          exact ⟨by first | (rw [HM.out]; done) | (rw [HM.out]; rfl), Below.drewN_ HB3.out nd⟩
      · rw [decide_eq_false hep] at HEP
        have hme : me = 130 := by rw [← HME.out, if_pos hk2, if_neg (fun h => hep h.2.1)]
        have HM := Lib.hid hme
        clear hme hep
        go_wp2_with (go_at_call 52; (with_reducible refine (HEP.out _).mono ?_); rintro e w4 ⟨rfl, nd, rfl⟩)
        go_ret
        have hgx := HGX.out
        subst hgx
        exact ⟨by first | (rw [HM.out]; done) | (rw [HM.out]; rfl), Below.drewN_ HB3.out nd⟩
    · have hme : me = 130 := by rw [← HME.out, if_pos hk2, if_neg (fun h => hke h.1)]
      have HM := Lib.hid hme
      clear hme
      go_wp2_with fail
      go_ret
      have hgx := HGX.out
      subst hgx
      exact ⟨by first | (rw [HM.out]; done) | (rw [HM.out]; rfl), HB3.out⟩
  · have hme : me = k2 := by rw [← HME.out, if_neg hk2]
    have HM := Lib.hid hme
    clear hme
    go_wp2_with fail
    go_ret
    have hgx := HGX.out
    subst hgx
    exact ⟨by first | (rw [HM.out]; done) | (rw [HM.out]; rfl), HB2.out⟩

end Go.Proofs.YtjddimoeodecgaaGreat

/- nest.Many. -/
namespace Go.Proofs.YtjddimoeodecgaaGreat
open Go.RowKit Go.Lib Go.Sort Go.Proofs.YtjddimoeodecgaaGreatW.PrintWords Go.Proofs.YtjddimoeodecgaaGreatW.PrintLast Go.Proofs.YtjddimoeodecgaaGreatW.PrintMore
set_option linter.unusedVariables false
set_option maxRecDepth 100000

set_option maxHeartbeats 2000000 in
theorem nestMany_any (N : Int) (arcs : List Q.S95) (A : Option Addr) (c : Nat) (BA : Option Addr) (bc : Nat) (bounds : List Int) (CA : Option Addr) (cc : Nat) (cells : List (List Int)) (level : Int) (w0 w : World) (hb0 : Below w0.heap.size w0 w) (hf : Q.ArcsFit arcs) (hr : Kd.C Q.k95 w0 A arcs.length arcs) (hc : arcs.length ≤ c) (hn : NestIn w0 BA bc bounds CA cc cells) (hok : Q.lookedE N arcs bounds cells level = 0) :
    Calls Tryz.prog 72 #[.agg #[.int .i64 N, .slice A arcs.length c], .agg #[.slice BA bounds.length bc, .slice CA cells.length cc], .int .i64 level] w fun e w' => e = .returned (.tuple #[.int .i64 (Q.manyOf (cells.getD (level - 1).toNat []) : Int), .int .i64 0]) ∧ Below w.heap.size w w' := by
  obtain ⟨c0, c1, n0, n1, hsz, hb1⟩ := two_boxes w (.int .i64 N) (.slice A arcs.length c) (.slice BA bounds.length bc) (.slice CA cells.length cc) 24 28
  have HCK : Hid (∀ wx : World, Below w.heap.size w wx → Calls Tryz.prog 110 #[.agg #[.int .i64 N, .slice A arcs.length c], .agg #[.slice BA bounds.length bc, .slice CA cells.length cc], .int .i64 level] wx fun e w' => ∃ v, e = .returned (.tuple #[v, .int .i64 (Q.lookedE N arcs bounds cells level)]) ∧ (Q.lookedE N arcs bounds cells level = 0 → LevelV w0 cells level v) ∧ (∃ A' n' c' z', v = .agg #[.slice A' n' c', .int .i64 z']) ∧ Below wx.heap.size wx w') :=
    Lib.hid (fun wx hb => nestLooked_any N arcs A c BA bc bounds CA cc cells level w0 wx (hb0.trans (hb.mono hb0.size)) hf hr hc hn)
  have hokk : (1 ≤ N ∧ Q.GOk N.toNat arcs) ∧ Q.NestOk N.toNat bounds cells := by
    have h := hok
    unfold Q.lookedE at h
    split at h
    · rename_i h1; exact Q.checkR_ok hf h1
    · rename_i h1; exact absurd h h1
  have HOK := Lib.hid hokk
  rw [hok] at HCK
  have HB0 := Lib.hid hb0
  clear hf hr hc hn hb0 hok hokk
  go_enter Tryz.func72, Tryz.ntmps72
  go_upto_region 1 with fail
  generalize ((w.alloc (.cells #[.int .i64 N, .slice A arcs.length c] 24)).alloc (.cells #[.slice BA bounds.length bc, .slice CA cells.length cc] 28)) = w1 at *
  have HB1 := Lib.hid hb1
  have HCK1 := Lib.hid (HCK.out w1 hb1)
  have hs1 : w.heap.size + 2 ≤ w1.heap.size := by omega
  generalize hgx : w.heap.size = gx at *
  have HGX := Lib.hid hgx
  clear hb1 hsz HCK hgx
  go_upto_region 2 with (go_at_call 110; (with_reducible refine HCK1.out.mono ?_); rintro e w2 ⟨v, rfl, hlv, ⟨A', n', c', z', rfl⟩, hb⟩; have HB := Lib.hid hb; have HLV := Lib.hid (hlv (by first | trivial | rfl)); clear hb hlv)
  have hk := heap_alloc_new w2 (.cells #[.slice A' n' c', .int .i64 z'] 115)
  have hb3 : Below w2.heap.size w2 (w2.alloc (.cells #[.slice A' n' c', .int .i64 z'] 115)) := (Below.refl _ w2).alloc (Nat.le_refl _) _
  have hs2 : gx + 2 ≤ w2.heap.size := by have := HB.out.size; omega
  generalize (w2.alloc (.cells #[.slice A' n' c', .int .i64 z'] 115)) = w3 at *
  have HB3 := Lib.hid ((HB1.out.trans (HB.out.mono (by omega))).trans (hb3.mono (by omega)))
  have k0 : w3.cell? ⟨w2.heap.size, 0, none⟩ = some (.slice A' n' c') := by rw [cell_of_row _ _ 0 _ _ _ hk]; rfl
  generalize hgk : w2.heap.size = gk at *
  have hs3 : gx + 2 ≤ w3.heap.size := by have := hb3.size; omega
  clear c0 c1 n0 n1 hk HCK1 HB HB1 hb3 hgk
  obtain ⟨⟨hN1, hG⟩, hNest⟩ := HOK.out
  obtain ⟨j, RA, rc, hj, hjc, hv, hrc, hRow⟩ := HLV.out
  have hvv : RA = A' ∧ (cells.getD j []).length = n' ∧ rc = c' ∧ level = z' := by
    injection hv with hv
    have h1 := congrArg (fun a => a[0]?) hv
    have h2 := congrArg (fun a => a[1]?) hv
    simp only [List.getElem?_toArray, List.getElem?_cons_zero, List.getElem?_cons_succ, Option.some.injEq, Value.slice.injEq, Value.int.injEq, true_and] at h1 h2
    exact ⟨h1.1.symm, h1.2.1.symm, h1.2.2.symm, h2.symm⟩
  obtain ⟨rfl, rfl, rfl, rfl⟩ := hvv
  have hbw3 : Below w0.heap.size w0 w3 := HB0.out.trans (HB3.out.mono (by have := HB0.out.size; have := HGX.out; omega))
  have hrp := hNest.right (j := j) (by rw [← hNest.len]; exact hjc)
  have hjn : (level - 1).toNat = j := by omega
  have HJN := Lib.hid hjn
  have HMN := Lib.hid (many_any (N := N.toNat) (by omega) hG.n2 hrp RA rc w3 (Kd.C_below hRow hbw3) hrc)
  clear hN1 hG hNest hj hjc hv hrc hRow hbw3 hrp hjn
  generalize hrw : cells.getD j [] = row at *
  have HRW := Lib.hid hrw
  clear hrw
  go_wp2_with (go_at_call 111; go_loud ((with_reducible refine HMN.out.mono ?_); rintro e w4 ⟨rfl, hb4⟩; have HB4 := Lib.hid hb4; clear hb4))
  go_ret2
  have hgx := HGX.out
  subst hgx
  exact ⟨by rw [HJN.out, HRW.out]; rfl, HB3.out.trans (HB4.out.mono (by omega))⟩

end Go.Proofs.YtjddimoeodecgaaGreat

/- Least lengths over links (plain): clique.spread. -/
namespace Go.Proofs.YtjddimoeodecgaaGreat
set_option linter.unusedVariables false
set_option maxRecDepth 100000

/-- Number x is the length of a way over links from s to u. -/
inductive LRch (F : Nat → List (Nat × Nat)) (s : Nat) : Nat → Nat → Prop
  | start : LRch F s s 0
  | link (v x : Nat) (e : Nat × Nat) (he : e ∈ F v) (h : LRch F s v x) : LRch F s e.1 (addD x e.2)
theorem LRch.lt {F : Nat → List (Nat × Nat)} {s u x : Nat} (h : LRch F s u x) : x < 18446744073709551616 := by
  cases h with
  | start => omega
  | link v x e he h => exact addD_lt _ _

/-- Links that may be. -/
structure LinkOk (N : Nat) (F : Nat → List (Nat × Nat)) : Prop where
  tgt : ∀ v e, e ∈ F v → e.1 < N
  lt : ∀ v e, e ∈ F v → e.2 < 18446744073709551616

/-- A spread's state: distances, heap. -/
structure Te where
  d : List Nat
  l : List Ent
structure TeOk (N : Nat) (st : Te) : Prop where
  se : SeOk N ⟨st.d, List.replicate N 0, st.l⟩

def relaxT (key : Nat) (st : Te) (e : Nat × Nat) : Te := if addD key e.2 < st.d.getD e.1 0 then ⟨st.d.set e.1 (addD key e.2), lowF st.l e.1 (addD key e.2)⟩ else st
def nextT (F : Nat → List (Nat × Nat)) (st : Te) : Te := (F (atE st.l 0).1).foldl (relaxT (atE st.l 0).2) ⟨st.d, popF st.l⟩


theorem teOk_iff (N : Nat) (st : Te) : TeOk N st ↔ st.d.length = N ∧ (st.l.map (·.1)).Nodup ∧ (∀ e ∈ st.l, e.1 < N ∧ e.2 = st.d.getD e.1 0) ∧ (∀ u, st.d.getD u 0 < 18446744073709551616) := by
  constructor
  · intro h
    obtain ⟨h1, _, h3, h4, h5⟩ := (seOk_iff N _).1 h.se
    exact ⟨h1, h3, h4, h5⟩
  · intro ⟨h1, h3, h4, h5⟩
    exact ⟨(seOk_iff N _).2 ⟨h1, by simp, h3, h4, h5⟩⟩

theorem relaxT_ok {N : Nat} {F : Nat → List (Nat × Nat)} (hF : LinkOk N F) {key v : Nat} {st : Te} (h : TeOk N st) (e : Nat × Nat) (he : e ∈ F v) : TeOk N (relaxT key st e) := by
  have hu := hF.tgt v e he
  obtain ⟨h1, h2, h3, h4⟩ := (teOk_iff N st).1 h
  unfold relaxT
  split
  · rename_i hlt
    have hul : e.1 < st.d.length := by rw [h1]; exact hu
    have hp := lowF_perm st.l e.1 (addD key e.2) h.se.ids
    have hset := fun x => set_getD st.d e.1 (addD key e.2) x hul
    refine (teOk_iff N _).2 ⟨by simpa using h1, ?_, fun f hf => ?_, fun u => ?_⟩
    · show ((lowF st.l e.1 _).map (·.1)).Nodup
      rw [(hp.map (·.1)).nodup_iff, List.map_cons, List.nodup_cons]
      refine ⟨?_, ?_⟩
      · intro hm
        obtain ⟨f, hf, hfe⟩ := List.mem_map.1 hm
        have := (List.mem_filter.1 hf).2
        simp [hfe] at this
      · exact (List.filter_sublist.map _).nodup h2
    · have hf' := hp.mem_iff.1 hf
      show f.1 < N ∧ f.2 = (st.d.set e.1 (addD key e.2)).getD f.1 0
      rcases List.mem_cons.1 hf' with rfl | hf2
      · exact ⟨hu, by rw [hset, if_pos rfl]⟩
      · obtain ⟨hf3, hf4⟩ := List.mem_filter.1 hf2
        have hne : f.1 ≠ e.1 := by simpa using hf4
        rw [hset, if_neg hne]
        exact h3 f hf3
    · show (st.d.set e.1 (addD key e.2)).getD u 0 < _
      rw [hset]
      split
      · exact addD_lt _ _
      · exact h4 u
  · exact h

theorem popT_ok {N : Nat} {st : Te} (h : TeOk N st) (hl : 0 < st.l.length) : TeOk N ⟨st.d, popF st.l⟩ := ⟨pop_ok h.se hl⟩

/-- What a spread leaves of a state; rest: links of v0 not yet looked at. -/
structure LInv (N : Nat) (F : Nat → List (Nat × Nat)) (s : Nat) (v0 : Nat) (rest : List (Nat × Nat)) (st : Te) : Prop where
  ok : TeOk N st
  zero : st.d.getD s 0 = 0
  rch : ∀ u, u < N → st.d.getD u 0 = infN ∨ LRch F s u (st.d.getD u 0)
  rel : ∀ v, v < N → ∀ e, e ∈ F v → (∃ f ∈ st.l, f.1 = v) ∨ st.d.getD e.1 0 ≤ addD (st.d.getD v 0) e.2 ∨ (v = v0 ∧ e ∈ rest)

theorem relaxT_inv {N : Nat} {F : Nat → List (Nat × Nat)} (hF : LinkOk N F) {s v0 d0 : Nat} {e : Nat × Nat} {rest : List (Nat × Nat)} {st : Te} (h : LInv N F s v0 (e :: rest) st) (he : e ∈ F v0) (hv : v0 < N) (hd : st.d.getD v0 0 = d0) :
    LInv N F s v0 rest (relaxT d0 st e) ∧ (relaxT d0 st e).d.getD v0 0 = d0 := by
  have hok' := relaxT_ok hF (key := d0) h.ok e he
  have hu := hF.tgt v0 e he
  obtain ⟨h1, h2, h3, h4⟩ := (teOk_iff N st).1 h.ok
  have hd0 : d0 < 18446744073709551616 := by rw [← hd]; exact h4 v0
  have hge := addD_ge d0 e.2 hd0
  unfold relaxT at hok' ⊢
  by_cases hlt : addD d0 e.2 < st.d.getD e.1 0
  · rw [if_pos hlt] at hok' ⊢
    have hul : e.1 < st.d.length := by rw [h1]; exact hu
    have hset := fun x => set_getD st.d e.1 (addD d0 e.2) x hul
    have hp := lowF_perm st.l e.1 (addD d0 e.2) h.ok.se.ids
    have hne : v0 ≠ e.1 := fun q => by rw [← q, hd] at hlt; omega
    have hin : ∀ x, (∃ f ∈ st.l, f.1 = x) → ∃ f ∈ lowF st.l e.1 (addD d0 e.2), f.1 = x := by
      rintro x ⟨f, hf, rfl⟩
      by_cases e1 : f.1 = e.1
      · exact ⟨_, hp.mem_iff.2 List.mem_cons_self, e1.symm⟩
      · exact ⟨f, hp.mem_iff.2 (List.mem_cons_of_mem _ (List.mem_filter.2 ⟨hf, by simpa using e1⟩)), rfl⟩
    have hv0 : (st.d.set e.1 (addD d0 e.2)).getD v0 0 = d0 := by rw [hset, if_neg hne]; exact hd
    refine ⟨⟨hok', ?_, fun x hx => ?_, fun v hvN f hf => ?_⟩, hv0⟩
    · show (st.d.set _ _).getD s 0 = 0
      rw [hset]
      split
      · rename_i q
        rw [← q, h.zero] at hlt
        omega
      · exact h.zero
    · show (st.d.set _ _).getD x 0 = infN ∨ LRch F s x ((st.d.set _ _).getD x 0)
      rw [hset]
      split
      · rename_i q
        subst q
        rcases h.rch v0 hv with h5 | h5
        · rw [hd] at h5
          have := h4 e.1
          unfold infN at h5
          omega
        · rw [hd] at h5
          exact Or.inr (LRch.link v0 d0 e he h5)
      · exact h.rch x hx
    · show (∃ g ∈ lowF st.l _ _, g.1 = _) ∨ (st.d.set _ _).getD _ 0 ≤ addD ((st.d.set _ _).getD _ 0) _ ∨ _
      by_cases ev : v = e.1
      · exact Or.inl ⟨_, hp.mem_iff.2 List.mem_cons_self, ev.symm⟩
      · rw [hset, hset, if_neg ev]
        rcases h.rel v hvN f hf with h5 | h5 | ⟨h5, h6⟩
        · exact Or.inl (hin _ h5)
        · right; left
          split
          · rename_i q
            rw [q] at h5
            omega
          · exact h5
        · subst h5
          rcases List.mem_cons.1 h6 with h7 | h7
          · subst h7
            right; left
            rw [if_pos rfl, hd]
            exact Nat.le_refl _
          · exact Or.inr (Or.inr ⟨rfl, h7⟩)
  · rw [if_neg hlt] at hok' ⊢
    refine ⟨⟨h.ok, h.zero, h.rch, fun v hvN f hf => ?_⟩, hd⟩
    rcases h.rel v hvN f hf with h5 | h5 | ⟨h5, h6⟩
    · exact Or.inl h5
    · exact Or.inr (Or.inl h5)
    · subst h5
      rcases List.mem_cons.1 h6 with h7 | h7
      · subst h7
        right; left
        rw [hd]
        omega
      · exact Or.inr (Or.inr ⟨rfl, h7⟩)

theorem foldT_inv {N : Nat} {F : Nat → List (Nat × Nat)} (hF : LinkOk N F) {s v0 d0 : Nat} (hv : v0 < N) : ∀ (rest : List (Nat × Nat)) (st : Te), (∀ e ∈ rest, e ∈ F v0) → LInv N F s v0 rest st → st.d.getD v0 0 = d0 → LInv N F s v0 [] (rest.foldl (relaxT d0) st)
  | [], st, _, h, _ => h
  | e :: rest, st, hm, h, hd => by
    obtain ⟨h1, h2⟩ := relaxT_inv hF h (hm e List.mem_cons_self) hv hd
    exact foldT_inv hF hv rest _ (fun f hf => hm f (List.mem_cons_of_mem _ hf)) h1 h2
theorem LInv.any {N : Nat} {F : Nat → List (Nat × Nat)} {s v0 v1 : Nat} {st : Te} (h : LInv N F s v0 [] st) : LInv N F s v1 [] st :=
  ⟨h.ok, h.zero, h.rch, fun v hv e he => by
    rcases h.rel v hv e he with h1 | h1 | ⟨_, h2⟩
    · exact Or.inl h1
    · exact Or.inr (Or.inl h1)
    · cases h2⟩

theorem nextT_inv {N : Nat} {F : Nat → List (Nat × Nat)} (hF : LinkOk N F) {s v0 : Nat} {st : Te} (h : LInv N F s v0 [] st) (hl : 0 < st.l.length) : LInv N F s v0 [] (nextT F st) := by
  have hv : (atE st.l 0).1 < N := h.ok.se.idlt 0 hl
  have hk := h.ok.se.key _ (atE_mem st.l 0 hl)
  have hp := popF_perm st.l hl
  unfold nextT
  refine LInv.any (foldT_inv hF hv _ _ (fun e he => he) ⟨popT_ok h.ok hl, h.zero, h.rch, fun v hvN e he => ?_⟩ hk.symm)
  rcases h.rel v hvN e he with ⟨f, hf, h1⟩ | h1 | ⟨_, h2⟩
  · rcases List.mem_cons.1 (hp.mem_iff.2 hf) with h3 | h3
    · exact Or.inr (Or.inr ⟨by rw [← h1, h3], by rw [show (atE st.l 0).1 = v by rw [← h1, h3]]; exact he⟩)
    · exact Or.inl ⟨f, h3, h1⟩
  · exact Or.inr (Or.inl h1)
  · cases h2

theorem relaxT_down {N : Nat} {F : Nat → List (Nat × Nat)} (hF : LinkOk N F) {key v : Nat} {st : Te} (h : TeOk N st) (e : Nat × Nat) (he : e ∈ F v) : (relaxT key st e).d.sum < st.d.sum ∨ relaxT key st e = st := by
  have hu := hF.tgt v e he
  obtain ⟨h1, _⟩ := (teOk_iff N st).1 h
  unfold relaxT
  split
  · rename_i hc
    left
    have := set_sum st.d e.1 (addD key e.2) (by rw [h1]; exact hu)
    show (st.d.set _ _).sum < _
    omega
  · exact Or.inr rfl
theorem foldT_down {N : Nat} {F : Nat → List (Nat × Nat)} (hF : LinkOk N F) {key v : Nat} : ∀ (rest : List (Nat × Nat)) (st : Te), TeOk N st → (∀ e ∈ rest, e ∈ F v) → TeOk N (rest.foldl (relaxT key) st) ∧ ((rest.foldl (relaxT key) st).d.sum < st.d.sum ∨ rest.foldl (relaxT key) st = st)
  | [], st, h, _ => ⟨h, Or.inr rfl⟩
  | e :: rest, st, h, hm => by
    have he := hm e List.mem_cons_self
    obtain ⟨h1, h2⟩ := foldT_down hF (key := key) rest _ (relaxT_ok hF (key := key) h e he) (fun f hf => hm f (List.mem_cons_of_mem _ hf))
    refine ⟨h1, ?_⟩
    rw [List.foldl_cons]
    rcases relaxT_down hF (key := key) h e he with h3 | h3 <;> rcases h2 with h4 | h4
    · left; omega
    · left; rw [h4]; exact h3
    · left; rw [h3] at h4; rw [h3]; exact h4
    · right; rw [h4, h3]
theorem nextT_down {N : Nat} {F : Nat → List (Nat × Nat)} (hF : LinkOk N F) {st : Te} (h : TeOk N st) (hl : 0 < st.l.length) : TeOk N (nextT F st) ∧ ((nextT F st).d.sum < st.d.sum ∨ ((nextT F st).d = st.d ∧ (nextT F st).l.length + 1 = st.l.length)) := by
  have hp := popF_perm st.l hl
  obtain ⟨h1, h2⟩ := foldT_down hF (key := (atE st.l 0).2) (F (atE st.l 0).1) ⟨st.d, popF st.l⟩ (popT_ok h hl) (fun e he => he)
  refine ⟨h1, ?_⟩
  rcases h2 with h2 | h2
  · exact Or.inl h2
  · right
    unfold nextT
    rw [h2]
    refine ⟨rfl, ?_⟩
    have := hp.length_eq
    simpa using this

/-- A spread's turns, up to its end. -/
inductive TRuns (F : Nat → List (Nat × Nat)) : Nat → Te → Te → Prop
  | done (st : Te) (h : st.l = []) : TRuns F 0 st st
  | turn (n : Nat) (st fin : Te) (h : 0 < st.l.length) (r : TRuns F n (nextT F st) fin) : TRuns F (n + 1) st fin

theorem truns_end {N : Nat} {F : Nat → List (Nat × Nat)} (hF : LinkOk N F) : ∀ (m : Nat) (st : Te), TeOk N st → st.d.sum * (N + 1) + st.l.length ≤ m → ∃ n fin, TRuns F n st fin := by
  intro m
  induction m with
  | zero =>
    intro st h hm
    exact ⟨0, st, TRuns.done st (List.eq_nil_of_length_eq_zero (by omega))⟩
  | succ m ih =>
    intro st h hm
    by_cases hl : 0 < st.l.length
    · obtain ⟨h1, h2⟩ := nextT_down hF h hl
      have hf := h1.se.few
      have : (nextT F st).d.sum * (N + 1) + (nextT F st).l.length ≤ m := by
        simp only at hf
        rcases h2 with h2 | ⟨h2, h3⟩
        · have : ((nextT F st).d.sum + 1) * (N + 1) ≤ st.d.sum * (N + 1) := Nat.mul_le_mul_right _ h2
          rw [Nat.add_mul] at this
          omega
        · rw [h2]; omega
      obtain ⟨n, fin, hr⟩ := ih _ h1 this
      exact ⟨n + 1, fin, TRuns.turn n st fin hl hr⟩
    · exact ⟨0, st, TRuns.done st (List.eq_nil_of_length_eq_zero (by omega))⟩

theorem truns_inv {N : Nat} {F : Nat → List (Nat × Nat)} (hF : LinkOk N F) {s v0 n : Nat} {st fin : Te} (hr : TRuns F n st fin) (h : LInv N F s v0 [] st) : LInv N F s v0 [] fin ∧ fin.l = [] := by
  induction hr with
  | done st hl => exact ⟨h, hl⟩
  | turn n st fin hl _ ih => exact ih (nextT_inv hF h hl)

/-- Least lengths over links from s to each vertex. -/
structure LSol (N : Nat) (F : Nat → List (Nat × Nat)) (s : Nat) (d : List Nat) : Prop where
  len : d.length = N
  lt : ∀ u, d.getD u 0 < 18446744073709551616
  rch : ∀ u, u < N → d.getD u 0 = infN ∨ LRch F s u (d.getD u 0)
  low : ∀ u x, u < N → LRch F s u x → d.getD u 0 ≤ x
theorem LRch.inN {N : Nat} {F : Nat → List (Nat × Nat)} (hF : LinkOk N F) {s u x : Nat} (hs : s < N) (h : LRch F s u x) : u < N := by
  cases h with
  | start => exact hs
  | link v x e he h => exact hF.tgt v e he
theorem LInv.sol {N : Nat} {F : Nat → List (Nat × Nat)} (hF : LinkOk N F) {s v0 : Nat} (hs : s < N) {st : Te} (h : LInv N F s v0 [] st) (hl : st.l = []) : LSol N F s st.d := by
  obtain ⟨h1, _, _, h4⟩ := (teOk_iff N st).1 h.ok
  refine ⟨h1, h4, h.rch, fun u x hu hr => ?_⟩
  induction hr with
  | start => rw [h.zero]; exact Nat.zero_le _
  | link v x e he hr ih =>
    have hv := hr.inN hF hs
    rcases h.rel v hv e he with ⟨f, hf, _⟩ | h5 | ⟨_, h6⟩
    · rw [hl] at hf; cases hf
    · exact Nat.le_trans h5 (addD_mono _ (ih hv))
    · cases h6

theorem startT_ok {N s : Nat} (hs : s < N) : TeOk N ⟨(List.replicate N infN).set s 0, lowF [] s 0⟩ := by
  have h := start_ok hs
  obtain ⟨h1, _, h3, h4, h5⟩ := (seOk_iff N _).1 h
  exact (teOk_iff N _).2 ⟨h1, h3, h4, h5⟩
theorem startT_inv {N : Nat} {F : Nat → List (Nat × Nat)} (hF : LinkOk N F) {s : Nat} (hs : s < N) : LInv N F s s [] ⟨(List.replicate N infN).set s 0, lowF [] s 0⟩ := by
  have hp := lowF_perm [] s 0 (by simp)
  have hsl : s < (List.replicate N infN).length := by simpa using hs
  refine ⟨startT_ok hs, ?_, fun u hu => ?_, fun v hv e he => ?_⟩
  · show ((List.replicate N infN).set s 0).getD s 0 = 0
    rw [set_getD _ _ _ _ hsl, if_pos rfl]
  · show ((List.replicate N infN).set s 0).getD u 0 = infN ∨ LRch F s u (((List.replicate N infN).set s 0).getD u 0)
    rw [set_getD _ _ _ _ hsl]
    split
    · rename_i q; subst q; exact Or.inr LRch.start
    · left; simp [List.getD_eq_getElem?_getD, hu]
  · show (∃ f ∈ lowF [] s 0, _) ∨ ((List.replicate N infN).set s 0).getD _ 0 ≤ addD (((List.replicate N infN).set s 0).getD _ 0) _ ∨ _
    by_cases q : v = s
    · exact Or.inl ⟨(s, 0), hp.mem_iff.2 List.mem_cons_self, q.symm⟩
    · right; left
      rw [set_getD _ _ _ _ hsl, set_getD _ _ _ _ hsl, if_neg q]
      have e1 : (List.replicate N infN).getD v 0 = infN := by rw [List.getD_eq_getElem?_getD, List.getElem?_replicate, if_pos hv]; rfl
      have e2 : ∀ u, (List.replicate N infN).getD u 0 ≤ infN := fun u => by
        rw [List.getD_eq_getElem?_getD]
        by_cases hu : u < N
        · simp [hu]
        · simp [hu]
      have h3 := addD_ge infN e.2 (by unfold infN; omega)
      rw [e1]
      split
      · exact Nat.zero_le _
      · exact Nat.le_trans (e2 _) h3

/-- There are least lengths. -/
theorem lsol_any {N : Nat} {F : Nat → List (Nat × Nat)} (hF : LinkOk N F) (s : Nat) (hs : s < N) : ∃ n fin, TRuns F n ⟨(List.replicate N infN).set s 0, lowF [] s 0⟩ fin ∧ LSol N F s fin.d := by
  obtain ⟨n, fin, hr⟩ := truns_end hF _ _ (startT_ok hs) (Nat.le_refl _)
  obtain ⟨h1, h2⟩ := truns_inv hF hr (startT_inv hF hs)
  exact ⟨n, fin, hr, h1.sol hF hs h2⟩

end Go.Proofs.YtjddimoeodecgaaGreat

/- A map of rows of links in memory. -/
namespace Go.Proofs.YtjddimoeodecgaaGreat
open Go.RowKit Go.Lib Go.Maps
set_option linter.unusedVariables false
set_option maxRecDepth 100000

/-- Where a row of links lies: its block, its length, its room. -/
abbrev Hdr := Nat × Nat × Nat
def hV : Option Hdr → Value
  | none => .slice none 0 0
  | some x => .slice (some ⟨x.1, 0, none⟩) x.2.1 x.2.2
def hD : Option Hdr → DataW Unit
  | none => .nil
  | some x => .slice [iD (x.1 : Int), iD (x.2.1 : Int), iD (x.2.2 : Int)] []
theorem hV_inj {a b : Option Hdr} (h : hV a = hV b) : a = b := by
  cases a with
  | none => cases b with
    | none => rfl
    | some y => simp [hV] at h
  | some x => cases b with
    | none => simp [hV] at h
    | some y =>
      simp only [hV, Value.slice.injEq, Option.some.injEq, Addr.mk.injEq] at h
      obtain ⟨⟨h1, _⟩, h2, h3⟩ := h
      congr 1
      exact Prod.ext h1 (Prod.ext h2 h3)
theorem hD_inj {a b : Option Hdr} (h : hD a = hD b) : a = b := by
  cases a with
  | none => cases b with
    | none => rfl
    | some y => simp [hD] at h
  | some x => cases b with
    | none => simp [hD] at h
    | some y =>
      simp only [hD, iD, DataW.slice.injEq, List.cons.injEq, DataW.lit.injEq, Lit.int.injEq, true_and, and_true] at h
      obtain ⟨h1, h2, h3⟩ := h
      congr 1
      exact Prod.ext (by omega) (Prod.ext (by omega) (by omega))
open Classical in
noncomputable def sR (v : Value) : Option (DataW Unit × List MemPlace) := if h : ∃ o, v = hV o then some (hD (Classical.choose h), []) else none
theorem sR_hV (o : Option Hdr) : sR (hV o) = some (hD o, []) := by
  have hx : ∃ o', hV o = hV o' := ⟨o, rfl⟩
  unfold sR
  rw [dif_pos hx, ← hV_inj (Classical.choose_spec hx)]
theorem sR_inv {v : Value} {z : DataW Unit × List MemPlace} (h : sR v = some z) : ∃ o, v = hV o ∧ z = (hD o, []) := by
  unfold sR at h
  split at h
  · rename_i hx
    exact ⟨_, Classical.choose_spec hx, (Option.some.inj h).symm⟩
  · cases h
theorem zeroS (w : World) : (zeroValue 121).run Tryz.prog w = .ok (hV none) w := by kernel_rfl

/-- Block b of w is a map of at most n entries, rows by numbers. -/
def IsMapS (w : World) (b n : Nat) (m : Int → Option Hdr) : Prop :=
  ∃ D : DataW Unit, w.ownsMap Tryz.prog 3 sR b n D ∧ ∀ k, D.atKey (.int .i64 k) .nil = hD (m k)

section
variable {w : World} {b n : Nat} {m : Int → Option Hdr}
theorem IsMapS.lt (h : IsMapS w b n m) : b < w.heap.size := by obtain ⟨D, h1, _⟩ := h; exact h1.lt
theorem IsMapS.kept {w' : World} (h : IsMapS w b n m) (hb : w'.heap[b]? = w.heap[b]?) : IsMapS w' b n m := by
  obtain ⟨D, ⟨es, clock, h1, rest⟩, h2⟩ := h
  exact ⟨D, ⟨es, clock, hb.trans h1, rest⟩, h2⟩
theorem IsMapS.made (w : World) : IsMapS (w.alloc (.map #[] 0)) w.heap.size 0 (fun _ => none) :=
  ⟨.map [], World.ownsMap_made w _ _ _, fun k => rfl⟩
theorem IsMapS.look (h : IsMapS w b n m) (s : Int) (hs : (Lit.int .i64 s).wf = true) :
    (Instr.lookup 120 (.map (some b)) (.int .i64 s) false).run Tryz.prog w = .ok (hV (m s)) w := by
  obtain ⟨D, hown, ha⟩ := h
  have hkey := keyOf_int_mk (P := Tryz.prog) (k := 3) Tryz.underlying3 hs
  obtain ⟨v, ps, hrun, hv⟩ := hown.lookup lawInt Tryz.underlying120 (zeroS w) (sR_hV none) hkey
  obtain ⟨o, rfl, hz⟩ := sR_inv hv
  have h1 : D.atKey (.int .i64 s) (hD none) = hD o := congrArg Prod.fst hz
  rw [show hD none = DataW.nil from rfl, ha] at h1
  rw [hrun, hD_inj h1]
theorem IsMapS.put (h : IsMapS w b n m) (hn : n ≤ 1000000000000000) (s : Int) (hs : (Lit.int .i64 s).wf = true) (x : Hdr) :
    ∃ w', (Instr.mapUpdate 120 (.map (some b)) (.int .i64 s) (hV (some x))).run Tryz.prog w = .ok () w' ∧ IsMapS w' b (n + 1) (fun k => if k = s then some x else m k) ∧ w.grownBy w' (some b) := by
  obtain ⟨D, hown, ha⟩ := h
  have hkey := keyOf_int_mk (P := Tryz.prog) (k := 3) Tryz.underlying3 hs
  obtain ⟨w', hrun, h1, h2⟩ := hown.update lawInt Tryz.underlying120 (by unfold maxLen; omega) hkey (sR_hV (some x))
  refine ⟨w', hrun, ⟨_, h1, fun k => ?_⟩, h2⟩
  show _ = hD (if k = s then some x else m k)
  by_cases e : k = s
  · subst e
    rw [if_pos rfl]
    exact atKey_put_same hown.isMap (lawInt.key hkey) _ _
  · rw [if_neg e, atKey_put_other (by simpa using e)]
    exact ha k
end

/-- The links of all vertices, each row in a block of its own from B on. -/
structure LinkAt (w : World) (B b n : Nat) (m : Int → Option Hdr) (F : Nat → List (Nat × Nat)) : Prop where
  map : IsMapS w b n m
  bB : b < B
  row : ∀ v : Nat, w.ownsRow B 123 2 (hV (m (v : Int))) (F v).length (encE (F v))
  apart : ∀ u v : Nat, u ≠ v → ∀ x y, m (u : Int) = some x → m (v : Int) = some y → x.1 ≠ y.1

theorem hV_block (o : Option Hdr) : (hV o).ownBlock = o.map (·.1) := by cases o <;> rfl

section
variable {w : World} {B b n : Nat} {m : Int → Option Hdr} {F : Nat → List (Nat × Nat)}
theorem LinkAt.made (w : World) : LinkAt (w.alloc (.map #[] 0)) (w.heap.size + 1) w.heap.size 0 (fun _ => none) (fun _ => []) :=
  ⟨IsMapS.made w, by omega, fun v => World.ownsRow_nil _ _ _ _, fun u v _ x y h => by cases h⟩
theorem LinkAt.below {w' : World} (h : LinkAt w B b n m F) (hb : Below w.heap.size w w') : LinkAt w' B b n m F :=
  ⟨h.map.kept (hb.block b h.map.lt), h.bB, fun v => own_below (h.row v) hb, h.apart⟩
theorem LinkAt.look (h : LinkAt w B b n m F) (v : Nat) (hv : v < 1000000) : (Instr.lookup 120 (.map (some b)) (.int .i64 (v : Int)) false).run Tryz.prog w = .ok (hV (m (v : Int))) w :=
  h.map.look _ (wf_i (by omega) (by omega))
/-- The cells of a row of links. -/
theorem LinkAt.cells (h : LinkAt w B b n m F) (v : Nat) : ∃ A c, hV (m (v : Int)) = .slice A (F v).length c ∧ ∀ j, j < (F v).length → ∃ g, A = some ⟨g, 0, none⟩ ∧ w.cell? ⟨g, j * 2, none⟩ = some (.int .i64 (atE (F v) j).1) ∧ w.cell? ⟨g, j * 2 + 1, none⟩ = some (.int .u64 (atE (F v) j).2) := by
  have hr := h.row v
  rcases hr.2 with ⟨h1, h0⟩ | ⟨g, cap, cur, h1, _⟩
  · exact ⟨none, 0, by rw [h1, h0], fun j hj => by omega⟩
  · refine ⟨some ⟨g, 0, none⟩, cap, h1, fun j hj => ⟨g, rfl, ?_, ?_⟩⟩
    · have h2 := hr.cells (g := g) (by rw [h1]; rfl) (2 * j) _ (encE_at (F v) j hj).1
      have e : (⟨g, 0, none⟩ : Addr).add (2 * j) = ⟨g, j * 2, none⟩ := by unfold Addr.add; split <;> simp_all [Nat.mul_comm]
      rw [e] at h2
      exact h2
    · have h2 := hr.cells (g := g) (by rw [h1]; rfl) (2 * j + 1) _ (encE_at (F v) j hj).2
      have e : (⟨g, 0, none⟩ : Addr).add (2 * j + 1) = ⟨g, j * 2 + 1, none⟩ := by unfold Addr.add; split <;> simp_all [Nat.mul_comm]
      rw [e] at h2
      exact h2

/-- One link more at vertex v. -/
def putF (F : Nat → List (Nat × Nat)) (v : Nat) (e : Nat × Nat) : Nat → List (Nat × Nat) := fun u => if u = v then F v ++ [e] else F u
def putM (m : Int → Option Hdr) (v : Nat) (x : Hdr) : Int → Option Hdr := fun k => if k = (v : Int) then some x else m k

/-- 'links[v] = append(links[v], e)': what the append left is put into the map. -/
theorem LinkAt.put {w2 : World} (h : LinkAt w B b n m F) (hB : B ≤ w.heap.size) (hn : n ≤ 1000000000000000) (v : Nat) (hv : v < 1000000) (e : Nat × Nat) (s' : Value) (hg : w.grownBy w2 (hV (m (v : Int))).ownBlock)
    (hown : w2.ownsRow B 123 2 s' ((F v).length + 1) (encE (F v) ++ [.int .i64 e.1, .int .u64 e.2])) (hat : s'.ownBlock = (hV (m (v : Int))).ownBlock ∨ ∃ g, s'.ownBlock = some g ∧ w.heap.size ≤ g) :
    ∃ x w3, s' = hV (some x) ∧ (∀ P : Nat → Prop, (∀ (u : Nat) y, m (u : Int) = some y → P y.1) → (∀ g, w.heap.size ≤ g → P g) → ∀ (u : Nat) y, putM m v x (u : Int) = some y → P y.1) ∧ (Instr.mapUpdate 120 (.map (some b)) (.int .i64 (v : Int)) s').run Tryz.prog w2 = .ok () w3 ∧ LinkAt w3 B b (n + 1) (putM m v x) (putF F v e) ∧ w2.grownBy w3 (some b) := by
  obtain ⟨x, rfl⟩ : ∃ x : Hdr, s' = hV (some x) := by
    rcases hown.2 with ⟨_, h0⟩ | ⟨g, cap, cur, h1, _⟩
    · omega
    · exact ⟨(g, (F v).length + 1, cap), h1⟩
  have hbl := h.map.lt
  have hbw : w2.heap[b]? = w.heap[b]? := hg.block b hbl (fun q => by
    have := ((h.row v).lt b (by rw [← q])).1
    have := h.bB
    omega)
  obtain ⟨w3, hrun, hm3, hg3⟩ := (h.map.kept hbw).put hn (v : Int) (wf_i (by omega) (by omega)) x
  refine ⟨x, w3, rfl, fun P h1 h2 u y hy => ?_, hrun, ⟨hm3, h.bB, fun u => ?_, fun u u' hne y y' hy hy' => ?_⟩, hg3⟩
  · unfold putM at hy
    by_cases q : (u : Int) = (v : Int)
    · rw [if_pos q] at hy
      cases hy
      rcases hat with h3 | ⟨g, h3, h4⟩
      · rw [hV_block, hV_block] at h3
        cases hmv : m (v : Int) with
        | none => rw [hmv] at h3; cases h3
        | some z =>
          rw [hmv] at h3
          have h5 : x.1 = z.1 := by simpa using h3
          rw [h5]
          exact h1 _ z hmv
      · rw [hV_block] at h3
        have h5 : x.1 = g := by simpa using h3
        rw [h5]
        exact h2 g h4
    · rw [if_neg q] at hy
      exact h1 u y hy
  · by_cases q : u = v
    · subst q
      have e1 : putM m u x (u : Int) = some x := by unfold putM; rw [if_pos rfl]
      have e2 : putF F u e u = F u ++ [e] := by unfold putF; rw [if_pos rfl]
      have e3 : (F u ++ [e]).length = (F u).length + 1 := by simp
      have e4 : encE (F u ++ [e]) = encE (F u) ++ [.int .i64 e.1, .int .u64 e.2] := by rw [encE_app]; rfl
      rw [e1, e2, e3, e4]
      refine hown.kept hg3 (Or.inr (fun q => ?_))
      have := (hown.lt b q).1
      have := h.bB
      omega
    · have e1 : putM m v x (u : Int) = m (u : Int) := by unfold putM; rw [if_neg (by omega)]
      have e2 : putF F v e u = F u := by unfold putF; rw [if_neg q]
      rw [e1, e2]
      have hu := h.row u
      have h2 : w2.ownsRow B 123 2 (hV (m (u : Int))) (F u).length (encE (F u)) := hu.kept hg (by
        cases hmu : m (u : Int) with
        | none => exact Or.inl rfl
        | some y =>
          right
          rw [hV_block, hV_block]
          cases hmv : m (v : Int) with
          | none => simp
          | some z =>
            have := h.apart u v q y z hmu hmv
            simpa using this)
      refine h2.kept hg3 ?_
      by_cases q3 : (hV (m (u : Int))).ownBlock = some b
      · have := (h2.lt b q3).1
        have := h.bB
        omega
      · exact Or.inr q3
  · have hold : ∀ (u : Nat) (y : Hdr), u ≠ v → m (u : Int) = some y → y.1 ≠ x.1 := fun u y q hy => by
      have hyb : y.1 < w.heap.size := by
        have := (h.row u).lt y.1 (by rw [hy]; rfl)
        exact this.2
      rcases hat with h1 | ⟨g, h1, h2⟩
      · rw [hV_block, hV_block] at h1
        cases hmv : m (v : Int) with
        | none => rw [hmv] at h1; cases h1
        | some z =>
          rw [hmv] at h1
          have h3 : x.1 = z.1 := by simpa using h1
          rw [h3]
          exact h.apart u v q y z hy hmv
      · rw [hV_block] at h1
        have h3 : x.1 = g := by simpa using h1
        omega
    unfold putM at hy hy'
    by_cases q : u = v
    · subst q
      rw [if_pos rfl] at hy
      cases hy
      rw [if_neg (by omega)] at hy'
      exact (hold u' y' (fun z => hne z.symm) hy').symm
    · rw [if_neg (by omega)] at hy
      by_cases q' : u' = v
      · subst q'
        rw [if_pos rfl] at hy'
        cases hy'
        exact hold u y q hy
      · rw [if_neg (by omega)] at hy'
        exact h.apart u u' hne y y' hy hy'
end
end Go.Proofs.YtjddimoeodecgaaGreat

/- clique.spread. -/
namespace Go.Proofs.YtjddimoeodecgaaGreat
open Go.RowKit Go.Lib Go.Maps Go.Proofs.YtjddimoeodecgaaGreatW.PrintWords Go.Proofs.YtjddimoeodecgaaGreatW.PrintLast Go.Proofs.YtjddimoeodecgaaGreatW.PrintMore
set_option linter.unusedVariables false
set_option maxRecDepth 100000

theorem drow_set {w : World} {db : Nat} {ds : List Nat} (i x : Nat) (h : w.heap[db]? = some (.cells (ds.map (fun x : Nat => Value.int .u64 (x : Int))).toArray 43 (0, 0))) : (w.setCell ⟨db, i, none⟩ (.int .u64 (x : Int))).heap[db]? = some (.cells ((ds.set i x).map (fun x : Nat => Value.int .u64 (x : Int))).toArray 43 (0, 0)) := by
  have := heap_setCell_same w db i _ _ (.int .u64 (x : Int)) h
  rw [this]
  congr 2
  simp [List.map_set]

/-- A spread in memory. -/
structure SpAt (w0 : World) (K db hp T ab N : Nat) (w : World) (v : Value) (st : Te) : Prop where
  drow : w.heap[db]? = some (.cells (st.d.map (fun x : Nat => Value.int .u64 (x : Int))).toArray 43 (0, 0))
  heap : IsHeap w K hp T ab v st.l N
  ok : TeOk N st
  lt : db < K
  bs : w0.heap.size ≤ db
  below : Below w0.heap.size w0 w

section
variable {w0 w w' : World} {K db hp T ab N : Nat} {v v' : Value} {st st' : Te}
theorem SpAt.dlen (h : SpAt w0 K db hp T ab N w v st) : st.d.length = N := ((teOk_iff N st).1 h.ok).1
theorem SpAt.cD (h : SpAt w0 K db hp T ab N w v st) (i : Nat) (hi : i < N) : w.cell? ⟨db, i, none⟩ = some (.int .u64 (st.d.getD i 0 : Nat)) := by
  have : i < st.d.length := by rw [h.dlen]; exact hi
  simp [World.cell?, h.drow, this]
theorem SpAt.fD (h : SpAt w0 K db hp T ab N w v st) (i : Nat) : w.frozen? ⟨db, i, none⟩ = false := by simp [World.frozen?, h.drow]
theorem SpAt.moved (h : SpAt w0 K db hp T ab N w v st) (hb : Below w.heap.size w w') : SpAt w0 K db hp T ab N w' v st :=
  ⟨(hb.block db (lt_of_block h.drow)).trans h.drow, h.heap.below hb, h.ok, h.lt, h.bs, h.below.trans (hb.mono h.below.size)⟩
theorem SpAt.turned (h : SpAt w0 K db hp T ab N w v st) {l' : List Ent} (hh : IsHeap w' K hp T ab v' l' N) (ht : HTurn T ab v w w' v') (ok : TeOk N ⟨st.d, l'⟩) : SpAt w0 K db hp T ab N w' v' ⟨st.d, l'⟩ := by
  have h1 := h.heap.tree.bT
  have h2 := h.heap.tree.bA
  have h3 := h.lt
  have h4 := h.bs
  have h5 : ∀ k, k < K → v.ownBlock ≠ some k := fun k hk e => by
    have := (h.heap.tree.ltV k e).1
    omega
  refine ⟨(ht.block db (lt_of_block h.drow) (by omega) (by omega) (h5 db h3)).trans h.drow, hh, ok, h.lt, h.bs, h.below.trans ⟨ht.os, ht.tape, ht.output, ht.size, fun k hk => ?_⟩⟩
  have := h.below.size
  exact ht.block k (by omega) (by omega) (by omega) (h5 k (by omega))
theorem SpAt.setD (h : SpAt w0 K db hp T ab N w v st) (i x : Nat) : (w.setCell ⟨db, i, none⟩ (.int .u64 (x : Int))).heap[db]? = some (.cells ((st.d.set i x).map (fun x : Nat => Value.int .u64 (x : Int))).toArray 43 (0, 0)) ∧ IsHeap (w.setCell ⟨db, i, none⟩ (.int .u64 (x : Int))) K hp T ab v st.l N ∧ Below w0.heap.size w0 (w.setCell ⟨db, i, none⟩ (.int .u64 (x : Int))) := by
  have e : ∀ k, K ≤ k → (w.setCell ⟨db, i, none⟩ (.int .u64 (x : Int))).heap[k]? = w.heap[k]? := fun k hk => heap_setCell_other w ⟨db, i, none⟩ k _ (by show k ≠ db; have := h.lt; omega)
  refine ⟨?_, h.heap.kept (e hp h.heap.bh) (e T h.heap.tree.bT) (e ab h.heap.tree.bA) (fun k hk => e k (h.heap.tree.ltV k hk).1), h.below.setCell (by show w0.heap.size ≤ db; exact h.bs) _⟩
  have := heap_setCell_same w db i _ _ (.int .u64 (x : Int)) h.drow
  rw [this]
  congr 2
  simp [List.map_set]
end

theorem wpList_slook {w : World} {ops : Array Oper} {rest : List Oper} {o : Oper} {a : Act} {Q : Exit → Act → World → Prop} {b : Nat} (hg : o.guard = none) (m x : Operand) (hop : o.op = Op.lookup 120 m x false)
    (hm : a.eval m = .map (some b)) (s : Int) (hx : a.eval x = .int .i64 s) (r : Value) (hrun : (Instr.lookup 120 (.map (some b)) (.int .i64 s) false).run Tryz.prog w = .ok r w)
    (hK : wpList Tryz.prog ops Q rest (a.put o.dst r) w) : wpList Tryz.prog ops Q (o :: rest) a w := by
  refine wpList_plain hg fun K' hK' => ?_
  unfold Oper.wp
  simp [execOp, hop, hm, hx, hrun, Result.andThen]
  exact hK' _ _ hK

set_option maxHeartbeats 4000000 in
theorem spread_any (N : Nat) (w : World) {B b nn : Nat} {m : Int → Option Hdr} {F : Nat → List (Nat × Nat)} (hL : LinkAt w B b nn m F) (hF : LinkOk N F) (hn1 : 1 ≤ N) (hn2 : N ≤ 1024) (hlen : ∀ v, (F v).length ≤ 1000000000000) (s : Nat) (hs : s < N) :
    Calls Tryz.prog 80 #[.int .i64 N, .map (some b), .int .i64 s] w fun e w' => ∃ d q, e = .returned (.slice (some ⟨q, 0, none⟩) N N) ∧ LSol N F s d ∧ w.heap.size ≤ q ∧ w'.heap[q]? = some (.cells (d.map (fun x : Nat => Value.int .u64 (x : Int))).toArray 43 (0, 0)) ∧ Below w.heap.size w w' := by
  obtain ⟨n, fin, hruns, hsol⟩ := lsol_any hF s hs
  have HL := Lib.hid hL
  have HF := Lib.hid hF
  have HLEN := Lib.hid hlen
  have HSOL := Lib.hid hsol
  have HRUNS := Lib.hid hruns
  clear hL hF hlen hsol hruns
  go_enter Tryz.func80, Tryz.ntmps80
  go_upto_region 2 with (go_at_call 102; go_loud ((with_reducible refine (repeat_dist (.int .u64 18446744073709551615) rfl _ N _ ?hrr ?hrl hn1 (by omega)).mono ?_); (case hrl => simp); (case hrr => simp); rintro e w1 ⟨db, rfl, hq1, hrow1, hb1⟩; have HQ1 := Lib.hid hq1; have HROW1 := Lib.hid hrow1; have HB1 := Lib.hid hb1; clear hq1 hrow1 hb1))
  have hdb : w.heap.size ≤ db := by have := HQ1.out; simp only [World.size_alloc] at this; omega
  have hbw1 : Below w.heap.size w w1 := ((Below.refl _ w).alloc (Nat.le_refl _) _).trans (HB1.out.mono (by simp))
  have hrow1 : w1.heap[db]? = some (.cells ((List.replicate N infN).map (fun x : Nat => Value.int .u64 (x : Int))).toArray 43 (0, 0)) := by
    rw [HROW1.out]
    simp [infN]
  have HBW1 := Lib.hid hbw1
  have HROWX := Lib.hid hrow1
  clear hbw1 hrow1 HQ1 HROW1 HB1
  go_upto_region 3 with (go_at_call 104; go_loud ((with_reducible refine (new_any N _ hn1 (by omega)).mono ?_); rintro e w2 ⟨hp, T, ab, rfl, hh2, hb2⟩; have HH2 := Lib.hid hh2; have HB2 := Lib.hid hb2; clear hh2 hb2))
  have hdl : db < w1.heap.size := lt_of_block HROWX.out
  have hrow2 := (HB2.out.block db hdl).trans HROWX.out
  have hbw2 : Below w.heap.size w w2 := HBW1.out.trans (HB2.out.mono HBW1.out.size)
  have hsN : (s : Int) < (N : Int) := by omega
  have d0 : w2.cell? ⟨db, s, none⟩ = some (.int .u64 (infN : Nat)) := by simp [World.cell?, hrow2, hs]
  have f0 : w2.frozen? ⟨db, s, none⟩ = false := by simp [World.frozen?, hrow2]
  have hfar : IsHeap (w2.setCell ⟨db, s, none⟩ (.int .u64 (0 : Int))) w1.heap.size hp T ab (.slice none 0 0) [] N := by
    have e : ∀ k, w1.heap.size ≤ k → (w2.setCell ⟨db, s, none⟩ (.int .u64 (0 : Int))).heap[k]? = w2.heap[k]? := fun k hk => heap_setCell_other w2 ⟨db, s, none⟩ k _ (by show k ≠ db; omega)
    have hh := HH2.out
    exact hh.kept (e hp hh.bh) (e T hh.tree.bT) (e ab hh.tree.bA) (fun k hk => by cases hk)
  have hrow3 : (w2.setCell ⟨db, s, none⟩ (.int .u64 (0 : Int))).heap[db]? = some (.cells (((List.replicate N infN).set s 0).map (fun x : Nat => Value.int .u64 (x : Int))).toArray 43 (0, 0)) := drow_set s 0 hrow2
  have hbw3 : Below w.heap.size w (w2.setCell ⟨db, s, none⟩ (.int .u64 (0 : Int))) := hbw2.setCell (by show w.heap.size ≤ db; omega) _
  have HFAR := Lib.hid hfar
  have HROW3 := Lib.hid hrow3
  have HBW3 := Lib.hid hbw3
  have HDB := Lib.hid hdb
  clear hfar hrow3 hbw3 hrow2 hbw2 HH2 HB2
  go_upto_region 4 with fail
  clear d0 f0
  generalize (w2.setCell ⟨db, s, none⟩ (.int .u64 (0 : Int))) = w3 at *
  have HLO := Lib.hid (lower_any w1.heap.size hp T ab N (.slice none 0 0) [] s 0 w3 HFAR.out hs (by omega) (by simp) (fun i hi => absurd hi (by simp)) (fun _ => by simp))
  go_wp2_with (go_at_call 105; go_loud (refine HLO.out.mono ?_; rintro e w4 ⟨rfl, v4, hh4, ht4⟩; have HH4 := Lib.hid hh4; have HT4 := Lib.hid ht4; clear hh4 ht4))
  clear HLO
  generalize hK : w1.heap.size = K at *
  have HS4 : Hid (SpAt w K db hp T ab N w4 v4 ⟨(List.replicate N infN).set s 0, lowF [] s 0⟩) := Lib.hid (by
    have h1 := HFAR.out.tree.bT
    have h2 := HFAR.out.tree.bA
    have h4 := HDB.out
    refine ⟨(HT4.out.block db (lt_of_block HROW3.out) (by omega) (by omega) (by simp [Value.ownBlock])).trans HROW3.out, HH4.out, startT_ok hs, hdl, h4, HBW3.out.trans ⟨HT4.out.os, HT4.out.tape, HT4.out.output, HT4.out.size, fun k hk => ?_⟩⟩
    have := HBW3.out.size
    exact HT4.out.block k (by omega) (by omega) (by omega) (by simp [Value.ownBlock]))
  clear HFAR HROW3 HBW3 HH4 HT4 HBW1 HROWX
  go_loopg [] (n + 1) (fun gg wr => ∃ (st : Te) (vv : Value) (k : Nat), k + 1 ≤ gg ∧ Hid (TRuns F k st fin) ∧ Hid (SpAt w K db hp T ab N wr vv st))
  case atStart => exact ⟨_, v4, n, Nat.le_refl _, HRUNS, HS4⟩
  case round =>
    obtain ⟨st, vv, k, hk, HRS, HS⟩ := hrel
    have hfew := HS.out.ok.se.few
    simp only at hfew
    have HLN := Lib.hid (hlen_any K hp T ab N vv st.l wr HS.out.heap)
    cases HRS.out with
    | done _ hl0 =>
      have hl00 : fin.l.length = 0 := by rw [hl0]; rfl
      have hgz : ¬ (0 : Int) < ((fin.l.length : Nat) : Int) := by omega
      go_wp2_with (go_at_call 112; (with_reducible refine HLN.out.mono ?_); rintro e w' ⟨rfl, rfl⟩)
      go_ret
      exact ⟨fin.d, db, rfl, HSOL.out, HDB.out, HS.out.drow, HS.out.below⟩
    | turn k st fin hl0 hrs =>
      have HRS2 := Lib.hid hrs
      have hgz : (0 : Int) < ((st.l.length : Nat) : Int) := by omega
      have hv0 : (atE st.l 0).1 < N := HS.out.ok.se.idlt 0 hl0
      have hd0 : (atE st.l 0).2 < 18446744073709551616 := by have h1 := HS.out.ok.se.key _ (atE_mem st.l 0 hl0); rw [h1]; exact HS.out.ok.se.lt _
      have HPOP := Lib.hid (hpop_any K hp T ab N vv st.l wr HS.out.heap hl0 (by omega))
      have HPO := Lib.hid (popT_ok HS.out.ok hl0)
      have HNX : Hid (nextT F st = (F (atE st.l 0).1).foldl (relaxT (atE st.l 0).2) ⟨st.d, popF st.l⟩) := Lib.hid rfl
      generalize (atE st.l 0).1 = v0 at *
      generalize (atE st.l 0).2 = d0 at *
      clear hrs HRS hl0
      go_upto_region 7 with (first
        | (go_at_call 112; (with_reducible refine HLN.out.mono ?_); rintro e w' ⟨rfl, rfl⟩)
        | (go_at_call 113; (with_reducible refine HPOP.out.mono ?_); rintro e w5 ⟨rfl, v5, hh5, ht5⟩; have HH5 := Lib.hid hh5; have HT5 := Lib.hid ht5; clear hh5 ht5))
      have HS5 := Lib.hid (HS.out.turned HH5.out HT5.out HPO.out)
      have hlk := (HL.out.below HS5.out.below).look v0 (by omega)
      obtain ⟨A, rc, hhv, hcell⟩ := HL.out.cells v0
      rw [hhv] at hlk
      have HLK := Lib.hid hlk
      have HCL := Lib.hid hcell
      have hrl := HLEN.out v0
      have HMEM : Hid (∀ j, j < (F v0).length → atE (F v0) j ∈ F v0) := Lib.hid (fun j hj => atE_mem (F v0) j hj)
      have HFOK := HF.out
      have HTO : Hid (∀ e ∈ F v0, e.1 < N ∧ e.2 < 18446744073709551616) := Lib.hid (fun e he => ⟨HFOK.tgt v0 e he, HFOK.lt v0 e he⟩)
      have HREL : Hid (∀ (st : Te) (e : Nat × Nat), e ∈ F v0 → TeOk N st → TeOk N (relaxT d0 st e)) := Lib.hid (fun st e he h => relaxT_ok HFOK h e he)
      clear hlk hhv hcell HFOK HLN HPOP HPO
      generalize hst0 : (⟨st.d, popF st.l⟩ : Te) = st0 at *
      have HST0 := Lib.hid hst0
      clear hst0
      generalize F v0 = row at *
      go_wp2_with (at_lookup; refine wpList_slook rfl _ _ rfl rfl (v0 : Int) rfl _ HLK.out ?_)
      go_loopg [43] row.length (fun gg s43 wr => ∃ (j : Nat) (st : Te) (vv : Value), j ≤ row.length ∧ row.length - j ≤ gg ∧ s43 = .int .i64 (j : Nat) ∧ Hid (st = (row.take j).foldl (relaxT d0) st0) ∧ Hid (SpAt w K db hp T ab N wr vv st))
      case atStart => exact ⟨0, st0, v5, Nat.zero_le _, by omega, rfl, Lib.hid rfl, HS5⟩
      case round =>
        obtain ⟨j, st1, vv1, hj, hgg, rfl, HST, HSA⟩ := hrel
        by_cases hlt : j < row.length
        · have hjz : (j : Int) < (row.length : Int) := by omega
          have hwk : IntKind.i64.wrap ((j : Int) + 1) = ((j + 1 : Nat) : Int) := by rw [IntWalk.i64_in _ (by omega)]; omega
          obtain ⟨g, hA, x0, x1⟩ := HCL.out j hlt
          subst hA
          have a0 := (HSA.out.below.cell (World.block_lt_of_cell? w _ x0)).trans x0
          have a1 := (HSA.out.below.cell (World.block_lt_of_cell? w _ x1)).trans x1
          obtain ⟨hto, hx⟩ := HTO.out _ (HMEM.out j hlt)
          have HSTEP : Hid ((row.take (j + 1)).foldl (relaxT d0) st0 = relaxT d0 st1 (atE row j)) := Lib.hid (by
            rw [List.take_add_one, List.foldl_append, ← HST.out, List.getElem?_eq_getElem hlt]
            have : row[j] = atE row j := by unfold atE; rw [List.getD_eq_getElem?_getD, List.getElem?_eq_getElem hlt]; rfl
            rw [this]
            rfl)
          have HOK1 := Lib.hid (HREL.out st1 _ (HMEM.out j hlt) HSA.out.ok)
          generalize atE row j = e at *
          obtain ⟨tn, x⟩ := e
          simp only at hto hx a0 a1
          have HRX : Hid (relaxT d0 st1 (tn, x) = if addD d0 x < st1.d.getD tn 0 then ⟨st1.d.set tn (addD d0 x), lowF st1.l tn (addD d0 x)⟩ else st1) := Lib.hid rfl
          have HADD := Lib.hid (add_any d0 x hd0 hx)
          have hnn := addD_lt d0 x
          have htz : (tn : Int) < (N : Int) := by omega
          clear x0 x1
          go_upto_region 10 with fail
          have HS6 := Lib.hid (HSA.out.moved ((Below.refl _ wr).alloc (Nat.le_refl _) (.cells #[.int .i64 (tn : Int), .int .u64 (x : Int)] 123)))
          have b0 : (wr.alloc (.cells #[.int .i64 (tn : Int), .int .u64 (x : Int)] 123)).cell? ⟨wr.heap.size, 0, none⟩ = some (.int .i64 (tn : Int)) := by simp
          have b1 : (wr.alloc (.cells #[.int .i64 (tn : Int), .int .u64 (x : Int)] 123)).cell? ⟨wr.heap.size, 1, none⟩ = some (.int .u64 (x : Int)) := by simp
          have hgb : wr.heap.size ≠ db := by have := lt_of_block HSA.out.drow; omega
          generalize (wr.alloc (.cells #[.int .i64 (tn : Int), .int .u64 (x : Int)] 123)) = w6 at *
          generalize wr.heap.size = gb at *
          have du := HS6.out.cD tn hto
          have hduL := HS6.out.ok.se.lt tn
          simp only at hduL
          have HDD : Hid (st1.d.getD tn 0 = st1.d.getD tn 0) := Lib.hid rfl
          generalize addD d0 x = nn at *
          generalize hdq : st1.d.getD tn 0 = dq at *
          have HDQ := Lib.hid hdq
          clear a0 a1 hdq HDD
          by_cases hless : nn < dq
          · have hlz : (nn : Int) < (dq : Int) := by omega
            have HR2 : Hid (relaxT d0 st1 (tn, x) = ⟨st1.d.set tn nn, lowF st1.l tn nn⟩) := Lib.hid (HRX.out.trans (if_pos hless))
            obtain ⟨hd7, hh7, hb7⟩ := HS6.out.setD tn nn
            have HD7 := Lib.hid hd7
            have HH7 := Lib.hid hh7
            have HB7 := Lib.hid hb7
            have ff := HS6.out.fD tn
            have b07 : (w6.setCell ⟨db, tn, none⟩ (.int .u64 (nn : Int))).cell? ⟨gb, 0, none⟩ = some (.int .i64 (tn : Int)) := by rw [World.cell?_setCell_other (h := by first | (simp; done) | (simp; omega))]; exact b0
            clear hd7 hh7 hb7 HRX
            go_upto_region 13 with (go_at_call 25; (with_reducible refine (HADD.out _).mono ?_); rintro e w' ⟨rfl, rfl⟩)
            clear b0 b1 du ff
            generalize (w6.setCell ⟨db, tn, none⟩ (.int .u64 (nn : Int))) = w7 at *
            have hfew1 := HS6.out.ok.se.few
            simp only at hfew1
            have HLO := Lib.hid (lower_any K hp T ab N vv1 st1.l tn nn w7 HH7.out hto hnn (by omega) (fun i hi he => by
              have h1 := HS6.out.ok.se.key _ (atE_mem st1.l i hi)
              simp only at h1
              rw [he, HDQ.out] at h1
              omega) (fun _ => by omega))
            go_wp2_with (go_at_call 105; (with_reducible refine HLO.out.mono ?_); rintro e w8 ⟨rfl, v8, hh8, ht8⟩; have HH8 := Lib.hid hh8; have HT8 := Lib.hid ht8; clear hh8 ht8)
            have HWK := Lib.hid hwk
            clear hwk
            go_roundg (row.length - (j + 1))
            case measure => omega
            case rel =>
              refine ⟨j + 1, ⟨st1.d.set tn nn, lowF st1.l tn nn⟩, v8, by omega, Nat.le_refl _, rfl, Lib.hid ?_, Lib.hid ?_⟩
              · rw [HSTEP.out, HR2.out]
              · have hok := HOK1.out
                rw [HR2.out] at hok
                have h1 := HH7.out.tree.bT
                have h2 := HH7.out.tree.bA
                have h3 := HS6.out.lt
                have h4 := HS6.out.bs
                have h5 : ∀ k, k < K → vv1.ownBlock ≠ some k := fun k hk q => by
                  have := (HH7.out.tree.ltV k q).1
                  omega
                refine ⟨(HT8.out.block db (lt_of_block HD7.out) (by omega) (by omega) (h5 db h3)).trans HD7.out, HH8.out, hok, h3, h4, HB7.out.trans ⟨HT8.out.os, HT8.out.tape, HT8.out.output, HT8.out.size, fun k hk => ?_⟩⟩
                have := HB7.out.size
                exact HT8.out.block k (by omega) (by omega) (by omega) (h5 k (by omega))
          · have hlz : ¬ (nn : Int) < (dq : Int) := by omega
            have HR2 : Hid (relaxT d0 st1 (tn, x) = st1) := Lib.hid (HRX.out.trans (if_neg hless))
            clear HRX
            go_wp2_with (go_at_call 25; (with_reducible refine (HADD.out _).mono ?_); rintro e w' ⟨rfl, rfl⟩)
            have HWK := Lib.hid hwk
            clear hwk
            go_roundg (row.length - (j + 1))
            case measure => omega
            case rel => exact ⟨j + 1, st1, vv1, by omega, Nat.le_refl _, rfl, Lib.hid (by rw [HSTEP.out, HR2.out]), HS6⟩
        · have : j = row.length := by omega
          subst this
          have hkz : ¬ (row.length : Int) < (row.length : Int) := by omega
          go_wp2_with fail
          go_roundg (k + 1)
          case measure => omega
          case rel =>
            refine ⟨st1, vv1, k, Nat.le_refl _, Lib.hid ?_, HSA⟩
            have h1 := HST.out
            rw [List.take_length, ← HNX.out] at h1
            rw [h1]
            exact HRS2.out

end Go.Proofs.YtjddimoeodecgaaGreat
