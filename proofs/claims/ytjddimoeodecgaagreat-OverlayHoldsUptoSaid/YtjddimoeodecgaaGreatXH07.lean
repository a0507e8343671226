/- clique.Whole. -/
import Derived.Test.YtjddimoeodecgaaGreatXG12
import Derived.Maps.AppendAt
import Derived.Test.YtjddimoeodecgaaGreatXH05
import Derived.Test.YtjddimoeodecgaaGreatXH04
import Derived.Test.YtjddimoeodecgaaGreatXH01
import Derived.Test.YtjddimoeodecgaaGreatXG09
import Derived.Test.YtjddimoeodecgaaGreatXQx3
import Derived.WalkKit
import Derived.ProofKit
import Derived.OpenShut
import Derived.ShutString
import Derived.ChangeOld
import Derived.Below
import Derived.SizedLaws
import Derived.Lib.SmallJoins
import Derived.Carry
import Derived.ChangeSlices
import Derived.Deep.Slices
import Derived.Deep.Fields
namespace Go.Proofs.YtjddimoeodecgaaGreat
open Go.RowKit Go.Lib Go.Sort Go.Proofs.YtjddimoeodecgaaGreatW.PrintWords Go.Proofs.YtjddimoeodecgaaGreatW.PrintLast Go.Proofs.YtjddimoeodecgaaGreatW.PrintMore
set_option linter.unusedVariables false
set_option maxRecDepth 100000

end Go.Proofs.YtjddimoeodecgaaGreat

/- The law's own leveled: the right matrices of a level's cells. -/
namespace Go.Proofs.YtjddimoeodecgaaGreat
open Go.RowKit Go.Lib Go.Maps Go.Proofs.YtjddimoeodecgaaGreatW.PrintWords Go.Proofs.YtjddimoeodecgaaGreatW.PrintLast Go.Proofs.YtjddimoeodecgaaGreatW.PrintMore
set_option linter.unusedVariables false
set_option maxRecDepth 100000

def encM (ps : List (Mat × Value)) : List Value := ps.flatMap fun p => [.int .i64 p.1.lv, .int .i64 p.1.c, .int .i64 p.1.ep, p.2]
def zP : Mat × Value := (zMat, .slice none 0 0)
theorem encM_app (ps qs : List (Mat × Value)) : encM (ps ++ qs) = encM ps ++ encM qs := by simp [encM]
theorem encM_at : ∀ (ps : List (Mat × Value)) (i : Nat), i < ps.length → (encM ps)[i * 4]? = some (.int .i64 (ps.getD i zP).1.lv) ∧ (encM ps)[i * 4 + 1]? = some (.int .i64 (ps.getD i zP).1.c) ∧ (encM ps)[i * 4 + 2]? = some (.int .i64 (ps.getD i zP).1.ep) ∧ (encM ps)[i * 4 + 3]? = some (ps.getD i zP).2
  | [], i, h => absurd h (by simp)
  | p :: ps, 0, h => ⟨rfl, rfl, rfl, rfl⟩
  | p :: ps, i + 1, h => by
    have ih := encM_at ps i (by simpa using h)
    have e : ∀ k, (encM (p :: ps))[(i + 1) * 4 + k]? = (encM ps)[i * 4 + k]? := fun k => by
      have : (i + 1) * 4 + k = (i * 4 + k) + 1 + 1 + 1 + 1 := by omega
      rw [this]
      show (_ :: _ :: _ :: _ :: encM ps)[_]? = _
      simp
    have e0 := e 0
    rw [Nat.add_zero, Nat.add_zero] at e0
    rw [e0, e 1, e 2, e 3]
    exact ih

/-- A row of matrices of the call's own. -/
structure Mrow (w : World) (B : Nat) (v : Value) (ps : List (Mat × Value)) : Prop where
  row : w.ownsRow B 37 4 v ps.length (encM ps)
  mats : ∀ p ∈ ps, w.ownsRow B 43 1 p.2 p.1.D.length (u64s p.1.D)
  apart : ∀ p ∈ ps, p.2.ownBlock = none ∨ p.2.ownBlock ≠ v.ownBlock
theorem Mrow.below {w w' : World} {B : Nat} {v : Value} {ps : List (Mat × Value)} (h : Mrow w B v ps) (hb : Below w.heap.size w w') : Mrow w' B v ps := ⟨own_below h.row hb, fun p hp => own_below (h.mats p hp) hb, h.apart⟩
theorem Mrow.lower {w : World} {B B' : Nat} {v : Value} {ps : List (Mat × Value)} (h : Mrow w B v ps) (hB : B' ≤ B) : Mrow w B' v ps := ⟨own_lower h.row hB, fun p hp => own_lower (h.mats p hp) hB, h.apart⟩
theorem Mrow.nil (w : World) (B : Nat) : Mrow w B (.slice none 0 0) [] := ⟨World.ownsRow_nil _ _ _ _, fun p hp => (by cases hp), fun p hp => (by cases hp)⟩
theorem u64s_at {w : World} {B : Nat} {v : Value} {D : List Nat} {P : Option Addr} {n c : Nat} (h : w.ownsRow B 43 1 v D.length (u64s D)) (hv : v = .slice P n c) : n = D.length ∧ ∀ j, j < D.length → ∃ gd, P = some ⟨gd, 0, none⟩ ∧ w.cell? ⟨gd, j, none⟩ = some (.int .u64 (D.getD j 0 : Nat)) := by
  rcases h.2 with ⟨h1, h0⟩ | ⟨g, cap, cur, h1, _⟩
  · rw [hv] at h1
    cases h1
    exact ⟨h0.symm, fun j hj => by omega⟩
  · rw [hv] at h1
    cases h1
    refine ⟨rfl, fun j hj => ⟨g, rfl, ?_⟩⟩
    have h2 := h.cells (g := g) (by rw [hv]; rfl) j (.int .u64 (D.getD j 0 : Nat)) (by unfold u64s; simp [hj])
    have e : (⟨g, 0, none⟩ : Addr).add j = ⟨g, j, none⟩ := by unfold Addr.add; split <;> simp_all
    rw [e] at h2
    exact h2
theorem Mrow.mat {w : World} {B : Nat} {v : Value} {ps : List (Mat × Value)} (h : Mrow w B v ps) (i : Nat) (hi : i < ps.length) : ∃ g DP dc, (ps.getD i zP).2 = .slice DP (ps.getD i zP).1.D.length dc ∧ v.ownBlock = some g ∧ w.cell? ⟨g, i * 4, none⟩ = some (.int .i64 (ps.getD i zP).1.lv) ∧ w.cell? ⟨g, i * 4 + 1, none⟩ = some (.int .i64 (ps.getD i zP).1.c) ∧ w.cell? ⟨g, i * 4 + 2, none⟩ = some (.int .i64 (ps.getD i zP).1.ep) ∧ w.cell? ⟨g, i * 4 + 3, none⟩ = some (.slice DP (ps.getD i zP).1.D.length dc) ∧
    ∀ j, j < (ps.getD i zP).1.D.length → ∃ gd, DP = some ⟨gd, 0, none⟩ ∧ w.cell? ⟨gd, j, none⟩ = some (.int .u64 ((ps.getD i zP).1.D.getD j 0 : Nat)) := by
  have hmem : ps.getD i zP ∈ ps := by rw [List.getD_eq_getElem?_getD, List.getElem?_eq_getElem hi]; exact List.getElem_mem hi
  obtain ⟨e0, e1, e2, e3⟩ := encM_at ps i hi
  obtain ⟨DP, dc, hs⟩ := own_shape (h.mats _ hmem)
  have hu := u64s_at (h.mats _ hmem) hs
  obtain ⟨g, hg⟩ : ∃ g, v.ownBlock = some g := by
    rcases h.row.2 with ⟨_, h0⟩ | ⟨g, cap, cur, h1, _⟩
    · omega
    · exact ⟨g, by rw [h1]; rfl⟩
  have e : ∀ k : Nat, (⟨g, 0, none⟩ : Addr).add k = ⟨g, k, none⟩ := fun k => by unfold Addr.add; split <;> simp_all
  have h0 := h.row.cells hg _ _ e0
  have h1 := h.row.cells hg _ _ e1
  have h2 := h.row.cells hg _ _ e2
  have h3 := h.row.cells hg _ _ e3
  rw [e] at h0 h1 h2 h3
  rw [hs] at h3
  exact ⟨g, DP, dc, hs, hg, h0, h1, h2, h3, hu.2⟩
theorem Mrow.shape {w : World} {B : Nat} {v : Value} {ps : List (Mat × Value)} (h : Mrow w B v ps) : ∃ HA hc, v = .slice HA ps.length hc ∧ MatsIn w HA (ps.map (·.1)) := by
  obtain ⟨HA, hc, hv⟩ := own_shape h.row
  refine ⟨HA, hc, hv, fun i hi => ?_⟩
  rw [List.length_map] at hi
  have e : (ps.map (·.1)).getD i zMat = (ps.getD i zP).1 := by simp [hi]
  obtain ⟨g, DP, dc, h1, h2, h3, h4, h5, h6, h7⟩ := h.mat i hi
  have h8 : HA = some ⟨g, 0, none⟩ := by
    rcases h.row.2 with ⟨_, h0⟩ | ⟨g', cap, cur, h9, _⟩
    · omega
    · rw [h9] at h2 hv
      cases hv
      have : g' = g := by simpa [Value.ownBlock] using h2
      rw [this]
  rw [e]
  exact ⟨g, DP, dc, h8, h3, h4, h5, h6, h7⟩
theorem matInfo : (Tryz.prog.info? 37).map (fun i => (i.zero, i.size, i.bytes)) = some (some (.agg #[.int .i64 0, .int .i64 0, .int .i64 0, .slice none 0 0]), 4, 48) := by kernel_rfl

/-- One matrix more. -/
theorem Mrow.push {w w2 : World} {B : Nat} {v v' : Value} {ps : List (Mat × Value)} (h : Mrow w B v ps) (p : Mat × Value) (hp : w.ownsRow B 43 1 p.2 p.1.D.length (u64s p.1.D)) (hpa : p.2.ownBlock = none ∨ p.2.ownBlock ≠ v.ownBlock)
    (hown : w2.ownsRow B 37 4 v' (ps.length + 1) (encM ps ++ [.int .i64 p.1.lv, .int .i64 p.1.c, .int .i64 p.1.ep, p.2])) (hg : w.grownBy w2 v.ownBlock) (hat : v'.ownBlock = v.ownBlock ∨ ∃ g, v'.ownBlock = some g ∧ w.heap.size ≤ g) : Mrow w2 B v' (ps ++ [p]) := by
  have hall : ∀ q ∈ ps ++ [p], w.ownsRow B 43 1 q.2 q.1.D.length (u64s q.1.D) ∧ (q.2.ownBlock = none ∨ q.2.ownBlock ≠ v.ownBlock) := fun q hq => by
    rcases List.mem_append.1 hq with h1 | h1
    · exact ⟨h.mats q h1, h.apart q h1⟩
    · simp at h1
      subst h1
      exact ⟨hp, hpa⟩
  refine ⟨?_, fun q hq => (hall q hq).1.kept hg (hall q hq).2, fun q hq => ?_⟩
  · rw [encM_app, List.length_append]
    exact hown
  · rcases (hall q hq).2 with h1 | h1
    · exact Or.inl h1
    · rcases hat with h2 | ⟨g, h2, h3⟩
      · right; rw [h2]; exact h1
      · right
        rw [h2]
        intro e
        have := ((hall q hq).1.lt g e).2
        omega

theorem cellE_looked {N : Int} {arcs : List Q.S95} {bounds : List Int} {cells : List (List Int)} {level : Int} (h : Q.lookedE N arcs bounds cells level = 0) (k : Nat) (hk : k < Q.manyOf (cells.getD (level - 1).toNat [])) : Q.cellE N arcs bounds cells level (k : Int) = 0 := by
  unfold Q.cellE
  rw [if_pos h, if_neg (by omega), if_neg (by omega)]

end Go.Proofs.YtjddimoeodecgaaGreat

/- The weights of arcs: what the program and the document's answer say (plain). -/
namespace Go.Proofs.YtjddimoeodecgaaGreat.Q
open Go.RowKit Go.Proofs.YtjddimoeodecgaaGreatW.PrintWords Go.Proofs.YtjddimoeodecgaaGreatW.PrintLast
set_option linter.unusedVariables false
set_option maxRecDepth 100000

/-- Whether all are indices of arcs. -/
def idxOk (arcs : List S95) (idx : List Int) : Bool := idx.all (fun i => decide (0 ≤ i) && decide (i < (arcs.length : Int)))
/-- What is said of the weights of arcs. -/
def weightsR (N : Int) (arcs : List S95) (idx : List Int) : List Int × Int :=
  if (graphR N arcs).2 = 0 then (if (idx.length : Int) > 16384 then ([], 2) else if idxOk arcs idx = true then (idx.map (fun i => (arcs.getD i.toNat z95).f2), 0) else ([], 5)) else ([], (graphR N arcs).2)

end Go.Proofs.YtjddimoeodecgaaGreat.Q

/- clique.Weights. -/
namespace Go.Proofs.YtjddimoeodecgaaGreat
open Go.RowKit Go.Lib Go.Sort Go.Proofs.YtjddimoeodecgaaGreatW.PrintWords Go.Proofs.YtjddimoeodecgaaGreatW.PrintLast Go.Proofs.YtjddimoeodecgaaGreatW.PrintMore
set_option linter.unusedVariables false
set_option maxRecDepth 100000

namespace Q
theorem idx_no {arcs : List S95} {idx : List Int} {i : Nat} (hi : i < idx.length) (h : ¬ (0 ≤ idx.getD i 0 ∧ idx.getD i 0 < (arcs.length : Int))) : idxOk arcs idx = false := by
  cases he : idxOk arcs idx with
  | false => rfl
  | true =>
    have hb := List.all_eq_true.1 he _ (List.getElem_mem hi)
    simp only [Bool.and_eq_true, decide_eq_true_eq] at hb
    rw [List.getD_eq_getElem?_getD, List.getElem?_eq_getElem hi] at h
    exact absurd hb h
def wtTo (arcs : List S95) (idx : List Int) (k : Nat) : List Int := (idx.take k).map (fun i => (arcs.getD i.toNat z95).f2)
theorem wt_step (arcs : List S95) (idx : List Int) (k : Nat) (hk : k < idx.length) : wtTo arcs idx (k + 1) = wtTo arcs idx k ++ [(arcs.getD (idx.getD k 0).toNat z95).f2] := by
  unfold wtTo
  rw [List.take_add_one, List.map_append, List.getElem?_eq_getElem hk, List.getD_eq_getElem?_getD (l := idx), List.getElem?_eq_getElem hk]
  rfl
theorem wt_len (arcs : List S95) (idx : List Int) (k : Nat) : (wtTo arcs idx k).length ≤ k := by unfold wtTo; rw [List.length_map, List.length_take]; omega
theorem idx_yes {arcs : List S95} {idx : List Int} {k : Nat} (hk : k < idx.length) (h : idxOk arcs (idx.take k) = true) (hi : 0 ≤ idx.getD k 0 ∧ idx.getD k 0 < (arcs.length : Int)) : idxOk arcs (idx.take (k + 1)) = true := by
  rw [List.getD_eq_getElem?_getD, List.getElem?_eq_getElem hk] at hi
  unfold idxOk at h ⊢
  rw [List.take_add_one, List.getElem?_eq_getElem hk, List.all_append, h]
  simp
  exact hi
end Q

theorem make_cap (n : Nat) (hn : n ≤ 16384) (w : World) : (Instr.makeSlice 29 (.int .i64 0) (.int .i64 n)).run Tryz.prog w = .ok (.slice (some ⟨w.heap.size, 0, none⟩) 0 n) (w.alloc (.cells (madeCells #[Value.int .u32 0] n) 41)) := by
  obtain ⟨i0, hi, hz0, hz1, hz2⟩ := info_parts u32Info
  have h := run_make (P := Tryz.prog) w 29 41 i0 (.int .u32 0) Tryz.underlying29 hi hz0 .i64 .i64 0 n (by omega) (by omega) (by rw [hz2]; omega) (by omega)
  rw [hz1, Int.toNat_natCast, Nat.mul_one] at h
  exact h
theorem own_made_of (w : World) (n : Nat) (hn : n ≤ 16384) : (w.alloc (.cells (madeCells #[Value.int .u32 0] n) 41)).ownsRow w.heap.size 41 1 (.slice (some ⟨w.heap.size, 0, none⟩) 0 n) 0 [] :=
  World.ownsRow_made w _ n (Nat.le_refl _) (by unfold maxLen; omega) (by rw [← Array.length_toList, toList_madeCells_one]; simp)

set_option maxHeartbeats 4000000 in
theorem weights_any (N : Int) (arcs : List Q.S95) (A : Option Addr) (c : Nat) (IA : Option Addr) (ic : Nat) (idx : List Int) (w : World) (hf : Q.ArcsFit arcs) (hr : Kd.C Q.k95 w A arcs.length arcs) (hc : arcs.length ≤ c) (hi : Kd.C (Kd.int .i64) w IA idx.length idx) :
    Calls Tryz.prog 17 #[.agg #[.int .i64 N, .slice A arcs.length c], .slice IA idx.length ic] w fun e w' => ∃ P cap, e = .returned (.tuple #[.slice P (Q.weightsR N arcs idx).1.length cap, .int .i64 (Q.weightsR N arcs idx).2]) ∧ w'.ownsRow w.heap.size 41 1 (.slice P (Q.weightsR N arcs idx).1.length cap) (Q.weightsR N arcs idx).1.length ((Q.weightsR N arcs idx).1.map (Value.int .u32)) ∧ Below w.heap.size w w' := by
  obtain ⟨i0, hi0, hz0, hz1, hz2⟩ := info_parts u32Info
  have hb1 : Below w.heap.size w (w.alloc (.cells #[.int .i64 N, .slice A arcs.length c] 24)) := (Below.refl _ w).alloc (Nat.le_refl _) _
  have HG := Lib.hid (graph_e N arcs A c (w.alloc (.cells #[.int .i64 N, .slice A arcs.length c] 24)) hf (Kd.C_below hr hb1) hc)
  have HW : Hid (Q.weightsR N arcs idx = if (Q.graphR N arcs).2 = 0 then (if (idx.length : Int) > 16384 then ([], 2) else if Q.idxOk arcs idx = true then (idx.map (fun i => (arcs.getD i.toNat Q.z95).f2), 0) else ([], 5)) else ([], (Q.graphR N arcs).2)) := Lib.hid rfl
  have HGK : Hid ((Q.graphR N arcs).2 = 0 → arcs.length ≤ 8192) := Lib.hid (fun h => (Q.graphR_ok hf h).2.m)
  have HR := Lib.hid hr
  have HI := Lib.hid hi
  have c0 : (w.alloc (.cells #[.int .i64 N, .slice A arcs.length c] 24)).cell? ⟨w.heap.size, 0, none⟩ = some (.int .i64 N) := by simp
  have c1 : (w.alloc (.cells #[.int .i64 N, .slice A arcs.length c] 24)).cell? ⟨w.heap.size, 1, none⟩ = some (.slice A arcs.length c) := by simp
  have hs1 : w.heap.size < (w.alloc (.cells #[.int .i64 N, .slice A arcs.length c] 24)).heap.size := by simp
  clear hf hr hc hi
  generalize Q.weightsR N arcs idx = res at *
  obtain ⟨rl, re⟩ := res
  simp only at *
  generalize (Q.graphR N arcs).2 = ge at *
  generalize (Q.graphR N arcs).1 = gl at *
  go_enter Tryz.func17, Tryz.ntmps17
  go_upto_region 1 with fail
  generalize (w.alloc (.cells #[.int .i64 N, .slice A arcs.length c] 24)) = w1 at *
  have HB1 := Lib.hid hb1
  generalize hgx : w.heap.size = gx at *
  have HGX := Lib.hid hgx
  clear hb1 hgx
  go_upto_region 2 with (go_at_call 55; (with_reducible refine HG.out.mono ?_); rintro e w2 ⟨rfl, hb⟩; have HB := Lib.hid hb; clear hb)
  have d0 := (HB.out.cell (p := ⟨gx, 0, none⟩) hs1).trans c0
  have d1 := (HB.out.cell (p := ⟨gx, 1, none⟩) hs1).trans c1
  have HB2 := Lib.hid (HB1.out.trans (HB.out.mono (by omega)))
  have hs2 : gx < w2.heap.size := by have := HB.out.size; omega
  clear c0 c1 HG HB HB1
  by_cases hge : ge = 0
  · by_cases hbig : (idx.length : Int) > 16384
    · have hres := HW.out
      rw [if_pos hge, if_pos hbig] at hres
      simp only [Prod.mk.injEq] at hres
      obtain ⟨rfl, rfl⟩ := hres
      have hbig2 : (16384 : Int) < (idx.length : Int) := hbig
      go_wp2_with fail
      go_ret2
      have hgx := HGX.out
      subst hgx
      exact ⟨none, 0, rfl, World.ownsRow_nil _ _ _ _, HB2.out⟩
    · have hnb : ¬ (16384 : Int) < (idx.length : Int) := hbig
      have HM := Lib.hid (HGK.out hge)
      have HW2 : Hid ((rl, re) = if Q.idxOk arcs idx = true then (idx.map (fun i => (arcs.getD i.toNat Q.z95).f2), 0) else ([], 5)) := Lib.hid (by have h := HW.out; rw [if_pos hge, if_neg hbig] at h; exact h)
      have HIT := Lib.hid (Kd.C_below (Kd.C_below HI.out (by rw [HGX.out]; exact HB2.out)) (Below.refl w2.heap.size w2))
      have HAT := Lib.hid (Kd.C_below HR.out (by rw [HGX.out]; exact HB2.out : Below w.heap.size w w2))
      clear HW HI HR HGK
      have hil : idx.length ≤ 16384 := by omega
      have hmk := make_cap idx.length hil w2
      go_wp2_with fail
      go_loopg [8, 27] idx.length (fun gg s8 s27 wr => ∃ k : Nat, k ≤ idx.length ∧ idx.length - k ≤ gg ∧ s27 = .int .i64 k ∧ Hid (wr.ownsRow w2.heap.size 41 1 s8 (Q.wtTo arcs idx k).length ((Q.wtTo arcs idx k).map (Value.int .u32))) ∧ Hid (Q.idxOk arcs (idx.take k) = true) ∧ Hid (Below w2.heap.size w2 wr))
      case atStart => exact ⟨0, Nat.zero_le _, by omega, rfl, Lib.hid (own_made_of w2 idx.length hil), Lib.hid rfl, Lib.hid ((Below.refl _ w2).alloc (Nat.le_refl _) _)⟩
      case round =>
        obtain ⟨k, hk1, hgg, rfl, HO, HOK, HB⟩ := hrel
        by_cases hlt : k < idx.length
        · have hltz : (k : Int) < (idx.length : Int) := by omega
          have hwk : IntKind.i64.wrap ((k : Int) + 1) = ((k + 1 : Nat) : Int) := by rw [IntWalk.i64_in _ (by omega)]; omega
          obtain ⟨iad, rfl, x0⟩ := Q.int_cell (Kd.C_below HIT.out HB.out) k hlt
          have f0 := (HB.out.cell (p := ⟨gx, 0, none⟩) hs2).trans d0
          have f1 := (HB.out.cell (p := ⟨gx, 1, none⟩) hs2).trans d1
          have HNO : Hid (¬ (0 ≤ idx.getD k 0 ∧ idx.getD k 0 < (arcs.length : Int)) → Q.idxOk arcs idx = false) := Lib.hid (Q.idx_no hlt)
          have HST := Lib.hid (Q.wt_step arcs idx k hlt)
          have HOS : Hid (0 ≤ idx.getD k 0 ∧ idx.getD k 0 < (arcs.length : Int) → Q.idxOk arcs (idx.take (k + 1)) = true) := Lib.hid (Q.idx_yes hlt HOK.out)
          have hln := Q.wt_len arcs idx k
          generalize hii : idx.getD k 0 = i at *
          clear hii
          by_cases hneg : i < 0
          · have hres := HW2.out
            rw [HNO.out (by omega), if_neg (by simp)] at hres
            simp only [Prod.mk.injEq] at hres
            obtain ⟨rfl, rfl⟩ := hres
            go_wp2_with fail
            go_ret2
            have hgx := HGX.out
            subst hgx
            exact ⟨none, 0, rfl, World.ownsRow_nil _ _ _ _, HB2.out.trans (HB.out.mono (by omega))⟩
          · by_cases hbg : i < (arcs.length : Int)
            · obtain ⟨j, rfl⟩ : ∃ j : Nat, i = (j : Int) := ⟨i.toNat, (Int.toNat_of_nonneg (by omega)).symm⟩
              have hjl : j < arcs.length := by omega
              obtain ⟨ad, rfl, g0, g1, g2⟩ := arc_at (Kd.C_below HAT.out HB.out) j hjl
              have hst := HST.out
              rw [Int.toNat_natCast] at hst
              have HST2 := Lib.hid hst
              have HOK2 := Lib.hid (HOS.out ⟨by omega, hbg⟩)
              generalize (arcs.getD j Q.z95).f2 = wt at *
              generalize (arcs.getD j Q.z95).f1 = wt1 at *
              generalize (arcs.getD j Q.z95).f0 = wt0 at *
              clear hst HST HOS HNO g0 g1
              go_wp2_with (at_builtin; go_loud (refine wpList_append_own _ rfl _ _ 29 rfl w2.heap.size 41 i0 _ 1 4 Tryz.underlying29 hi0 hz0 hz1 hz2 rfl (by decide) _ _ _ rfl (HO.out.alloc _) ⟨wr.heap.size, 0, none⟩ 1 1 [.int .u32 wt] rfl rfl (cell_one_new _ _ _) (by intro q hq; simp at hq; subst hq; rfl) (by unfold maxLen; omega) (by omega) (by have := HB.out.size; simp; omega) ?_; intro v7 w7 ho7 hg7 hnil7; (have HO7 := Lib.hid ho7); (have HG7 := Lib.hid hg7); clear ho7 hg7 hnil7; go_frame))
              have HWK := Lib.hid hwk
              clear hwk
              go_roundg (idx.length - (k + 1))
              case measure => omega
              case rel =>
                refine ⟨k + 1, by omega, Nat.le_refl _, rfl, Lib.hid ?_, HOK2, Lib.hid (Below.grown (HB.out.alloc HB.out.size _) HG7.out (fun k hk => (HO.out.lt k hk).1) (by have := HB.out.size; simp; omega))⟩
                rw [HST2.out, List.map_append, List.length_append]
                exact HO7.out
            · have hres := HW2.out
              rw [HNO.out (by omega), if_neg (by simp)] at hres
              simp only [Prod.mk.injEq] at hres
              obtain ⟨rfl, rfl⟩ := hres
              have hge2 : ¬ i < (arcs.length : Int) := hbg
              go_wp2_with fail
              go_ret2
              have hgx := HGX.out
              subst hgx
              exact ⟨none, 0, rfl, World.ownsRow_nil _ _ _ _, HB2.out.trans (HB.out.mono (by omega))⟩
        · have hke : k = idx.length := by omega
          subst hke
          have hkz : ¬ (idx.length : Int) < (idx.length : Int) := by omega
          have hres := HW2.out
          have hok := HOK.out
          rw [List.take_of_length_le (Nat.le_refl _)] at hok
          rw [if_pos hok] at hres
          simp only [Prod.mk.injEq] at hres
          obtain ⟨hrl, rfl⟩ := hres
          have hO := HO.out
          have hwe : Q.wtTo arcs idx idx.length = idx.map (fun i => (arcs.getD i.toNat Q.z95).f2) := by unfold Q.wtTo; rw [List.take_of_length_le (Nat.le_refl _)]
          rw [hwe, ← hrl] at hO
          obtain ⟨P, cap, rfl⟩ := own_shape hO
          have HO2 := Lib.hid hO
          clear hO HO hwe hok HOK HW2 hrl
          go_wp2_with fail
          go_ret2
          have hgx := HGX.out
          subst hgx
          exact ⟨P, cap, rfl, own_lower HO2.out (Nat.le_of_lt hs2), HB2.out.trans (HB.out.mono (by omega))⟩
  · have hres := HW.out
    rw [if_neg hge] at hres
    simp only [Prod.mk.injEq] at hres
    obtain ⟨rfl, rfl⟩ := hres
    go_wp2_with fail
    go_ret2
    have hgx := HGX.out
    subst hgx
    exact ⟨none, 0, rfl, World.ownsRow_nil _ _ _ _, HB2.out⟩

end Go.Proofs.YtjddimoeodecgaaGreat

/- What CliqueRises wants of plain data. -/
namespace Go.Proofs.YtjddimoeodecgaaGreat
open Go.RowKit Go.Proofs.YtjddimoeodecgaaGreatW.PrintWords Go.Proofs.YtjddimoeodecgaaGreatW.PrintLast Go.Proofs.YtjddimoeodecgaaGreatW.PrintMore
set_option linter.unusedVariables false
set_option maxRecDepth 100000

theorem getD_map {α β : Type} (f : α → β) (l : List α) (i : Nat) (d : α) (d' : β) (h : i < l.length) : (l.map f).getD i d' = f (l.getD i d) := by
  rw [List.getD_eq_getElem?_getD, List.getElem?_map, List.getD_eq_getElem?_getD, List.getElem?_eq_getElem h]
  rfl
namespace Q
theorem sameDists_loop (l : List Int) (hl : l.length ≤ 1000000000000) (d : Nat) : ∀ (k i : Nat), i + d = l.length → d < k → flyoverbook_SameDists.l0 k l l (i : Int) = some true := by
  induction d with
  | zero =>
    intro k i hi hk
    obtain ⟨k, rfl⟩ : ∃ m, k = m + 1 := ⟨k - 1, by omega⟩
    simp only [flyoverbook_SameDists.l0]
    rw [if_neg (by omega)]
  | succ d ih =>
    intro k i hi hk
    obtain ⟨k, rfl⟩ : ∃ m, k = m + 1 := ⟨k - 1, by omega⟩
    have hw : wrap64 ((i : Int) + 1) = ((i + 1 : Nat) : Int) := by unfold wrap64; omega
    simp only [flyoverbook_SameDists.l0]
    rw [if_pos (by omega), if_pos (by omega), if_pos (by omega), if_pos trivial, hw]
    exact ih k (i + 1) (by omega) (by omega)
theorem sameMatrix_refl (a b c : Int) (l : List Int) (hl : l.length ≤ 1000000000000) : flyoverbook_SameMatrix.f (l.length + 1) a b c l a b c l = some true := by
  unfold flyoverbook_SameMatrix.f flyoverbook_SameDists.f
  have h : flyoverbook_SameDists.l0 (l.length + 1) l l 0 = some true := sameDists_loop l hl l.length _ 0 (by omega) (by omega)
  rw [if_pos rfl, if_pos rfl, if_pos rfl, if_pos rfl, h]
  rfl
theorem weigh_own (arcs : List S95) (inner : List Int) (hin : ∀ i ∈ inner, 0 ≤ i ∧ i < (arcs.length : Int)) : ∀ k, k ≤ inner.length → weighTo arcs inner (inner.map (fun i => (arcs.getD i.toNat z95).f2)) k = arcs
  | 0, _ => rfl
  | k + 1, hk => by
    unfold weighTo
    rw [weigh_own arcs inner hin k (by omega)]
    have hkl : k < inner.length := hk
    have h1 := hin _ (get_mem hkl)
    have e1 : (inner.map (fun i => (arcs.getD i.toNat z95).f2)).getD k 0 = (arcs.getD (inner.getD k 0).toNat z95).f2 := getD_map _ inner k 0 0 hkl
    rw [e1]
    generalize (inner.getD k 0).toNat = i at *
    apply List.ext_getElem
    · simp
    · intro j h2 h3
      rw [List.getElem_set]
      split
      · rename_i e
        subst e
        rw [List.getD_eq_getElem?_getD, List.getElem?_eq_getElem h3]
        rfl
      · rfl
theorem weightsR_own {n : Nat} {arcs : List S95} (hg : GOk n arcs) {idx : List Int} (hin : ∀ i ∈ idx, 0 ≤ i ∧ i < (arcs.length : Int)) (hl : idx.length ≤ 16384) : weightsR (n : Int) arcs idx = (idx.map (fun i => (arcs.getD i.toNat z95).f2), 0) := by
  unfold weightsR
  have h1 : idxOk arcs idx = true := by
    unfold idxOk
    rw [List.all_eq_true]
    intro i hi
    have := hin i hi
    simp only [Bool.and_eq_true, decide_eq_true_eq]
    exact this
  rw [graphR_of hg, if_pos rfl, if_neg (by omega), if_pos h1]
theorem many_le {N : Nat} (hN : 1 ≤ N) {l : List Int} (h : rightP N l = true) : manyOf l ≤ N := by
  have h1 := rightP_in h
  have h2 := h1.2 _ (maxOf_mem (l := l) (by omega))
  unfold manyOf
  omega
theorem kid_many {N : Nat} {row bel : List Int} {c k : Int} (hrow : row.length = N) (h : rightP N bel = true) (hk : k ∈ kidsOf row bel c) : ∃ x : Nat, k = (x : Int) ∧ x < manyOf bel := by
  unfold kidsOf rawOf at hk
  obtain ⟨v, hv, rfl⟩ := List.mem_map.1 (mem_sorted.1 hk)
  obtain ⟨h1, h2, h3⟩ := mem_in hv
  have h4 := rightP_in h
  have hm : bel.getD v.toNat 0 ∈ bel := get_mem (by omega)
  have h5 := h4.2 _ hm
  have h6 := le_maxOf hm
  refine ⟨(bel.getD v.toNat 0).toNat, (Int.toNat_of_nonneg h5.1).symm, ?_⟩
  unfold manyOf
  omega
end Q
theorem own_weights {n : Nat} {arcs : List Q.S95} (hg : Q.GOk n arcs) {idx : List Int} (hin : ∀ i ∈ idx, 0 ≤ i ∧ i < (arcs.length : Int)) : ∀ x ∈ idx.map (fun i => (arcs.getD i.toNat Q.z95).f2), 0 ≤ x ∧ x < 4294967296 := fun x hx => by
  obtain ⟨i, hi, rfl⟩ := List.mem_map.1 hx
  have h1 := hin i hi
  have hl : i.toNat < arcs.length := by omega
  exact hg.wt _ (by rw [List.getD_eq_getElem?_getD, List.getElem?_eq_getElem hl]; exact List.getElem_mem hl)
/-- The children's matrices. -/
noncomputable def kidMats (n : Nat) (arcs : List Q.S95) (cells : List (List Int)) (level cell : Int) : List Mat := (Q.kidsOf (cells.getD (level - 1).toNat []) (cells.getD (level - 2).toNat []) cell).map (fun k => ⟨level - 1, k, 0, Q.matOf n arcs (cells.getD (level - 2).toNat []) k⟩)
theorem kids_ok {n : Nat} {arcs : List Q.S95} {bounds : List Int} {cells : List (List Int)} {level cell : Int} (hf : Q.ArcsFit arcs) (h : Q.upE (n : Int) arcs bounds cells level cell = 0) (i : Nat) (hi : i < (kidMats n arcs cells level cell).length) :
    KidOk (n : Int) arcs bounds cells level 0 ((Q.kidsOf (cells.getD (level - 1).toNat []) (cells.getD (level - 2).toNat []) cell).getD i 0) ((kidMats n arcs cells level cell).getD i zMat) := by
  obtain ⟨hce, hl1⟩ := upE_ok h
  obtain ⟨⟨hN1, hG⟩, hNest, ⟨hlv1, hlv2⟩, _⟩ := Q.cellE_ok hf hce
  rw [Int.toNat_natCast] at hG hNest
  have hil : i < (Q.kidsOf (cells.getD (level - 1).toNat []) (cells.getD (level - 2).toNat []) cell).length := by
    unfold kidMats at hi
    rwa [List.length_map] at hi
  have hrow := (Q.rightP_in (hNest.right (j := (level - 1).toNat) (by omega))).1
  have hbp := hNest.right (j := (level - 2).toNat) (by omega)
  obtain ⟨x, hx, hxm⟩ := Q.kid_many hrow hbp (get_mem hil)
  have hbel := (Q.rightP_in hbp).1
  have e : (kidMats n arcs cells level cell).getD i zMat = ⟨level - 1, (Q.kidsOf (cells.getD (level - 1).toNat []) (cells.getD (level - 2).toNat []) cell).getD i 0, 0, Q.matOf n arcs (cells.getD (level - 2).toNat []) ((Q.kidsOf (cells.getD (level - 1).toNat []) (cells.getD (level - 2).toNat []) cell).getD i 0)⟩ := by
    unfold kidMats
    exact getD_map _ _ i 0 zMat hil
  rw [e]
  have hlook : Q.lookedE (n : Int) arcs bounds cells (level - 1) = 0 := by
    have h2 : (Q.checkR (n : Int) arcs bounds cells).2 = 0 := by
      have h1 := hce
      unfold Q.cellE at h1
      split at h1
      · rename_i h3
        unfold Q.lookedE at h3
        split at h3
        · assumption
        · exact h3
      · rename_i h3
        exact absurd h1 h3
    unfold Q.lookedE
    rw [if_pos h2, if_neg (by omega), if_neg (by omega)]
  refine ⟨rfl, rfl, by show (0 : Int) ≤ 0 ∧ (0 : Int) ≤ 1073741824; omega, Int.le_refl _, matOf_len _ _ _ _, ?_, fun j => (mat_metric hG _ _ hbel).lt j⟩
  rw [hx]
  refine cellE_looked hlook x ?_
  rw [show level - 1 - 1 = level - 2 by omega]
  exact hxm
theorem looked_of {N : Int} {arcs : List Q.S95} {bounds : List Int} {cells : List (List Int)} {level : Int} (h : (Q.checkR N arcs bounds cells).2 = 0) (h1 : 1 ≤ level) (h2 : level ≤ bounds.length) : Q.lookedE N arcs bounds cells level = 0 := by
  unfold Q.lookedE
  rw [if_pos h, if_neg (by omega), if_neg (by omega)]
/-- Up with the arcs' own weights, and right matrices. -/
theorem up_own {n : Nat} {arcs : List Q.S95} {bounds : List Int} {cells : List (List Int)} {level cell : Int} (hf : Q.ArcsFit arcs) (h : Q.upE (n : Int) arcs bounds cells level cell = 0) :
    upD n arcs (cells.getD (level - 1).toNat []) (cells.getD (level - 2).toNat []) cell ((Q.betweenOf arcs (cells.getD (level - 1).toNat []) (cells.getD (level - 2).toNat []) cell).map (fun i => (arcs.getD i.toNat Q.z95).f2)) ((kidMats n arcs cells level cell).map (·.D)) = Q.matOf n arcs (cells.getD (level - 1).toNat []) cell := by
  obtain ⟨hce, hl1⟩ := upE_ok h
  obtain ⟨⟨hN1, hG⟩, hNest, ⟨hlv1, hlv2⟩, _⟩ := Q.cellE_ok hf hce
  rw [Int.toNat_natCast] at hG hNest
  have hrow := (Q.rightP_in (hNest.right (j := (level - 1).toNat) (by omega))).1
  have hbel := (Q.rightP_in (hNest.right (j := (level - 2).toNat) (by omega))).1
  have hnest := nested_of hNest (j := (level - 2).toNat) (by omega)
  rw [show (level - 2).toNat + 1 = (level - 1).toNat by omega] at hnest
  refine up_right hG hrow hbel hnest (fun i hi => getD_map _ _ i 0 0 hi) (by rw [List.length_map]) (fun i hi => ?_)
  unfold kidMats
  rw [List.map_map]
  exact getD_map _ _ i 0 [] hi

end Go.Proofs.YtjddimoeodecgaaGreat

/- What rows of this seat open: graphs, nests, numbers. -/
namespace Go.Proofs.YtjddimoeodecgaaGreat
open Go.ChangeShapes Go.WideShapes Go.ChangeAt Go.RowKit Go.Proofs.YtjddimoeodecgaaGreatW.PrintWords Go.Proofs.YtjddimoeodecgaaGreatW.PrintLast
open Go.ChangeMaps (open_string shut_string)
set_option linter.unusedVariables false

theorem own13h : ownKnob Tryz.prog.godebug = none := by kernel_rfl
theorem laidOut13h : laidOutB Tryz.prog = true := by kernel_rfl

/-- A list of what each index has. -/
theorem list_of_each {α : Type} {P : Nat → α → Prop} (n : Nat) (d : α) (h : ∀ i, i < n → ∃ x, P i x) : ∃ xs : List α, xs.length = n ∧ ∀ i, i < xs.length → P i (xs.getD i d) := by
  induction n with
  | zero => exact ⟨[], rfl, fun i hi => absurd hi (Nat.not_lt_zero _)⟩
  | succ n ih =>
    obtain ⟨xs, hl, hx⟩ := ih (fun i hi => h i (by omega))
    obtain ⟨x, hp⟩ := h n (by omega)
    refine ⟨xs ++ [x], by simp [hl], fun i hi => ?_⟩
    by_cases hi2 : i < xs.length
    · have := hx i hi2
      rw [List.getD_eq_getElem?_getD, List.getElem?_append_left hi2, ← List.getD_eq_getElem?_getD]
      exact this
    · simp only [List.length_append, List.length_singleton] at hi
      obtain rfl : i = n := by omega
      rw [List.getD_eq_getElem?_getD, List.getElem?_append_right (by omega), hl]
      simpa using hp

section
variable {H : Type} {enc : TypeId × Value → H} {W : World} {base n : Nat} {sp : Nat → Bool} {held : Bool}
theorem fields_of {t e : TypeId} {P : Program} {fs : Array Field} {fuel : Nat} {cs : List Value} {x : DataW H × List MemPlace} (ht : P.underlying t = some (.slice e)) (he : P.underlying e = some (.struct fs))
    (hone : Go.Deep.oneCellFields P fs = true) (hC : P.cellsOf e = fs.size) (h : DataW.trod enc P W base sp held fuel t cs = some x) :
    (cs = [.slice none 0 0] ∧ x = (.nil, [])) ∨
    ∃ (a : Addr) (len cap m : Nat) (D : Nat → DataW H) (Pl : Nat → List MemPlace), cs = [.slice (some a) len cap] ∧ base ≤ a.block ∧ len ≤ cap ∧ cap ≤ maxLen ∧ m = (if sp a.block then cap else len) ∧
      x = (.slice ((List.range len).map D) ((List.range (m - len)).map fun j => D (len + j)), MemPlace.row a (m * fs.size) ++ (List.range m).flatMap Pl) ∧
      ∀ i, i < m → ∃ (ys : List (DataW H × List MemPlace)) (n : Nat), D i = .agg (ys.map (·.1)) ∧ Pl i = ys.flatMap (·.2) ∧ ys.length = fs.size ∧
        ∀ (j : Nat) (f : Field), fs[j]? = some f → ∃ (v : Value) (y : DataW H × List MemPlace), W.cell? (a.add (i * fs.size + j)) = some v ∧ ys[j]? = some y ∧ DataW.trod enc P W base sp held n f.type [v] = some y := by
  rcases Go.Deep.open_slice ht h with h0 | ⟨a, len, cap, m, n, D, Pl, hcs, hb, hl, hm, hmm, hx, hi⟩
  · exact .inl h0
  · refine .inr ⟨a, len, cap, m, D, Pl, hcs, hb, hl, hm, hmm, by rw [hC] at hx; exact hx, fun i him => ?_⟩
    obtain ⟨cs', hc, ht'⟩ := hi i him
    rw [hC] at hc
    obtain ⟨ys, n', hn', hy, hlen, hyl, hf⟩ := DataW.trod_struct he ht'
    obtain ⟨_, hcl, hat⟩ := World.cells?_some hc
    simp only [Prod.mk.injEq] at hy
    refine ⟨ys, n', hy.1, hy.2, hyl, fun j f hj => ?_⟩
    obtain ⟨ho, hk⟩ := Go.Deep.hone_of hone j f hj
    have hjl : j < fs.size := (Array.getElem?_eq_some_iff.1 hj).1
    have hcell := hat j hjl
    have hv : cs'[j]? = some (cs'[j]'(by omega)) := List.getElem?_eq_getElem (by omega)
    have h1 := hf j f hj
    rw [ho, hk] at h1
    have hone' : (cs'.drop j).take 1 = [cs'[j]'(by omega)] := by
      rw [List.drop_eq_getElem_cons (by omega)]
      rfl
    rw [hone'] at h1
    have hys : ys[j]? = some (ys[j]'(by omega)) := List.getElem?_eq_getElem (by omega)
    refine ⟨_, _, ?_, hys, h1.trans hys⟩
    rw [← Go.Deep.add_add, hcell, hv]

/-- Numbers that an argument has. -/
theorem ints_of {k : IntKind} {t e : TypeId} {v : Value} {y : DataW H × List MemPlace} (ht : Tryz.prog.underlying t = some (.slice e)) (he : Tryz.prog.underlying e = some (.int k)) (hc : Tryz.prog.cellsOf e = 1) (h : DataW.trod enc Tryz.prog W base (fun _ => true) held n t [v] = some y) :
    ∃ (A : Option Addr) (c : Nat) (l : List Int), v = .slice A l.length c ∧ l.length ≤ c ∧ Kd.C (Kd.int k) W A l.length l ∧ ∀ x ∈ l, (Lit.int k x).wf = true := by
  rcases open_ints ht he hc h with ⟨hcs, _⟩ | ⟨x, l, c, zs, hcs, _, hl, hm, hz, _, hcell, hwz⟩
  · simp at hcs
    subst hcs
    exact ⟨none, 0, [], rfl, Nat.le_refl _, ⟨rfl, by simp, fun h => by simp at h⟩, fun x hx => by cases hx⟩
  · simp at hcs
    subst hcs
    simp only [if_true] at hz
    have hlen : (zs.take l).length = l := by rw [List.length_take]; omega
    refine ⟨some x, c, zs.take l, by rw [hlen], by omega, ⟨rfl, by rw [hlen]; unfold maxLen at hm; omega, fun _ => ⟨x, rfl, fun j p hj => ?_⟩⟩, fun z hz2 => hwz z (List.mem_of_mem_take hz2)⟩
    have hjl : j < l := by
      rcases Nat.lt_or_ge j (zs.take l).length with h' | h'
      · rw [hlen] at h'; exact h'
      · rw [List.getElem?_eq_none h'] at hj; cases hj
    refine ⟨[.int k p], rfl, rfl, fun i u hu => ?_⟩
    match i, hu with
    | 0, hu =>
      simp at hu
      subst hu
      rw [Nat.add_zero, show (Kd.int k).sz = 1 from rfl, Nat.mul_one, hcell j (by omega)]
      rw [List.getElem?_take, if_pos hjl] at hj
      rw [List.getD_eq_getElem?_getD, hj]
      rfl

theorem arcs_of {v : Value} {y : DataW H × List MemPlace} (h : DataW.trod enc Tryz.prog W base (fun _ => true) held n 22 [v] = some y) :
    ∃ (A : Option Addr) (c : Nat) (l : List Q.S95), v = .slice A l.length c ∧ l.length ≤ c ∧ Kd.C Q.k95 W A l.length l ∧ Q.ArcsFit l := by
  rcases fields_of Tryz.underlying22 Tryz.underlying95 (by kernel_rfl) (by kernel_rfl) h with ⟨hcs, _⟩ | ⟨a, len, cap, m, D, Pl, hcs, _, hl, hm, hmm, hx, hi⟩
  · simp at hcs
    subst hcs
    exact ⟨none, 0, [], rfl, Nat.le_refl _, arcs_C_nil _ _, fun a ha => by cases ha⟩
  · simp at hcs
    subst hcs
    simp only [if_true] at hmm
    subst hmm
    have each : ∀ i, i < len → ∃ x : Q.S95, (W.cell? (a.add (i * 3)) = some (.int .i64 x.f0) ∧ W.cell? (a.add (i * 3 + 1)) = some (.int .i64 x.f1) ∧ W.cell? (a.add (i * 3 + 2)) = some (.int .u32 x.f2)) ∧ ((-9223372036854775808 ≤ x.f0 ∧ x.f0 < 9223372036854775808) ∧ (-9223372036854775808 ≤ x.f1 ∧ x.f1 < 9223372036854775808) ∧ (0 ≤ x.f2 ∧ x.f2 < 4294967296)) := by
      intro i hil
      obtain ⟨ys, n2, hD, _, hyl, hf⟩ := hi i (by omega)
      obtain ⟨v0, y0, g0, e0, t0⟩ := hf 0 _ rfl
      obtain ⟨v1, y1, g1, e1, t1⟩ := hf 1 _ rfl
      obtain ⟨v2, y2, g2, e2, t2⟩ := hf 2 _ rfl
      obtain ⟨k0, q0, r0, wf0⟩ := DataW.trod_int Tryz.underlying3 t0
      obtain ⟨k1, q1, r1, wf1⟩ := DataW.trod_int Tryz.underlying3 t1
      obtain ⟨k2, q2, r2, wf2⟩ := DataW.trod_int Tryz.underlying41 t2
      simp only [List.cons.injEq, and_true] at q0 q1 q2
      subst q0 q1 q2
      have b0 := bounds_i64 wf0
      have b1 := bounds_i64 wf1
      have b2 := bounds_u32 wf2
      exact ⟨⟨k0, k1, k2⟩, ⟨g0, g1, g2⟩, by simp only; omega⟩
    obtain ⟨xs, hl2, hxs⟩ := list_of_each len Q.z95 each
    subst hl2
    refine ⟨some a, _, xs, rfl, by omega, ⟨rfl, by unfold maxLen at hm; omega, fun _ => ⟨a, rfl, fun j p hj => ?_⟩⟩, fun x hx2 => ?_⟩
    · have hjl : j < xs.length := by
        rcases Nat.lt_or_ge j xs.length with h' | h'
        · exact h'
        · rw [List.getElem?_eq_none h'] at hj; cases hj
      have hp : xs.getD j Q.z95 = p := by rw [List.getD_eq_getElem?_getD, hj]; rfl
      obtain ⟨c0, c1, c2⟩ := (hxs j hjl).1
      rw [hp] at c0 c1 c2
      refine ⟨[.int .i64 p.f0, .int .i64 p.f1, .int .u32 p.f2], rfl, Q.k95_mk W p, fun i u hu => ?_⟩
      rw [show Q.k95.sz = 3 from rfl]
      match i, hu with
      | 0, hu => simp at hu; subst hu; exact c0
      | 1, hu => simp at hu; subst hu; exact c1
      | 2, hu => simp at hu; subst hu; exact c2
    · obtain ⟨j, hj, hje⟩ := List.getElem_of_mem hx2
      have c1 := (hxs j hj).2
      have hg : xs.getD j Q.z95 = x := by rw [List.getD_eq_getElem?_getD, List.getElem?_eq_getElem hj, Option.getD_some, hje]
      rw [hg] at c1
      exact c1

theorem rows_of {v : Value} {y : DataW H × List MemPlace} (h : DataW.trod enc Tryz.prog W base (fun _ => true) held n 26 [v] = some y) :
    ∃ (A : Option Addr) (c : Nat) (l : List (List Int)), v = .slice A l.length c ∧ l.length ≤ c ∧ Kd.C (Kd.slice 3 (Kd.int .i64)) W A l.length l := by
  rcases Go.Deep.open_slice1 Tryz.underlying26 (by kernel_rfl) h with ⟨hcs, _⟩ | ⟨a, len, cap, m, n2, V, D, Pl, hcs, _, hl, hm, hmm, hx, hi⟩
  · simp at hcs
    subst hcs
    exact ⟨none, 0, [], rfl, Nat.le_refl _, ⟨rfl, by simp, fun h => by simp at h⟩⟩
  · simp at hcs
    subst hcs
    simp only [if_true] at hmm
    subst hmm
    have each : ∀ i, i < len → ∃ x : List Int, ∃ (A0 : Option Addr) (c0 : Nat), W.cell? (a.add i) = some (.slice A0 x.length c0) ∧ x.length ≤ c0 ∧ Kd.C (Kd.int .i64) W A0 x.length x := by
      intro i hil
      obtain ⟨hcl, htr⟩ := hi i (by omega)
      obtain ⟨A0, c0, x, hv, h1, h2, _⟩ := ints_of Tryz.underlying25 Tryz.underlying3 (by kernel_rfl) htr
      exact ⟨x, A0, c0, by rw [hcl, hv], h1, h2⟩
    obtain ⟨xs, hl2, hxs⟩ := list_of_each len [] each
    subst hl2
    refine ⟨some a, _, xs, rfl, by omega, ⟨rfl, by unfold maxLen at hm; omega, fun _ => ⟨a, rfl, fun j p hj => ?_⟩⟩⟩
    have hjl : j < xs.length := by
      rcases Nat.lt_or_ge j xs.length with h' | h'
      · exact h'
      · rw [List.getElem?_eq_none h'] at hj; cases hj
    have hp : xs.getD j [] = p := by rw [List.getD_eq_getElem?_getD, hj]; rfl
    obtain ⟨A0, c0, g1, g2, g3⟩ := hxs j hjl
    rw [hp] at g1 g2 g3
    refine ⟨[.slice A0 p.length c0], rfl, ⟨A0, c0, rfl, g2, g3⟩, fun i u hu => ?_⟩
    match i, hu with
    | 0, hu =>
      simp at hu
      subst hu
      rw [Nat.add_zero, show (Kd.slice 3 (Kd.int .i64)).sz = 1 from rfl, Nat.mul_one]
      exact g1
theorem int_of {v : Value} {y : DataW H × List MemPlace} (h : DataW.trod enc Tryz.prog W base (fun _ => true) held n 3 [v] = some y) : ∃ x, v = .int .i64 x := by
  obtain ⟨k0, q0, _, _⟩ := DataW.trod_int Tryz.underlying3 h
  simp only [List.cons.injEq, and_true] at q0
  exact ⟨_, q0⟩
end

end Go.Proofs.YtjddimoeodecgaaGreat
