/- The chapter's example. -/
import Derived.Test.YtenbcfjfgbpinaaGreatXG12
import Derived.Test.YtenbcfjfgbpinaaGreatXQy4
namespace Go.Proofs.YtenbcfjfgbpinaaGreat.Q
open Go.RowKit Go.Proofs.YtenbcfjfgbpinaaGreat Go.Proofs.YtenbcfjfgbpinaaGreatW.PrintWords Go.Proofs.YtenbcfjfgbpinaaGreatW.PrintLast
set_option linter.unusedVariables false
set_option maxRecDepth 100000

def exA : List S68 := [(⟨0, 1, 0⟩ : S68), (⟨1, 2, 0⟩ : S68), (⟨0, 2, 0⟩ : S68)]
def exB : List S68 := [(⟨0, 1, 5⟩ : S68), (⟨1, 2, 0⟩ : S68), (⟨0, 2, 0⟩ : S68)]
theorem ex_fit : ArcsFit exA := by
  intro a ha
  simp only [exA, List.mem_cons, List.not_mem_nil, or_false] at ha
  rcases ha with rfl | rfl | rfl <;> decide
theorem ex_okA : GOk 3 exA := by
  refine ⟨by decide, by decide, by decide, ?_, ?_⟩ <;>
  · intro a ha
    simp only [exA, List.mem_cons, List.not_mem_nil, or_false] at ha
    rcases ha with rfl | rfl | rfl <;> decide
theorem ex_nest : nestE 3 [2] [[0, 0, 1]] = (0, 0) := by decide
theorem ex_cell : cellE 3 exA [2] [[0, 0, 1]] 1 0 = 0 := by
  have hg : graphR 3 exA = (0, 0) := graphR_of ex_okA
  have hc : checkR 3 exA [2] [[0, 0, 1]] = (0, 0) := by
    unfold checkR
    rw [hg, if_pos rfl]
    exact ex_nest
  have hl : lookedE 3 exA [2] [[0, 0, 1]] 1 = 0 := by
    unfold lookedE
    rw [hc]
    decide
  unfold cellE
  rw [hl]
  decide
theorem ex_inner : innerOf exA (levelRow [[0, 0, 1]] 1) 0 = [0] := by decide
theorem ex_weighed : weighedOf exA [0] [5] = exB := rfl
theorem ex_bnd : bndOf exB [0, 0, 1] 0 = [0, 1] := by
  have he : edgeOf exB [0, 0, 1] 0 = [1, 0] := by decide
  unfold bndOf
  rw [he]
  have hm : [(1 : Int), 0].mergeSort (fun x y => decide (x ≤ y)) = [0, 1] := by
    simp [List.mergeSort, List.MergeSort.Internal.splitInTwo]
  rw [hm]
  decide
theorem ex_ok : GOk 3 exB := by
  refine ⟨by decide, by decide, by decide, ?_, ?_⟩ <;>
  · intro a ha
    simp only [exB, List.mem_cons, List.not_mem_nil, or_false] at ha
    rcases ha with rfl | rfl | rfl <;> decide
theorem ex_in : inB [0, 0, 1] 0 = [true, true, false] := by decide
theorem ex_d (s : Nat) (d : List Nat) (hs : s = 0 ∧ d = [0, 5, infN] ∨ s = 1 ∧ d = [infN, 0, infN]) : dOf 3 exB [true, true, false] s = d := by
  refine dOf_eq ?_
  unfold InSol
  have hst : [true, true, false].getD s false = true := by rcases hs with ⟨rfl, _⟩ | ⟨rfl, _⟩ <;> rfl
  rw [if_pos hst]
  have hmay : ∀ i, i < exB.length → inMay exB [true, true, false] i = true → i = 0 := by
    intro i hi hm
    have h3 : i < 3 := hi
    match i, h3, hm with
    | 0, _, _ => rfl
    | 1, _, hm => exact absurd hm (by decide)
    | 2, _, hm => exact absurd hm (by decide)
  have hlt : ∀ u, d.getD u 0 < 18446744073709551616 := by
    intro u
    rcases hs with ⟨_, rfl⟩ | ⟨_, rfl⟩ <;>
    · match u with
      | 0 => decide
      | 1 => decide
      | 2 => decide
      | u + 3 => simp
  refine ⟨?_, hlt, fun u hu => ?_, fun u x hu hr => ?_⟩
  · rcases hs with ⟨_, rfl⟩ | ⟨_, rfl⟩ <;> rfl
  · rcases hs with ⟨rfl, rfl⟩ | ⟨rfl, rfl⟩
    · match u, hu with
      | 0, _ => exact Or.inr .start
      | 1, _ => exact Or.inr (Rch.arc (back := false) (arcs := exB) (may := inMay exB [true, true, false]) (s := 0) 0 0 (by decide) (by decide) .start)
      | 2, _ => exact Or.inl rfl
    · match u, hu with
      | 0, _ => exact Or.inl rfl
      | 1, _ => exact Or.inr .start
      | 2, _ => exact Or.inl rfl
  · induction hr with
    | start => rcases hs with ⟨rfl, rfl⟩ | ⟨rfl, rfl⟩ <;> decide
    | arc x i hi hm hr ih =>
      have h0 := hmay i hi hm
      subst h0
      rcases hs with ⟨rfl, rfl⟩ | ⟨rfl, rfl⟩
      · show 5 ≤ addD x 5
        unfold addD
        split <;> omega
      · exact Nat.zero_le _

theorem leaf_works : clique_Leaf.f 3 exA [2] [[0, 0, 1]] 0 0 [5] = some (1, 0, 0, [0, 5, 18446744073709551615, 0], 0) := by
  have h5 : ∀ x ∈ [(5 : Int)], 0 ≤ x ∧ x < 4294967296 := by intro x hx; simp at hx; subst hx; decide
  rw [leaf_f ex_fit h5, if_pos ex_cell, ex_inner, if_pos (show [(5 : Int)].length = [(0 : Int)].length from rfl), ex_weighed, within_f ex_ok.fit]
  have hA : GOk 3 exA := ex_okA
  rw [show ((3 : Int)) = ((3 : Nat) : Int) from rfl, cellE_swap hA ex_ok, show (((3 : Nat) : Int)) = (3 : Int) from rfl, if_pos ex_cell]
  have hm : matOf (3 : Int).toNat exB (levelRow [[0, 0, 1]] 1) 0 = [0, 5, infN, 0] := by
    have hl : levelRow [[0, 0, 1]] 1 = [0, 0, 1] := rfl
    unfold matOf
    rw [hl, ex_bnd, ex_in]
    show rowOf (dOf 3 exB [true, true, false] 0) [0, 1] ++ (rowOf (dOf 3 exB [true, true, false] 1) [0, 1] ++ []) = _
    rw [ex_d 0 _ (Or.inl ⟨rfl, rfl⟩), ex_d 1 _ (Or.inr ⟨rfl, rfl⟩)]
    rfl
  rw [hm]
  rfl

theorem works_f : flyoverlaw13_works.f 9 = some true := by
  have h : clique_Leaf.f 3 [(⟨0, 1, 0⟩ : S68), (⟨1, 2, 0⟩ : S68), (⟨0, 2, 0⟩ : S68)] [2] [[0, 0, 1]] 0 0 [5] = some (1, 0, 0, [0, 5, 18446744073709551615, 0], 0) := leaf_works
  unfold flyoverlaw13_works.f
  rw [h]
  simp [flyoverbook_SameDists.f, flyoverbook_SameDists.l0, rd, wrap64]

end Go.Proofs.YtenbcfjfgbpinaaGreat.Q

/- CliqueHeavier's walk. -/
namespace Go.Proofs.YtenbcfjfgbpinaaGreat
open Go.RowKit Go.Lib Go.Sort Go.Proofs.YtenbcfjfgbpinaaGreatW.PrintWords Go.Proofs.YtenbcfjfgbpinaaGreatW.PrintLast Go.Proofs.YtenbcfjfgbpinaaGreatW.PrintMore
set_option linter.unusedVariables false
set_option maxRecDepth 100000

namespace Q
theorem ref_loop (N : Int) (arcs : List S68) (hm : arcs.length ≤ 8192) (d : Nat) : ∀ (k n : Nat), n + d = arcs.length → d < k → ∃ r, flyoverref03_Check.l0 k (n : Int) N arcs = some r := by
  induction d with
  | zero =>
    intro k n hn hk
    obtain ⟨k, rfl⟩ : ∃ m, k = m + 1 := ⟨k - 1, by omega⟩
    simp only [flyoverref03_Check.l0]
    rw [if_neg (by omega)]
    exact ⟨_, rfl⟩
  | succ d ih =>
    intro k n hn hk
    obtain ⟨k, rfl⟩ : ∃ m, k = m + 1 := ⟨k - 1, by omega⟩
    have hw : wrap64 ((n : Int) + 1) = ((n + 1 : Nat) : Int) := by unfold wrap64; omega
    simp only [flyoverref03_Check.l0]
    rw [if_pos (by omega), if_pos (by omega), hw]
    split
    · exact ⟨_, rfl⟩
    · split
      · exact ⟨_, rfl⟩
      · split
        · exact ⟨_, rfl⟩
        · split
          · exact ⟨_, rfl⟩
          · exact ih k (n + 1) (by omega) (by omega)
theorem ref_tot (N : Int) (arcs : List S68) : ∃ r, flyoverref03_Check.f (arcs.length + 3) N arcs = some r := by
  unfold flyoverref03_Check.f
  split
  · simp only [flyoverref03_Check.j0]; exact ⟨_, rfl⟩
  · simp only [flyoverref03_Check.j0]
    split
    · exact ⟨_, rfl⟩
    · split
      · exact ⟨_, rfl⟩
      · exact ref_loop N arcs (by omega) arcs.length _ 0 (by omega) (by omega)
theorem large_tot (N : Int) (arcs : List S68) : ∃ b, flyoverlaw13_large.f (arcs.length + 3) N arcs = some b := by
  obtain ⟨r, h⟩ := ref_tot N arcs
  unfold flyoverlaw13_large.f
  rw [h, Option.bind_some]
  split
  · split
    · exact ⟨_, rfl⟩
    · exact ⟨_, rfl⟩
  · exact ⟨_, rfl⟩
end Q

theorem u32Info : (Tryz.prog.info? 41).map (fun i => (i.zero, i.size, i.bytes)) = some (some (.int .u32 0), 1, 4) := by kernel_rfl

theorem own_shape {w : World} {B n size : Nat} {e : TypeId} {v : Value} {xs : List Value} (h : w.ownsRow B e size v n xs) : ∃ P c, v = .slice P n c := by
  rcases h.2 with ⟨h1, h2⟩ | ⟨g, cap, cur, h1, _⟩
  · exact ⟨none, 0, by rw [h1, h2]⟩
  · exact ⟨_, _, h1⟩
theorem u32_C {w : World} {B n cap : Nat} {P : Option Addr} {l : List Int} (h : w.ownsRow B 41 1 (.slice P n cap) n (l.map (Value.int .u32))) (hl : l.length = n) : Kd.C (Kd.int .u32) w P l.length l := by
  subst hl
  exact (Kd.R_reads' (Kd.R_of_own (enc := Value.int .u32) (ok := fun _ => True) h (fun _ _ => trivial))).2.2
end Go.Proofs.YtenbcfjfgbpinaaGreat
