/- The acts out of the arguments, with their draws. -/
import Derived.Test.YtmlmjchifelpkaaDoorStoreRow
import Derived.Test.YtmlmjchifelpkaaDoorStoreSW
namespace Go.Proofs.YtmlmjchifelpkaaDoor
open Go.ChangeShapes Go.WideShapes Go.ChangeAt Go.RowKit
open Go.ChangeMaps (open_string shut_string)
set_option linter.unusedVariables false

section
variable {H : Type} {enc : TypeId × Value → H} {W : World} {base n : Nat} {sp : Nat → Bool} {held : Bool}
theorem ints_of {v : Value} {y : DataW H × List MemPlace} (h : DataW.trod enc Tryd.prog W base (fun _ => true) held n 30 [v] = some y) : ∃ rp rn rc, v = .slice rp rn rc ∧ DrawsIn W rp rn rc := by
  rcases Go.Deep.open_slice1 Tryd.underlying30 (by kernel_rfl) h with ⟨hcs, _⟩ | ⟨a, len, cap, m, k, V, D, Pl, hcs, _, hl, hm, hmm, _, hi⟩
  · simp at hcs
    subst hcs
    exact ⟨none, 0, 0, rfl, [], rfl, Nat.le_refl _, Nat.zero_le _, fun h => absurd rfl h⟩
  · simp at hcs
    subst hcs
    simp only [if_true] at hmm
    subst hmm
    have each : ∀ i, i < len → ∃ z : Int, W.cell? (a.add i) = some (.int .i64 z) := by
      intro i hil
      obtain ⟨h1, h2⟩ := hi i (by omega)
      obtain ⟨z, q0, _, _⟩ := DataW.trod_int Tryd.underlying3 h2
      simp only [List.cons.injEq, and_true] at q0
      rw [q0] at h1
      exact ⟨z, h1⟩
    obtain ⟨zs, hl2, hzs⟩ := list_of_each len 0 each
    subst hl2
    refine ⟨some a, _, _, rfl, zs, rfl, hl, hm, fun hne => ?_⟩
    have hl0 : 0 < zs.length := List.length_pos_iff.2 hne
    have c0 := hzs 0 hl0
    have hs := World.cell?_spot c0
    obtain ⟨db, off, spot⟩ := a
    have hs2 : spot = none := by simpa [Addr.add] using hs
    subst hs2
    have hb := World.block_lt_of_cell? W _ c0
    have hea : ∀ k, (⟨db, off, none⟩ : Addr).add k = ⟨db, off + k, none⟩ := fun k => by by_cases hk : k = 0 <;> simp [Addr.add, hk]
    rw [hea] at hb
    refine ⟨db, off, rfl, hb, fun j hj => ?_⟩
    have c1 := hzs j hj
    rw [hea] at c1
    exact c1

theorem acts_more {v : Value} {y : DataW H × List MemPlace} (h : DataW.trod enc Tryd.prog W base (fun _ => true) held n 22 [v] = some y) (hw : ∀ k ∈ y.1.weights Tryd.prog 22, k ≤ reachBytes) : ∃ xs, ActsMore W v xs := by
  rcases fields_of Tryd.underlying22 Tryd.underlying32 (by kernel_rfl) (by kernel_rfl) h with ⟨hcs, _⟩ | ⟨a, len, cap, m, D, Pl, hcs, _, hl, hm, hmm, hx, hi⟩
  · simp at hcs
    subst hcs
    exact ⟨[], ⟨none, 0, rfl, Nat.zero_le _, fun h => absurd rfl h, fun a ha => by cases ha⟩, fun a ha => by cases ha⟩
  · simp at hcs
    subst hcs
    simp only [if_true] at hmm
    subst hmm
    have each : ∀ i, i < len → ∃ x : ActP, (W.cell? (a.add (i * 5)) = some (.int .i64 x.kind) ∧ W.cell? (a.add (i * 5 + 1)) = some (.string x.name) ∧ W.cell? (a.add (i * 5 + 2)) = some (.string x.data) ∧ W.cell? (a.add (i * 5 + 3)) = some (.int .i64 x.n) ∧ W.cell? (a.add (i * 5 + 4)) = some (.slice x.rp x.rn x.rc)) ∧ (x.data.size ≤ 140737488355328 ∧ x.n ≤ 9223372036854775807) ∧ DrawsIn W x.rp x.rn x.rc := by
      intro i hil
      obtain ⟨ys, n2, hD, _, hyl, hf⟩ := hi i (by omega)
      obtain ⟨v0, y0, g0, e0, t0⟩ := hf 0 _ rfl
      obtain ⟨v1, y1, g1, e1, t1⟩ := hf 1 _ rfl
      obtain ⟨v2, y2, g2, e2, t2⟩ := hf 2 _ rfl
      obtain ⟨v3, y3, g3, e3, t3⟩ := hf 3 _ rfl
      obtain ⟨v4, y4, g4, e4, t4⟩ := hf 4 _ rfl
      obtain ⟨k0, q0, r0, wf0⟩ := DataW.trod_int Tryd.underlying3 t0
      obtain ⟨s1, q1, r1, wf1⟩ := DataW.trod_string Tryd.underlying9 t1
      obtain ⟨s2, q2, r2, wf2⟩ := DataW.trod_string Tryd.underlying9 t2
      obtain ⟨k3, q3, r3, wf3⟩ := DataW.trod_int Tryd.underlying3 t3
      simp only [List.cons.injEq, and_true] at q0 q1 q2 q3
      subst q0 q1 q2 q3
      have hz : s2.size ≤ 140737488355328 := by
        have hm2 : DataW.agg (ys.map (·.1)) ∈ (List.range len).map D := List.mem_map.2 ⟨i, List.mem_range.2 hil, hD⟩
        have hm3 : s2.data.toList.length ∈ y.1.weights Tryd.prog 22 := by
          rw [hx]
          simp only [DataW.weights, Tryd.underlying22, List.mem_cons, List.mem_append]
          refine Or.inr (Or.inl (weights_all hm2 ?_))
          simp only [DataW.weights, Tryd.underlying32]
          refine DataW.weights_mem_each (j := 2) (t := 9) (d := .lit (.string s2.data.toList)) rfl ?_ _ (by simp [DataW.weights])
          rw [List.getElem?_map, e2, r2]
          rfl
        have := hw _ hm3
        rw [Array.length_toList] at this
        exact Nat.le_trans this (by decide)
      have hn3 : k3 ≤ 9223372036854775807 := (bounds_i64 wf3).2
      obtain ⟨rp, rn, rc, rfl, hdr⟩ := ints_of t4
      exact ⟨⟨k0, s1, s2, k3, rp, rn, rc⟩, ⟨g0, g1, g2, g3, g4⟩, ⟨hz, hn3⟩, hdr⟩
    obtain ⟨xs, hl2, hxs⟩ := list_of_each len ActP.nil each
    subst hl2
    refine ⟨xs, ⟨some a, _, rfl, by omega, fun hne => ?_, fun x hx2 => ?_⟩, fun x hx2 => ?_⟩
    · have hl0 : 0 < xs.length := List.length_pos_iff.2 hne
      have c0 := (hxs 0 hl0).1.1
      have hs := World.cell?_spot c0
      obtain ⟨db, off, spot⟩ := a
      have hs2 : spot = none := by simpa [Addr.add] using hs
      subst hs2
      have hb := World.block_lt_of_cell? W _ c0
      have hea : ∀ k, (⟨db, off, none⟩ : Addr).add k = ⟨db, off + k, none⟩ := fun k => by by_cases hk : k = 0 <;> simp [Addr.add, hk]
      rw [hea] at hb
      refine ⟨db, off, rfl, hb, fun j hj => ?_⟩
      have c1 := (hxs j hj).1
      simp only [hea] at c1
      exact c1
    · obtain ⟨j, hj, hje⟩ := List.getElem_of_mem hx2
      have c1 := (hxs j hj).2.1
      have hg : xs.getD j ActP.nil = x := by rw [List.getD_eq_getElem?_getD, List.getElem?_eq_getElem hj, Option.getD_some, hje]
      rw [hg] at c1
      exact c1
    · obtain ⟨j, hj, hje⟩ := List.getElem_of_mem hx2
      have c1 := (hxs j hj).2.2
      have hg : xs.getD j ActP.nil = x := by rw [List.getD_eq_getElem?_getD, List.getElem?_eq_getElem hj, Option.getD_some, hje]
      rw [hg] at c1
      exact c1
end
end Go.Proofs.YtmlmjchifelpkaaDoor
