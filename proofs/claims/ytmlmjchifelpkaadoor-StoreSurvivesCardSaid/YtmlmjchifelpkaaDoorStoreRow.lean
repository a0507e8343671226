/- What the rows of the store's laws share: the acts out of the arguments; the listed variable; a start that meets it. -/
import Derived.Test.YtmlmjchifelpkaaDoorRows
import Derived.Test.YtmlmjchifelpkaaDoorStoreX
import Derived.WalkKit
import Derived.ProofKit
import Derived.OpenShut
import Derived.ShutString
import Derived.ChangeOld
import Derived.Below
import Derived.SizedLaws
import Derived.Lib.SmallJoins
import Derived.Carry
import Derived.ChangeSlices
import Derived.Deep.Slices
import Derived.Deep.Fields
import Derived.LaidMore
import Derived.MakeChecks
import Derived.LaidLaws
namespace Go.Proofs.YtmlmjchifelpkaaDoor
open Go.ChangeShapes Go.WideShapes Go.ChangeAt Go.RowKit
open Go.ChangeMaps (open_string shut_string)
set_option linter.unusedVariables false

theorem ownS : ownKnob Tryd.prog.godebug = none := by kernel_rfl
theorem laidOutS : laidOutB Tryd.prog = true := by kernel_rfl
theorem tQuart : (Tryd.prog.globals[0]?).map (·.type) = some 108 := by kernel_rfl
abbrev lstS : List (String × DataW Unit) := [("flyover/code.quarters", Rows.laid_flyover_code_quarters)]
theorem laidS_of {W : World} (h : laidMetH Tryd.prog lstS W) : Laid W := by
  rw [MakeChecks.laidMetH_plain _ _ _ (by kernel_rfl)] at h
  exact Lib.tabIs_of_head gQuart tQuart Tryd.underlying108 Tryd.underlying85 (by kernel_rfl) (by kernel_rfl) h
theorem door_metS (os : Os) (args : Array Value) : laidMetH Tryd.prog lstS ((World.doorLaid Tryd.prog 400 os).forCall (fun _ _ => 0) ⟨#[], args, []⟩).memory :=
  laidMetH_of_parts3 (fuel := 8) (laidMet_of_run' 8 (by kernel_rfl) (by kernel_rfl)) (by kernel_rfl) (by kernel_rfl)

/-- A list of what each index has. -/
theorem list_of_each {α : Type} {P : Nat → α → Prop} (n : Nat) (d : α) (h : ∀ i, i < n → ∃ x, P i x) : ∃ xs : List α, xs.length = n ∧ ∀ i, i < xs.length → P i (xs.getD i d) := by
  induction n with
  | zero => exact ⟨[], rfl, fun i hi => absurd hi (Nat.not_lt_zero _)⟩
  | succ n ih =>
    obtain ⟨xs, hl, hx⟩ := ih (fun i hi => h i (by omega))
    obtain ⟨x, hp⟩ := h n (by omega)
    refine ⟨xs ++ [x], by simp [hl], fun i hi => ?_⟩
    by_cases hi2 : i < xs.length
    · have := hx i hi2
      rw [List.getD_eq_getElem?_getD, List.getElem?_append_left hi2, ← List.getD_eq_getElem?_getD]
      exact this
    · simp only [List.length_append, List.length_singleton] at hi
      obtain rfl : i = n := by omega
      rw [List.getD_eq_getElem?_getD, List.getElem?_append_right (by omega), hl]
      simpa using hp

section
variable {H : Type} {enc : TypeId × Value → H} {W : World} {base n : Nat} {sp : Nat → Bool} {held : Bool}
theorem weights_all {P : Program} {e : TypeId} : ∀ {l : List (DataW H)} {d : DataW H} {n : Nat}, d ∈ l → n ∈ d.weights P e → n ∈ DataW.weightsAll P e l
  | x :: r, d, n, hd, hn => by
    simp only [DataW.weightsAll, List.mem_append]
    rcases List.mem_cons.1 hd with rfl | h
    · exact Or.inl hn
    · exact Or.inr (weights_all h hn)
  | [], _, _, hd, _ => by cases hd

theorem fields_of {t e : TypeId} {P : Program} {fs : Array Field} {fuel : Nat} {cs : List Value} {x : DataW H × List MemPlace} (ht : P.underlying t = some (.slice e)) (he : P.underlying e = some (.struct fs))
    (hone : Go.Deep.oneCellFields P fs = true) (hC : P.cellsOf e = fs.size) (h : DataW.trod enc P W base sp held fuel t cs = some x) :
    (cs = [.slice none 0 0] ∧ x = (.nil, [])) ∨
    ∃ (a : Addr) (len cap m : Nat) (D : Nat → DataW H) (Pl : Nat → List MemPlace), cs = [.slice (some a) len cap] ∧ base ≤ a.block ∧ len ≤ cap ∧ cap ≤ maxLen ∧ m = (if sp a.block then cap else len) ∧
      x = (.slice ((List.range len).map D) ((List.range (m - len)).map fun j => D (len + j)), MemPlace.row a (m * fs.size) ++ (List.range m).flatMap Pl) ∧
      ∀ i, i < m → ∃ (ys : List (DataW H × List MemPlace)) (n : Nat), D i = .agg (ys.map (·.1)) ∧ Pl i = ys.flatMap (·.2) ∧ ys.length = fs.size ∧
        ∀ (j : Nat) (f : Field), fs[j]? = some f → ∃ (v : Value) (y : DataW H × List MemPlace), W.cell? (a.add (i * fs.size + j)) = some v ∧ ys[j]? = some y ∧ DataW.trod enc P W base sp held n f.type [v] = some y := by
  rcases Go.Deep.open_slice ht h with h0 | ⟨a, len, cap, m, n, D, Pl, hcs, hb, hl, hm, hmm, hx, hi⟩
  · exact .inl h0
  · refine .inr ⟨a, len, cap, m, D, Pl, hcs, hb, hl, hm, hmm, by rw [hC] at hx; exact hx, fun i him => ?_⟩
    obtain ⟨cs', hc, ht'⟩ := hi i him
    rw [hC] at hc
    obtain ⟨ys, n', hn', hy, hlen, hyl, hf⟩ := DataW.trod_struct he ht'
    obtain ⟨_, hcl, hat⟩ := World.cells?_some hc
    simp only [Prod.mk.injEq] at hy
    refine ⟨ys, n', hy.1, hy.2, hyl, fun j f hj => ?_⟩
    obtain ⟨ho, hk⟩ := Go.Deep.hone_of hone j f hj
    have hjl : j < fs.size := (Array.getElem?_eq_some_iff.1 hj).1
    have hcell := hat j hjl
    have hv : cs'[j]? = some (cs'[j]'(by omega)) := List.getElem?_eq_getElem (by omega)
    have h1 := hf j f hj
    rw [ho, hk] at h1
    have hone' : (cs'.drop j).take 1 = [cs'[j]'(by omega)] := by
      rw [List.drop_eq_getElem_cons (by omega)]
      rfl
    rw [hone'] at h1
    have hys : ys[j]? = some (ys[j]'(by omega)) := List.getElem?_eq_getElem (by omega)
    refine ⟨_, _, ?_, hys, h1.trans hys⟩
    rw [← Go.Deep.add_add, hcell, hv]

theorem acts_of {v : Value} {y : DataW H × List MemPlace} (h : DataW.trod enc Tryd.prog W base (fun _ => true) held n 22 [v] = some y) (hw : ∀ k ∈ y.1.weights Tryd.prog 22, k ≤ reachBytes) : ∃ xs, ActsArg W v xs := by
  rcases fields_of Tryd.underlying22 Tryd.underlying32 (by kernel_rfl) (by kernel_rfl) h with ⟨hcs, _⟩ | ⟨a, len, cap, m, D, Pl, hcs, _, hl, hm, hmm, hx, hi⟩
  · simp at hcs
    subst hcs
    exact ⟨[], none, 0, rfl, Nat.zero_le _, fun h => absurd rfl h, fun a ha => by cases ha⟩
  · simp at hcs
    subst hcs
    simp only [if_true] at hmm
    subst hmm
    have each : ∀ i, i < len → ∃ x : ActP, (W.cell? (a.add (i * 5)) = some (.int .i64 x.kind) ∧ W.cell? (a.add (i * 5 + 1)) = some (.string x.name) ∧ W.cell? (a.add (i * 5 + 2)) = some (.string x.data) ∧ W.cell? (a.add (i * 5 + 3)) = some (.int .i64 x.n) ∧ W.cell? (a.add (i * 5 + 4)) = some (.slice x.rp x.rn x.rc)) ∧ x.data.size ≤ 140737488355328 ∧ x.n ≤ 9223372036854775807 := by
      intro i hil
      obtain ⟨ys, n2, hD, _, hyl, hf⟩ := hi i (by omega)
      obtain ⟨v0, y0, g0, e0, t0⟩ := hf 0 _ rfl
      obtain ⟨v1, y1, g1, e1, t1⟩ := hf 1 _ rfl
      obtain ⟨v2, y2, g2, e2, t2⟩ := hf 2 _ rfl
      obtain ⟨v3, y3, g3, e3, t3⟩ := hf 3 _ rfl
      obtain ⟨v4, y4, g4, e4, t4⟩ := hf 4 _ rfl
      obtain ⟨k0, q0, r0, wf0⟩ := DataW.trod_int Tryd.underlying3 t0
      obtain ⟨s1, q1, r1, wf1⟩ := DataW.trod_string Tryd.underlying9 t1
      obtain ⟨s2, q2, r2, wf2⟩ := DataW.trod_string Tryd.underlying9 t2
      obtain ⟨k3, q3, r3, wf3⟩ := DataW.trod_int Tryd.underlying3 t3
      simp only [List.cons.injEq, and_true] at q0 q1 q2 q3
      subst q0 q1 q2 q3
      have hz : s2.size ≤ 140737488355328 := by
        have hm2 : DataW.agg (ys.map (·.1)) ∈ (List.range len).map D := List.mem_map.2 ⟨i, List.mem_range.2 hil, hD⟩
        have hm3 : s2.data.toList.length ∈ y.1.weights Tryd.prog 22 := by
          rw [hx]
          simp only [DataW.weights, Tryd.underlying22, List.mem_cons, List.mem_append]
          refine Or.inr (Or.inl (weights_all hm2 ?_))
          simp only [DataW.weights, Tryd.underlying32]
          refine DataW.weights_mem_each (j := 2) (t := 9) (d := .lit (.string s2.data.toList)) rfl ?_ _ (by simp [DataW.weights])
          rw [List.getElem?_map, e2, r2]
          rfl
        have := hw _ hm3
        rw [Array.length_toList] at this
        exact Nat.le_trans this (by decide)
      have hn3 : k3 ≤ 9223372036854775807 := (bounds_i64 wf3).2
      obtain ⟨rp, rn, rc, rfl⟩ : ∃ rp rn rc, v4 = .slice rp rn rc := by
        rcases DataW.trod_slice Tryd.underlying30 t4 with ⟨q4, _⟩ | ⟨a4, l4, c4, _, _, _, _, q4, _⟩
        · simp only [List.cons.injEq, and_true] at q4
          exact ⟨_, _, _, q4⟩
        · simp only [List.cons.injEq, and_true] at q4
          exact ⟨_, _, _, q4⟩
      exact ⟨⟨k0, s1, s2, k3, rp, rn, rc⟩, ⟨g0, g1, g2, g3, g4⟩, hz, hn3⟩
    obtain ⟨xs, hl2, hxs⟩ := list_of_each len ActP.nil each
    subst hl2
    refine ⟨xs, some a, _, rfl, by omega, fun hne => ?_, fun x hx2 => ?_⟩
    · have hl0 : 0 < xs.length := List.length_pos_iff.2 hne
      have c0 := (hxs 0 hl0).1.1
      have hs := World.cell?_spot c0
      obtain ⟨db, off, spot⟩ := a
      have hs2 : spot = none := by simpa [Addr.add] using hs
      subst hs2
      have hb := World.block_lt_of_cell? W _ c0
      have hea : ∀ k, (⟨db, off, none⟩ : Addr).add k = ⟨db, off + k, none⟩ := fun k => by by_cases hk : k = 0 <;> simp [Addr.add, hk]
      rw [hea] at hb
      refine ⟨db, off, rfl, hb, fun j hj => ?_⟩
      have c1 := (hxs j hj).1
      simp only [hea] at c1
      exact c1
    · obtain ⟨j, hj, hje⟩ := List.getElem_of_mem hx2
      have c1 := (hxs j hj).2
      have hg : xs.getD j ActP.nil = x := by rw [List.getD_eq_getElem?_getD, List.getElem?_eq_getElem hj, Option.getD_some, hje]
      rw [hg] at c1
      exact c1
end
end Go.Proofs.YtmlmjchifelpkaaDoor
