/- What the disk's small functions compute. -/
import Derived.Test.YtmlmjchifelpkaaDoorFileB
namespace Go.Proofs.YtmlmjchifelpkaaDoor
open Go.RowKit Go.Lib Go.Maps
set_option linter.unusedVariables false
set_option maxRecDepth 100000

/-- Of what was there nothing but blocks g and b has turned. -/
structure Turn (g b : Nat) (w w' : World) : Prop where
  os : w'.os = w.os
  tape : w'.tape = w.tape
  output : w'.output = w.output
  size : w.heap.size ≤ w'.heap.size
  block : ∀ k, k < w.heap.size → k ≠ g → k ≠ b → w'.heap[k]? = w.heap[k]?

section
variable {g b : Nat} {w w' w'' : World}
theorem Turn.refl (g b : Nat) (w : World) : Turn g b w w := ⟨rfl, rfl, rfl, Nat.le_refl _, fun _ _ _ _ => rfl⟩
theorem Turn.trans (h : Turn g b w w') (k : Turn g b w' w'') : Turn g b w w'' :=
  ⟨k.os.trans h.os, k.tape.trans h.tape, k.output.trans h.output, Nat.le_trans h.size k.size, fun i hi h1 h2 => (k.block i (Nat.lt_of_lt_of_le hi h.size) h1 h2).trans (h.block i hi h1 h2)⟩
theorem Turn.of_below (h : Below w.heap.size w w') (g b : Nat) : Turn g b w w' := ⟨h.os, h.tape, h.output, h.size, fun k hk _ _ => h.block k hk⟩
theorem Turn.of_grown (h : w.grownBy w' (some b)) (g : Nat) : Turn g b w w' := ⟨h.os, h.tape, h.output, h.size, fun k hk _ hb => h.block k hk (by simpa using hb)⟩
theorem Turn.set (g b : Nat) (w : World) (i : Nat) (u : Value) : Turn g b w (w.setCell ⟨g, i, none⟩ u) :=
  ⟨rfl, rfl, rfl, by simp [World.setCell], fun k _ hg _ => Below.heap_setCell _ _ _ _ hg⟩
theorem Turn.below (h : Turn g b w w') {B : Nat} (hB : B ≤ w.heap.size) (hg : B ≤ g) (hb : B ≤ b) : Below B w w' :=
  ⟨h.os, h.tape, h.output, h.size, fun k hk => h.block k (by omega) (by omega) (by omega)⟩
end

theorem heap_set_self {w : World} {g i : Nat} {cs : Array Value} {t : TypeId} {fr : Nat × Nat} (h : w.heap[g]? = some (.cells cs t fr)) (u : Value) : (w.setCell ⟨g, i, none⟩ u).heap[g]? = some (.cells (cs.setIfInBounds i u) t fr) := by
  simp only [World.setCell, Array.getElem?_modify]
  simp [h]

theorem IsDisk.set1 {w : World} {g b : Nat} {d : DiskP} (h : IsDisk w g b d) (x : Bool) : IsDisk (w.setCell ⟨g, 1, none⟩ (.bool x)) g b { d with fused := x } :=
  ⟨by rw [heap_set_self h.box]; rfl, h.files.kept (Below.heap_setCell _ _ _ _ h.ne.symm), ⟨h.ok.n_le, h.ok.left_lo, h.ok.left_hi, h.ok.sizes⟩⟩
theorem IsDisk.set2 {w : World} {g b : Nat} {d : DiskP} (h : IsDisk w g b d) (x : Bool) : IsDisk (w.setCell ⟨g, 2, none⟩ (.bool x)) g b { d with down := x } :=
  ⟨by rw [heap_set_self h.box]; rfl, h.files.kept (Below.heap_setCell _ _ _ _ h.ne.symm), ⟨h.ok.n_le, h.ok.left_lo, h.ok.left_hi, h.ok.sizes⟩⟩
theorem IsDisk.set3 {w : World} {g b : Nat} {d : DiskP} (h : IsDisk w g b d) (x : Int) (h0 : 0 ≤ x) (h1 : x ≤ 9223372036854775807) : IsDisk (w.setCell ⟨g, 3, none⟩ (.int .i64 x)) g b { d with left := x } :=
  ⟨by rw [heap_set_self h.box]; rfl, h.files.kept (Below.heap_setCell _ _ _ _ h.ne.symm), ⟨h.ok.n_le, h0, h1, h.ok.sizes⟩⟩

theorem change_any (g b : Nat) (d : DiskP) (w : World) (h : IsDisk w g b d) :
    Calls Tryd.prog 38 #[.pointer (some ⟨g, 0, none⟩)] w fun e w' => e = .returned (.bool (dChange d).1) ∧ IsDisk w' g b (dChange d).2 ∧ Turn g b w w' := by
  have c1 := h.cell1
  have c2 := h.cell2
  have c3 := h.cell3
  have f2 := h.thaw 2
  have f3 := h.thaw 3
  have H := Lib.hid h
  have HO := Lib.hid h.ok
  have hlo := h.ok.left_lo
  have hhi := h.ok.left_hi
  clear h
  obtain ⟨fs, n, fu, dn, lf⟩ := d
  simp only at c1 c2 c3 hlo hhi
  cases fu <;> cases dn
  · have e1 : dChange ⟨fs, n, false, false, lf⟩ = (true, ⟨fs, n, false, false, lf⟩) := rfl
    rw [e1]
    clear e1
    go_enter Tryd.func38, Tryd.ntmps38
    go_wp2
    go_ret
    exact ⟨rfl, H.out, Turn.refl _ _ _⟩
  · have e1 : dChange ⟨fs, n, false, true, lf⟩ = (false, ⟨fs, n, false, true, lf⟩) := rfl
    rw [e1]
    clear e1
    go_enter Tryd.func38, Tryd.ntmps38
    go_wp2
    go_ret
    exact ⟨rfl, H.out, Turn.refl _ _ _⟩
  · by_cases hz : lf = 0
    · subst hz
      have e1 : dChange ⟨fs, n, true, false, 0⟩ = (false, ⟨fs, n, true, true, 0⟩) := rfl
      rw [e1]
      clear e1
      go_enter Tryd.func38, Tryd.ntmps38
      go_wp2
      go_ret
      exact ⟨rfl, H.out.set2 true, Turn.set _ _ _ _ _⟩
    · have e1 : dChange ⟨fs, n, true, false, lf⟩ = (true, ⟨fs, n, true, false, lf - 1⟩) := by unfold dChange; simp [hz]
      rw [e1]
      have HZ := Lib.hid hz
      have hz' : ¬ lf = 0 := hz
      have h3 := H.out.set3 (lf - 1) (by omega) (by omega)
      have H3 := Lib.hid h3
      clear e1 h3
      go_enter Tryd.func38, Tryd.ntmps38
      go_wp2
      go_ret
      refine ⟨rfl, ?_, Turn.set _ _ _ _ _⟩
      exact H3.out
  · have e1 : dChange ⟨fs, n, true, true, lf⟩ = (false, ⟨fs, n, true, true, lf⟩) := by unfold dChange; simp
    rw [e1]
    clear e1
    by_cases hz : lf = 0
    · subst hz
      go_enter Tryd.func38, Tryd.ntmps38
      go_wp2
      go_ret
      exact ⟨rfl, H.out.set2 true, Turn.set _ _ _ _ _⟩
    · go_enter Tryd.func38, Tryd.ntmps38
      go_wp2
      go_ret
      exact ⟨rfl, H.out, Turn.refl _ _ _⟩

end Go.Proofs.YtmlmjchifelpkaaDoor
