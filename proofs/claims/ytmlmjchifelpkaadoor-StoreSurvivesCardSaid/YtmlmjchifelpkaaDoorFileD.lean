/- What the disk's functions compute: known, Read, Fuse, New. -/
import Derived.Test.YtmlmjchifelpkaaDoorFileC
import Derived.MakeChecks
namespace Go.Proofs.YtmlmjchifelpkaaDoor
open Go.RowKit Go.Lib Go.Maps
set_option linter.unusedVariables false
set_option maxRecDepth 100000

/-- Behind a callee: the new block's cells stand. -/
theorem box_keep {w w' : World} {o : Obj} (hb : Below (w.alloc o).heap.size (w.alloc o) w') : (∀ i, w'.cell? ⟨w.heap.size, i, none⟩ = (w.alloc o).cell? ⟨w.heap.size, i, none⟩) ∧ (∀ i, w'.frozen? ⟨w.heap.size, i, none⟩ = (w.alloc o).frozen? ⟨w.heap.size, i, none⟩) :=
  ⟨fun i => hb.cell (p := ⟨w.heap.size, i, none⟩) (by simp), fun i => hb.frozen (p := ⟨w.heap.size, i, none⟩) (by simp)⟩

theorem box_below {w w' : World} {o : Obj} (hb : Below (w.alloc o).heap.size (w.alloc o) w') : Below w.heap.size w w' :=
  ((Below.refl _ _).alloc (Nat.le_refl _) _).trans (hb.mono (by simp))

theorem may_len {s : ByteArray} (h : dMay s.data.toList = true) : s.size ≤ 64 := by
  unfold dMay at h
  simp only [Bool.and_eq_true, decide_eq_true_eq] at h
  rw [Lib.size_eq]
  exact h.1.2

theorem known_any (g b : Nat) (d : DiskP) (s : ByteArray) (w : World) (h : IsDisk w g b d) :
    Calls Tryd.prog 31 #[.pointer (some ⟨g, 0, none⟩), .string s] w fun e w' =>
      e = .returned (.tuple #[.agg #[.string (dKnown d s.data.toList).1.has, .string (dKnown d s.data.toList).1.safe, .bool (dKnown d s.data.toList).1.kept], .int .i64 (dKnown d s.data.toList).2]) ∧ Below w.heap.size w w' := by
  have hm := fun W => may_any s W
  have hlt := h.lt
  have hltb := h.ltb
  have H := Lib.hid h
  clear h
  cases hq : dMay s.data.toList with
  | false =>
    have e1 : dKnown d s.data.toList = (FileP.nil, 170) := by unfold dKnown; rw [hq]; rfl
    rw [e1]
    rw [hq] at hm
    clear e1 hq
    unfold FileP.nil
    go_enter Tryd.func31, Tryd.ntmps31
    go_wp2_with fail
    refine (hm _).mono ?_
    rintro e w1 ⟨rfl, hb⟩
    obtain ⟨hc, hf⟩ := box_keep hb
    have hb0 := box_below hb
    have hs0 : w.heap.size < w1.heap.size := by have := hb.size; simp at this; omega
    clear hm
    go_wp2
    refine bodyPost_ret (v := .tuple #[.agg #[.string ⟨#[]⟩, .string ⟨#[]⟩, .bool false], .int .i64 170]) (by simp [results, Tryd.results31, hc, go_sem]; try rfl) rfl ⟨rfl, ?_⟩
    go_grown
  | true =>
    have hs : s.size ≤ maxLen := by have := may_len hq; unfold maxLen; omega
    rw [hq] at hm
    cases hk : d.fs s.data.toList with
    | none =>
      have e1 : dKnown d s.data.toList = (FileP.nil, 5) := by unfold dKnown; rw [hq, hk]; rfl
      have hfe : (d.fs s.data.toList).getD FileP.nil = ⟨⟨#[]⟩, ⟨#[]⟩, false⟩ := by rw [hk]; rfl
      have hso : (d.fs s.data.toList).isSome = false := by rw [hk]; rfl
      rw [e1]
      have HF := Lib.hid hfe
      have HS := Lib.hid hs
      have HO := Lib.hid hso
      clear e1 hq hk hfe hs hso
      unfold FileP.nil
      go_enter Tryd.func31, Tryd.ntmps31
      go_wp2_with fail
      refine (hm _).mono ?_
      rintro e w1 ⟨rfl, hb⟩
      obtain ⟨hc, hf⟩ := box_keep hb
      have hb0 := box_below hb
      have hs0 : w.heap.size < w1.heap.size := by have := hb.size; simp at this; omega
      have D1 := H.out.below hb0 hlt hltb
      have c0 := D1.cell0
      have hF := Lib.hid D1.files
      clear hm D1
      go_wp2_with (at_lookup; refine wpList_look rfl _ _ rfl rfl hF.out s HS.out rfl _ HF.out ?_; rw [HO.out])
      refine bodyPost_ret (v := .tuple #[.agg #[.string ⟨#[]⟩, .string ⟨#[]⟩, .bool false], .int .i64 5]) (by simp [results, Tryd.results31, hc, hs0, go_sem]; try rfl) rfl ⟨rfl, ?_⟩
      go_grown
    | some f =>
      have e1 : dKnown d s.data.toList = (f, 0) := by unfold dKnown; rw [hq, hk]; rfl
      obtain ⟨x, y, z⟩ := f
      have hfe : (d.fs s.data.toList).getD FileP.nil = ⟨x, y, z⟩ := by rw [hk]; rfl
      have hso : (d.fs s.data.toList).isSome = true := by rw [hk]; rfl
      rw [e1]
      have HF := Lib.hid hfe
      have HS := Lib.hid hs
      have HO := Lib.hid hso
      clear e1 hq hk hfe hs hso
      go_enter Tryd.func31, Tryd.ntmps31
      go_wp2_with fail
      refine (hm _).mono ?_
      rintro e w1 ⟨rfl, hb⟩
      obtain ⟨hc, hf⟩ := box_keep hb
      have hb0 := box_below hb
      have hs0 : w.heap.size < w1.heap.size := by have := hb.size; simp at this; omega
      have D1 := H.out.below hb0 hlt hltb
      have c0 := D1.cell0
      have hF := Lib.hid D1.files
      clear hm D1
      go_wp2_with (at_lookup; refine wpList_look rfl _ _ rfl rfl hF.out s HS.out rfl _ HF.out ?_; rw [HO.out])
      refine bodyPost_ret (v := .tuple #[.agg #[.string x, .string y, .bool z], .int .i64 0]) (by simp [results, Tryd.results31, hc, hs0, go_sem]; try rfl) rfl ⟨rfl, ?_⟩
      go_grown

theorem read_any (g b : Nat) (d : DiskP) (s : ByteArray) (w : World) (h : IsDisk w g b d) :
    Calls Tryd.prog 13 #[.pointer (some ⟨g, 0, none⟩), .string s] w fun e w' =>
      e = .returned (.tuple #[.string (dKnown d s.data.toList).1.has, .int .i64 (dKnown d s.data.toList).2]) ∧ Below w.heap.size w w' := by
  have hk := fun W hW => known_any g b d s W hW
  have H := Lib.hid h
  clear h
  generalize dKnown d s.data.toList = kk at *
  obtain ⟨⟨x, y, z⟩, n⟩ := kk
  go_enter Tryd.func13, Tryd.ntmps13
  go_wp2_with fail
  refine (hk _ H.out).mono ?_
  rintro e w1 ⟨rfl, hb⟩
  clear hk
  go_wp2
  go_ret2
  refine ⟨rfl, ?_⟩
  have := hb.size
  go_grown

theorem fuse_any (g b : Nat) (d : DiskP) (n : Int) (hn : n ≤ 9223372036854775807) (w : World) (h : IsDisk w g b d) :
    Calls Tryd.prog 18 #[.pointer (some ⟨g, 0, none⟩), .int .i64 n] w fun e w' =>
      e = .returned (.int .i64 (dFuse d n).1) ∧ IsDisk w' g b (dFuse d n).2 ∧ Turn g b w w' := by
  have c1 := h.cell1
  have c3 := h.cell3
  have f1 := h.thaw 1
  have f3 := h.thaw 3
  by_cases h0 : n < 0
  · have e1 : dFuse d n = (1, d) := by unfold dFuse; rw [if_pos h0]
    rw [e1]
    have H := Lib.hid h
    clear h e1
    go_enter Tryd.func18, Tryd.ntmps18
    go_wp2
    go_ret
    exact ⟨rfl, H.out, Turn.refl _ _ _⟩
  · have e1 : dFuse d n = (0, { d with fused := true, left := n }) := by unfold dFuse; rw [if_neg h0]
    rw [e1]
    have h2 := (h.set1 true).set3 n (by omega) hn
    have H2 := Lib.hid h2
    clear h h2 e1
    go_enter Tryd.func18, Tryd.ntmps18
    go_wp2
    go_ret
    exact ⟨rfl, H2.out, (Turn.set g b w 1 _).trans (Turn.set g b _ 3 _)⟩

theorem new_any (w : World) :
    Calls Tryd.prog 7 #[] w fun e w' => e = .returned (.pointer (some ⟨w.heap.size + 1, 0, none⟩)) ∧ IsDisk w' (w.heap.size + 1) w.heap.size dNew ∧ Below w.heap.size w w' := by
  have hmm := @run_makeMap Tryd.prog
  go_enter Tryd.func7, Tryd.ntmps7
  go_wp2
  go_ret
  refine ⟨rfl, ⟨?_, ?_, ?_⟩, ?_⟩
  · have := MapKept.heap_alloc (w.alloc (.map #[] 0)) (.cells #[.map (some w.heap.size), .bool false, .bool false, .int .i64 0] 48)
    simpa [dNew] using this.1
  · exact ⟨.map [], (World.ownsMap_made w _ _ _).alloc _, rfl, fun k => rfl, fun k f hf => by cases hf⟩
  · exact ⟨by decide, by decide, by decide, fun k f hf => by cases hf⟩
  · go_grown

end Go.Proofs.YtmlmjchifelpkaaDoor
