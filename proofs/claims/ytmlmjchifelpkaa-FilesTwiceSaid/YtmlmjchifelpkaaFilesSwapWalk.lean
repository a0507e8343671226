/- FilesSwap: the plain law, and the walk through the law's own code. -/
import Derived.Test.YtmlmjchifelpkaaFileL
namespace Go.Proofs.Ytmlmjchifelpkaa
open Go.RowKit Go.Lib Go.Maps Go.Sort
set_option linter.unusedVariables false

theorem change_fuse {d : DiskP} (h1 : d.fused = true) (h2 : d.down = false) : dChange d = if d.left = 0 then (false, { d with down := true }) else (true, { d with left := d.left - 1 }) := by
  obtain ⟨fs, n, fu, dn, l⟩ := d
  simp only at h1 h2
  subst h1 h2
  unfold dChange
  by_cases h : l = 0 <;> simp [h]

/-- The disk on which a file 'a' is safe, with a fuse. -/
def dF (was : ByteArray) (l : Int) : DiskP := { dA2 was with fused := true, left := l }
def dF1 (was will : ByteArray) (l : Int) : DiskP := { dF was l with left := l - 1 }.put [98] ⟨will, ⟨#[]⟩, false⟩
def dF2 (was will : ByteArray) (l : Int) : DiskP := { dF1 was will l with left := l - 1 - 1 }.put [98] ⟨will, will, true⟩
def dF3 (was will : ByteArray) (l : Int) : DiskP := ({ dF2 was will l with left := l - 1 - 1 - 1 }.del [98]).put [97] ⟨will, will, true⟩
def dDown (d : DiskP) : DiskP := { d with down := true }

theorem sF (was : ByteArray) (l : Int) (h : 0 ≤ l) : dFuse (dA2 was) l = (0, dF was l) := by unfold dFuse; rw [if_neg (by omega)]; rfl
theorem sW0 (was will : ByteArray) (l : Int) (ht : will.size ≤ 262144) (h : l = 0) : dWrite (dF was l) [98] will = (191, dDown (dF was l)) := by
  unfold dWrite
  rw [if_pos may_b, if_neg, change_fuse (d := dF was l) rfl rfl, if_pos (show (dF was l).left = 0 from h)]
  · rfl
  · rintro (h' | ⟨_, h'⟩)
    · omega
    · exact absurd h' (by show ¬ 64 ≤ 1; decide)
theorem sW1 (was will : ByteArray) (l : Int) (ht : will.size ≤ 262144) (h : ¬ l = 0) : dWrite (dF was l) [98] will = (0, dF1 was will l) := by
  unfold dWrite
  rw [if_pos may_b, if_neg, change_fuse (d := dF was l) rfl rfl, if_neg (show ¬ (dF was l).left = 0 from h)]
  · rfl
  · rintro (h' | ⟨_, h'⟩)
    · omega
    · exact absurd h' (by show ¬ 64 ≤ 1; decide)
theorem sS0 (was will : ByteArray) (l : Int) (h : l - 1 = 0) : dSync (dF1 was will l) [98] = (191, dDown (dF1 was will l)) := by
  unfold dSync
  rw [known_up (d := dF1 was will l) (f := ⟨will, ⟨#[]⟩, false⟩) may_b rfl, if_pos rfl, change_fuse (d := dF1 was will l) rfl rfl, if_pos (show (dF1 was will l).left = 0 from h)]
  rfl
theorem sS1 (was will : ByteArray) (l : Int) (h : ¬ l - 1 = 0) : dSync (dF1 was will l) [98] = (0, dF2 was will l) := by
  unfold dSync
  rw [known_up (d := dF1 was will l) (f := ⟨will, ⟨#[]⟩, false⟩) may_b rfl, if_pos rfl, change_fuse (d := dF1 was will l) rfl rfl, if_neg (show ¬ (dF1 was will l).left = 0 from h)]
  rfl
theorem sR0 (was will : ByteArray) (l : Int) (h : l - 1 - 1 = 0) : dRename (dF2 was will l) [98] [97] = (191, dDown (dF2 was will l)) := by
  unfold dRename
  rw [may_a, may_b, known_up (d := dF2 was will l) (f := ⟨will, will, true⟩) may_b rfl, if_pos rfl, change_fuse (d := dF2 was will l) rfl rfl, if_pos (show (dF2 was will l).left = 0 from h)]
  rfl
theorem sR1 (was will : ByteArray) (l : Int) (h : ¬ l - 1 - 1 = 0) : dRename (dF2 was will l) [98] [97] = (0, dF3 was will l) := by
  unfold dRename
  rw [may_a, may_b, known_up (d := dF2 was will l) (f := ⟨will, will, true⟩) may_b rfl, if_pos rfl, change_fuse (d := dF2 was will l) rfl rfl, if_neg (show ¬ (dF2 was will l).left = 0 from h)]
  rfl

/-- A safe file is read behind a crash. -/
theorem crash_read {g b : Nat} {d : DiskP} {s x : ByteArray} {v : Value} {zs : List Int} {w : World} (h : IsDisk w g b d) (hz : DrawsAt g b w v zs) (hl : zs.length ≤ 16384) (hm : dMay s.data.toList = true) (hf : d.fs s.data.toList = some ⟨x, x, true⟩) :
    Calls Try.prog 11 #[.pointer (some ⟨g, 0, none⟩), v] w fun e w' => e = .returned (.int .i64 0) ∧ (∃ d', IsDisk w' g b d' ∧ (dKnown d' s.data.toList).1.has = x ∧ (dKnown d' s.data.toList).2 = 0) ∧ Turn g b w w' := by
  refine (crash_any g b d v zs w h hz hl).mono ?_
  rintro e w' ⟨ss, hss, rfl, hd, ht⟩
  have := crashOn_calm (f := ⟨x, x, true⟩) (by simp [FileP.calm]) ss zs d.up hf
  refine ⟨rfl, ⟨_, hd, ?_⟩, ht⟩
  rw [known_up hm this]
  exact ⟨rfl, rfl⟩

/-- The slice v reads as the numbers zs. -/
def DrawsArg (w : World) (v : Value) (zs : List Int) : Prop :=
  ∃ p cap, v = .slice p zs.length cap ∧ zs.length ≤ cap ∧ cap ≤ maxLen ∧ (zs ≠ [] → ∃ db off, p = some ⟨db, off, none⟩ ∧ db < w.heap.size ∧ ∀ j, j < zs.length → w.cell? ⟨db, off + j, none⟩ = some (.int .i64 (zs.getD j 0)))

theorem DrawsArg.at {w w' : World} {v : Value} {zs : List Int} {g b : Nat} (h : DrawsArg w v zs) (hb : Below w.heap.size w w') (hg : w.heap.size ≤ g) (hb2 : w.heap.size ≤ b) : DrawsAt g b w' v zs := by
  obtain ⟨p, cap, h1, h2, h3, h4⟩ := h
  refine ⟨p, cap, h1, h2, h3, fun hz => ?_⟩
  obtain ⟨db, off, k1, k2, k3⟩ := h4 hz
  exact ⟨db, off, k1, by omega, by omega, Nat.lt_of_lt_of_le k2 hb.size, fun j hj => (hb.cell (p := ⟨db, off + j, none⟩) k2).trans (k3 j hj)⟩

theorem fuse_c {g b : Nat} {d d' : DiskP} {n m : Int} {w : World} (hn : n ≤ 9223372036854775807) (h : IsDisk w g b d) (e1 : dFuse d n = (m, d')) :
    Calls Try.prog 15 #[.pointer (some ⟨g, 0, none⟩), .int .i64 n] w fun e w' => e = .returned (.int .i64 m) ∧ IsDisk w' g b d' ∧ Turn g b w w' := by
  have := fuse_any g b d n hn w h
  rw [e1] at this
  exact this
theorem rename_c {g b : Nat} {d d' : DiskP} {n : Int} {s t : ByteArray} {w : World} (h : IsDisk w g b d) (e1 : dRename d s.data.toList t.data.toList = (n, d')) :
    Calls Try.prog 14 #[.pointer (some ⟨g, 0, none⟩), .string s, .string t] w fun e w' => e = .returned (.int .i64 n) ∧ IsDisk w' g b d' ∧ Turn g b w w' := by
  have := rename_any g b d s t w h
  rw [e1] at this
  exact this

theorem swap_big (was will : ByteArray) (fu : Int) (v : Value) (zs : List Int) (w : World) (hz : DrawsArg w v zs) (hb : 262144 < was.size ∨ 262144 < will.size ∨ 16384 < zs.length) :
    Calls Try.prog 5 #[.string was, .string will, .agg #[.int .i64 fu, v]] w fun e w' => e = .returned (.bool true) ∧ Below w.heap.size w w' := by
  have HZ := Lib.hid hz
  obtain ⟨p, cap, rfl, -, -, -⟩ := hz
  by_cases b1 : 262144 < was.size
  · have a1 : (262144 : Int) < (was.size : Int) := by omega
    clear hb
    go_enter Try.func5, Try.ntmps5
    go_wp2_with fail
    refine (new_any _).mono ?_
    rintro e w1 ⟨rfl, hd1, hb1⟩
    have c0 := ((box_keep hb1).1 0).trans (World.cell?_alloc_new _ _ _ _)
    have c1 := ((box_keep hb1).1 1).trans (World.cell?_alloc_new _ _ _ _)
    simp at c0 c1
    have HB1 := Lib.hid (box_below hb1)
    simp only [World.size_alloc] at hd1
    have HD1 := Lib.hid hd1
    have q1 := hd1.lt
    clear hd1 hb1
    go_wp2_with fail
    refine (works_any _).mono ?_
    rintro e w2 ⟨rfl, hb2⟩
    have HD2 := Lib.hid (HD1.out.below hb2 HD1.out.lt HD1.out.ltb)
    have HB2 := Lib.hid (HB1.out.trans (hb2.mono HB1.out.size))
    have d0 := (hb2.cell (p := ⟨w.heap.size, 0, none⟩) (by show w.heap.size < _; omega)).trans c0
    have d1 := (hb2.cell (p := ⟨w.heap.size, 1, none⟩) (by show w.heap.size < _; omega)).trans c1
    have q2 := hb2.size
    clear hb2 c0 c1
    go_wp2
    go_ret
    exact ⟨rfl, HB2.out⟩
  · have a1 : ¬ (262144 : Int) < (was.size : Int) := by omega
    by_cases b2 : 262144 < will.size
    · have a2 : (262144 : Int) < (will.size : Int) := by omega
      clear hb
      go_enter Try.func5, Try.ntmps5
      go_wp2_with fail
      refine (new_any _).mono ?_
      rintro e w1 ⟨rfl, hd1, hb1⟩
      have c0 := ((box_keep hb1).1 0).trans (World.cell?_alloc_new _ _ _ _)
      have c1 := ((box_keep hb1).1 1).trans (World.cell?_alloc_new _ _ _ _)
      simp at c0 c1
      have HB1 := Lib.hid (box_below hb1)
      simp only [World.size_alloc] at hd1
      have HD1 := Lib.hid hd1
      have q1 := hd1.lt
      clear hd1 hb1
      go_wp2_with fail
      refine (works_any _).mono ?_
      rintro e w2 ⟨rfl, hb2⟩
      have HD2 := Lib.hid (HD1.out.below hb2 HD1.out.lt HD1.out.ltb)
      have HB2 := Lib.hid (HB1.out.trans (hb2.mono HB1.out.size))
      have d0 := (hb2.cell (p := ⟨w.heap.size, 0, none⟩) (by show w.heap.size < _; omega)).trans c0
      have d1 := (hb2.cell (p := ⟨w.heap.size, 1, none⟩) (by show w.heap.size < _; omega)).trans c1
      have q2 := hb2.size
      clear hb2 c0 c1
      go_wp2
      go_ret
      exact ⟨rfl, HB2.out⟩
    · have a2 : ¬ (262144 : Int) < (will.size : Int) := by omega
      have a3 : (16384 : Int) < (zs.length : Int) := by omega
      clear hb
      go_enter Try.func5, Try.ntmps5
      go_wp2_with fail
      refine (new_any _).mono ?_
      rintro e w1 ⟨rfl, hd1, hb1⟩
      have c0 := ((box_keep hb1).1 0).trans (World.cell?_alloc_new _ _ _ _)
      have c1 := ((box_keep hb1).1 1).trans (World.cell?_alloc_new _ _ _ _)
      simp at c0 c1
      have HB1 := Lib.hid (box_below hb1)
      simp only [World.size_alloc] at hd1
      have HD1 := Lib.hid hd1
      have q1 := hd1.lt
      clear hd1 hb1
      go_wp2_with fail
      refine (works_any _).mono ?_
      rintro e w2 ⟨rfl, hb2⟩
      have HD2 := Lib.hid (HD1.out.below hb2 HD1.out.lt HD1.out.ltb)
      have HB2 := Lib.hid (HB1.out.trans (hb2.mono HB1.out.size))
      have d0 := (hb2.cell (p := ⟨w.heap.size, 0, none⟩) (by show w.heap.size < _; omega)).trans c0
      have d1 := (hb2.cell (p := ⟨w.heap.size, 1, none⟩) (by show w.heap.size < _; omega)).trans c1
      have q2 := hb2.size
      clear hb2 c0 c1
      go_wp2
      go_ret
      exact ⟨rfl, HB2.out⟩

theorem swap_0 (was will : ByteArray) (fu : Int) (v : Value) (zs : List Int) (w : World) (hz : DrawsArg w v zs) (h1 : was.size ≤ 262144) (h2 : will.size ≤ 262144) (h3 : zs.length ≤ 16384) (hl : fu % 5 = 0) :
    Calls Try.prog 5 #[.string was, .string will, .agg #[.int .i64 fu, v]] w fun e w' => e = .returned (.bool true) ∧ Below w.heap.size w w' := by
  have HZ := Lib.hid hz
  obtain ⟨p, cap, rfl, -, -, -⟩ := hz
  have a1 : ¬ (262144 : Int) < (was.size : Int) := by omega
  have a2 : ¬ (262144 : Int) < (will.size : Int) := by omega
  have a3 : ¬ (16384 : Int) < (zs.length : Int) := by omega
  have hl0 : 0 ≤ fu % 5 := by omega
  have hl5 : fu % 5 ≤ 9223372036854775807 := by omega
  have HL := Lib.hid hl5
  have H1 := Lib.hid (sA1 was h1)
  have H2 := Lib.hid (sA2 was)
  have HF := Lib.hid (sF was (fu % 5) hl0)
  have H3 := Lib.hid h3
  have HS1 : Hid (was.size ≤ maxLen) := by show _ ≤ _; unfold maxLen; omega
  have HS2 : Hid (will.size ≤ maxLen) := by show _ ≤ _; unfold maxLen; omega
  have HW := Lib.hid (sW0 was will (fu % 5) h2 hl)
  clear h1 h2 h3 hl0 hl5 hl
  go_enter Try.func5, Try.ntmps5
  go_wp2_with fail
  refine (new_any _).mono ?_
  rintro e w1 ⟨rfl, hd1, hb1⟩
  have c0 := ((box_keep hb1).1 0).trans (World.cell?_alloc_new _ _ _ _)
  have c1 := ((box_keep hb1).1 1).trans (World.cell?_alloc_new _ _ _ _)
  simp at c0 c1
  have HB1 := Lib.hid (box_below hb1)
  simp only [World.size_alloc] at hd1
  have HD1 := Lib.hid hd1
  have q1 := hd1.lt
  clear hd1 hb1
  go_wp2_with fail
  refine (works_any _).mono ?_
  rintro e w2 ⟨rfl, hb2⟩
  have HD2 := Lib.hid (HD1.out.below hb2 HD1.out.lt HD1.out.ltb)
  have HB2 := Lib.hid (HB1.out.trans (hb2.mono HB1.out.size))
  have d0 := (hb2.cell (p := ⟨w.heap.size, 0, none⟩) (by show w.heap.size < _; omega)).trans c0
  have d1 := (hb2.cell (p := ⟨w.heap.size, 1, none⟩) (by show w.heap.size < _; omega)).trans c1
  have q2 := hb2.size
  clear hb2 c0 c1
  go_wp2_with fail
  refine (write_c (s := ⟨#[97]⟩) HD2.out HS1.out H1.out).mono ?_
  rintro e w3 ⟨rfl, hd, ht⟩
  have HD3 := Lib.hid hd
  have HT3 := Lib.hid ht
  clear hd ht
  go_wp2_with fail
  refine (sync_c (s := ⟨#[97]⟩) HD3.out H2.out).mono ?_
  rintro e w4 ⟨rfl, hd, ht⟩
  have HD4 := Lib.hid hd
  have HT4 := Lib.hid (HT3.out.trans ht)
  clear hd ht
  have e0 := (HT4.out.cell (n := w.heap.size) (i := 0) (by omega) (by omega) (by omega)).trans d0
  go_wp2_with fail
  refine (among_any fu _).mono ?_
  rintro e w5 ⟨rfl, rfl⟩
  go_wp2_with fail
  refine (fuse_c HL.out HD4.out HF.out).mono ?_
  rintro e w5 ⟨rfl, hd, ht⟩
  have HD5 := Lib.hid hd
  have HT5 := Lib.hid (HT4.out.trans ht)
  clear hd ht e0
  go_wp2_with fail
  refine (write_c (s := ⟨#[98]⟩) HD5.out HS2.out HW.out).mono ?_
  rintro e w6 ⟨rfl, hd, ht⟩
  have HD6 := Lib.hid hd
  have HT6 := Lib.hid (HT5.out.trans ht)
  clear hd ht
  have e1 := (HT6.out.cell (n := w.heap.size) (i := 1) (by omega) (by omega) (by omega)).trans d1
  have HZA := Lib.hid (HZ.out.at (HB2.out.trans (HT6.out.below (B := w.heap.size) (by omega) (by omega) (by omega))) (g := w.heap.size + 1 + 1) (b := w.heap.size + 1) (by omega) (by omega))
  go_wp2_with fail
  refine (crash_read (s := ⟨#[97]⟩) (x := was) HD6.out HZA.out H3.out may_a rfl).mono ?_
  rintro e w10 ⟨rfl, ⟨d', hd, hr1, hr2⟩, ht⟩
  have HD10 := Lib.hid hd
  have HT10 := Lib.hid (HT6.out.trans ht)
  have R1 := Lib.hid hr1
  have R2 := Lib.hid hr2
  clear hd ht e1 hr1 hr2
  go_wp2_with fail
  refine (read_c (s := ⟨#[97]⟩) HD10.out R1.out R2.out).mono ?_
  rintro e w11 ⟨rfl, hb11⟩
  have HB := Lib.hid (HB2.out.trans ((HT10.out.trans (Turn.of_below hb11 _ _)).below (B := w.heap.size) (by omega) (by omega) (by omega)))
  clear hb11
  go_wp2
  go_ret
  exact ⟨rfl, HB.out⟩

theorem swap_1 (was will : ByteArray) (fu : Int) (v : Value) (zs : List Int) (w : World) (hz : DrawsArg w v zs) (h1 : was.size ≤ 262144) (h2 : will.size ≤ 262144) (h3 : zs.length ≤ 16384) (hl : ¬ fu % 5 = 0) (hl1 : fu % 5 - 1 = 0) :
    Calls Try.prog 5 #[.string was, .string will, .agg #[.int .i64 fu, v]] w fun e w' => e = .returned (.bool true) ∧ Below w.heap.size w w' := by
  have HZ := Lib.hid hz
  obtain ⟨p, cap, rfl, -, -, -⟩ := hz
  have a1 : ¬ (262144 : Int) < (was.size : Int) := by omega
  have a2 : ¬ (262144 : Int) < (will.size : Int) := by omega
  have a3 : ¬ (16384 : Int) < (zs.length : Int) := by omega
  have hl0 : 0 ≤ fu % 5 := by omega
  have hl5 : fu % 5 ≤ 9223372036854775807 := by omega
  have HL := Lib.hid hl5
  have H1 := Lib.hid (sA1 was h1)
  have H2 := Lib.hid (sA2 was)
  have HF := Lib.hid (sF was (fu % 5) hl0)
  have H3 := Lib.hid h3
  have HS1 : Hid (was.size ≤ maxLen) := by show _ ≤ _; unfold maxLen; omega
  have HS2 : Hid (will.size ≤ maxLen) := by show _ ≤ _; unfold maxLen; omega
  have HW := Lib.hid (sW1 was will (fu % 5) h2 hl)
  have HSY := Lib.hid (sS0 was will (fu % 5) hl1)
  clear h1 h2 h3 hl0 hl5 hl hl1
  go_enter Try.func5, Try.ntmps5
  go_wp2_with fail
  refine (new_any _).mono ?_
  rintro e w1 ⟨rfl, hd1, hb1⟩
  have c0 := ((box_keep hb1).1 0).trans (World.cell?_alloc_new _ _ _ _)
  have c1 := ((box_keep hb1).1 1).trans (World.cell?_alloc_new _ _ _ _)
  simp at c0 c1
  have HB1 := Lib.hid (box_below hb1)
  simp only [World.size_alloc] at hd1
  have HD1 := Lib.hid hd1
  have q1 := hd1.lt
  clear hd1 hb1
  go_wp2_with fail
  refine (works_any _).mono ?_
  rintro e w2 ⟨rfl, hb2⟩
  have HD2 := Lib.hid (HD1.out.below hb2 HD1.out.lt HD1.out.ltb)
  have HB2 := Lib.hid (HB1.out.trans (hb2.mono HB1.out.size))
  have d0 := (hb2.cell (p := ⟨w.heap.size, 0, none⟩) (by show w.heap.size < _; omega)).trans c0
  have d1 := (hb2.cell (p := ⟨w.heap.size, 1, none⟩) (by show w.heap.size < _; omega)).trans c1
  have q2 := hb2.size
  clear hb2 c0 c1
  go_wp2_with fail
  refine (write_c (s := ⟨#[97]⟩) HD2.out HS1.out H1.out).mono ?_
  rintro e w3 ⟨rfl, hd, ht⟩
  have HD3 := Lib.hid hd
  have HT3 := Lib.hid ht
  clear hd ht
  go_wp2_with fail
  refine (sync_c (s := ⟨#[97]⟩) HD3.out H2.out).mono ?_
  rintro e w4 ⟨rfl, hd, ht⟩
  have HD4 := Lib.hid hd
  have HT4 := Lib.hid (HT3.out.trans ht)
  clear hd ht
  have e0 := (HT4.out.cell (n := w.heap.size) (i := 0) (by omega) (by omega) (by omega)).trans d0
  go_wp2_with fail
  refine (among_any fu _).mono ?_
  rintro e w5 ⟨rfl, rfl⟩
  go_wp2_with fail
  refine (fuse_c HL.out HD4.out HF.out).mono ?_
  rintro e w5 ⟨rfl, hd, ht⟩
  have HD5 := Lib.hid hd
  have HT5 := Lib.hid (HT4.out.trans ht)
  clear hd ht e0
  go_wp2_with fail
  refine (write_c (s := ⟨#[98]⟩) HD5.out HS2.out HW.out).mono ?_
  rintro e w6 ⟨rfl, hd, ht⟩
  have HD6 := Lib.hid hd
  have HT6 := Lib.hid (HT5.out.trans ht)
  clear hd ht
  go_wp2_with fail
  refine (sync_c (s := ⟨#[98]⟩) HD6.out HSY.out).mono ?_
  rintro e w7 ⟨rfl, hd, ht⟩
  have HD7 := Lib.hid hd
  have HT7 := Lib.hid (HT6.out.trans ht)
  clear hd ht
  have e1 := (HT7.out.cell (n := w.heap.size) (i := 1) (by omega) (by omega) (by omega)).trans d1
  have HZA := Lib.hid (HZ.out.at (HB2.out.trans (HT7.out.below (B := w.heap.size) (by omega) (by omega) (by omega))) (g := w.heap.size + 1 + 1) (b := w.heap.size + 1) (by omega) (by omega))
  go_wp2_with fail
  refine (crash_read (s := ⟨#[97]⟩) (x := was) HD7.out HZA.out H3.out may_a rfl).mono ?_
  rintro e w10 ⟨rfl, ⟨d', hd, hr1, hr2⟩, ht⟩
  have HD10 := Lib.hid hd
  have HT10 := Lib.hid (HT7.out.trans ht)
  have R1 := Lib.hid hr1
  have R2 := Lib.hid hr2
  clear hd ht e1 hr1 hr2
  go_wp2_with fail
  refine (read_c (s := ⟨#[97]⟩) HD10.out R1.out R2.out).mono ?_
  rintro e w11 ⟨rfl, hb11⟩
  have HB := Lib.hid (HB2.out.trans ((HT10.out.trans (Turn.of_below hb11 _ _)).below (B := w.heap.size) (by omega) (by omega) (by omega)))
  clear hb11
  go_wp2
  go_ret
  exact ⟨rfl, HB.out⟩

theorem swap_2 (was will : ByteArray) (fu : Int) (v : Value) (zs : List Int) (w : World) (hz : DrawsArg w v zs) (h1 : was.size ≤ 262144) (h2 : will.size ≤ 262144) (h3 : zs.length ≤ 16384) (hl : ¬ fu % 5 = 0) (hl1 : ¬ fu % 5 - 1 = 0) (hl2 : fu % 5 - 1 - 1 = 0) :
    Calls Try.prog 5 #[.string was, .string will, .agg #[.int .i64 fu, v]] w fun e w' => e = .returned (.bool true) ∧ Below w.heap.size w w' := by
  have HZ := Lib.hid hz
  obtain ⟨p, cap, rfl, -, -, -⟩ := hz
  have a1 : ¬ (262144 : Int) < (was.size : Int) := by omega
  have a2 : ¬ (262144 : Int) < (will.size : Int) := by omega
  have a3 : ¬ (16384 : Int) < (zs.length : Int) := by omega
  have hl0 : 0 ≤ fu % 5 := by omega
  have hl5 : fu % 5 ≤ 9223372036854775807 := by omega
  have HL := Lib.hid hl5
  have H1 := Lib.hid (sA1 was h1)
  have H2 := Lib.hid (sA2 was)
  have HF := Lib.hid (sF was (fu % 5) hl0)
  have H3 := Lib.hid h3
  have HS1 : Hid (was.size ≤ maxLen) := by show _ ≤ _; unfold maxLen; omega
  have HS2 : Hid (will.size ≤ maxLen) := by show _ ≤ _; unfold maxLen; omega
  have HW := Lib.hid (sW1 was will (fu % 5) h2 hl)
  have HSY := Lib.hid (sS1 was will (fu % 5) hl1)
  have HRE := Lib.hid (sR0 was will (fu % 5) hl2)
  clear h1 h2 h3 hl0 hl5 hl hl1 hl2
  go_enter Try.func5, Try.ntmps5
  go_wp2_with fail
  refine (new_any _).mono ?_
  rintro e w1 ⟨rfl, hd1, hb1⟩
  have c0 := ((box_keep hb1).1 0).trans (World.cell?_alloc_new _ _ _ _)
  have c1 := ((box_keep hb1).1 1).trans (World.cell?_alloc_new _ _ _ _)
  simp at c0 c1
  have HB1 := Lib.hid (box_below hb1)
  simp only [World.size_alloc] at hd1
  have HD1 := Lib.hid hd1
  have q1 := hd1.lt
  clear hd1 hb1
  go_wp2_with fail
  refine (works_any _).mono ?_
  rintro e w2 ⟨rfl, hb2⟩
  have HD2 := Lib.hid (HD1.out.below hb2 HD1.out.lt HD1.out.ltb)
  have HB2 := Lib.hid (HB1.out.trans (hb2.mono HB1.out.size))
  have d0 := (hb2.cell (p := ⟨w.heap.size, 0, none⟩) (by show w.heap.size < _; omega)).trans c0
  have d1 := (hb2.cell (p := ⟨w.heap.size, 1, none⟩) (by show w.heap.size < _; omega)).trans c1
  have q2 := hb2.size
  clear hb2 c0 c1
  go_wp2_with fail
  refine (write_c (s := ⟨#[97]⟩) HD2.out HS1.out H1.out).mono ?_
  rintro e w3 ⟨rfl, hd, ht⟩
  have HD3 := Lib.hid hd
  have HT3 := Lib.hid ht
  clear hd ht
  go_wp2_with fail
  refine (sync_c (s := ⟨#[97]⟩) HD3.out H2.out).mono ?_
  rintro e w4 ⟨rfl, hd, ht⟩
  have HD4 := Lib.hid hd
  have HT4 := Lib.hid (HT3.out.trans ht)
  clear hd ht
  have e0 := (HT4.out.cell (n := w.heap.size) (i := 0) (by omega) (by omega) (by omega)).trans d0
  go_wp2_with fail
  refine (among_any fu _).mono ?_
  rintro e w5 ⟨rfl, rfl⟩
  go_wp2_with fail
  refine (fuse_c HL.out HD4.out HF.out).mono ?_
  rintro e w5 ⟨rfl, hd, ht⟩
  have HD5 := Lib.hid hd
  have HT5 := Lib.hid (HT4.out.trans ht)
  clear hd ht e0
  go_wp2_with fail
  refine (write_c (s := ⟨#[98]⟩) HD5.out HS2.out HW.out).mono ?_
  rintro e w6 ⟨rfl, hd, ht⟩
  have HD6 := Lib.hid hd
  have HT6 := Lib.hid (HT5.out.trans ht)
  clear hd ht
  go_wp2_with fail
  refine (sync_c (s := ⟨#[98]⟩) HD6.out HSY.out).mono ?_
  rintro e w7 ⟨rfl, hd, ht⟩
  have HD7 := Lib.hid hd
  have HT7 := Lib.hid (HT6.out.trans ht)
  clear hd ht
  go_wp2_with fail
  refine (rename_c (s := ⟨#[98]⟩) (t := ⟨#[97]⟩) HD7.out HRE.out).mono ?_
  rintro e w8 ⟨rfl, hd, ht⟩
  have HD8 := Lib.hid hd
  have HT8 := Lib.hid (HT7.out.trans ht)
  clear hd ht
  have e1 := (HT8.out.cell (n := w.heap.size) (i := 1) (by omega) (by omega) (by omega)).trans d1
  have HZA := Lib.hid (HZ.out.at (HB2.out.trans (HT8.out.below (B := w.heap.size) (by omega) (by omega) (by omega))) (g := w.heap.size + 1 + 1) (b := w.heap.size + 1) (by omega) (by omega))
  go_wp2_with fail
  refine (crash_read (s := ⟨#[97]⟩) (x := was) HD8.out HZA.out H3.out may_a rfl).mono ?_
  rintro e w10 ⟨rfl, ⟨d', hd, hr1, hr2⟩, ht⟩
  have HD10 := Lib.hid hd
  have HT10 := Lib.hid (HT8.out.trans ht)
  have R1 := Lib.hid hr1
  have R2 := Lib.hid hr2
  clear hd ht e1 hr1 hr2
  go_wp2_with fail
  refine (read_c (s := ⟨#[97]⟩) HD10.out R1.out R2.out).mono ?_
  rintro e w11 ⟨rfl, hb11⟩
  have HB := Lib.hid (HB2.out.trans ((HT10.out.trans (Turn.of_below hb11 _ _)).below (B := w.heap.size) (by omega) (by omega) (by omega)))
  clear hb11
  go_wp2
  go_ret
  exact ⟨rfl, HB.out⟩

theorem swap_3 (was will : ByteArray) (fu : Int) (v : Value) (zs : List Int) (w : World) (hz : DrawsArg w v zs) (h1 : was.size ≤ 262144) (h2 : will.size ≤ 262144) (h3 : zs.length ≤ 16384) (hl : ¬ fu % 5 = 0) (hl1 : ¬ fu % 5 - 1 = 0) (hl2 : ¬ fu % 5 - 1 - 1 = 0) :
    Calls Try.prog 5 #[.string was, .string will, .agg #[.int .i64 fu, v]] w fun e w' => e = .returned (.bool true) ∧ Below w.heap.size w w' := by
  have HZ := Lib.hid hz
  obtain ⟨p, cap, rfl, -, -, -⟩ := hz
  have a1 : ¬ (262144 : Int) < (was.size : Int) := by omega
  have a2 : ¬ (262144 : Int) < (will.size : Int) := by omega
  have a3 : ¬ (16384 : Int) < (zs.length : Int) := by omega
  have hl0 : 0 ≤ fu % 5 := by omega
  have hl5 : fu % 5 ≤ 9223372036854775807 := by omega
  have HL := Lib.hid hl5
  have H1 := Lib.hid (sA1 was h1)
  have H2 := Lib.hid (sA2 was)
  have HF := Lib.hid (sF was (fu % 5) hl0)
  have H3 := Lib.hid h3
  have HS1 : Hid (was.size ≤ maxLen) := by show _ ≤ _; unfold maxLen; omega
  have HS2 : Hid (will.size ≤ maxLen) := by show _ ≤ _; unfold maxLen; omega
  have HW := Lib.hid (sW1 was will (fu % 5) h2 hl)
  have HSY := Lib.hid (sS1 was will (fu % 5) hl1)
  have HRE := Lib.hid (sR1 was will (fu % 5) hl2)
  clear h1 h2 h3 hl0 hl5 hl hl1 hl2
  go_enter Try.func5, Try.ntmps5
  go_wp2_with fail
  refine (new_any _).mono ?_
  rintro e w1 ⟨rfl, hd1, hb1⟩
  have c0 := ((box_keep hb1).1 0).trans (World.cell?_alloc_new _ _ _ _)
  have c1 := ((box_keep hb1).1 1).trans (World.cell?_alloc_new _ _ _ _)
  simp at c0 c1
  have HB1 := Lib.hid (box_below hb1)
  simp only [World.size_alloc] at hd1
  have HD1 := Lib.hid hd1
  have q1 := hd1.lt
  clear hd1 hb1
  go_wp2_with fail
  refine (works_any _).mono ?_
  rintro e w2 ⟨rfl, hb2⟩
  have HD2 := Lib.hid (HD1.out.below hb2 HD1.out.lt HD1.out.ltb)
  have HB2 := Lib.hid (HB1.out.trans (hb2.mono HB1.out.size))
  have d0 := (hb2.cell (p := ⟨w.heap.size, 0, none⟩) (by show w.heap.size < _; omega)).trans c0
  have d1 := (hb2.cell (p := ⟨w.heap.size, 1, none⟩) (by show w.heap.size < _; omega)).trans c1
  have q2 := hb2.size
  clear hb2 c0 c1
  go_wp2_with fail
  refine (write_c (s := ⟨#[97]⟩) HD2.out HS1.out H1.out).mono ?_
  rintro e w3 ⟨rfl, hd, ht⟩
  have HD3 := Lib.hid hd
  have HT3 := Lib.hid ht
  clear hd ht
  go_wp2_with fail
  refine (sync_c (s := ⟨#[97]⟩) HD3.out H2.out).mono ?_
  rintro e w4 ⟨rfl, hd, ht⟩
  have HD4 := Lib.hid hd
  have HT4 := Lib.hid (HT3.out.trans ht)
  clear hd ht
  have e0 := (HT4.out.cell (n := w.heap.size) (i := 0) (by omega) (by omega) (by omega)).trans d0
  go_wp2_with fail
  refine (among_any fu _).mono ?_
  rintro e w5 ⟨rfl, rfl⟩
  go_wp2_with fail
  refine (fuse_c HL.out HD4.out HF.out).mono ?_
  rintro e w5 ⟨rfl, hd, ht⟩
  have HD5 := Lib.hid hd
  have HT5 := Lib.hid (HT4.out.trans ht)
  clear hd ht e0
  go_wp2_with fail
  refine (write_c (s := ⟨#[98]⟩) HD5.out HS2.out HW.out).mono ?_
  rintro e w6 ⟨rfl, hd, ht⟩
  have HD6 := Lib.hid hd
  have HT6 := Lib.hid (HT5.out.trans ht)
  clear hd ht
  go_wp2_with fail
  refine (sync_c (s := ⟨#[98]⟩) HD6.out HSY.out).mono ?_
  rintro e w7 ⟨rfl, hd, ht⟩
  have HD7 := Lib.hid hd
  have HT7 := Lib.hid (HT6.out.trans ht)
  clear hd ht
  go_wp2_with fail
  refine (rename_c (s := ⟨#[98]⟩) (t := ⟨#[97]⟩) HD7.out HRE.out).mono ?_
  rintro e w8 ⟨rfl, hd, ht⟩
  have HD8 := Lib.hid hd
  have HT8 := Lib.hid (HT7.out.trans ht)
  clear hd ht
  have e1 := (HT8.out.cell (n := w.heap.size) (i := 1) (by omega) (by omega) (by omega)).trans d1
  have HZA := Lib.hid (HZ.out.at (HB2.out.trans (HT8.out.below (B := w.heap.size) (by omega) (by omega) (by omega))) (g := w.heap.size + 1 + 1) (b := w.heap.size + 1) (by omega) (by omega))
  go_wp2_with fail
  refine (crash_read (s := ⟨#[97]⟩) (x := will) HD8.out HZA.out H3.out may_a rfl).mono ?_
  rintro e w10 ⟨rfl, ⟨d', hd, hr1, hr2⟩, ht⟩
  have HD10 := Lib.hid hd
  have HT10 := Lib.hid (HT8.out.trans ht)
  have R1 := Lib.hid hr1
  have R2 := Lib.hid hr2
  clear hd ht e1 hr1 hr2
  go_wp2_with fail
  refine (read_c (s := ⟨#[97]⟩) HD10.out R1.out R2.out).mono ?_
  rintro e w11 ⟨rfl, hb11⟩
  have HB := Lib.hid (HB2.out.trans ((HT10.out.trans (Turn.of_below hb11 _ _)).below (B := w.heap.size) (by omega) (by omega) (by omega)))
  clear hb11
  go_wp2
  go_ret
  exact ⟨rfl, HB.out⟩

theorem swap_all (was will : ByteArray) (fu : Int) (v : Value) (zs : List Int) (w : World) (hz : DrawsArg w v zs) :
    Calls Try.prog 5 #[.string was, .string will, .agg #[.int .i64 fu, v]] w fun e w' => e = .returned (.bool true) ∧ Below w.heap.size w w' := by
  by_cases hb : 262144 < was.size ∨ 262144 < will.size ∨ 16384 < zs.length
  · exact swap_big was will fu v zs w hz hb
  · have h1 : was.size ≤ 262144 := by omega
    have h2 : will.size ≤ 262144 := by omega
    have h3 : zs.length ≤ 16384 := by omega
    by_cases hl : fu % 5 = 0
    · exact swap_0 was will fu v zs w hz h1 h2 h3 hl
    · by_cases hl1 : fu % 5 - 1 = 0
      · exact swap_1 was will fu v zs w hz h1 h2 h3 hl hl1
      · by_cases hl2 : fu % 5 - 1 - 1 = 0
        · exact swap_2 was will fu v zs w hz h1 h2 h3 hl hl1 hl2
        · exact swap_3 was will fu v zs w hz h1 h2 h3 hl hl1 hl2

end Go.Proofs.Ytmlmjchifelpkaa
