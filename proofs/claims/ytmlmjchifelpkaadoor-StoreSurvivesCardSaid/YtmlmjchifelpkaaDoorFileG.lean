/- What Write computes. -/
import Derived.Test.YtmlmjchifelpkaaDoorFileF
namespace Go.Proofs.YtmlmjchifelpkaaDoor
open Go.RowKit Go.Lib Go.Maps
set_option linter.unusedVariables false
set_option maxRecDepth 100000

theorem IsFiles.len {w : World} {b : Nat} {d : DiskP} (h : IsFiles w b d) (ty : TypeId) : (Builtin.len_ #[46] ty #[.map (some b)]).run Tryd.prog w = .ok (.int .i64 d.n) w := by
  obtain ⟨D, hown, hsz, _⟩ := h
  rw [hown.len Tryd.underlying46 ty, hsz]


/-- The ways of Write behind a name that may be: what is found is ⟨x, y, z⟩, there or not. -/
theorem write_two (g b : Nat) (d : DiskP) (s t : ByteArray) (w : World) (H : Hid (IsDisk w g b d)) (hlt : g < w.heap.size) (hltb : b < w.heap.size) (ht : t.size ≤ maxLen) (hm : ∀ W, Calls Tryd.prog 45 #[.string s] W fun e w' => e = .returned (.bool true) ∧ Below W.heap.size W w')
    (HS : Hid (s.size ≤ maxLen)) (x y : ByteArray) (z so : Bool) (HF : Hid ((d.fs s.data.toList).getD FileP.nil = ⟨x, y, z⟩)) (HO : Hid ((d.fs s.data.toList).isSome = so)) (hl : 262144 < t.size ∨ (so = false ∧ 64 ≤ d.n)) :
    Calls Tryd.prog 39 #[.pointer (some ⟨g, 0, none⟩), .string s, .string t] w fun e w' => e = .returned (.int .i64 2) ∧ IsDisk w' g b d ∧ Turn g b w w' := by
  by_cases h1 : 262144 < t.size
  · have h1z : (262144 : Int) < (t.size : Int) := by omega
    clear hl
    go_enter Tryd.func39, Tryd.ntmps39
    go_wp2_with fail
    refine (hm _).mono ?_
    rintro e w1 ⟨rfl, hb⟩
    have hs0 := hb.size
    have D1 := H.out.below hb hlt hltb
    have c0 := D1.cell0
    have hF := Lib.hid D1.files
    have D2 := D1.alloc (.cells #[.string x, .string y, .bool z] 59)
    have HD := Lib.hid D2
    have HB := Lib.hid hb
    have hlen := D2.files.len 3
    have cc := D2.cell0
    clear hm D1 D2
    go_wp2_with (at_lookup; refine wpList_look rfl _ _ rfl rfl hF.out s HS.out rfl _ HF.out ?_; rw [HO.out])
    go_ret
    exact ⟨rfl, HD.out, (Turn.of_below HB.out g b).alloc _⟩
  · obtain ⟨hso, hn⟩ : so = false ∧ 64 ≤ d.n := by rcases hl with hl | hl; exact absurd hl h1; exact hl
    subst hso
    have h1z : ¬ (262144 : Int) < (t.size : Int) := by omega
    have hnz : (64 : Int) ≤ (d.n : Int) := by omega
    clear hl
    go_enter Tryd.func39, Tryd.ntmps39
    go_wp2_with fail
    refine (hm _).mono ?_
    rintro e w1 ⟨rfl, hb⟩
    have hs0 := hb.size
    have D1 := H.out.below hb hlt hltb
    have c0 := D1.cell0
    have hF := Lib.hid D1.files
    have D2 := D1.alloc (.cells #[.string x, .string y, .bool z] 59)
    have HD := Lib.hid D2
    have HB := Lib.hid hb
    have hlen := D2.files.len 3
    have cc := D2.cell0
    clear hm D1 D2
    go_wp2_with (at_lookup; refine wpList_look rfl _ _ rfl rfl hF.out s HS.out rfl _ HF.out ?_; rw [HO.out])
    go_ret
    exact ⟨rfl, HD.out, (Turn.of_below HB.out g b).alloc _⟩

theorem write_go (g b : Nat) (d : DiskP) (s t : ByteArray) (w : World) (H : Hid (IsDisk w g b d)) (hlt : g < w.heap.size) (hltb : b < w.heap.size) (hne : g ≠ b) (ht : t.size ≤ maxLen) (hm : ∀ W, Calls Tryd.prog 45 #[.string s] W fun e w' => e = .returned (.bool true) ∧ Below W.heap.size W w')
    (HS : Hid (s.size ≤ maxLen)) (x y : ByteArray) (z so : Bool) (HF : Hid ((d.fs s.data.toList).getD FileP.nil = ⟨x, y, z⟩)) (HO : Hid ((d.fs s.data.toList).isSome = so)) (hl : t.size ≤ 262144) (hl2 : so = true ∨ d.n < 64) (HY : Hid (y.size ≤ 262144)) :
    Calls Tryd.prog 39 #[.pointer (some ⟨g, 0, none⟩), .string s, .string t] w fun e w' =>
      e = .returned (.int .i64 (if (dChange d).1 then 0 else 191)) ∧ IsDisk w' g b (if (dChange d).1 then (dChange d).2.put s.data.toList ⟨t, y, z⟩ else (dChange d).2) ∧ Turn g b w w' := by
  have h1z : ¬ (262144 : Int) < (t.size : Int) := by omega
  have HT := Lib.hid hl
  have HN : Hid (((dChange d).2.fs s.data.toList).isSome = true ∨ (dChange d).2.n < 64) := by
    show _ ∨ _
    rw [(dChange_fs d).1, (dChange_fs d).2, HO.out]
    exact hl2
  clear hl ht
  cases hch : (dChange d).1 with
  | false =>
    have HC := Lib.hid hch
    simp only [Bool.false_eq_true, if_false]
    clear hch
    cases so with
    | true =>
      clear hl2
      go_enter Tryd.func39, Tryd.ntmps39
      go_wp2_with fail
      refine (hm _).mono ?_
      rintro e w1 ⟨rfl, hb⟩
      have hs0 := hb.size
      have D1 := H.out.below hb hlt hltb
      have c0 := D1.cell0
      have hF := Lib.hid D1.files
      have D2 := D1.alloc (.cells #[.string x, .string y, .bool z] 59)
      have HD := Lib.hid D2
      have HB := Lib.hid hb
      have hlen := D2.files.len 3
      have cc := D2.cell0
      clear hm D1 D2
      go_wp2_with (at_lookup; refine wpList_look rfl _ _ rfl rfl hF.out s HS.out rfl _ HF.out ?_; rw [HO.out])
      refine (change_any g b d _ HD.out).mono ?_
      rintro e w3 ⟨he, hD3, hT3⟩
      rw [HC.out] at he
      subst he
      go_wp2
      go_ret
      exact ⟨rfl, hD3, ((Turn.of_below HB.out g b).alloc _).trans hT3⟩
    | false =>
      have hnz : ¬ (64 : Int) ≤ (d.n : Int) := by rcases hl2 with h | h; cases h; omega
      clear hl2
      go_enter Tryd.func39, Tryd.ntmps39
      go_wp2_with fail
      refine (hm _).mono ?_
      rintro e w1 ⟨rfl, hb⟩
      have hs0 := hb.size
      have D1 := H.out.below hb hlt hltb
      have c0 := D1.cell0
      have hF := Lib.hid D1.files
      have D2 := D1.alloc (.cells #[.string x, .string y, .bool z] 59)
      have HD := Lib.hid D2
      have HB := Lib.hid hb
      have hlen := D2.files.len 3
      have cc := D2.cell0
      clear hm D1 D2
      go_wp2_with (at_lookup; refine wpList_look rfl _ _ rfl rfl hF.out s HS.out rfl _ HF.out ?_; rw [HO.out])
      refine (change_any g b d _ HD.out).mono ?_
      rintro e w3 ⟨he, hD3, hT3⟩
      rw [HC.out] at he
      subst he
      go_wp2
      go_ret
      exact ⟨rfl, hD3, ((Turn.of_below HB.out g b).alloc _).trans hT3⟩
  | true =>
    have HC := Lib.hid hch
    simp only [if_true]
    clear hch
    cases so with
    | true =>
      clear hl2
      go_enter Tryd.func39, Tryd.ntmps39
      go_wp2_with fail
      refine (hm _).mono ?_
      rintro e w1 ⟨rfl, hb⟩
      have hs0 := hb.size
      have D1 := H.out.below hb hlt hltb
      have c0 := D1.cell0
      have hF := Lib.hid D1.files
      have D2 := D1.alloc (.cells #[.string x, .string y, .bool z] 59)
      have HD := Lib.hid D2
      have HB := Lib.hid hb
      have hlen := D2.files.len 3
      have cc := D2.cell0
      clear hm D1 D2
      go_wp2_with (at_lookup; refine wpList_look rfl _ _ rfl rfl hF.out s HS.out rfl _ HF.out ?_; rw [HO.out])
      refine (change_any g b d _ HD.out).mono ?_
      rintro e w3 ⟨he, hD3, hT3⟩
      rw [HC.out] at he
      subst he
      have k0 : w3.cell? ⟨w1.heap.size, 0, none⟩ = some (.string x) := by rw [hT3.cell (by simp) (by omega) (by omega)]; simp
      have k1 : w3.cell? ⟨w1.heap.size, 1, none⟩ = some (.string y) := by rw [hT3.cell (by simp) (by omega) (by omega)]; simp
      have k2 : w3.cell? ⟨w1.heap.size, 2, none⟩ = some (.bool z) := by rw [hT3.cell (by simp) (by omega) (by omega)]; simp
      have k3 : w3.frozen? ⟨w1.heap.size, 0, none⟩ = false := by rw [hT3.frozen (by simp) (by omega) (by omega)]; exact frozen_new _ _ _ _
      have hD4 := hD3.setCell ⟨w1.heap.size, 0, none⟩ (.string t) (by simp; omega) (by simp; omega)
      have hT4 := (((Turn.of_below HB.out g b).alloc (.cells #[.string x, .string y, .bool z] 59)).trans hT3).setNew (a := ⟨w1.heap.size, 0, none⟩) hs0 (.string t)
      have HD4 := Lib.hid hD4
      have HT4 := Lib.hid hT4
      clear hD3 hT3 hD4 hT4
      go_wp2_with fail
      have j0 : (w3.setCell ⟨w1.heap.size, 0, none⟩ (.string t)).cell? ⟨w1.heap.size, 0, none⟩ = some (.string t) := World.cell?_setCell_same _ _ _ k0
      have j1 : (w3.setCell ⟨w1.heap.size, 0, none⟩ (.string t)).cell? ⟨w1.heap.size, 1, none⟩ = some (.string y) := by rw [World.cell?_setCell_other _ _ _ _ (by simp)]; exact k1
      have j2 : (w3.setCell ⟨w1.heap.size, 0, none⟩ (.string t)).cell? ⟨w1.heap.size, 2, none⟩ = some (.bool z) := by rw [World.cell?_setCell_other _ _ _ _ (by simp)]; exact k2
      have j3 := HD4.out.cell0
      clear k0 k1 k2 k3
      generalize w3.setCell ⟨w1.heap.size, 0, none⟩ (.string t) = W at *
      go_still_tail 6, (by kernel_rfl)
      change wpList _ _ _ _ _ W.drew
      go_wp2_with (at_mapUpdate; refine wpList_put rfl _ _ _ rfl rfl HD4.out.drew.files HD4.out.ok.n_le s HS.out rfl ⟨t, y, z⟩ rfl ?_; intro w4 hF4 hg4 hs4)
      go_ret
      exact ⟨rfl, HD4.out.drew.put hg4 hF4 HN.out HT.out HY.out, HT4.out.drew.grown hg4⟩
    | false =>
      have hnz : ¬ (64 : Int) ≤ (d.n : Int) := by rcases hl2 with h | h; cases h; omega
      clear hl2
      go_enter Tryd.func39, Tryd.ntmps39
      go_wp2_with fail
      refine (hm _).mono ?_
      rintro e w1 ⟨rfl, hb⟩
      have hs0 := hb.size
      have D1 := H.out.below hb hlt hltb
      have c0 := D1.cell0
      have hF := Lib.hid D1.files
      have D2 := D1.alloc (.cells #[.string x, .string y, .bool z] 59)
      have HD := Lib.hid D2
      have HB := Lib.hid hb
      have hlen := D2.files.len 3
      have cc := D2.cell0
      clear hm D1 D2
      go_wp2_with (at_lookup; refine wpList_look rfl _ _ rfl rfl hF.out s HS.out rfl _ HF.out ?_; rw [HO.out])
      refine (change_any g b d _ HD.out).mono ?_
      rintro e w3 ⟨he, hD3, hT3⟩
      rw [HC.out] at he
      subst he
      have k0 : w3.cell? ⟨w1.heap.size, 0, none⟩ = some (.string x) := by rw [hT3.cell (by simp) (by omega) (by omega)]; simp
      have k1 : w3.cell? ⟨w1.heap.size, 1, none⟩ = some (.string y) := by rw [hT3.cell (by simp) (by omega) (by omega)]; simp
      have k2 : w3.cell? ⟨w1.heap.size, 2, none⟩ = some (.bool z) := by rw [hT3.cell (by simp) (by omega) (by omega)]; simp
      have k3 : w3.frozen? ⟨w1.heap.size, 0, none⟩ = false := by rw [hT3.frozen (by simp) (by omega) (by omega)]; exact frozen_new _ _ _ _
      have hD4 := hD3.setCell ⟨w1.heap.size, 0, none⟩ (.string t) (by simp; omega) (by simp; omega)
      have hT4 := (((Turn.of_below HB.out g b).alloc (.cells #[.string x, .string y, .bool z] 59)).trans hT3).setNew (a := ⟨w1.heap.size, 0, none⟩) hs0 (.string t)
      have HD4 := Lib.hid hD4
      have HT4 := Lib.hid hT4
      clear hD3 hT3 hD4 hT4
      go_wp2_with fail
      have j0 : (w3.setCell ⟨w1.heap.size, 0, none⟩ (.string t)).cell? ⟨w1.heap.size, 0, none⟩ = some (.string t) := World.cell?_setCell_same _ _ _ k0
      have j1 : (w3.setCell ⟨w1.heap.size, 0, none⟩ (.string t)).cell? ⟨w1.heap.size, 1, none⟩ = some (.string y) := by rw [World.cell?_setCell_other _ _ _ _ (by simp)]; exact k1
      have j2 : (w3.setCell ⟨w1.heap.size, 0, none⟩ (.string t)).cell? ⟨w1.heap.size, 2, none⟩ = some (.bool z) := by rw [World.cell?_setCell_other _ _ _ _ (by simp)]; exact k2
      have j3 := HD4.out.cell0
      clear k0 k1 k2 k3
      generalize w3.setCell ⟨w1.heap.size, 0, none⟩ (.string t) = W at *
      go_still_tail 6, (by kernel_rfl)
      change wpList _ _ _ _ _ W.drew
      go_wp2_with (at_mapUpdate; refine wpList_put rfl _ _ _ rfl rfl HD4.out.drew.files HD4.out.ok.n_le s HS.out rfl ⟨t, y, z⟩ rfl ?_; intro w4 hF4 hg4 hs4)
      go_ret
      exact ⟨rfl, HD4.out.drew.put hg4 hF4 HN.out HT.out HY.out, HT4.out.drew.grown hg4⟩

theorem write_any (g b : Nat) (d : DiskP) (s t : ByteArray) (w : World) (h : IsDisk w g b d) (ht : t.size ≤ maxLen) :
    Calls Tryd.prog 39 #[.pointer (some ⟨g, 0, none⟩), .string s, .string t] w fun e w' =>
      e = .returned (.int .i64 (dWrite d s.data.toList t).1) ∧ IsDisk w' g b (dWrite d s.data.toList t).2 ∧ Turn g b w w' := by
  have hm := fun W => may_any s W
  have hlt := h.lt
  have hltb := h.ltb
  have hne := h.ne
  have hok := h.ok
  have H := Lib.hid h
  clear h
  cases hq : dMay s.data.toList with
  | false =>
    have e1 : dWrite d s.data.toList t = (170, d) := by unfold dWrite; rw [hq]; rfl
    rw [e1]
    rw [hq] at hm
    clear e1 hq hok
    go_enter Tryd.func39, Tryd.ntmps39
    go_wp2_with fail
    refine (hm _).mono ?_
    rintro e w1 ⟨rfl, hb⟩
    have D1 := H.out.below hb hlt hltb
    have HD := Lib.hid D1
    have HB := Lib.hid hb
    clear hm D1
    go_wp2
    go_ret
    exact ⟨rfl, HD.out, Turn.of_below HB.out g b⟩
  | true =>
    have hs : s.size ≤ maxLen := by have := may_len hq; unfold maxLen; omega
    rw [hq] at hm
    rcases hf : (d.fs s.data.toList).getD FileP.nil with ⟨x, y, z⟩
    have hy : y.size ≤ 262144 := by
      cases hfs : d.fs s.data.toList with
      | none => rw [hfs] at hf; cases hf; decide
      | some f => rw [hfs] at hf; cases hf; exact (hok.sizes _ _ hfs).2
    by_cases hl : 262144 < t.size ∨ ((d.fs s.data.toList).isSome = false ∧ 64 ≤ d.n)
    · have e1 : dWrite d s.data.toList t = (2, d) := by unfold dWrite; rw [hq, if_pos rfl, if_pos hl]
      rw [e1]
      exact write_two g b d s t w H hlt hltb ht hm hs x y z _ hf rfl hl
    · have e1 : dWrite d s.data.toList t = (if (dChange d).1 then 0 else 191, if (dChange d).1 then (dChange d).2.put s.data.toList ⟨t, y, z⟩ else (dChange d).2) := by
        unfold dWrite
        rw [hq, if_pos rfl, if_neg hl, hf]
        split <;> rfl
      rw [e1]
      refine write_go g b d s t w H hlt hltb hne ht hm hs x y z _ hf rfl (by omega) ?_ hy
      cases hso : (d.fs s.data.toList).isSome with
      | true => exact Or.inl rfl
      | false =>
        rw [hso] at hl
        right
        simp at hl
        omega

end Go.Proofs.YtmlmjchifelpkaaDoor
