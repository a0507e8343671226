/- What Rename computes. -/
import Derived.Test.YtmlmjchifelpkaaDoorFileG
namespace Go.Proofs.YtmlmjchifelpkaaDoor
open Go.RowKit Go.Lib Go.Maps
set_option linter.unusedVariables false
set_option maxRecDepth 100000

theorem rename_bad (g b : Nat) (d : DiskP) (s t : ByteArray) (w : World) (h : IsDisk w g b d) (hq : (dMay s.data.toList && dMay t.data.toList) = false) :
    Calls Tryd.prog 40 #[.pointer (some ⟨g, 0, none⟩), .string s, .string t] w fun e w' => e = .returned (.int .i64 170) ∧ IsDisk w' g b d ∧ Turn g b w w' := by
  have hm := fun W => may_any s W
  have hm2 := fun W => may_any t W
  have hlt := h.lt
  have hltb := h.ltb
  have H := Lib.hid h
  clear h
  cases h1 : dMay s.data.toList with
  | false =>
    rw [h1] at hm
    clear hq h1 hm2
    go_enter Tryd.func40, Tryd.ntmps40
    go_wp2_with fail
    refine (hm _).mono ?_
    rintro e w1 ⟨rfl, hb⟩
    have HD := Lib.hid (H.out.below hb hlt hltb)
    have HB := Lib.hid hb
    clear hm
    go_wp2
    go_ret
    exact ⟨rfl, HD.out, Turn.of_below HB.out g b⟩
  | true =>
    have h2 : dMay t.data.toList = false := by rw [h1] at hq; simpa using hq
    rw [h1] at hm
    rw [h2] at hm2
    clear hq h1 h2
    go_enter Tryd.func40, Tryd.ntmps40
    go_wp2_with fail
    refine (hm _).mono ?_
    rintro e w1 ⟨rfl, hb⟩
    have D1 := H.out.below hb hlt hltb
    have HD := Lib.hid D1
    have HB := Lib.hid hb
    clear hm D1
    go_wp2_with fail
    refine (hm2 _).mono ?_
    rintro e w2 ⟨rfl, hb2⟩
    have D2 := HD.out.below hb2 (HD.out.lt) (HD.out.ltb)
    have HD2 := Lib.hid D2
    have HB2 := Lib.hid hb2
    clear hm2 D2
    go_wp2
    go_ret
    exact ⟨rfl, HD2.out, (Turn.of_below HB.out g b).trans (Turn.of_below HB2.out g b)⟩

theorem rename_any (g b : Nat) (d : DiskP) (s t : ByteArray) (w : World) (h : IsDisk w g b d) :
    Calls Tryd.prog 40 #[.pointer (some ⟨g, 0, none⟩), .string s, .string t] w fun e w' =>
      e = .returned (.int .i64 (dRename d s.data.toList t.data.toList).1) ∧ IsDisk w' g b (dRename d s.data.toList t.data.toList).2 ∧ Turn g b w w' := by
  cases hq : dMay s.data.toList && dMay t.data.toList with
  | false =>
    have e1 : dRename d s.data.toList t.data.toList = (170, d) := by unfold dRename; rw [hq]; rfl
    rw [e1]
    exact rename_bad g b d s t w h hq
  | true =>
  have hkn := fun W hW => known_any g b d s W hW
  have hm := fun W => may_any s W
  have hm2 := fun W => may_any t W
  obtain ⟨hms, hmt⟩ : dMay s.data.toList = true ∧ dMay t.data.toList = true := by simpa using hq
  rw [hms] at hm
  rw [hmt] at hm2
  have hs : s.size ≤ maxLen := by have := may_len hms; unfold maxLen; omega
  have ht : t.size ≤ maxLen := by have := may_len hmt; unfold maxLen; omega
  have hlt := h.lt
  have hltb := h.ltb
  have hne := h.ne
  have hok := h.ok
  have H := Lib.hid h
  clear h
  rcases hk : dKnown d s.data.toList with ⟨⟨x, y, z⟩, n⟩
  rw [hk] at hkn
  by_cases h0 : n = 0
  · subst h0
    obtain ⟨_, hfs⟩ := known_may hk
    have hsz := hok.sizes _ _ hfs
    cases hch : (dChange d).1 with
    | false =>
      have e1 : dRename d s.data.toList t.data.toList = (191, (dChange d).2) := by unfold dRename; rw [hq, if_pos rfl, hk, if_pos rfl, hch]; rfl
      rw [e1]
      have HC := Lib.hid hch
      clear hk e1 hs ht hsz hfs hms hmt hok hch hq
      go_enter Tryd.func40, Tryd.ntmps40
      go_wp2_with fail
      refine (hm _).mono ?_
      rintro e w1 ⟨rfl, hb⟩
      have hs1 := hb.size
      have HD := Lib.hid (H.out.below hb hlt hltb)
      have HB := Lib.hid hb
      clear hm hb
      go_wp2_with fail
      refine (hm2 _).mono ?_
      rintro e w2 ⟨rfl, hb2⟩
      have hs2 := hb2.size
      have HD2 := Lib.hid (HD.out.below hb2 HD.out.lt HD.out.ltb)
      have HB2 := Lib.hid hb2
      clear hm2 hb2
      go_wp2_with fail
      refine (hkn _ HD2.out).mono ?_
      rintro e w3 ⟨rfl, hb3⟩
      have hs3 := hb3.size
      have HD3 := Lib.hid ((HD2.out.below hb3 HD2.out.lt HD2.out.ltb).alloc (.cells #[.string x, .string y, .bool z] 59))
      have HB3 := Lib.hid hb3
      clear hkn hb3
      go_wp2_with fail
      refine (change_any g b d _ HD3.out).mono ?_
      rintro e w4 ⟨he, hD4, hT4⟩
      rw [HC.out] at he
      subst he
      go_wp2
      go_ret
      exact ⟨rfl, hD4, ((((Turn.of_below HB.out g b).trans (Turn.of_below HB2.out g b)).trans (Turn.of_below HB3.out g b)).alloc _).trans hT4⟩
    | true =>
      have e1 : dRename d s.data.toList t.data.toList = (0, ((dChange d).2.del s.data.toList).put t.data.toList ⟨x, y, z⟩) := by unfold dRename; rw [hq, if_pos rfl, hk, if_pos rfl, hch]; rfl
      rw [e1]
      have HC := Lib.hid hch
      have HS := Lib.hid hs
      have HT := Lib.hid ht
      have HZ := Lib.hid hsz
      have HO := Lib.hid hok
      have HFS : Hid (((dChange d).2.fs s.data.toList).isSome = true) := by show (_ : Bool) = true; rw [(dChange_fs d).1, hfs]; rfl
      clear hk e1 hs ht hsz hfs hms hmt hok hch hq
      go_enter Tryd.func40, Tryd.ntmps40
      go_wp2_with fail
      refine (hm _).mono ?_
      rintro e w1 ⟨rfl, hb⟩
      have hs1 := hb.size
      have HD := Lib.hid (H.out.below hb hlt hltb)
      have HB := Lib.hid hb
      clear hm hb
      go_wp2_with fail
      refine (hm2 _).mono ?_
      rintro e w2 ⟨rfl, hb2⟩
      have hs2 := hb2.size
      have HD2 := Lib.hid (HD.out.below hb2 HD.out.lt HD.out.ltb)
      have HB2 := Lib.hid hb2
      clear hm2 hb2
      go_wp2_with fail
      refine (hkn _ HD2.out).mono ?_
      rintro e w3 ⟨rfl, hb3⟩
      have hs3 := hb3.size
      have HD3 := Lib.hid ((HD2.out.below hb3 HD2.out.lt HD2.out.ltb).alloc (.cells #[.string x, .string y, .bool z] 59))
      have HB3 := Lib.hid hb3
      clear hkn hb3
      go_wp2_with fail
      refine (change_any g b d _ HD3.out).mono ?_
      rintro e w4 ⟨he, hD4, hT4⟩
      rw [HC.out] at he
      subst he
      have c0 := hD4.cell0
      have k0 : w4.cell? ⟨w3.heap.size, 0, none⟩ = some (.string x) := by rw [hT4.cell (by simp) (by omega) (by omega)]; simp
      have k1 : w4.cell? ⟨w3.heap.size, 1, none⟩ = some (.string y) := by rw [hT4.cell (by simp) (by omega) (by omega)]; simp
      have k2 : w4.cell? ⟨w3.heap.size, 2, none⟩ = some (.bool z) := by rw [hT4.cell (by simp) (by omega) (by omega)]; simp
      have hlt3 : w3.heap.size < w4.heap.size := by have := hT4.size; simp at this; omega
      have HD4 := Lib.hid hD4
      have HT4 := Lib.hid hT4
      clear hD4 hT4
      go_wp2_with (at_delete; refine wpList_drop rfl _ _ rfl rfl HD4.out.files s HS.out rfl ?_; intro w5 hF5 hg5 hs5)
      have hD5 := HD4.out.del hg5 hF5
      have j0 := hg5.cell k0 (by simp; omega)
      have j1 := hg5.cell k1 (by simp; omega)
      have j2 := hg5.cell k2 (by simp; omega)
      have j3 := hD5.cell0
      have HD5 := Lib.hid hD5
      have HG5 := Lib.hid hg5
      clear k0 k1 k2 c0 hF5 hg5 hD5
      go_still_tail 6, (by kernel_rfl)
      change wpList _ _ _ _ _ w5.drew
      go_wp2_with (at_mapUpdate; refine wpList_put rfl _ _ _ rfl rfl HD5.out.drew.files HD5.out.ok.n_le t HT.out rfl ⟨x, y, z⟩ rfl ?_; intro w6 hF6 hg6 hs6)
      go_ret
      refine ⟨rfl, HD5.out.drew.put hg6 hF6 (Or.inr ?_) HZ.out.1 HZ.out.2, (((((((Turn.of_below HB.out g b).trans (Turn.of_below HB2.out g b)).trans (Turn.of_below HB3.out g b)).alloc _).trans HT4.out).grown HG5.out).drew).grown hg6⟩
      show (if ((dChange d).2.fs s.data.toList).isSome = true then (dChange d).2.n - 1 else (dChange d).2.n) < 64
      rw [if_pos HFS.out, (dChange_fs d).2]
      have := HO.out.n_le
      omega
  · have e1 : dRename d s.data.toList t.data.toList = (n, d) := by unfold dRename; rw [hq, if_pos rfl, hk, if_neg h0]
    rw [e1]
    clear hk e1 hs ht hms hmt hok hq
    go_enter Tryd.func40, Tryd.ntmps40
    go_wp2_with fail
    refine (hm _).mono ?_
    rintro e w1 ⟨rfl, hb⟩
    have hs1 := hb.size
    have HD := Lib.hid (H.out.below hb hlt hltb)
    have HB := Lib.hid hb
    clear hm hb
    go_wp2_with fail
    refine (hm2 _).mono ?_
    rintro e w2 ⟨rfl, hb2⟩
    have hs2 := hb2.size
    have HD2 := Lib.hid (HD.out.below hb2 HD.out.lt HD.out.ltb)
    have HB2 := Lib.hid hb2
    clear hm2 hb2
    go_wp2_with fail
    refine (hkn _ HD2.out).mono ?_
    rintro e w3 ⟨rfl, hb3⟩
    have hs3 := hb3.size
    have HD3 := Lib.hid ((HD2.out.below hb3 HD2.out.lt HD2.out.ltb).alloc (.cells #[.string x, .string y, .bool z] 59))
    have HB3 := Lib.hid hb3
    clear hkn hb3
    go_wp2
    go_ret
    exact ⟨rfl, HD3.out, (((Turn.of_below HB.out g b).trans (Turn.of_below HB2.out g b)).trans (Turn.of_below HB3.out g b)).alloc _⟩

end Go.Proofs.YtmlmjchifelpkaaDoor
