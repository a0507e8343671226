/- What a disk's Remove computes. -/
import Derived.Test.YtmlmjchifelpkaaDoorFileH
namespace Go.Proofs.YtmlmjchifelpkaaDoor
open Go.RowKit Go.Lib Go.Maps
set_option linter.unusedVariables false
set_option maxRecDepth 100000

theorem remove_any (g b : Nat) (d : DiskP) (s : ByteArray) (w : World) (h : IsDisk w g b d) :
    Calls Tryd.prog 22 #[.pointer (some ⟨g, 0, none⟩), .string s] w fun e w' =>
      e = .returned (.int .i64 (dRemove d s.data.toList).1) ∧ IsDisk w' g b (dRemove d s.data.toList).2 ∧ Turn g b w w' := by
  have hkn := fun W hW => known_any g b d s W hW
  have hlt := h.lt
  have hltb := h.ltb
  have hne := h.ne
  have hok := h.ok
  have H := Lib.hid h
  clear h
  rcases hk : dKnown d s.data.toList with ⟨⟨x, y, z⟩, n⟩
  rw [hk] at hkn
  by_cases h0 : n = 0
  · subst h0
    obtain ⟨hmay, hfs⟩ := known_may hk
    have hs : s.size ≤ maxLen := by have := may_len hmay; unfold maxLen; omega
    have hsz := hok.sizes _ _ hfs
    cases hch : (dChange d).1 with
    | false =>
      have e1 : dRemove d s.data.toList = (191, (dChange d).2) := by unfold dRemove; rw [hk, if_pos rfl, hch]; rfl
      rw [e1]
      have HK := Lib.hid hk
      have HC := Lib.hid hch
      clear hk e1 hs hsz hfs hmay hok hch
      go_enter Tryd.func22, Tryd.ntmps22
      go_wp2_with fail
      refine (hkn _ H.out).mono ?_
      rintro e w1 ⟨rfl, hb⟩
      have hs0 := hb.size
      have D1 := H.out.below hb hlt hltb
      have D2 := D1.alloc (.cells #[.string x, .string y, .bool z] 59)
      have HD := Lib.hid D2
      have HB := Lib.hid hb
      clear hkn D1 D2
      go_wp2_with fail
      refine (change_any g b d _ HD.out).mono ?_
      rintro e w3 ⟨he, hD3, hT3⟩
      rw [HC.out] at he
      subst he
      go_wp2
      go_ret
      exact ⟨rfl, hD3, ((Turn.of_below HB.out g b).alloc _).trans hT3⟩
    | true =>
      have e1 : dRemove d s.data.toList = (0, (dChange d).2.del s.data.toList) := by unfold dRemove; rw [hk, if_pos rfl, hch]; rfl
      rw [e1]
      have HK := Lib.hid hk
      have HC := Lib.hid hch
      have HS := Lib.hid hs
      have HZ := Lib.hid hsz
      have HFS : Hid (((dChange d).2.fs s.data.toList).isSome = true) := by show (_ : Bool) = true; rw [(dChange_fs d).1, hfs]; rfl
      clear hk e1 hs hsz hfs hmay hok hch
      go_enter Tryd.func22, Tryd.ntmps22
      go_wp2_with fail
      refine (hkn _ H.out).mono ?_
      rintro e w1 ⟨rfl, hb⟩
      have hs0 := hb.size
      have D1 := H.out.below hb hlt hltb
      have D2 := D1.alloc (.cells #[.string x, .string y, .bool z] 59)
      have HD := Lib.hid D2
      have HB := Lib.hid hb
      clear hkn D1 D2
      go_wp2_with fail
      refine (change_any g b d _ HD.out).mono ?_
      rintro e w3 ⟨he, hD3, hT3⟩
      rw [HC.out] at he
      subst he
      have c0 := hD3.cell0
      have HD3 := Lib.hid hD3
      have HT3 := Lib.hid hT3
      clear hD3 hT3
      go_wp2_with (at_delete; refine wpList_drop rfl _ _ rfl rfl HD3.out.files s HS.out rfl ?_; intro w5 hF5 hg5 hs5)
      have HD5 := Lib.hid (HD3.out.del hg5 hF5)
      have HT5 := Lib.hid ((((Turn.of_below HB.out g b).alloc (.cells #[.string x, .string y, .bool z] 59)).trans HT3.out).grown hg5)
      clear hF5 hg5 hs5 c0
      go_wp2
      go_ret
      exact ⟨rfl, HD5.out, HT5.out⟩
  · have e1 : dRemove d s.data.toList = (n, d) := by unfold dRemove; rw [hk, if_neg h0]
    rw [e1]
    have HK := Lib.hid hk
    clear hk e1 hok
    go_enter Tryd.func22, Tryd.ntmps22
    go_wp2_with fail
    refine (hkn _ H.out).mono ?_
    rintro e w1 ⟨rfl, hb⟩
    have hs0 := hb.size
    have D1 := H.out.below hb hlt hltb
    have HD := Lib.hid D1
    have HB := Lib.hid hb
    clear hkn D1
    go_wp2
    go_ret
    exact ⟨rfl, HD.out.alloc _, (Turn.of_below HB.out g b).alloc _⟩

end Go.Proofs.YtmlmjchifelpkaaDoor
