/- What Append computes. -/
import Derived.Test.YtmlmjchifelpkaaDoorFileE
namespace Go.Proofs.YtmlmjchifelpkaaDoor
open Go.RowKit Go.Lib Go.Maps
set_option linter.unusedVariables false
set_option maxRecDepth 100000

theorem frozen_new (w : World) (c : Array Value) (t : TypeId) (i : Nat) : (w.alloc (.cells c t)).frozen? ⟨w.heap.size, i, none⟩ = false := by
  have h := (MapKept.heap_alloc w (.cells c t)).1
  unfold World.frozen?
  rw [h]
  simp

theorem append_any (g b : Nat) (d : DiskP) (s t : ByteArray) (w : World) (h : IsDisk w g b d) (ht : t.size ≤ 281474976710656) :
    Calls Tryd.prog 29 #[.pointer (some ⟨g, 0, none⟩), .string s, .string t] w fun e w' =>
      e = .returned (.int .i64 (dAppend d s.data.toList t).1) ∧ IsDisk w' g b (dAppend d s.data.toList t).2 ∧ Turn g b w w' := by
  have hkn := fun W hW => known_any g b d s W hW
  have hlt := h.lt
  have hltb := h.ltb
  have hne := h.ne
  have hok := h.ok
  have H := Lib.hid h
  clear h
  rcases hk : dKnown d s.data.toList with ⟨⟨x, y, z⟩, n⟩
  rw [hk] at hkn
  by_cases h0 : n = 0
  · subst h0
    obtain ⟨hmay, hfs⟩ := known_may hk
    have hs : s.size ≤ maxLen := by have := may_len hmay; unfold maxLen; omega
    have hsz := hok.sizes _ _ hfs
    simp only [] at hsz
    have hx := hsz.1
    by_cases hl : 262144 < x.size + t.size
    · have e1 : dAppend d s.data.toList t = (2, d) := by unfold dAppend; rw [hk, if_pos rfl, if_pos hl]
      rw [e1]
      have hlz : (262144 : Int) < (x.size : Int) + (t.size : Int) := by omega
      have hin : IntKind.i64.wrap ((x.size : Int) + (t.size : Int)) = (x.size : Int) + (t.size : Int) := IntWalk.i64_in _ (by omega)
      have HK := Lib.hid hk
      clear hk e1 hs hsz hfs hmay hok hl hx
      go_enter Tryd.func29, Tryd.ntmps29
      go_wp2_with fail
      refine (hkn _ H.out).mono ?_
      rintro e w1 ⟨rfl, hb⟩
      have hs0 := hb.size
      have D1 := H.out.below hb hlt hltb
      have D2 := D1.alloc (.cells #[.string x, .string y, .bool z] 59)
      have HD := Lib.hid D2
      have HB := Lib.hid hb
      clear hkn D1 D2
      go_wp2
      go_ret
      exact ⟨rfl, HD.out, (Turn.of_below HB.out g b).alloc _⟩
    · have hlz : ¬ (262144 : Int) < (x.size : Int) + (t.size : Int) := by omega
      have hin : IntKind.i64.wrap ((x.size : Int) + (t.size : Int)) = (x.size : Int) + (t.size : Int) := IntWalk.i64_in _ (by omega)
      cases hch : (dChange d).1 with
      | false =>
        have e1 : dAppend d s.data.toList t = (191, (dChange d).2) := by unfold dAppend; rw [hk, if_pos rfl, if_neg hl, hch]; rfl
        rw [e1]
        have HK := Lib.hid hk
        have HC := Lib.hid hch
        clear hk e1 hs hsz hfs hmay hok hch hl hx
        go_enter Tryd.func29, Tryd.ntmps29
        go_wp2_with fail
        refine (hkn _ H.out).mono ?_
        rintro e w1 ⟨rfl, hb⟩
        have hs0 := hb.size
        have D1 := H.out.below hb hlt hltb
        have D2 := D1.alloc (.cells #[.string x, .string y, .bool z] 59)
        have HD := Lib.hid D2
        have HB := Lib.hid hb
        clear hkn D1 D2
        go_wp2_with fail
        refine (change_any g b d _ HD.out).mono ?_
        rintro e w3 ⟨he, hD3, hT3⟩
        rw [HC.out] at he
        subst he
        go_wp2
        go_ret
        exact ⟨rfl, hD3, ((Turn.of_below HB.out g b).alloc _).trans hT3⟩
      | true =>
        have e1 : dAppend d s.data.toList t = (0, (dChange d).2.put s.data.toList ⟨x ++ t, y, z⟩) := by unfold dAppend; rw [hk, if_pos rfl, if_neg hl, hch]; rfl
        rw [e1]
        have HK := Lib.hid hk
        have HC := Lib.hid hch
        have HS := Lib.hid hs
        have HZ := Lib.hid hsz
        have hxt : (x ++ t).size ≤ 262144 := by simp; omega
        have HXT := Lib.hid hxt
        have HFS : Hid (((dChange d).2.fs s.data.toList).isSome = true) := by show (_ : Bool) = true; rw [(dChange_fs d).1, hfs]; rfl
        clear hk e1 hs hsz hfs hmay hok hch hl hx hxt
        go_enter Tryd.func29, Tryd.ntmps29
        go_wp2_with fail
        refine (hkn _ H.out).mono ?_
        rintro e w1 ⟨rfl, hb⟩
        have hs0 := hb.size
        have D1 := H.out.below hb hlt hltb
        have D2 := D1.alloc (.cells #[.string x, .string y, .bool z] 59)
        have HD := Lib.hid D2
        have HB := Lib.hid hb
        clear hkn D1 D2
        go_wp2_with fail
        refine (change_any g b d _ HD.out).mono ?_
        rintro e w3 ⟨he, hD3, hT3⟩
        rw [HC.out] at he
        subst he
        have k0 : w3.cell? ⟨w1.heap.size, 0, none⟩ = some (.string x) := by rw [hT3.cell (by simp) (by omega) (by omega)]; simp
        have k1 : w3.cell? ⟨w1.heap.size, 1, none⟩ = some (.string y) := by rw [hT3.cell (by simp) (by omega) (by omega)]; simp
        have k2 : w3.cell? ⟨w1.heap.size, 2, none⟩ = some (.bool z) := by rw [hT3.cell (by simp) (by omega) (by omega)]; simp
        have k3 : w3.frozen? ⟨w1.heap.size, 0, none⟩ = false := by rw [hT3.frozen (by simp) (by omega) (by omega)]; exact frozen_new _ _ _ _
        have hD4 := hD3.setCell ⟨w1.heap.size, 0, none⟩ (.string (x ++ t)) (by simp; omega) (by simp; omega)
        have hT4 := (((Turn.of_below HB.out g b).alloc (.cells #[.string x, .string y, .bool z] 59)).trans hT3).setNew (a := ⟨w1.heap.size, 0, none⟩) hs0 (.string (x ++ t))
        have c0 := hD3.cell0
        have HD4 := Lib.hid hD4
        have HT4 := Lib.hid hT4
        clear hD3 hT3 hD4 hT4
        go_wp2_with fail
        have j0 : (w3.setCell ⟨w1.heap.size, 0, none⟩ (.string (x ++ t))).cell? ⟨w1.heap.size, 0, none⟩ = some (.string (x ++ t)) := World.cell?_setCell_same _ _ _ k0
        have j1 : (w3.setCell ⟨w1.heap.size, 0, none⟩ (.string (x ++ t))).cell? ⟨w1.heap.size, 1, none⟩ = some (.string y) := by rw [World.cell?_setCell_other _ _ _ _ (by simp)]; exact k1
        have j2 : (w3.setCell ⟨w1.heap.size, 0, none⟩ (.string (x ++ t))).cell? ⟨w1.heap.size, 2, none⟩ = some (.bool z) := by rw [World.cell?_setCell_other _ _ _ _ (by simp)]; exact k2
        have j3 := HD4.out.cell0
        clear k0 k1 k2 k3 c0
        generalize w3.setCell ⟨w1.heap.size, 0, none⟩ (.string (x ++ t)) = W at *
        go_still_tail 6, (by kernel_rfl)
        change wpList _ _ _ _ _ W.drew
        go_wp2_with (at_mapUpdate; refine wpList_put rfl _ _ _ rfl rfl HD4.out.drew.files HD4.out.ok.n_le s HS.out rfl ⟨x ++ t, y, z⟩ rfl ?_; intro w4 hF4 hg4 hs4)
        go_ret
        exact ⟨rfl, HD4.out.drew.put hg4 hF4 (Or.inl HFS.out) HXT.out HZ.out.2, HT4.out.drew.grown hg4⟩
  · have e1 : dAppend d s.data.toList t = (n, d) := by unfold dAppend; rw [hk, if_neg h0]
    rw [e1]
    have HK := Lib.hid hk
    clear hk e1 hok
    go_enter Tryd.func29, Tryd.ntmps29
    go_wp2_with fail
    refine (hkn _ H.out).mono ?_
    rintro e w1 ⟨rfl, hb⟩
    have hs0 := hb.size
    have D1 := H.out.below hb hlt hltb
    have HD := Lib.hid D1
    have HB := Lib.hid hb
    clear hkn D1
    go_wp2
    go_ret
    exact ⟨rfl, HD.out.alloc _, (Turn.of_below HB.out g b).alloc _⟩

end Go.Proofs.YtmlmjchifelpkaaDoor
