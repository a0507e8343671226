/- What Sync, Write, Append, Rename compute. -/
import Derived.Test.YtmlmjchifelpkaaDoorFileD
namespace Go.Proofs.YtmlmjchifelpkaaDoor
open Go.RowKit Go.Lib Go.Maps
set_option linter.unusedVariables false
set_option maxRecDepth 100000

section
variable {g b : Nat} {w w' w'' : World} {d : DiskP}
theorem Turn.alloc (h : Turn g b w w') (o : Obj) : Turn g b w (w'.alloc o) :=
  h.trans (Turn.of_below ((Below.refl _ _).alloc (Nat.le_refl _) _) g b)
theorem Turn.setNew (h : Turn g b w w') {a : Addr} (ha : w.heap.size ≤ a.block) (u : Value) : Turn g b w (w'.setCell a u) :=
  ⟨h.os, h.tape, h.output, by have := h.size; simpa [World.setCell] using this, fun k hk h1 h2 => (Below.heap_setCell _ _ _ _ (by omega)).trans (h.block k hk h1 h2)⟩
theorem Turn.drew (h : Turn g b w w') : Turn g b w w'.drew := ⟨h.os, h.tape, h.output, h.size, h.block⟩
theorem Turn.grown (h : Turn g b w w') (k : w'.grownBy w'' (some b)) : Turn g b w w'' := h.trans (Turn.of_grown k g)
theorem Turn.cell (h : Turn g b w w') {n i : Nat} (hn : n < w.heap.size) (h1 : n ≠ g) (h2 : n ≠ b) : w'.cell? ⟨n, i, none⟩ = w.cell? ⟨n, i, none⟩ := World.cell?_of_block (h.block n hn h1 h2)
theorem Turn.frozen (h : Turn g b w w') {n i : Nat} (hn : n < w.heap.size) (h1 : n ≠ g) (h2 : n ≠ b) : w'.frozen? ⟨n, i, none⟩ = w.frozen? ⟨n, i, none⟩ := World.frozen?_of_block (h.block n hn h1 h2)

theorem IsDisk.drew (h : IsDisk w g b d) : IsDisk w.drew g b d := h.kept rfl rfl

theorem IsDisk.put {k : List UInt8} {f : FileP} (h : IsDisk w g b d) (hg : w.grownBy w' (some b)) (hF : IsFiles w' b (d.put k f)) (hn : (d.fs k).isSome = true ∨ d.n < 64) (h1 : f.has.size ≤ 262144) (h2 : f.safe.size ≤ 262144) : IsDisk w' g b (d.put k f) := by
  refine ⟨(hg.block g h.lt (by have := h.ne; simpa using this)).trans h.box, hF, ?_, h.ok.left_lo, h.ok.left_hi, ?_⟩
  · show (if (d.fs k).isSome = true then d.n else d.n + 1) ≤ 64
    have := h.ok.n_le
    split
    · omega
    · rcases hn with hn | hn
      · contradiction
      · omega
  · intro x y hxy
    change putF d.fs k f x = some y at hxy
    unfold putF at hxy
    split at hxy
    · cases hxy; exact ⟨h1, h2⟩
    · exact h.ok.sizes x y hxy

theorem IsDisk.del {k : List UInt8} (h : IsDisk w g b d) (hg : w.grownBy w' (some b)) (hF : IsFiles w' b (d.del k)) : IsDisk w' g b (d.del k) := by
  refine ⟨(hg.block g h.lt (by have := h.ne; simpa using this)).trans h.box, hF, ?_, h.ok.left_lo, h.ok.left_hi, ?_⟩
  · show (if (d.fs k).isSome = true then d.n - 1 else d.n) ≤ 64
    have := h.ok.n_le
    split <;> omega
  · intro x y hxy
    change delF d.fs k x = some y at hxy
    unfold delF at hxy
    split at hxy
    · cases hxy
    · exact h.ok.sizes x y hxy
end

theorem known_may {d : DiskP} {k : List UInt8} {f : FileP} (h : dKnown d k = (f, 0)) : dMay k = true ∧ d.fs k = some f := by
  unfold dKnown at h
  split at h
  · rename_i hm
    split at h
    · rename_i f' hf
      simp at h
      exact ⟨hm, by rw [hf, h]⟩
    · simp at h
  · simp at h

theorem sync_any (g b : Nat) (d : DiskP) (s : ByteArray) (w : World) (h : IsDisk w g b d) :
    Calls Tryd.prog 30 #[.pointer (some ⟨g, 0, none⟩), .string s] w fun e w' =>
      e = .returned (.int .i64 (dSync d s.data.toList).1) ∧ IsDisk w' g b (dSync d s.data.toList).2 ∧ Turn g b w w' := by
  have hkn := fun W hW => known_any g b d s W hW
  have hlt := h.lt
  have hltb := h.ltb
  have hne := h.ne
  have hok := h.ok
  have H := Lib.hid h
  clear h
  rcases hk : dKnown d s.data.toList with ⟨⟨x, y, z⟩, n⟩
  rw [hk] at hkn
  by_cases h0 : n = 0
  · subst h0
    obtain ⟨hmay, hfs⟩ := known_may hk
    have hs : s.size ≤ maxLen := by have := may_len hmay; unfold maxLen; omega
    have hsz := hok.sizes _ _ hfs
    cases hch : (dChange d).1 with
    | false =>
      have e1 : dSync d s.data.toList = (191, (dChange d).2) := by unfold dSync; rw [hk, if_pos rfl, hch]; rfl
      rw [e1]
      have HK := Lib.hid hk
      have HC := Lib.hid hch
      clear hk e1 hs hsz hfs hmay hok hch
      go_enter Tryd.func30, Tryd.ntmps30
      go_wp2_with fail
      refine (hkn _ H.out).mono ?_
      rintro e w1 ⟨rfl, hb⟩
      have hs0 := hb.size
      have D1 := H.out.below hb hlt hltb
      have D2 := D1.alloc (.cells #[.string x, .string y, .bool z] 59)
      have HD := Lib.hid D2
      have HB := Lib.hid hb
      clear hkn D1 D2
      go_wp2_with fail
      refine (change_any g b d _ HD.out).mono ?_
      rintro e w3 ⟨he, hD3, hT3⟩
      rw [HC.out] at he
      subst he
      go_wp2
      go_ret
      exact ⟨rfl, hD3, ((Turn.of_below HB.out g b).alloc _).trans hT3⟩
    | true =>
      have e1 : dSync d s.data.toList = (0, (dChange d).2.put s.data.toList ⟨x, x, true⟩) := by unfold dSync; rw [hk, if_pos rfl, hch]; rfl
      rw [e1]
      have HK := Lib.hid hk
      have HC := Lib.hid hch
      have HS := Lib.hid hs
      have HZ := Lib.hid hsz
      have HFS : Hid (((dChange d).2.fs s.data.toList).isSome = true) := by show (_ : Bool) = true; rw [(dChange_fs d).1, hfs]; rfl
      clear hk e1 hs hsz hfs hmay hok hch
      go_enter Tryd.func30, Tryd.ntmps30
      go_wp2_with fail
      refine (hkn _ H.out).mono ?_
      rintro e w1 ⟨rfl, hb⟩
      have hs0 := hb.size
      have D1 := H.out.below hb hlt hltb
      have D2 := D1.alloc (.cells #[.string x, .string y, .bool z] 59)
      have HD := Lib.hid D2
      have HB := Lib.hid hb
      clear hkn D1 D2
      go_wp2_with fail
      refine (change_any g b d _ HD.out).mono ?_
      rintro e w3 ⟨he, hD3, hT3⟩
      rw [HC.out] at he
      subst he
      have c0 := hD3.cell0
      have k0 : w3.cell? ⟨w1.heap.size, 0, none⟩ = some (.string x) := by rw [hT3.cell (by simp) (by omega) (by omega)]; simp
      have HD3 := Lib.hid hD3
      have HT3 := Lib.hid hT3
      clear hD3 hT3
      go_wp2_with fail
      go_still_tail 10, (by kernel_rfl)
      change wpList _ _ _ _ _ w3.drew
      go_wp2_with (at_mapUpdate; refine wpList_put rfl _ _ _ rfl rfl HD3.out.drew.files HD3.out.ok.n_le s HS.out rfl ⟨x, x, true⟩ rfl ?_; intro w4 hF4 hg4 hs4)
      go_ret
      exact ⟨rfl, HD3.out.drew.put hg4 hF4 (Or.inl HFS.out) HZ.out.1 HZ.out.1, ((((Turn.of_below HB.out g b).alloc _).trans HT3.out).drew).grown hg4⟩
  · have e1 : dSync d s.data.toList = (n, d) := by unfold dSync; rw [hk, if_neg h0]
    rw [e1]
    have HK := Lib.hid hk
    clear hk e1 hok
    go_enter Tryd.func30, Tryd.ntmps30
    go_wp2_with fail
    refine (hkn _ H.out).mono ?_
    rintro e w1 ⟨rfl, hb⟩
    have hs0 := hb.size
    have D1 := H.out.below hb hlt hltb
    have HD := Lib.hid D1
    have HB := Lib.hid hb
    clear hkn D1
    go_wp2
    go_ret
    exact ⟨rfl, HD.out.alloc _, (Turn.of_below HB.out g b).alloc _⟩

end Go.Proofs.YtmlmjchifelpkaaDoor
