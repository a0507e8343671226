/- files.may over this seat's translation; the frame of a call that turns a disk. -/
import Derived.Handy
import Derived.WalkKit
import Derived.Test.YtmlmjchifelpkaaDoorProg
import Derived.Lib.ConvBytes
import Derived.Lib.AtoiErrMem
import Derived.Lib.Fold
import Derived.Deep.LoopGhost
import Derived.Lib.Hide
import Derived.Lib.Strings
import Derived.Test.YtmlmjchifelpkaaDoorFileP
namespace Go.Proofs.YtmlmjchifelpkaaDoor
open Go.RowKit Go.Lib Go.Maps
set_option linter.unusedVariables false

theorem may1_any (c : Nat) (hc : c < 256) (w : World) : Calls Tryd.prog 62 #[.int .u8 c] w fun e w' => e = .returned (.bool (!(okB (UInt8.ofNat c)))) ∧ w = w' := by
  have e1 : (UInt8.ofNat c).toNat = c := by simp; omega
  have e2 : okB (UInt8.ofNat c) = ((decide (97 ≤ c) && decide (c ≤ 122)) || (decide (48 ≤ c) && decide (c ≤ 57))) := by unfold okB; rw [e1]
  rw [e2]
  clear e1 e2
  go_enter Tryd.func62, Tryd.ntmps62
  go_wp2
  all_goals (go_ret; refine ⟨?_, rfl⟩; congr 2; by_cases h1 : 97 ≤ c <;> by_cases h2 : c ≤ 122 <;> by_cases h3 : 48 ≤ c <;> by_cases h4 : c ≤ 57 <;> simp [h1, h2, h3, h4] <;> omega)

/-- slices.IndexFunc over a row of bytes with files.may's own test: is there a byte that may not be? -/
theorem idx_any (s : ByteArray) (blk cap : Nat) (hs : s.size ≤ 64) (w : World) (hblk : blk < w.heap.size)
    (hc : ∀ j, j < s.size → w.cell? ⟨blk, j, none⟩ = some (.int .u8 (s.data.toList.getD j 0).toNat)) :
    Calls Tryd.prog 77 #[.slice (some ⟨blk, 0, none⟩) s.size cap, .func (.func 62) #[] #[]] w fun e w' =>
      (∃ r : Int, e = .returned (.int .i64 r) ∧ (0 ≤ r ↔ s.data.toList.all okB = false)) ∧ w = w' := by
  have hlen : s.data.toList.length = s.size := (Lib.size_eq s).symm
  have hm := fun (c : UInt8) => may1_any c.toNat c.toNat_lt w
  have HC := Lib.hid hc
  clear hc
  have HL := Lib.hid hlen
  clear hlen
  obtain ⟨q0, hq0⟩ : ∃ q, s.data.toList.all okB = q := ⟨_, rfl⟩
  rw [hq0]
  have HQ := Lib.hid hq0
  clear hq0
  go_enter Tryd.func77, Tryd.ntmps77
  go_wp2
  go_loopg [5, 8] s.size (fun gg _ s8 wr => ∃ kk : Nat, kk ≤ s.size ∧ s.size - kk ≤ gg ∧ s8 = .int .i64 kk ∧ wr = w ∧ Hid (∀ j, j < kk → okB (s.data.toList.getD j 0) = true))
  case atStart => exact ⟨0, Nat.zero_le _, by omega, rfl, rfl, fun j hj => absurd hj (Nat.not_lt_zero _)⟩
  case round =>
    obtain ⟨kk, hkk, hg, rfl, rfl, A⟩ := hrel
    by_cases hlt : kk < s.size
    · have hltz : (kk : Int) < (s.size : Int) := by omega
      have l2 := HC.out kk hlt
      have hcall := hm (s.data.toList.getD kk 0)
      have B : Hid (kk < s.data.toList.length) := by rw [HL.out]; exact hlt
      have B2 : Hid (s.data.toList.getD kk 0 ∈ s.data.toList) := by
        have h := B.out
        rw [List.getD_eq_getElem?_getD, List.getElem?_eq_getElem h]
        exact List.getElem_mem h
      clear hm
      generalize hy : s.data.toList.getD kk 0 = y at l2 hcall B2
      have B3 : Hid (s.data.toList.getD kk 0 = y) := hy
      clear hy
      rw [show UInt8.ofNat y.toNat = y by simp] at hcall
      cases hq : okB y with
      | false =>
        rw [hq] at hcall
        go_wp2_with (go_at_call 62; refine hcall.mono ?_; rintro e w' ⟨rfl, hb'⟩; subst hb')
        go_ret
        refine ⟨⟨kk, rfl, ?_⟩, rfl⟩
        have : s.data.toList.all okB = false := List.all_eq_false.2 ⟨y, B2.out, by simp [hq]⟩
        rw [HQ.out] at this
        exact ⟨fun _ => this, fun _ => by omega⟩
      | true =>
        rw [hq] at hcall
        go_wp2_with (go_at_call 62; refine hcall.mono ?_; rintro e w' ⟨rfl, hb'⟩; subst hb')
        go_roundg (s.size - (kk + 1))
        case measure => omega
        case rel =>
          refine ⟨kk + 1, by omega, by omega, by go_num, rfl, (show Hid _ from fun j hj => ?_)⟩
          by_cases e : j = kk
          · subst e
            rw [B3.out]; exact hq
          · exact A.out j (by omega)
    · have hltz : ¬ (kk : Int) < (s.size : Int) := by omega
      go_wp2
      go_ret
      have hk : kk = s.size := by omega
      refine ⟨⟨-1, rfl, ?_⟩, rfl⟩
      have : s.data.toList.all okB = true := by
        rw [List.all_eq_true]
        intro x hx
        obtain ⟨j, hj, rfl⟩ := List.getElem_of_mem hx
        have := A.out j (by rw [HL.out] at hj; omega)
        rw [List.getD_eq_getElem?_getD, List.getElem?_eq_getElem hj] at this
        exact this
      rw [HQ.out] at this
      exact ⟨fun h => absurd h (by omega), fun h => by rw [this] at h; cases h⟩

theorem cont_any (s : ByteArray) (blk cap : Nat) (hs : s.size ≤ 64) (w : World) (hblk : blk < w.heap.size)
    (hc : ∀ j, j < s.size → w.cell? ⟨blk, j, none⟩ = some (.int .u8 (s.data.toList.getD j 0).toNat)) :
    Calls Tryd.prog 61 #[.slice (some ⟨blk, 0, none⟩) s.size cap, .func (.func 62) #[] #[]] w fun e w' =>
      e = .returned (.bool (!(s.data.toList.all okB))) ∧ w = w' := by
  have hi := idx_any s blk cap hs w hblk hc
  clear hc
  go_enter Tryd.func61, Tryd.ntmps61
  go_wp2_with (go_at_call 77; refine hi.mono ?_; rintro e w' ⟨⟨r, rfl, hr⟩, hb'⟩; subst hb'; have HR := Lib.hid hr; clear hr hi)
  go_ret
  refine ⟨?_, rfl⟩
  have h := HR.out
  cases hq : s.data.toList.all okB <;> simp [hq] at h ⊢ <;> omega

theorem may_any (s : ByteArray) (w : World) : Calls Tryd.prog 45 #[.string s] w fun e w' => e = .returned (.bool (dMay s.data.toList)) ∧ Below w.heap.size w w' := by
  have hlen : s.data.toList.length = s.size := (Lib.size_eq s).symm
  by_cases h0 : s.data.toList = []
  · have e1 : s = ⟨#[]⟩ := by cases s; rename_i d; cases d; simp at h0; subst h0; rfl
    subst e1
    have e2 : dMay (⟨#[]⟩ : ByteArray).data.toList = false := by rfl
    rw [e2]
    go_enter Tryd.func45, Tryd.ntmps45
    go_wp2
    go_ret
    exact ⟨rfl, Below.refl _ _⟩
  have hne : (s.toList == ([] : List UInt8)) = false := by rw [Lib.toList_data]; simpa using h0
  by_cases h1 : s.size ≤ 64
  · have e2 : dMay s.data.toList = s.data.toList.all okB := by unfold dMay; rw [hlen]; simp [h0, h1]
    rw [e2]
    have hcv := Lib.run_convert_string_bytes (P := Tryd.prog) (u := .string) w 9 75 5 s Tryd.underlying9 Tryd.underlying75 Tryd.underlying5
    have hcl := cont_any s w.heap.size (grownCap w s.size 0 5) h1 (bytesWorld w 5 s) (by rw [bytesWorld_size]; omega) (fun j hj => bytesWorld_cell w _ s j hj)
    have h1z : ¬ (64 : Int) < (s.size : Int) := by omega
    have hbl := bytesWorld_below w 5 s
    have HB := Lib.hid hbl
    clear hlen h0 e2 hbl h1
    go_enter Tryd.func45, Tryd.ntmps45
    go_wp2_with (go_at_call 61; refine hcl.mono ?_; rintro e w' ⟨rfl, hb'⟩; subst hb'; clear hcl)
    go_ret
    refine ⟨?_, HB.out⟩
    simp
  · have e2 : dMay s.data.toList = false := by unfold dMay; rw [hlen]; simp [h1]
    rw [e2]
    have h1z : (64 : Int) < (s.size : Int) := by omega
    clear hlen h0 e2 h1
    go_enter Tryd.func45, Tryd.ntmps45
    go_wp2
    refine bodyPost_ret (v := .bool false) (by simp [results, Tryd.results45, go_sem]; try rfl) rfl ⟨rfl, Below.refl _ _⟩

end Go.Proofs.YtmlmjchifelpkaaDoor
