/- Unframe at a frame that was written, and at one that is torn. -/
import Derived.Test.YtmlmjchifelpkaaDoorCodeH
namespace Go.Proofs.YtmlmjchifelpkaaDoor
open Go.RowKit Go.Lib
set_option linter.unusedVariables false
set_option maxRecDepth 100000

/-- The bytes of a frame. -/
def frameL (s : ByteArray) : List UInt8 := fourB s.size ++ (fourB (crcP s) ++ s.data.toList)
theorem frameP_eq (s : ByteArray) : frameP s = ⟨(frameL s).toArray⟩ := by unfold frameP frameL; rw [List.append_assoc]
theorem frameL_len (s : ByteArray) : (frameL s).length = 8 + s.size := by
  have := Lib.size_eq s
  simp only [frameL, fourB, List.length_append, List.length_cons, List.length_nil]
  omega

theorem drop_extract (b : ByteArray) (i j : Nat) : (b.extract i j).data.toList = (b.data.toList.take j).drop i := by
  rw [ByteArray.data_extract, Array.toList_extract, List.extract_eq_drop_take', List.drop_take]
theorem bytes_eq {x y : ByteArray} (h : x.data.toList = y.data.toList) : x = y := by
  obtain ⟨⟨x⟩⟩ := x
  obtain ⟨⟨y⟩⟩ := y
  simp only at h
  rw [h]
theorem four_at (l : List UInt8) (a b c d : UInt8) (rest : List UInt8) (h : l = a :: b :: c :: d :: rest) (r : ByteArray) (hr : r.data.toList = l) (h4 : 4 ≤ r.size) : r[0] = a ∧ r[1] = b ∧ r[2] = c ∧ r[3] = d := by
  have : r = ⟨(a :: b :: c :: d :: rest).toArray⟩ := bytes_eq (by rw [hr, h])
  subst this
  exact ⟨rfl, rfl, rfl, rfl⟩
theorem unfour_at (n : Nat) (hn : n < 4294967296) (rest : List UInt8) (r : ByteArray) (hr : r.data.toList = fourB n ++ rest) (h4 : 4 ≤ r.size) : n = unfourP r[0] r[1] r[2] r[3] := by
  obtain ⟨e0, e1, e2, e3⟩ := four_at _ _ _ _ _ rest (by rfl) r hr h4
  rw [e0, e1, e2, e3, unfour_four n hn]

theorem unframe_frame (b s : ByteArray) (i : Nat) (post : List UInt8) (w : World) (hb : b.size ≤ 1000000) (hs : s.size ≤ 262144) (hi : i ≤ b.size) (h : b.data.toList.drop i = frameL s ++ post) (hl : Laid w) :
    Calls Tryd.prog 36 #[.string b, .int .i64 i] w (UOut s (i + 8 + s.size : Nat) 0 0 w) := by
  have hbl := Lib.size_eq b
  have hsl := Lib.size_eq s
  have hln : b.data.toList.length - i = (8 + s.size) + post.length := by rw [← List.length_drop, h, List.length_append, frameL_len]
  have hr : (b.extract i b.size).data.toList = frameL s ++ post := by rw [drop_extract, List.take_of_length_le (by omega), h]
  have hrs : (b.extract i b.size).size = 8 + s.size + post.length := by rw [Lib.size_eq, hr, List.length_append, frameL_len]
  generalize hrr : b.extract i b.size = r at *
  have hbd : s = r.extract 8 (8 + s.size) := bytes_eq (by
    rw [drop_extract, hr, List.take_append_of_le_length (by rw [frameL_len]; omega), List.take_of_length_le (by rw [frameL_len]; omega)]
    rfl)
  have ht : (r.extract 4 r.size).data.toList = fourB (crcP s) ++ (s.data.toList ++ post) := by
    rw [drop_extract, List.take_of_length_le (by rw [← Lib.size_eq]; omega), hr]
    simp [frameL, fourB]
  have hts : (r.extract 4 r.size).size = 4 + s.size + post.length := by rw [Lib.size_eq, ht]; simp [fourB]; omega
  exact unframe_ok b r s (r.extract 4 r.size) i s.size (crcP s) w hb (by omega) hrr.symm (by omega) (unfour_at s.size (by omega) _ r (by rw [hr]; unfold frameL; rw [List.append_assoc]) (by omega)) hs (by omega) hbd rfl (by omega) (unfour_at (crcP s) (crcP_lt s) _ _ ht (by omega)) hl rfl

/-- A frame of which a part at the end lacks. -/
theorem unframe_torn (b s : ByteArray) (i k : Nat) (w : World) (hb : b.size ≤ 1000000) (hs : s.size ≤ 262144) (hi : i ≤ b.size) (h : b.data.toList.drop i = (frameL s).take k) (hk : k < 8 + s.size) :
    Calls Tryd.prog 36 #[.string b, .int .i64 i] w (UOut ⟨#[]⟩ 0 i 23 w) := by
  have hbl := Lib.size_eq b
  have hln : b.data.toList.length - i = k := by rw [← List.length_drop, h, List.length_take, frameL_len]; omega
  by_cases h8 : k < 8
  · exact unframe_short b i w hb hi (by omega)
  · have hr : (b.extract i b.size).data.toList = (frameL s).take k := by rw [drop_extract, List.take_of_length_le (by omega), h]
    have hrs : (b.extract i b.size).size = k := by rw [Lib.size_eq, hr, List.length_take, frameL_len]; omega
    generalize hrr : b.extract i b.size = r at *
    have hr4 : r.data.toList = fourB s.size ++ (fourB (crcP s) ++ s.data.toList).take (k - 4) := by
      rw [hr]
      unfold frameL
      rw [List.take_append]
      simp [fourB, List.take_of_length_le (show [UInt8.ofNat s.size, UInt8.ofNat (s.size / 256), UInt8.ofNat (s.size / 65536), UInt8.ofNat (s.size / 16777216)].length ≤ k by simp; omega)]
    exact unframe_cut b r i s.size w hb (by omega) hrr.symm (by omega) (unfour_at s.size (by omega) _ r hr4 (by omega)) hs (by omega)

end Go.Proofs.YtmlmjchifelpkaaDoor
