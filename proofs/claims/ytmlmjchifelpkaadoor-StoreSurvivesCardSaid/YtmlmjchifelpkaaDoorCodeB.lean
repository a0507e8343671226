/- The contracts of package code's Crc, unfour, four, Frame, Unframe. -/
import Derived.Test.YtmlmjchifelpkaaDoorCodeA
import Derived.Test.YtmlmjchifelpkaaDoorFileC
import Derived.Lib.SmallJoins
import Derived.Laws.ResultCell
import Derived.Deep.QuietTactic
import Derived.BigQuiet
namespace Go.Proofs.YtmlmjchifelpkaaDoor
open Go.RowKit Go.Lib
set_option linter.unusedVariables false
set_option maxRecDepth 100000

theorem gQuart : Tryd.prog.globalNamed "flyover/code.quarters" = some 0 := by kernel_rfl

/-- What the row's condition says of the listed variable. -/
def Laid (w : World) : Prop := Lib.TabIs Tryd.prog w "flyover/code.quarters" .u32 quart

theorem Laid.stays {B : Nat} {w w' : World} (h : Laid w) (hb : Below B w w') (hB : w.heap.size ≤ B) : Laid w' := Go.Joins.tab_stays gQuart h hb hB
theorem Laid.cell {w : World} (h : Laid w) (i : Nat) (hi : i < 16) : w.cell? ⟨0, i, none⟩ = some (.int .u32 (quart.getD i 0)) := TabIs.cell h gQuart i (by rw [quart_len]; exact hi)

theorem take_snoc (s : ByteArray) (k : Nat) (h : k < s.size) : s.data.toList.take (k + 1) = s.data.toList.take k ++ [s[k]] := by
  rw [List.take_succ_eq_append_getElem (by simpa using h)]; rfl

theorem half_eq (x : Nat) (h : x < 4294967296) : bits .xor .u32 ((x : Int) / 16) (quart.getD (x &&& 15) 0) = (crcHalf x : Int) := by
  have := quart_lt ⟨x &&& 15, and15_lt x⟩
  simp only at this
  rw [u32_xor _ _ (by omega) (by omega) this.1 this.2]
  unfold crcHalf
  congr 2

set_option maxHeartbeats 1000000 in
theorem crc_any (s : ByteArray) (w : World) (hs : s.size ≤ maxLen) (hl : Laid w) : Calls Tryd.prog 50 #[.string s] w fun e w' => e = .returned (.int .u32 (crcP s)) ∧ w = w' := by
  unfold maxLen at hs
  have HL := Lib.hid hl
  clear hl
  go_enter Tryd.func50, Tryd.ntmps50
  go_wp2_with fail
  go_loop [3, 7] (fun s3 s7 => ∃ k : Nat, k ≤ s.size ∧ s7 = .int .i64 k ∧ s3 = .int .u32 (crcGo (s.data.toList.take k) 4294967295 : Nat)) (fun _ s7 => s.size - (intOf s7).toNat)
  case atStart => exact ⟨0, Nat.zero_le _, rfl, rfl⟩
  case round =>
    obtain ⟨k, hk, rfl, rfl⟩ := hrel
    have hx := crcGo_lt (s.data.toList.take k) 4294967295 (by decide)
    by_cases hlt : k < s.size
    · have HS : Hid (crcGo (s.data.toList.take (k + 1)) 4294967295 = crcStep (crcGo (s.data.toList.take k) 4294967295) s[k]) := by
        apply Lib.hid; rw [take_snoc s k hlt]; exact crcGo_snoc _ _ _
      generalize crcGo (s.data.toList.take k) 4294967295 = x at *
      have hc := s[k].toNat_lt
      have e0 : (s[k].toNat : Int) % 4294967296 = (s[k].toNat : Int) := by omega
      have e1 := u32_xor_nat x s[k].toNat hx (by omega)
      have hx1 : x ^^^ s[k].toNat < 4294967296 := Nat.xor_lt_two_pow (n := 32) (by omega) (by omega)
      have HX : Hid (crcStep x s[k] = crcHalf (crcHalf (x ^^^ s[k].toNat))) := Lib.hid rfl
      generalize x ^^^ s[k].toNat = x1 at *
      have e2 : bits .and .u32 (x1 : Int) 15 = ((x1 &&& 15 : Nat) : Int) := u32_and_nat x1 15 hx1 (by decide)
      have e3 := half_eq x1 hx1
      have b3 := and15_lt x1
      have b3' : ((x1 &&& 15 : Nat) : Int) < 16 := by omega
      have c3 := HL.out.cell (x1 &&& 15) b3
      have hx2 := crcHalf_lt x1 hx1
      generalize crcHalf x1 = x2 at *
      generalize x1 &&& 15 = i1 at *
      generalize quart.getD i1 0 = q1 at *
      have e4 : bits .and .u32 (x2 : Int) 15 = ((x2 &&& 15 : Nat) : Int) := u32_and_nat x2 15 hx2 (by decide)
      have e5 := half_eq x2 hx2
      have b5 := and15_lt x2
      have b5' : ((x2 &&& 15 : Nat) : Int) < 16 := by omega
      have c5 := HL.out.cell (x2 &&& 15) b5
      generalize x2 &&& 15 = i2 at *
      generalize quart.getD i2 0 = q2 at *
      go_wp2_with fail
      go_round
      case rel => exact ⟨k + 1, by omega, by go_num, by rw [HS.out, HX.out]⟩
      case measure => simp [intOf]; omega
    · have : k = s.size := by omega
      subst this
      have e0 : s.data.toList.take s.size = s.data.toList := List.take_of_length_le (by simp)
      have hy := crcGo_lt s.data.toList 4294967295 (by decide)
      have e1 : Hid (bits .xor .u32 IntKind.u32.max ((crcGo s.data.toList 4294967295 : Nat) : Int) = ((crcP s : Nat) : Int)) := by
        apply Lib.hid
        rw [show IntKind.u32.max = ((4294967295 : Nat) : Int) from by decide, u32_xor_nat _ _ (by decide) hy]
        unfold crcP
        rw [Nat.xor_comm]
      rw [e0] at *
      clear e0
      generalize crcGo s.data.toList 4294967295 = y at *
      go_wp2_with fail
      go_ret
      refine ⟨congrArg (fun z => Ending.returned (Value.int .u32 z)) ?_, rfl⟩
      exact e1.out

theorem unfour_bits (a b c d : Nat) (ha : a < 256) (hb : b < 256) (hc : c < 256) (hd : d < 256) :
    bits .or .u32 (bits .or .u32 (bits .or .u32 (a : Int) ((b : Int) * 256)) ((c : Int) * 65536)) ((d : Int) * 16777216) = ((a + b * 256 + c * 65536 + d * 16777216 : Nat) : Int) := by
  have e1 : bits .or .u32 (a : Int) ((b : Int) * 256) = ((a + b * 256 : Nat) : Int) := by
    rw [show ((b : Int) * 256) = ((b * 256 : Nat) : Int) by omega, u32_or_nat _ _ (by omega) (by omega), Nat.or_comm, nat_join 8 (b * 256) a (by omega) (by omega), Nat.add_comm]
  have e2 : bits .or .u32 ((a + b * 256 : Nat) : Int) ((c : Int) * 65536) = ((a + b * 256 + c * 65536 : Nat) : Int) := by
    rw [show ((c : Int) * 65536) = ((c * 65536 : Nat) : Int) by omega, u32_or_nat _ _ (by omega) (by omega), Nat.or_comm, nat_join 16 (c * 65536) _ (by omega) (by omega), Nat.add_comm]
  have e3 : bits .or .u32 ((a + b * 256 + c * 65536 : Nat) : Int) ((d : Int) * 16777216) = ((a + b * 256 + c * 65536 + d * 16777216 : Nat) : Int) := by
    rw [show ((d : Int) * 16777216) = ((d * 16777216 : Nat) : Int) by omega, u32_or_nat _ _ (by omega) (by omega), Nat.or_comm, nat_join 24 (d * 16777216) _ (by omega) (by omega), Nat.add_comm]
  rw [e1, e2, e3]

/-- Four bytes ahead, as the number that they are. -/
theorem unfour_any (s : ByteArray) (w : World) (h : 4 ≤ s.size) : Calls Tryd.prog 49 #[.string s] w fun e w' => e = .returned (.int .u32 (unfourP s[0] s[1] s[2] s[3] : Nat)) ∧ ∃ q, w' = w.drewN q := by
  have h0 : (0 : Nat) < s.size := by omega
  have h1 : (1 : Nat) < s.size := by omega
  have h2 : (2 : Nat) < s.size := by omega
  have h3 : (3 : Nat) < s.size := by omega
  have i1 : (1 : Int) < (s.size : Int) := by omega
  have i2 : (2 : Int) < (s.size : Int) := by omega
  have i3 : (3 : Int) < (s.size : Int) := by omega
  have b0 := s[0].toNat_lt
  have b1 := s[1].toNat_lt
  have b2 := s[2].toNat_lt
  have b3 := s[3].toNat_lt
  have wr : ∀ n : Nat, n < 4294967296 → IntKind.u32.wrap (n : Int) = (n : Int) := fun n hn => by rw [IntKind.wrap_u32']; omega
  have w0 := wr s[0].toNat (by omega)
  have w1 := wr s[1].toNat (by omega)
  have w2 := wr s[2].toNat (by omega)
  have w3 := wr s[3].toNat (by omega)
  have x1 : IntKind.u32.wrap ((s[1].toNat : Int) * 256) = (s[1].toNat : Int) * 256 := by rw [IntKind.wrap_u32']; omega
  have x2 : IntKind.u32.wrap ((s[2].toNat : Int) * 65536) = (s[2].toNat : Int) * 65536 := by rw [IntKind.wrap_u32']; omega
  have x3 : IntKind.u32.wrap ((s[3].toNat : Int) * 16777216) = (s[3].toNat : Int) * 16777216 := by rw [IntKind.wrap_u32']; omega
  clear wr
  go_enter Tryd.func49, Tryd.ntmps49
  go_wp2_with fail
  go_quiet (fail)
  go_wp2
  go_ret
  exact ⟨congrArg (fun z => Ending.returned (Value.int .u32 z)) (unfour_bits _ _ _ _ b0 b1 b2 b3), _, rfl⟩

end Go.Proofs.YtmlmjchifelpkaaDoor
