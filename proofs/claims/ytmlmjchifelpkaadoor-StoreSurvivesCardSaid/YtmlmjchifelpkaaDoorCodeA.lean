/- The bytes of package code: sums, four bytes, frames, as plain functions. -/
import Derived.Laws.BitsAllLaws
import Derived.Lib.LaidTab
namespace Go.Proofs.YtmlmjchifelpkaaDoor
open Go

/-- The sum's remainders of four bits. -/
def quart : List Int := [0, 498536548, 997073096, 651767980, 1994146192, 1802195444, 1303535960, 1342533948, 3988292384, 4027552580, 3604390888, 3412177804, 2607071920, 2262029012, 2685067896, 3183342108]
theorem quart_len : quart.length = 16 := rfl
theorem quart_lt : ∀ i : Fin 16, 0 ≤ quart.getD i 0 ∧ quart.getD i 0 < 4294967296 := by decide

/-- Half of a byte's step. -/
def crcHalf (x : Nat) : Nat := (x / 16) ^^^ (quart.getD (x &&& 15) 0).toNat
/-- A byte's step. -/
def crcStep (x : Nat) (b : UInt8) : Nat := crcHalf (crcHalf (x ^^^ b.toNat))
def crcGo (l : List UInt8) (x : Nat) : Nat := l.foldl crcStep x
/-- The sum of bytes. -/
def crcP (s : ByteArray) : Nat := crcGo s.data.toList 4294967295 ^^^ 4294967295

theorem and15_lt (x : Nat) : x &&& 15 < 16 := Nat.lt_succ_of_le Nat.and_le_right
theorem crcHalf_lt (x : Nat) (h : x < 4294967296) : crcHalf x < 4294967296 := by
  have := quart_lt ⟨x &&& 15, and15_lt x⟩
  have h1 : (quart.getD (x &&& 15) 0).toNat < 2 ^ 32 := by simp only at this; omega
  exact Nat.xor_lt_two_pow (n := 32) (by omega) h1
theorem crcStep_lt (x : Nat) (b : UInt8) (h : x < 4294967296) : crcStep x b < 4294967296 :=
  crcHalf_lt _ (crcHalf_lt _ (Nat.xor_lt_two_pow (n := 32) (by omega) (by have := b.toNat_lt; omega)))
theorem crcGo_lt (l : List UInt8) (x : Nat) (h : x < 4294967296) : crcGo l x < 4294967296 := by
  induction l generalizing x with
  | nil => exact h
  | cons b l ih => exact ih _ (crcStep_lt x b h)
theorem crcGo_snoc (l : List UInt8) (b : UInt8) (x : Nat) : crcGo (l ++ [b]) x = crcStep (crcGo l x) b := by simp [crcGo]
theorem crcP_lt (s : ByteArray) : crcP s < 4294967296 := Nat.xor_lt_two_pow (n := 32) (crcGo_lt _ _ (by decide)) (by decide)

/-- A number as four bytes. -/
def fourB (n : Nat) : List UInt8 := [UInt8.ofNat n, UInt8.ofNat (n / 256), UInt8.ofNat (n / 65536), UInt8.ofNat (n / 16777216)]
/-- The number of four bytes. -/
def unfourP (a b c d : UInt8) : Nat := a.toNat + b.toNat * 256 + c.toNat * 65536 + d.toNat * 16777216

theorem unfour_four (n : Nat) (h : n < 4294967296) : unfourP (UInt8.ofNat n) (UInt8.ofNat (n / 256)) (UInt8.ofNat (n / 65536)) (UInt8.ofNat (n / 16777216)) = n := by
  simp only [unfourP, UInt8.toNat_ofNat']
  omega

/-- Bytes with their length and sum ahead. -/
def frameP (s : ByteArray) : ByteArray := ⟨(fourB s.size ++ fourB (crcP s) ++ s.data.toList).toArray⟩

/-- A number in groups of seven bits. -/
def grpB (n : Nat) : List UInt8 := if n < 128 then [UInt8.ofNat n] else UInt8.ofNat (n % 128 + 128) :: grpB (n / 128)
theorem grpB_small (n : Nat) (h : n < 128) : grpB n = [UInt8.ofNat n] := by rw [grpB, if_pos h]
theorem grpB_large (n : Nat) (h : 128 ≤ n) : grpB n = UInt8.ofNat (n % 128 + 128) :: grpB (n / 128) := by rw [grpB, if_neg (by omega)]
theorem grpB_len (n : Nat) : ∀ k, n < 128 ^ (k + 1) → (grpB n).length ≤ k + 1 := by
  intro k
  induction k generalizing n with
  | zero => intro h; rw [grpB_small n (by omega)]; simp
  | succ k ih =>
    intro h
    by_cases hs : n < 128
    · rw [grpB_small n hs]; simp
    · rw [grpB_large n (by omega)]
      have : n / 128 < 128 ^ (k + 1) := by rw [Nat.pow_succ] at h; omega
      have := ih _ this
      simp only [List.length_cons]
      omega
theorem byte_or (n : Nat) : bits .or .u8 ((n : Int) % 256) 128 = ((UInt8.ofNat (n % 128 + 128)).toNat : Int) := by
  have e : ((n : Int) % 256) = ((n % 256 : Nat) : Int) := by omega
  rw [e, show (128 : Int) = ((128 : Nat) : Int) from rfl, u8_or_nat _ _ (by omega) (by decide)]
  have : ∀ m : Fin 256, (m.1 ||| 128) = m.1 % 128 + 128 := by decide +kernel
  have h := this ⟨n % 256, by omega⟩
  simp only at h
  rw [h]
  simp only [UInt8.toNat_ofNat']
  omega

end Go.Proofs.YtmlmjchifelpkaaDoor
