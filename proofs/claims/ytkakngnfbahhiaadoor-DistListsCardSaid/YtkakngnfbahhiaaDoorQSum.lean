/- The sums of lists of distances, by the printed function: plain laws. -/
import Derived.Test.YtkakngnfbahhiaaDoorQx2
namespace Go.Proofs.YtkakngnfbahhiaaDoor.Q
open Go.RowKit Go.Proofs.YtkakngnfbahhiaaDoorW.PrintWords Go.Proofs.YtkakngnfbahhiaaDoorW.PrintLast

/-- A list of distances, as the printed functions have it. -/
def ints (l : List Nat) : List Int := l.map Int.ofNat
theorem ints_len (l : List Nat) : (ints l).length = l.length := by simp [ints]
theorem rd_ints (l : List Nat) (i : Nat) (h : i < l.length) : rd (ints l) (i : Int) = (l[i] : Int) := by
  unfold rd
  simp [ints, h]

def dSum (l : List Nat) (acc : Nat) : Nat := l.foldl dAdd acc

theorem wrap_up {i : Nat} {n : Nat} (h : i < n) (hn : n ≤ 4611686018427387904) : wrap64 ((i : Int) + 1) = ((i + 1 : Nat) : Int) := by
  unfold wrap64; omega

theorem sum_loop (l : List Nat) (hl : ∀ x ∈ l, x < 18446744073709551616) (hn : l.length ≤ 4611686018427387904) (d : Nat) : ∀ (k i acc : Nat), acc < 18446744073709551616 → i + d = l.length → d < k →
    dist_Sum.l0 k (ints l) (acc : Int) (l.length : Int) (i : Int) = some ((dSum (l.drop i) acc : Nat) : Int) := by
  induction d with
  | zero =>
    intro k i acc ha hi hk
    obtain ⟨k, rfl⟩ : ∃ m, k = m + 1 := ⟨k - 1, by omega⟩
    simp only [dist_Sum.l0]
    rw [if_neg (by omega), List.drop_eq_nil_of_le (by omega)]
    rfl
  | succ d ih =>
    intro k i acc ha hi hk
    obtain ⟨k, rfl⟩ : ∃ m, k = m + 1 := ⟨k - 1, by omega⟩
    have hlt : i < l.length := by omega
    have hx := hl l[i] (List.getElem_mem hlt)
    simp only [dist_Sum.l0]
    rw [if_pos (by omega), if_pos (by omega), if_pos (by rw [ints_len]; omega), rd_ints l i hlt, dist_Add.of acc l[i] ha hx]
    simp only [Option.bind_some]
    rw [wrap_up hlt hn, ih k (i + 1) _ (dAdd_lt _ _) (by omega) (by omega), List.drop_eq_getElem_cons hlt]
    rfl

theorem sum_f (l : List Nat) (hl : ∀ x ∈ l, x < 18446744073709551616) (hn : l.length ≤ 4611686018427387904) : dist_Sum.f (l.length + 1) (ints l) = some ((dSum l 0 : Nat) : Int) := by
  unfold dist_Sum.f
  rw [ints_len]
  exact sum_loop l hl hn l.length (l.length + 1) 0 0 (by omega) (by omega) (by omega)

/-- dist.Sum over a row of distances. -/
theorem sum_any (A : Option Addr) (c : Nat) (l : List Nat) (hl : ∀ x ∈ l, x < 18446744073709551616) (hn : l.length ≤ 4611686018427387904) (w : World) (hr : Kd.C (Kd.int .u64) w A l.length (ints l)) (hc : l.length ≤ c) :
    Calls Tryd.prog 20 #[.slice A l.length c] w fun e w' => e = .returned (.int .u64 (dSum l 0 : Nat)) ∧ Drawn0 w w' := by
  have h := dist_Sum.calls (l.length + 1) A c (ints l) _ w (by rw [ints_len]; exact hr) (by rw [ints_len]; exact hc) (sum_f l hl hn)
  rw [ints_len] at h
  exact h
end Go.Proofs.YtkakngnfbahhiaaDoor.Q
