/- The walk of DistTimes: the law's function returns true, and of what was there nothing turns. -/
import Derived.Test.YtkakngnfbahhiaaDoorDistW
namespace Go.Proofs.YtkakngnfbahhiaaDoor.distTimes
open Go.RowKit
set_option linter.unusedVariables false

theorem out (n m : Int) (x : Nat) (w : World) (hl : Laid w) (h : n < 0 ∨ (0 ≤ n ∧ m < 0) ∨ (0 ≤ n ∧ 0 ≤ m ∧ 2305843009213693952 < n) ∨ (0 ≤ n ∧ 0 ≤ m ∧ n ≤ 2305843009213693952 ∧ 2305843009213693952 < m)) :
    Calls Tryd.prog 5 #[.int .u32 x, .int .i64 n, .int .i64 m] w (WOut w) := by
  rcases h with h | ⟨h, h1⟩ | ⟨h, h1, h2⟩ | ⟨h, h1, h2, h3⟩
  all_goals
    go_enter Tryd.func5, Tryd.ntmps5
    go_wp2_with (go_at_call 15; refine (works_any _ hl).mono ?_; rintro e w1 ⟨rfl, hb1⟩)
    go_ret
    exact ⟨rfl, hb1⟩

theorem inn (n m x : Nat) (hn : n ≤ 2305843009213693952) (hm : m ≤ 2305843009213693952) (hx : x < 4294967296) (w : World) (hl : Laid w) :
    Calls Tryd.prog 5 #[.int .u32 x, .int .i64 n, .int .i64 m] w (WOut w) := by
  have hadd : dAdd (dTimes x n) (dTimes x m) = dTimes x (n + m) := dTimes_add x n m
  have HA := Lib.hid hadd
  clear hadd
  have h1 := dTimes_lt x n
  have h2 := dTimes_lt x m
  have ht := times_any x (n + m) hx (by omega)
  have ec : ((n + m : Nat) : Int) = (n : Int) + (m : Int) := by omega
  rw [ec] at ht
  have HT := Lib.hid ht
  clear ht ec
  go_enter Tryd.func5, Tryd.ntmps5
  go_wp2_with fail
  refine (works_any _ hl).mono ?_
  rintro e w1 ⟨rfl, hb1⟩
  go_wp2_with fail
  refine (times_any x n hx (by omega) _).mono ?_
  rintro e w2 ⟨rfl, rfl⟩
  go_wp2_with fail
  refine (times_any x m hx (by omega) _).mono ?_
  rintro e w2 ⟨rfl, rfl⟩
  go_wp2_with fail
  refine (HT.out _).mono ?_
  rintro e w2 ⟨rfl, rfl⟩
  go_wp2_with fail
  refine (add_any _ _ h1 h2 _).mono ?_
  rw [HA.out]
  rintro e w2 ⟨rfl, rfl⟩
  go_wp2
  go_ret
  exact ⟨rfl, hb1⟩

theorem walk (a0 : Int) (w0 : (Lit.int .u32 a0).wf = true) (a1 : Int) (w1 : (Lit.int .i64 a1).wf = true) (a2 : Int) (w2 : (Lit.int .i64 a2).wf = true) (w : World) (hl : Laid w) :
    Calls Tryd.prog 5 #[.int .u32 a0, .int .i64 a1, .int .i64 a2] w (WOut w) := by
  obtain ⟨x, rfl, hx⟩ := u32_nat w0
  by_cases h : 0 ≤ a1 ∧ 0 ≤ a2 ∧ a1 ≤ 2305843009213693952 ∧ a2 ≤ 2305843009213693952
  · obtain ⟨h1, h2, h3, h4⟩ := h
    obtain ⟨n, rfl⟩ := Int.eq_ofNat_of_zero_le h1
    obtain ⟨m, rfl⟩ := Int.eq_ofNat_of_zero_le h2
    exact inn n m x (by omega) (by omega) hx w hl
  · exact out a1 a2 x w hl (by omega)
end Go.Proofs.YtkakngnfbahhiaaDoor.distTimes
