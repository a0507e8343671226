/- The walk of DistAdds: the law's function returns true, and of what was there nothing turns. -/
import Derived.Test.YtkakngnfbahhiaaDoorDistW
namespace Go.Proofs.YtkakngnfbahhiaaDoor.distAdds
open Go.RowKit
set_option linter.unusedVariables false

theorem walk0 (a b : Nat) (ha : a < 18446744073709551616) (hb : b < 18446744073709551616) (n : Int) (hn : -9223372036854775808 ≤ n ∧ n < 9223372036854775808) (w : World) (hl : Laid w) :
    Calls Tryd.prog 3 #[.int .u64 a, .int .u64 b, .int .i64 n] w (WOut w) := by
  have hx : b % 4294967296 < 4294967296 := Nat.mod_lt _ (by omega)
  have e1 : IntKind.u32.wrap ((b : Int) % 4294967296) = ((b % 4294967296 : Nat) : Int) := by rw [IntWalk.u32_in _ (by omega)]; omega
  generalize b % 4294967296 = x at hx e1
  rcases Int.lt_or_le n 0 with hneg | hpos
  · go_enter Tryd.func3, Tryd.ntmps3
    go_wp2_with (first
      | (go_at_call 10; refine (times_neg x n hneg _).mono ?_; rintro e w1 ⟨rfl, rfl⟩)
      | (go_at_call 11; refine (rtimes_neg x n hneg _).mono ?_; rintro e w1 ⟨rfl, rfl⟩)
      | (go_at_call 12; refine (names_any _).mono ?_; rintro e w1 ⟨rfl, rfl⟩)
      | (go_at_call 13; refine (add_any a b ha hb _).mono ?_; rintro e w1 ⟨rfl, rfl⟩)
      | (go_at_call 14; refine (radd_any a b ha hb _).mono ?_; rintro e w1 ⟨rfl, rfl⟩)
      | (go_at_call 15; refine (works_any _ hl).mono ?_; rintro e w1 ⟨rfl, hb1⟩))
    go_ret
    exact ⟨rfl, hb1⟩
  · obtain ⟨m, rfl⟩ := Int.eq_ofNat_of_zero_le hpos
    have hm : m < 9223372036854775808 := by omega
    go_enter Tryd.func3, Tryd.ntmps3
    go_wp2_with (first
      | (go_at_call 10; refine (times_any x m hx hm _).mono ?_; rintro e w1 ⟨rfl, rfl⟩)
      | (go_at_call 11; refine (rtimes_any x m hx hm _).mono ?_; rintro e w1 ⟨rfl, rfl⟩)
      | (go_at_call 12; refine (names_any _).mono ?_; rintro e w1 ⟨rfl, rfl⟩)
      | (go_at_call 13; refine (add_any a b ha hb _).mono ?_; rintro e w1 ⟨rfl, rfl⟩)
      | (go_at_call 14; refine (radd_any a b ha hb _).mono ?_; rintro e w1 ⟨rfl, rfl⟩)
      | (go_at_call 15; refine (works_any _ hl).mono ?_; rintro e w1 ⟨rfl, hb1⟩))
    go_ret
    exact ⟨rfl, hb1⟩
theorem walk (a0 : Int) (w0 : (Lit.int .u64 a0).wf = true) (a1 : Int) (w1 : (Lit.int .u64 a1).wf = true) (a2 : Int) (w2 : (Lit.int .i64 a2).wf = true) (w : World) (hl : Laid w) :
    Calls Tryd.prog 3 #[.int .u64 a0, .int .u64 a1, .int .i64 a2] w (WOut w) := by
  obtain ⟨a, rfl, ha⟩ := u64_nat w0
  obtain ⟨b, rfl, hb⟩ := u64_nat w1
  exact walk0 a b ha hb a2 (i64_bd w2) w hl
end Go.Proofs.YtkakngnfbahhiaaDoor.distAdds
