/- The contracts of dist.Add, dist.Times, and of the reference's, over this seat's translation: what each call answers; the world stays. -/
import Derived.WalkKit
import Derived.Laws.Externs
import Derived.Test.YtkakngnfbahhiaaDoorProg
import Derived.Test.YtkakngnfbahhiaaDoorShelf
import Derived.Test.YtkakngnfbahhiaaDoorDistP
namespace Go.Proofs.YtkakngnfbahhiaaDoor
open Go.RowKit
set_option linter.unusedVariables false

theorem add64_run (a b : Nat) (w : World) :
    (callFunc 31 #[.int .u64 a, .int .u64 b, .int .u64 0]).run Tryd.prog w =
      .ok (.value (.tuple #[.int .u64 (((a + b) % 18446744073709551616 : Nat) : Int), .int .u64 (((a + b) / 18446744073709551616 : Nat) : Int)])) w := by
  rw [run_callFunc_extern Tryd.func31 (by kernel_rfl) (by kernel_rfl) (by kernel_rfl) (e := add64Entry) (by kernel_rfl), run_add64 a b 0 (by omega) (by omega) (by omega) (by omega)]
  simp only [Result.andThen]
  congr 5 <;> omega

theorem add_any (a b : Nat) (ha : a < 18446744073709551616) (hb : b < 18446744073709551616) (w : World) :
    Calls Tryd.prog 13 #[.int .u64 a, .int .u64 b] w fun e w' => e = .returned (.int .u64 (dAdd a b : Nat)) ∧ w = w' := by
  have hc := add64_run a b
  by_cases h : a + b < 18446744073709551616
  · have hd : dAdd a b = a + b := by unfold dAdd sat; rw [if_pos h]
    rw [hd]
    have h1 : (a + b) % 18446744073709551616 = a + b := by omega
    have h2 : (a + b) / 18446744073709551616 = 0 := by omega
    rw [h1, h2] at hc
    clear hd h1 h2 h ha hb
    go_enter Tryd.func13, Tryd.ntmps13
    go_wp2_with (simp only [hc])
    go_ret
    exact ⟨rfl, rfl⟩
  · have hd : dAdd a b = 18446744073709551615 := by unfold dAdd sat; rw [if_neg h]
    rw [hd]
    have h2 : (a + b) / 18446744073709551616 = 1 := by omega
    rw [h2] at hc
    generalize (a + b) % 18446744073709551616 = r at hc
    clear hd h2 h ha hb
    go_enter Tryd.func13, Tryd.ntmps13
    go_wp2_with (simp only [hc])
    go_ret
    exact ⟨rfl, rfl⟩

theorem radd_any (a b : Nat) (ha : a < 18446744073709551616) (hb : b < 18446744073709551616) (w : World) :
    Calls Tryd.prog 14 #[.int .u64 a, .int .u64 b] w fun e w' => e = .returned (.int .u64 (dAdd a b : Nat)) ∧ w = w' := by
  have hs : IntKind.u64.wrap (18446744073709551615 - (b : Int)) = 18446744073709551615 - (b : Int) := IntWalk.u64_in _ (by omega)
  by_cases h : a + b < 18446744073709551616
  · have hd : dAdd a b = a + b := by unfold dAdd sat; rw [if_pos h]
    rw [hd]
    have h2 : ¬ (18446744073709551615 - (b : Int)) < (a : Int) := by omega
    have hs2 : IntKind.u64.wrap ((a : Int) + (b : Int)) = ((a + b : Nat) : Int) := by rw [IntWalk.u64_in _ (by omega)]; omega
    clear hd h ha hb
    go_enter Tryd.func14, Tryd.ntmps14
    go_wp2
    go_ret
    exact ⟨rfl, rfl⟩
  · have hd : dAdd a b = 18446744073709551615 := by unfold dAdd sat; rw [if_neg h]
    rw [hd]
    have h2 : (18446744073709551615 - (b : Int)) < (a : Int) := by omega
    clear hd h ha hb
    go_enter Tryd.func14, Tryd.ntmps14
    go_wp2
    go_ret
    exact ⟨rfl, rfl⟩

theorem times_neg (x : Nat) (n : Int) (hn : n < 0) (w : World) :
    Calls Tryd.prog 10 #[.int .u32 x, .int .i64 n] w fun e w' => e = .returned (.tuple #[.int .u64 0, .int .i64 1]) ∧ w = w' := by
  go_enter Tryd.func10, Tryd.ntmps10
  go_wp2
  go_ret2
  exact ⟨rfl, rfl⟩

theorem times_any (x n : Nat) (hx : x < 4294967296) (hn : n < 9223372036854775808) (w : World) :
    Calls Tryd.prog 10 #[.int .u32 x, .int .i64 n] w fun e w' => e = .returned (.tuple #[.int .u64 (dTimes x n : Nat), .int .i64 0]) ∧ w = w' := by
  have e1 : IntKind.u64.wrap (x : Int) = (x : Int) := IntWalk.u64_in _ (by omega)
  have e2 : IntKind.u64.wrap (n : Int) = (n : Int) := IntWalk.u64_in _ (by omega)
  have h0 : ¬ ((n : Int) < 0) := by omega
  have hm := Tryd.bits_Mul64 x n (by omega) (by omega)
  by_cases h : x * n < 18446744073709551616
  · have hd : dTimes x n = x * n := by unfold dTimes sat; rw [if_pos h]
    rw [hd]
    have h1 : x * n % 18446744073709551616 = x * n := Nat.mod_eq_of_lt h
    have h2 : x * n / 18446744073709551616 = 0 := Nat.div_eq_of_lt h
    rw [h1, h2] at hm
    generalize x * n = p at hm
    clear hd h1 h2 h hx hn
    have HM := Lib.hid hm
    clear hm
    go_enter Tryd.func10, Tryd.ntmps10
    go_wp2_with (go_at_call 30; refine (HM.out _).mono ?_; rintro e w' ⟨rfl, rfl⟩)
    go_ret2
    exact ⟨rfl, rfl⟩
  · have hd : dTimes x n = 18446744073709551615 := by unfold dTimes sat; rw [if_neg h]
    rw [hd]
    obtain ⟨q, hq⟩ : ∃ q, x * n / 18446744073709551616 = q + 1 := ⟨x * n / 18446744073709551616 - 1, by have : 1 ≤ x * n / 18446744073709551616 := (Nat.le_div_iff_mul_le (by omega)).2 (by omega); omega⟩
    rw [hq] at hm
    generalize x * n % 18446744073709551616 = p at hm
    have hpos : ((q + 1 : Nat) : Int) > 0 := by omega
    generalize ((q + 1 : Nat) : Int) = r at hm hpos
    clear hd h hx hn hq
    have HM := Lib.hid hm
    clear hm
    go_enter Tryd.func10, Tryd.ntmps10
    go_wp2_with (go_at_call 30; refine (HM.out _).mono ?_; rintro e w' ⟨rfl, rfl⟩)
    go_ret2
    exact ⟨rfl, rfl⟩

theorem rtimes_neg (x : Nat) (n : Int) (hn : n < 0) (w : World) :
    Calls Tryd.prog 11 #[.int .u32 x, .int .i64 n] w fun e w' => e = .returned (.tuple #[.int .u64 0, .int .i64 1]) ∧ w = w' := by
  go_enter Tryd.func11, Tryd.ntmps11
  go_wp2
  go_ret2
  exact ⟨rfl, rfl⟩

theorem ret_two {k k' : IntKind} {a b : Int} (c : Int) (h : a = b) : Ending.returned (.tuple #[.int k a, .int k' c]) = .returned (.tuple #[.int k b, .int k' c]) := by rw [h]

theorem rtimes_any (x n : Nat) (hx : x < 4294967296) (hn : n < 9223372036854775808) (w : World) :
    Calls Tryd.prog 11 #[.int .u32 x, .int .i64 n] w fun e w' => e = .returned (.tuple #[.int .u64 (dTimes x n : Nat), .int .i64 0]) ∧ w = w' := by
  have e1 : IntKind.u64.wrap (x : Int) = (x : Int) := IntWalk.u64_in _ (by omega)
  have h0 : ¬ ((n : Int) < 0) := by omega
  go_enter Tryd.func11, Tryd.ntmps11
  go_wp2
  go_loop [1, 6, 7] (fun i a b => ∃ (m o u : Nat), m < 9223372036854775808 ∧ o + u * m = x * n ∧ i = .int .i64 m ∧ a = .int .u64 (sat o : Nat) ∧ b = .int .u64 (sat u : Nat)) (fun i _ _ => (intOf i).toNat)
  case atStart => exact ⟨n, 0, x, hn, by omega, rfl, rfl, by rw [sat_id (by omega)]⟩
  case round =>
    obtain ⟨m, o, u, hm, hou, rfl, rfl, rfl⟩ := hrel
    have hso := sat_lt o
    have hsu := sat_lt u
    have hh := halves o u m
    rw [hou] at hh
    clear hou
    by_cases hpos : 0 < m
    · by_cases hodd : m % 2 = 1
      · rw [if_pos hodd] at hh
        have HH := Lib.hid hh
        clear hh
        have hb : (((m : Int) % 2) == 1) = true := by rw [beq_iff_eq]; omega
        go_wp2_with (go_at_call 14; refine (radd_any _ _ (by omega) (by omega) _).mono ?_; rintro e w' ⟨rfl, rfl⟩)
        go_round
        case rel => exact ⟨m / 2, o + u, u + u, by omega, HH.out, by go_num, by rw [dAdd, sat_sat], by rw [dAdd, sat_sat]⟩
        case measure => simp [intOf]; omega
      · rw [if_neg hodd] at hh
        have HH := Lib.hid hh
        clear hh
        have hb : (((m : Int) % 2) == 1) = false := by rw [beq_eq_false_iff_ne]; omega
        go_wp2_with (go_at_call 14; refine (radd_any _ _ (by omega) (by omega) _).mono ?_; rintro e w' ⟨rfl, rfl⟩)
        go_round
        case rel => exact ⟨m / 2, o, u + u, by omega, HH.out, by go_num, rfl, by rw [dAdd, sat_sat]⟩
        case measure => simp [intOf]; omega
    · have hz : m = 0 := by omega
      have hfin : o = x * n := by rw [← hh, hz]; simp
      have HF := Lib.hid hfin
      clear hh hfin
      have HZ := Lib.hid hz
      clear hz
      go_wp2
      go_ret2
      refine ⟨?_, rfl⟩
      rw [dTimes, HF.out]; rfl
end Go.Proofs.YtkakngnfbahhiaaDoor
