/- The contracts of the law's own 'works' and 'names' over this seat's translation: both answer true. -/
import Derived.Test.YtkakngnfbahhiaaDoorDistC
namespace Go.Proofs.YtkakngnfbahhiaaDoor
open Go.RowKit Go.Sort Go.Lib
set_option linter.unusedVariables false

theorem parse_twelve : dParse ⟨#[49, 50]⟩ = (12, 0) := by
  have h : dText 12 = ⟨#[49, 50]⟩ := by
    unfold dText
    rw [if_neg (by omega), Lib.decDigits_two (by omega) (by omega)]
    rfl
  rw [← h]
  exact parse_text 12 (by omega)

theorem text_inf : dText 18446744073709551615 = infB := by unfold dText; rw [if_pos rfl]

def WOut (w : World) (e : Ending) (w' : World) : Prop := e = .returned (.bool true) ∧ Below w.heap.size w w'

theorem times_73 (w : World) : Calls Tryd.prog 10 #[.int .u32 7, .int .i64 3] w fun e w' => e = .returned (.tuple #[.int .u64 21, .int .i64 0]) ∧ w = w' := times_any 7 3 (by omega) (by omega) w
theorem add_23 (w : World) : Calls Tryd.prog 13 #[.int .u64 2, .int .u64 3] w fun e w' => e = .returned (.int .u64 5) ∧ w = w' := add_any 2 3 (by omega) (by omega) w
theorem add_inf1 (w : World) : Calls Tryd.prog 13 #[.int .u64 18446744073709551614, .int .u64 1] w fun e w' => e = .returned (.int .u64 18446744073709551615) ∧ w = w' := add_any 18446744073709551614 1 (by omega) (by omega) w
theorem parse_12 (w : World) (hl : Laid w) : Calls Tryd.prog 16 #[.string ⟨#[49, 50]⟩] w fun e w' => e = .returned (.tuple #[.int .u64 12, .agg #[.int .i64 0, .int .i64 0]]) ∧ Below w.heap.size w w' := by
  refine (parse_any _ w hl).mono ?_
  rintro e w' ⟨h, hb⟩
  refine ⟨?_, hb⟩
  rw [h, parseOut_of parse_twelve]
  rfl
theorem text_infc (w : World) (hl : Laid w) : Calls Tryd.prog 18 #[.int .u64 18446744073709551615] w fun e w' => e = .returned (.string ⟨#[105, 110, 102]⟩) ∧ Below w.heap.size w w' := by
  have h := text_any 18446744073709551615 (by omega) w hl
  rw [text_inf] at h
  exact h

theorem works_any (w : World) (hl : Laid w) : Calls Tryd.prog 15 #[] w (WOut w) := by
  go_enter Tryd.func15, Tryd.ntmps15
  go_wp2_with fail
  refine (times_73 _).mono ?_
  rintro e w1 ⟨rfl, rfl⟩
  go_wp2_with fail
  refine (parse_12 _ hl).mono ?_
  rintro e w1 ⟨rfl, hb⟩
  go_wp2_with fail
  refine (add_23 _).mono ?_
  rintro e w2 ⟨rfl, rfl⟩
  go_wp2_with fail
  refine (add_inf1 _).mono ?_
  rintro e w2 ⟨rfl, rfl⟩
  go_wp2_with fail
  have hz := hb.size
  refine (text_infc _ ?_).mono ?_
  · exact hl.stays (by go_grown)
  rintro e w3 ⟨rfl, hb3⟩
  have hb4 : Below w.heap.size w w3 := by
    refine Below.trans ?_ (hb3.mono ?_)
    · go_grown
    · simp; omega
  go_wp2
  go_ret
  exact ⟨rfl, hb4⟩

theorem names_any (w : World) : Calls Tryd.prog 12 #[] w fun e w' => e = .returned (.bool true) ∧ w = w' := by
  go_enter Tryd.func12, Tryd.ntmps12
  go_wp2
  go_ret
  exact ⟨rfl, rfl⟩

theorem u64_nat {a : Int} (h : (Lit.int .u64 a).wf = true) : ∃ n : Nat, a = (n : Int) ∧ n < 18446744073709551616 := by
  have e1 : IntKind.u64.min = 0 := rfl
  have e2 : IntKind.u64.max = 18446744073709551615 := rfl
  simp [Lit.wf, e1, e2] at h
  exact ⟨a.toNat, by omega, by omega⟩
theorem u32_nat {a : Int} (h : (Lit.int .u32 a).wf = true) : ∃ n : Nat, a = (n : Int) ∧ n < 4294967296 := by
  have e1 : IntKind.u32.min = 0 := rfl
  have e2 : IntKind.u32.max = 4294967295 := rfl
  simp [Lit.wf, e1, e2] at h
  exact ⟨a.toNat, by omega, by omega⟩
theorem i64_bd {a : Int} (h : (Lit.int .i64 a).wf = true) : -9223372036854775808 ≤ a ∧ a < 9223372036854775808 := by
  have e1 : IntKind.i64.min = -9223372036854775808 := rfl
  have e2 : IntKind.i64.max = 9223372036854775807 := rfl
  simp [Lit.wf, e1, e2] at h
  omega
end Go.Proofs.YtkakngnfbahhiaaDoor
