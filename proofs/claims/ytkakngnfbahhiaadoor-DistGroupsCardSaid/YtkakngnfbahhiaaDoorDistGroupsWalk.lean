/- The walk of DistGroups: the law's function returns true, and of what was there nothing turns. -/
import Derived.Test.YtkakngnfbahhiaaDoorDistW
import Derived.Test.YtkakngnfbahhiaaDoorQSum
namespace Go.Proofs.YtkakngnfbahhiaaDoor.distGroups
open Go.RowKit Go.Proofs.YtkakngnfbahhiaaDoorW.PrintWords Go.Proofs.YtkakngnfbahhiaaDoorW.PrintLast
set_option linter.unusedVariables false

abbrev AddIs (a b r : Nat) : Prop := ∀ w, Calls Tryd.prog 13 #[.int .u64 a, .int .u64 b] w fun e w' => e = .returned (.int .u64 r) ∧ w = w'

theorem three_reads (w : World) (a b c : Nat) (t : TypeId) : Kd.C (Kd.int .u64) (w.alloc (.cells #[.int .u64 a, .int .u64 b, .int .u64 c] t)) (some ⟨w.heap.size, 0, none⟩) [a, b, c].length (Q.ints [a, b, c]) := by
  refine Kd.C_of_reads (d := (0 : Int)) (h1 := fun _ => rfl) ⟨rfl, by simp, fun _ => ⟨_, rfl, fun j hj => ?_⟩⟩
  have h : j = 0 ∨ j = 1 ∨ j = 2 := by simp at hj; omega
  rcases h with rfl | rfl | rfl <;> simp [Addr.add, Q.ints]

theorem sum3 (a b c r : Nat) (ha : a < 18446744073709551616) (hb : b < 18446744073709551616) (hc : c < 18446744073709551616) (hr : Q.dSum [a, b, c] 0 = r) (w : World) (t : TypeId) :
    Calls Tryd.prog 20 #[.slice (some ⟨w.heap.size, 0, none⟩) 3 3] (w.alloc (.cells #[.int .u64 a, .int .u64 b, .int .u64 c] t)) fun e w' => e = .returned (.int .u64 r) ∧ Drawn0 (w.alloc (.cells #[.int .u64 a, .int .u64 b, .int .u64 c] t)) w' := by
  have h := Q.sum_any (some ⟨w.heap.size, 0, none⟩) 3 [a, b, c] (by simp; omega) (by simp) _ (three_reads w a b c t) (by simp)
  rw [hr] at h
  exact h

set_option maxHeartbeats 2000000 in
theorem walk0 (a b c x y z u : Nat) (hxb : x < 18446744073709551616) (h1 : AddIs a b x) (h2 : AddIs b a x) (h3 : AddIs x c y) (h4 : AddIs b c z) (h5 : AddIs a z y) (h6 : AddIs a 0 a) (h7 : AddIs a 18446744073709551615 18446744073709551615) (h8 : AddIs a c u)
    (hax : a ≤ x) (hbx : b ≤ x) (hu : b ≤ c → x ≤ u) (hs : ∀ (w : World) (t : TypeId), Calls Tryd.prog 20 #[.slice (some ⟨w.heap.size, 0, none⟩) 3 3] (w.alloc (.cells #[.int .u64 a, .int .u64 b, .int .u64 c] t)) fun e w' => e = .returned (.int .u64 y) ∧ Drawn0 (w.alloc (.cells #[.int .u64 a, .int .u64 b, .int .u64 c] t)) w')
    (w : World) (hl : Laid w) :
    Calls Tryd.prog 7 #[.int .u64 a, .int .u64 b, .int .u64 c] w (WOut w) := by
  have H1 := Lib.hid h1
  have H2 := Lib.hid h2
  have H3 := Lib.hid h3
  have H4 := Lib.hid h4
  have H5 := Lib.hid h5
  have H6 := Lib.hid h6
  have H7 := Lib.hid h7
  have H8 := Lib.hid h8
  have HS := Lib.hid hs
  clear h1 h2 h3 h4 h5 h6 h7 h8 hs
  by_cases hbc : b ≤ c
  all_goals
    have hu2 := hu
    clear hu
    go_enter Tryd.func7, Tryd.ntmps7
    go_wp2_with fail
    refine (works_any _ hl).mono ?_
    rintro e w1 ⟨rfl, hb1⟩
    go_wp2_with fail
    refine (H1.out _).mono ?_
    rintro e w2 ⟨rfl, rfl⟩
    go_wp2_with fail
    refine (H2.out _).mono ?_
    rintro e w2 ⟨rfl, rfl⟩
    go_wp2_with fail
    refine (H1.out _).mono ?_
    rintro e w2 ⟨rfl, rfl⟩
    go_wp2_with fail
    refine (H3.out _).mono ?_
    rintro e w2 ⟨rfl, rfl⟩
    go_wp2_with fail
    refine (H4.out _).mono ?_
    rintro e w2 ⟨rfl, rfl⟩
    go_wp2_with fail
    refine (H5.out _).mono ?_
    rintro e w2 ⟨rfl, rfl⟩
    go_wp2_with fail
    refine (H1.out _).mono ?_
    rintro e w2 ⟨rfl, rfl⟩
    go_wp2_with fail
    refine (H6.out _).mono ?_
    rintro e w2 ⟨rfl, rfl⟩
    go_wp2_with fail
    refine (H7.out _).mono ?_
    rintro e w2 ⟨rfl, rfl⟩
    go_wp2_with fail
    refine (HS.out _ _).mono ?_
    rintro e w2 ⟨rfl, hd⟩
    have hb2 : Below w.heap.size w w2 := (hb1.alloc hb1.size _).trans (hd.below.mono (by have := hb1.size; simp; omega))
    go_wp2_with fail
    refine (H3.out _).mono ?_
    rintro e w3 ⟨rfl, rfl⟩
  · have hxu := hu2 hbc
    go_wp2_with fail
    refine (H8.out _).mono ?_
    rintro e w3 ⟨rfl, rfl⟩
    go_wp2
    go_ret
    exact ⟨rfl, hb2⟩
  · go_wp2
    go_ret
    exact ⟨rfl, hb2⟩

theorem walk (a0 : Int) (w0 : (Lit.int .u64 a0).wf = true) (a1 : Int) (w1 : (Lit.int .u64 a1).wf = true) (a2 : Int) (w2 : (Lit.int .u64 a2).wf = true) (w : World) (hl : Laid w) :
    Calls Tryd.prog 7 #[.int .u64 a0, .int .u64 a1, .int .u64 a2] w (WOut w) := by
  obtain ⟨a, rfl, ha⟩ := u64_nat w0
  obtain ⟨b, rfl, hb⟩ := u64_nat w1
  obtain ⟨c, rfl, hc⟩ := u64_nat w2
  refine walk0 a b c (dAdd a b) (dAdd (dAdd a b) c) (dAdd b c) (dAdd a c) (dAdd_lt _ _) (add_any a b ha hb) (fun w => ?_) (add_any _ c (dAdd_lt _ _) hc) (add_any b c hb hc) (fun w => ?_) (fun w => ?_) (fun w => ?_) (add_any a c ha hc)
    (le_dAdd_l ha) ?_ (fun h => dAdd_mono h) (fun w t => sum3 a b c _ ha hb hc ?_ w t) w hl
  · have h := add_any b a hb ha w
    rwa [dAdd_comm b a] at h
  · have h := add_any a (dAdd b c) ha (dAdd_lt _ _) w
    rwa [← dAdd_assoc] at h
  · have h := add_any a 0 ha (by omega) w
    rwa [dAdd_zero ha] at h
  · have h := add_any a 18446744073709551615 ha (by omega) w
    rwa [dAdd_inf] at h
  · rw [dAdd_comm]; exact le_dAdd_l hb
  · simp only [Q.dSum, List.foldl]
    rw [zero_dAdd ha]
end Go.Proofs.YtkakngnfbahhiaaDoor.distGroups
