/- dist.Add's contract in the form of the printed ones. -/
import Derived.Test.YtkakngnfbahhiaaDoorQx0
import Derived.Test.YtkakngnfbahhiaaDoorDistA
namespace Go.Proofs.YtkakngnfbahhiaaDoor.Q
open Go.RowKit Go.Proofs.YtkakngnfbahhiaaDoorW.PrintWords Go.Proofs.YtkakngnfbahhiaaDoorW.PrintLast

def dist_Add.f (a0 a1 : Int) : Option Int := if 0 ≤ a0 ∧ a0 < 18446744073709551616 ∧ 0 ≤ a1 ∧ a1 < 18446744073709551616 then some (dAdd a0.toNat a1.toNat : Nat) else none
theorem dist_Add.of (a b : Nat) (ha : a < 18446744073709551616) (hb : b < 18446744073709551616) : dist_Add.f (a : Int) (b : Int) = some ((dAdd a b : Nat) : Int) := by
  unfold dist_Add.f; rw [if_pos (by omega)]; simp
theorem dist_Add.calls (a0 : Int) (a1 : Int) (r : Int) (w : World) (h : dist_Add.f a0 a1 = some r) :
    Calls Tryd.prog 13 #[.int .u64 a0, .int .u64 a1] w fun e w' => e = .returned (.int .u64 r) ∧ Drawn0 w w' := by
  unfold dist_Add.f at h
  split at h
  · rename_i hc
    obtain ⟨h0, h1, h2, h3⟩ := hc
    obtain ⟨a, rfl⟩ := Int.eq_ofNat_of_zero_le h0
    obtain ⟨b, rfl⟩ := Int.eq_ofNat_of_zero_le h2
    simp only [Int.toNat_natCast, Option.some.injEq] at h
    subst h
    refine (add_any a b (by omega) (by omega) w).mono ?_
    rintro e w' ⟨rfl, rfl⟩
    exact ⟨rfl, Drawn0.refl _⟩
  · cases h
end Go.Proofs.YtkakngnfbahhiaaDoor.Q
