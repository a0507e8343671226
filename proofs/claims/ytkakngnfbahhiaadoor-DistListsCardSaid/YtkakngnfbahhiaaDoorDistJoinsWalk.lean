/- The walk of DistJoins, out of its printed contract and the plain law: it returns true, and of what was there nothing turns. -/
import Derived.Test.YtkakngnfbahhiaaDoorQJoins
namespace Go.Proofs.YtkakngnfbahhiaaDoor
open Go.RowKit Go.Proofs.YtkakngnfbahhiaaDoorW.PrintWords Go.Proofs.YtkakngnfbahhiaaDoorW.PrintLast
set_option linter.unusedVariables false

/-- What the walk is told of a slice of integers that came in. -/
def IsRow (k : IntKind) (w : World) (a : Option Addr) (len cap : Nat) (zs : List Int) : Prop :=
  (a = none ∧ len = 0 ∧ cap = 0 ∧ zs = []) ∨
  ∃ x, a = some x ∧ len ≤ cap ∧ cap ≤ maxLen ∧ zs.length = cap ∧ (∀ i, i < zs.length → w.cell? (x.add i) = some (.int k (zs.getD i 0))) ∧ ∀ n ∈ zs, (Lit.int k n).wf = true

theorem row_dists {w : World} {a : Option Addr} {len cap : Nat} {zs : List Int} (h : IsRow .u64 w a len cap zs) :
    ∃ l : List Nat, len = l.length ∧ (∀ x ∈ l, x < 18446744073709551616) ∧ l.length ≤ cap ∧ Kd.C (Kd.int .u64) w a l.length (Q.ints l) := by
  obtain ⟨l, rfl, hr, hm, hw, hc⟩ := ReadsInt.ofRowC h
  have hl : ∀ x ∈ l, 0 ≤ x ∧ x < 18446744073709551616 := fun x hx => by
    obtain ⟨n, rfl, hn⟩ := u64_nat (hw x hx)
    omega
  have e : Q.ints (l.map Int.toNat) = l := by
    unfold Q.ints
    rw [List.map_map]
    conv => rhs; rw [← List.map_id l]
    refine List.map_congr_left fun x hx => ?_
    have := hl x hx
    show ((x.toNat : Nat) : Int) = x
    omega
  refine ⟨l.map Int.toNat, by simp, ?_, by simpa using hc, ?_⟩
  · intro x hx
    obtain ⟨y, hy, rfl⟩ := List.mem_map.1 hx
    have := hl y hy
    omega
  · rw [e, List.length_map]
    exact Kd.C_of_reads (d := (0 : Int)) (h1 := fun _ => rfl) hr

theorem distJoins.walk0 (a0 : Option Addr) (len0 cap0 : Nat) (z0 : List Int) (a1 : Option Addr) (len1 cap1 : Nat) (z1 : List Int) (w : World) (w0 : IsRow .u64 w a0 len0 cap0 z0) (y0 : len0 * 8 ≤ 140737488351232) (w1 : IsRow .u64 w a1 len1 cap1 z1) (y1 : len1 * 8 ≤ 140737488351232) (hl : Laid w) :
    Calls Tryd.prog 9 #[.slice a0 len0 cap0, .slice a1 len1 cap1] w (WOut w) := by
  obtain ⟨l, rfl, hb, hc, hr⟩ := row_dists w0
  obtain ⟨m, rfl, hb1, hc1, hr1⟩ := row_dists w1
  obtain ⟨k, hk⟩ := Q.joins l m hb hb1 (by omega) (by omega)
  have h := Q.flyoverlaw01_DistJoins.calls k a0 cap0 (Q.ints l) a1 cap1 (Q.ints m) true w (by rw [Q.ints_len]; exact hr) (by rw [Q.ints_len]; exact hc) (by rw [Q.ints_len]; exact hr1) (by rw [Q.ints_len]; exact hc1) hl hk
  rw [Q.ints_len, Q.ints_len] at h
  exact h
end Go.Proofs.YtkakngnfbahhiaaDoor
