/- The chapter's example. -/
import Derived.Test.YtjddimoeodecgaaGreatXG12
import Derived.Test.YtjddimoeodecgaaGreatXQy4
namespace Go.Proofs.YtjddimoeodecgaaGreat.Q
open Go.RowKit Go.Proofs.YtjddimoeodecgaaGreat Go.Proofs.YtjddimoeodecgaaGreatW.PrintWords Go.Proofs.YtjddimoeodecgaaGreatW.PrintLast
set_option linter.unusedVariables false
set_option maxRecDepth 100000

end Go.Proofs.YtjddimoeodecgaaGreat.Q

/- CliqueHeavier's walk. -/
namespace Go.Proofs.YtjddimoeodecgaaGreat
open Go.RowKit Go.Lib Go.Sort Go.Proofs.YtjddimoeodecgaaGreatW.PrintWords Go.Proofs.YtjddimoeodecgaaGreatW.PrintLast Go.Proofs.YtjddimoeodecgaaGreatW.PrintMore
set_option linter.unusedVariables false
set_option maxRecDepth 100000

namespace Q
theorem ref_loop (N : Int) (arcs : List S95) (hm : arcs.length ≤ 8192) (d : Nat) : ∀ (k n : Nat), n + d = arcs.length → d < k → ∃ r, flyoverref03_Check.l0 k (n : Int) N arcs = some r := by
  induction d with
  | zero =>
    intro k n hn hk
    obtain ⟨k, rfl⟩ : ∃ m, k = m + 1 := ⟨k - 1, by omega⟩
    simp only [flyoverref03_Check.l0]
    rw [if_neg (by omega)]
    exact ⟨_, rfl⟩
  | succ d ih =>
    intro k n hn hk
    obtain ⟨k, rfl⟩ : ∃ m, k = m + 1 := ⟨k - 1, by omega⟩
    have hw : wrap64 ((n : Int) + 1) = ((n + 1 : Nat) : Int) := by unfold wrap64; omega
    simp only [flyoverref03_Check.l0]
    rw [if_pos (by omega), if_pos (by omega), hw]
    split
    · exact ⟨_, rfl⟩
    · split
      · exact ⟨_, rfl⟩
      · split
        · exact ⟨_, rfl⟩
        · split
          · exact ⟨_, rfl⟩
          · exact ih k (n + 1) (by omega) (by omega)
theorem ref_tot (N : Int) (arcs : List S95) : ∃ r, flyoverref03_Check.f (arcs.length + 3) N arcs = some r := by
  unfold flyoverref03_Check.f
  split
  · simp only [flyoverref03_Check.j0]; exact ⟨_, rfl⟩
  · simp only [flyoverref03_Check.j0]
    split
    · exact ⟨_, rfl⟩
    · split
      · exact ⟨_, rfl⟩
      · exact ref_loop N arcs (by omega) arcs.length _ 0 (by omega) (by omega)
end Q

theorem u32Info : (Tryz.prog.info? 41).map (fun i => (i.zero, i.size, i.bytes)) = some (some (.int .u32 0), 1, 4) := by kernel_rfl

theorem own_shape {w : World} {B n size : Nat} {e : TypeId} {v : Value} {xs : List Value} (h : w.ownsRow B e size v n xs) : ∃ P c, v = .slice P n c := by
  rcases h.2 with ⟨h1, h2⟩ | ⟨g, cap, cur, h1, _⟩
  · exact ⟨none, 0, by rw [h1, h2]⟩
  · exact ⟨_, _, h1⟩
theorem u32_C {w : World} {B n cap : Nat} {P : Option Addr} {l : List Int} (h : w.ownsRow B 41 1 (.slice P n cap) n (l.map (Value.int .u32))) (hl : l.length = n) : Kd.C (Kd.int .u32) w P l.length l := by
  subst hl
  exact (Kd.R_reads' (Kd.R_of_own (enc := Value.int .u32) (ok := fun _ => True) h (fun _ _ => trivial))).2.2
end Go.Proofs.YtjddimoeodecgaaGreat
