/- Behind a crash another one turns nothing: the plain law of FilesTwice. -/
import Derived.Test.YtmlmjchifelpkaaFileM
namespace Go.Proofs.Ytmlmjchifelpkaa
open Go.RowKit Go.Lib Go.Maps Go.Sort
set_option linter.unusedVariables false

theorem crash_calm {d : DiskP} {ss : List (List UInt8)} (zs : List Int) (h : NamesOf d ss) {k : List UInt8} {f : FileP} (hf : (crashOn ss zs d.up).fs k = some f) : f.calm = true := by
  by_cases hk : k ∈ ss
  · exact crashOn_all ss zs d.up h.nodup hk ((h.mem k).1 hk) hf
  · rw [crashOn_out ss zs d.up hk] at hf
    exact absurd ((h.mem k).2 (by show (d.fs k).isSome = true; rw [show d.fs k = some f from hf]; rfl)) hk

theorem crash_twice {d : DiskP} {ss ts : List (List UInt8)} (zs zs2 : List Int) (h : NamesOf d ss) (ht : NamesOf (crashOn ss zs d.up) ts) :
    crashOn ts zs2 (crashOn ss zs d.up).up = (crashOn ss zs d.up).up :=
  crashOn_still ts zs2 _ (fun k _ f hf => crash_calm zs h hf) (fun k hk => (ht.mem k).1 hk)

theorem tells_up (d : DiskP) (ss : List (List UInt8)) : tells d.up ss = tells d ss := rfl
theorem names_up {d : DiskP} {ss : List (List UInt8)} (h : NamesOf d ss) : NamesOf d.up ss := ⟨h.mem, h.nodup, h.sorted, h.len, h.small⟩

theorem StrsAt.turn {B g b : Nat} {w w' : World} {v : Value} {ss : List ByteArray} (h : StrsAt B w v ss) (ht : Turn g b w w') (hg : g < B) (hb : b < B) : StrsAt B w' v ss := by
  obtain ⟨p, cap, h1, h2, h3⟩ := h
  refine ⟨p, cap, h1, h2, fun hne => ?_⟩
  obtain ⟨r, k1, k2, k3, k4⟩ := h3 hne
  exact ⟨r, k1, k2, Nat.lt_of_lt_of_le k3 ht.size, fun j hj => (ht.cell k3 (by omega) (by omega)).trans (k4 j hj)⟩

end Go.Proofs.Ytmlmjchifelpkaa
