/- The walk of DistTexts: the law's function returns true, and of what was there nothing turns. -/
import Derived.Test.YtkakngnfbahhiaaDoorDistD
namespace Go.Proofs.YtkakngnfbahhiaaDoor.distTexts
open Go.RowKit
set_option linter.unusedVariables false

theorem pout_of (s : ByteArray) (n c : Nat) (h : dParse s = (n, c)) {e : Ending} (he : e = .returned (parseOut s)) : e = .returned (.tuple #[.int .u64 n, .agg #[.int .i64 0, .int .i64 c]]) := by
  rw [he, parseOut_of h]; rfl

theorem walk0 (d : Nat) (hd : d < 18446744073709551616) (s : ByteArray) (y c : Nat) (hy : dParse s = (y, c)) (w : World) (hl : Laid w) :
    Calls Tryd.prog 4 #[.int .u64 d, .string s] w (WOut w) := by
  have HY := Lib.hid hy
  clear hy
  go_enter Tryd.func4, Tryd.ntmps4
  go_wp2_with fail
  refine (parse_any s _ hl).mono ?_
  rintro e w1 ⟨he, hb1⟩
  obtain rfl := pout_of s y c HY.out he
  clear he
  have hl1 := hl.stays hb1
  have hz1 := hb1.size
  go_wp2_with fail
  refine (rparse_any s _).mono ?_
  rintro e w2 ⟨he, hb2⟩
  obtain rfl := pout_of s y c HY.out he
  clear he
  obtain ⟨hc2, hf2⟩ := box_keep hb2
  have hz2 := hb2.size
  have hb3 : Below w.heap.size w w2 := hb1.trans ((box_below hb2).mono hz1)
  simp at hz2
  go_wp2_with fail
  have hl3 : Laid (w2.alloc (Obj.cells #[Value.int IntKind.i64 0, Value.int IntKind.i64 (c : Int)] 32)) := hl.stays (hb3.alloc (by omega) _)
  refine (text_any d hd _ hl3).mono ?_
  rintro e w4 ⟨rfl, hb4⟩
  obtain ⟨hc4, hf4⟩ := box_keep hb4
  have hz4 := hb4.size
  simp at hz4
  have hb5 : Below w.heap.size w w4 := (hb3.alloc (by omega) _).trans (hb4.mono (by simp; omega))
  have hcc : ∀ i, w4.cell? ⟨w1.heap.size, i, none⟩ = (w1.alloc (Obj.cells #[Value.int IntKind.i64 0, Value.int IntKind.i64 (c : Int)] 32)).cell? ⟨w1.heap.size, i, none⟩ := fun i => by
    rw [hb4.cell (p := ⟨w1.heap.size, i, none⟩) (by simp; omega), World.cell?_alloc_lt _ _ _ (by simp; omega), hc2]
  go_wp2_with fail
  refine (rtext_any d hd _).mono ?_
  rintro e w5 ⟨rfl, rfl⟩
  go_wp2_with fail
  refine (works_any _ (hl.stays hb5)).mono ?_
  rintro e w6 ⟨rfl, hb6⟩
  go_wp2
  go_ret
  exact ⟨rfl, hb5.trans (hb6.mono (by omega))⟩

theorem walk (a0 : Int) (w0 : (Lit.int .u64 a0).wf = true) (s : ByteArray) (w1 : s.size ≤ 140737488351232) (w : World) (hl : Laid w) :
    Calls Tryd.prog 4 #[.int .u64 a0, .string s] w (WOut w) := by
  obtain ⟨d, rfl, hd⟩ := u64_nat w0
  exact walk0 d hd s (dParse s).1 (dParse s).2 rfl w hl
end Go.Proofs.YtkakngnfbahhiaaDoor.distTexts
