/- The walk of DistBack: the law's function returns true, and of what was there nothing turns. -/
import Derived.Test.YtkakngnfbahhiaaDoorDistW
namespace Go.Proofs.YtkakngnfbahhiaaDoor.distBack
open Go.RowKit
set_option linter.unusedVariables false

theorem pout_of (s : ByteArray) (n c : Nat) (h : dParse s = (n, c)) (w : World) (hl : Laid w) : Calls Tryd.prog 16 #[.string s] w fun e w' => e = .returned (.tuple #[.int .u64 n, .agg #[.int .i64 0, .int .i64 c]]) ∧ Below w.heap.size w w' := by
  refine (parse_any s w hl).mono ?_
  rintro e w' ⟨h1, hb⟩
  refine ⟨?_, hb⟩
  rw [h1, parseOut_of h]
  rfl

theorem walk0 (d : Nat) (hd : d < 18446744073709551616) (s : ByteArray) (y c : Nat) (hy : dParse s = (y, c)) (hyl : y < 18446744073709551616) (hc : (c = 0 ∧ dText y = s) ∨ (c ≠ 0 ∧ y = 0)) (w : World) (hl : Laid w) :
    Calls Tryd.prog 6 #[.int .u64 d, .string s] w (WOut w) := by
  have hp := pout_of (dText d) d 0 (parse_text d (by omega))
  have hq := pout_of s y c hy
  have ht := text_any y hyl
  have HP := Lib.hid hp
  have HQ := Lib.hid hq
  have HT := Lib.hid ht
  clear hp hq hy ht
  rcases hc with ⟨rfl, ht⟩ | ⟨hc, rfl⟩
  · have HE := Lib.hid ht
    have he := str_eq ht
    clear ht
    go_enter Tryd.func6, Tryd.ntmps6
    go_wp2_with fail
    refine (text_any d hd _ hl).mono ?_
    rintro e w1 ⟨rfl, hb1⟩
    have hl1 := hl.stays hb1
    have hz1 := hb1.size
    go_wp2_with fail
    refine (HP.out _ hl1).mono ?_
    rintro e w2 ⟨rfl, hb2⟩
    have hl2 := hl1.stays hb2
    have hz2 := hb2.size
    go_wp2_with fail
    have hl3 : Laid (w2.alloc (Obj.cells #[Value.int IntKind.i64 0, Value.int IntKind.i64 0] 32)) := hl2.stays (by go_grown)
    refine (works_any _ hl3).mono ?_
    rintro e w3 ⟨rfl, hb3⟩
    have hl4 := hl3.stays hb3
    have hz3 := hb3.size
    obtain ⟨hc3, hf3⟩ := box_keep hb3
    go_wp2_with fail
    refine (HQ.out _ hl4).mono ?_
    rintro e w4 ⟨rfl, hb4⟩
    have hl5 := hl4.stays hb4
    have hz4 := hb4.size
    go_wp2_with fail
    have hl6 : Laid (w4.alloc (Obj.cells #[Value.int IntKind.i64 0, Value.int IntKind.i64 0] 32)) := hl5.stays (by go_grown)
    refine (HT.out _ hl6).mono ?_
    rintro e w5 ⟨rfl, hb5⟩
    have hfin : Below w.heap.size w w5 := by
      simp at hz3
      refine Below.trans ?_ (hb5.mono (by simp; omega))
      refine Below.alloc ?_ (by omega) _
      refine Below.trans ?_ (hb4.mono (by omega))
      refine Below.trans ?_ (hb3.mono (by simp; omega))
      refine Below.alloc ?_ (by omega) _
      exact Below.trans hb1 (hb2.mono (by omega))
    go_wp2
    go_ret
    exact ⟨rfl, hfin⟩
  · have hc0 : ((c : Int) == 0) = false := by rw [beq_eq_false_iff_ne]; omega
    go_enter Tryd.func6, Tryd.ntmps6
    go_wp2_with fail
    refine (text_any d hd _ hl).mono ?_
    rintro e w1 ⟨rfl, hb1⟩
    have hl1 := hl.stays hb1
    have hz1 := hb1.size
    go_wp2_with fail
    refine (HP.out _ hl1).mono ?_
    rintro e w2 ⟨rfl, hb2⟩
    have hl2 := hl1.stays hb2
    have hz2 := hb2.size
    go_wp2_with fail
    have hl3 : Laid (w2.alloc (Obj.cells #[Value.int IntKind.i64 0, Value.int IntKind.i64 0] 32)) := hl2.stays (by go_grown)
    refine (works_any _ hl3).mono ?_
    rintro e w3 ⟨rfl, hb3⟩
    have hl4 := hl3.stays hb3
    have hz3 := hb3.size
    obtain ⟨hc3, hf3⟩ := box_keep hb3
    go_wp2_with fail
    refine (HQ.out _ hl4).mono ?_
    rintro e w4 ⟨rfl, hb4⟩
    have hl5 := hl4.stays hb4
    have hz4 := hb4.size
    have hfin : Below w.heap.size w (w4.alloc (Obj.cells #[Value.int IntKind.i64 0, Value.int IntKind.i64 (c : Int)] 32)) := by
      simp at hz3
      refine Below.alloc ?_ (by omega) _
      refine Below.trans ?_ (hb4.mono (by omega))
      refine Below.trans ?_ (hb3.mono (by simp; omega))
      refine Below.alloc ?_ (by omega) _
      exact Below.trans hb1 (hb2.mono (by omega))
    go_wp2
    go_ret
    exact ⟨rfl, hfin⟩

theorem walk (a0 : Int) (w0 : (Lit.int .u64 a0).wf = true) (s : ByteArray) (w1 : s.size ≤ 140737488351232) (w : World) (hl : Laid w) :
    Calls Tryd.prog 6 #[.int .u64 a0, .string s] w (WOut w) := by
  obtain ⟨d, rfl, hd⟩ := u64_nat w0
  exact walk0 d hd s (dParse s).1 (dParse s).2 rfl (parse_lt s) (text_parse s) w hl
end Go.Proofs.YtkakngnfbahhiaaDoor.distBack
