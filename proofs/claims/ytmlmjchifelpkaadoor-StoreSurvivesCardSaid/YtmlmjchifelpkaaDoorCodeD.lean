/- The contracts of package code's groups, and of the writer. -/
import Derived.Test.YtmlmjchifelpkaaDoorCodeC
import Derived.Maps.AppendAt
namespace Go.Proofs.YtmlmjchifelpkaaDoor
open Go.RowKit Go.Lib Go.Maps
set_option linter.unusedVariables false
set_option maxRecDepth 100000

/-- Block k is a row of bytes. -/
def ByteBlk (w : World) (k : Nat) : Prop := ∃ cur fr, w.heap[k]? = some (.cells cur 5 fr)
/-- Of what was there nothing turns but rows of bytes from block B on. -/
structure Bts (B : Nat) (w w' : World) : Prop where
  os : w'.os = w.os
  tape : w'.tape = w.tape
  output : w'.output = w.output
  size : w.heap.size ≤ w'.heap.size
  block : ∀ k, k < w.heap.size → (k < B ∨ ¬ ByteBlk w k) → w'.heap[k]? = w.heap[k]?
section
variable {B : Nat} {w w' w'' : World}
theorem Bts.refl (B : Nat) (w : World) : Bts B w w := ⟨rfl, rfl, rfl, Nat.le_refl _, fun _ _ _ => rfl⟩
theorem Bts.trans (h : Bts B w w') (k : Bts B w' w'') : Bts B w w'' :=
  ⟨k.os.trans h.os, k.tape.trans h.tape, k.output.trans h.output, Nat.le_trans h.size k.size, fun i hi hb => by
    have e := h.block i hi hb
    rw [k.block i (Nat.lt_of_lt_of_le hi h.size) (hb.imp id fun hn hb2 => hn (by obtain ⟨c, f, hc⟩ := hb2; exact ⟨c, f, by rw [← e]; exact hc⟩)), e]⟩
theorem Bts.below (h : Bts B w w') (hB : B ≤ w.heap.size) : Below B w w' := ⟨h.os, h.tape, h.output, h.size, fun k hk => h.block k (by omega) (.inl hk)⟩
theorem Bts.of_below (h : Below w.heap.size w w') (B : Nat) : Bts B w w' := ⟨h.os, h.tape, h.output, h.size, fun k hk _ => h.block k hk⟩
theorem Bts.alloc (h : Bts B w w') (o : Obj) : Bts B w (w'.alloc o) := h.trans (Bts.of_below ((Below.refl _ _).alloc (Nat.le_refl _) o) B)
theorem Bts.drew (h : Bts B w w') : Bts B w w'.drew := ⟨h.os, h.tape, h.output, h.size, h.block⟩
theorem Bts.of_grown {v : Value} {l : List UInt8} (hg : w.grownBy w' v.ownBlock) (hr : BRow w B v l) : Bts B w w' :=
  ⟨hg.os, hg.tape, hg.output, hg.size, fun k hk hb => hg.block k hk (fun e => by
    rcases hr.2 with ⟨rfl, _⟩ | ⟨g, cap, cur, rfl, hbg, hgc, _⟩
    · simp [Value.ownBlock] at e
    · simp only [Value.ownBlock, Option.some.injEq] at e
      subst e
      rcases hb with hb | hb
      · omega
      · exact hb ⟨_, _, hgc⟩)⟩
theorem Bts.cells {k : Nat} {c : Array Value} {t : TypeId} {f : Nat × Nat} (h : Bts B w w') (hc : w.heap[k]? = some (.cells c t f)) (ht : t ≠ 5) : w'.heap[k]? = some (.cells c t f) := by
  have hk : k < w.heap.size := (Array.getElem?_eq_some_iff.1 hc).1
  rw [h.block k hk (.inr fun ⟨c', f', h'⟩ => ?_), hc]
  rw [hc] at h'
  cases h'
  exact ht rfl
theorem BRow.stays {v : Value} {l : List UInt8} (hr : BRow w B v l) (h : ∀ k, v.ownBlock = some k → w'.heap[k]? = w.heap[k]?) : BRow w' B v l := by
  refine ⟨hr.1, ?_⟩
  rcases hr.2 with h0 | ⟨g, cap, cur, rfl, hb, hg, rest⟩
  · exact .inl h0
  · exact .inr ⟨g, cap, cur, rfl, hb, by rw [h g rfl]; exact hg, rest⟩
theorem BRow.form {v : Value} {l : List UInt8} (hr : BRow w B v l) : ∃ p c, v = .slice p l.length c := by
  rcases hr.2 with ⟨rfl, hn⟩ | ⟨g, cap, cur, rfl, _⟩
  · exact ⟨none, 0, by rw [hn]⟩
  · exact ⟨_, _, rfl⟩
theorem BRow.lt {v : Value} {l : List UInt8} (hr : BRow w B v l) : ∀ k, v.ownBlock = some k → k < w.heap.size ∧ B ≤ k ∧ ByteBlk w k := by
  rcases hr.2 with ⟨rfl, hn⟩ | ⟨g, cap, cur, rfl, hb, hg, _⟩
  · intro k hk; cases hk
  · intro k hk; cases hk; exact ⟨(Array.getElem?_eq_some_iff.1 hg).1, hb, _, _, hg⟩
end

set_option maxHeartbeats 1000000 in
theorem groups_any (B : Nat) (v : Value) (l : List UInt8) (n : Nat) (w : World) (hn : n < 18446744073709551616) (hr : BRow w B v l) (hB : B ≤ w.heap.size) (hl : l.length ≤ 1000000) :
    Calls Tryd.prog 76 #[v, .int .u64 n] w fun e w' => ∃ p c, e = .returned (.slice p (l ++ grpB n).length c) ∧ BRow w' B (.slice p (l ++ grpB n).length c) (l ++ grpB n) ∧ Bts B w w' := by
  obtain ⟨i0, hi, hz0, hz1, hz2⟩ := info_parts infoU8
  have HR := Lib.hid hr
  clear hr
  go_enter Tryd.func76, Tryd.ntmps76
  go_wp2_with fail
  go_loopg [0, 1] n (fun gg s0 s1 wr => ∃ (k : Nat) (m : Nat) (pre : List UInt8), pre.length = k ∧ m * 128 ^ k ≤ n ∧ 1 ≤ m + (1 - k) ∧ m ≤ gg ∧ s1 = .int .u64 m ∧ Hid (pre ++ grpB m = grpB n) ∧ Hid (BRow wr B s0 (l ++ pre)) ∧ Hid (Bts B w wr))
  case atStart => exact ⟨0, n, [], rfl, by omega, by omega, Nat.le_refl _, rfl, rfl, by rw [List.append_nil]; exact HR.out, Bts.refl _ _⟩
  case round =>
    obtain ⟨k, m, pre, hp, hm, hk1, hg, rfl, HP, HW, HB⟩ := hrel
    have hk : k ≤ 9 := by
      rcases Nat.lt_or_ge 9 k with h | h
      · have h2 : 128 ^ 10 ≤ 128 ^ k := Nat.pow_le_pow_right (by decide) h
        have h3 : 1 * 128 ^ k ≤ m * 128 ^ k := Nat.mul_le_mul_right _ (by omega)
        have h4 : (128 : Nat) ^ 10 = 1180591620717411303424 := by decide
        omega
      · exact h
    have hw := HW.out
    have own := fun (o : Obj) => (hw.stays (w' := wr.alloc o) (fun k hk => Below.heap_alloc _ _ _ (hw.lt k hk).1) : BRow (wr.alloc o) B _ _)
    have HOWN := Lib.hid own
    clear own
    have q := HB.out.size
    have hll : (l ++ pre).length ≤ 1000009 := by rw [List.length_append]; omega
    have HM := Lib.hid hm
    clear hm
    unfold BRow at hw
    have hmN : m < 18446744073709551616 := by
      have := HM.out
      have h1 : m * 1 ≤ m * 128 ^ k := Nat.mul_le_mul_left _ (Nat.pos_of_ne_zero (by simp))
      omega
    by_cases hge : 128 ≤ m
    · have hge' : (128 : Int) ≤ (m : Int) := by omega
      have e1 := byte_or m
      have HE : Hid (bytesV (l ++ pre) ++ [Value.int .u8 ((UInt8.ofNat (m % 128 + 128)).toNat : Int)] = bytesV (l ++ (pre ++ [UInt8.ofNat (m % 128 + 128)]))) := by
        apply Lib.hid; simp [bytesV]
      have HG : Hid (grpB m = UInt8.ofNat (m % 128 + 128) :: grpB (m / 128)) := Lib.hid (grpB_large m hge)
      generalize UInt8.ofNat (m % 128 + 128) = c at *
      go_wp2_with (at_builtin; refine wpList_append_own _ rfl _ _ 75 rfl B 5 i0 (.int .u8 0) 1 1 Tryd.underlying75 hi hz0 hz1 hz2 rfl (by decide) _ _ _ rfl (hw.alloc _) ⟨wr.heap.size, 0, none⟩ 1 1 [Value.int .u8 (c.toNat : Int)] rfl rfl (cell_one_new _ _ _) (by simp [Value.oneCell']) (by unfold maxLen; omega) (by omega) (by simp; omega) ?_; intro v' w3 hown' hg3 hnil3)
      rw [HE.out] at hown'
      have HO := Lib.hid (BRow.of_cells hown' (by simp; omega) rfl)
      have HB3 := Lib.hid ((HB.out.alloc _).trans (Bts.of_grown hg3 (HOWN.out _)))
      clear hown' hg3 hnil3 hw
      go_wp2_with fail
      go_roundg (m / 128)
      case measure => omega
      case rel =>
        refine ⟨k + 1, m / 128, pre ++ [c], by simp; omega, ?_, by omega, Nat.le_refl _, ?_, ?_, HO.out, HB3.out⟩
        · have := HM.out
          have h1 : m / 128 * 128 ≤ m := Nat.div_mul_le_self _ _
          have h2 : m / 128 * 128 * 128 ^ k ≤ m * 128 ^ k := Nat.mul_le_mul_right _ h1
          rw [Nat.pow_succ, Nat.mul_comm (128 ^ k) 128, ← Nat.mul_assoc]
          omega
        · congr 1
        · rw [List.append_assoc, List.singleton_append, ← HG.out]; exact HP.out
    · have hge' : (m : Int) < 128 := by omega
      have HE : Hid (bytesV (l ++ pre) ++ [Value.int .u8 (m : Int)] = bytesV (l ++ grpB n)) := by
        apply Lib.hid
        rw [← HP.out, grpB_small m (by omega)]
        simp [bytesV]
        omega
      go_wp2_with (at_builtin; refine wpList_append_own _ rfl _ _ 75 rfl B 5 i0 (.int .u8 0) 1 1 Tryd.underlying75 hi hz0 hz1 hz2 rfl (by decide) _ _ _ rfl (hw.alloc _) ⟨wr.heap.size, 0, none⟩ 1 1 [Value.int .u8 (m : Int)] rfl rfl (cell_one_new _ _ _) (by simp [Value.oneCell']) (by unfold maxLen; omega) (by omega) (by simp; omega) ?_; intro v' w3 hown' hg3 hnil3)
      rw [HE.out] at hown'
      have HO := Lib.hid (BRow.of_cells hown' (by rw [← HP.out, grpB_small m (by omega)]; simp; omega) rfl)
      have HB3 := Lib.hid ((HB.out.alloc _).trans (Bts.of_grown hg3 (HOWN.out _)))
      clear hown' hg3 hnil3 hw
      go_wp2_with fail
      go_ret
      obtain ⟨p, c, hv⟩ := HO.out.form
      have HO2 := HO.out
      rw [hv] at HO2
      exact ⟨p, c, congrArg Ending.returned hv, HO2, HB3.out⟩

end Go.Proofs.YtmlmjchifelpkaaDoor
