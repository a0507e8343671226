/- slices.Repeat of one element. -/
import Derived.Test.YtjddimoeodecgaaGreatXG03
import Derived.Test.YtjddimoeodecgaaGreatXShelf
import Derived.Shelf.Spec.SlicesInsert
import Derived.Laws.CopyRow
import Derived.Laws.CopyOwn
import Derived.Test.YtjddimoeodecgaaGreatXQx2
import Derived.Deep.RegionHeld3
namespace Go.Proofs.YtjddimoeodecgaaGreat
open Go.RowKit Go.Lib
set_option linter.unusedVariables false
set_option maxRecDepth 100000

theorem infoDist : (Tryz.prog.info? 43).map (fun i => (i.zero, i.size, i.bytes)) = some (some (.int .u64 0), 1, 8) := by kernel_rfl
theorem sz1_of {t : TypeId} {z : Value} {b : Nat} (h : (Tryz.prog.info? t).map (fun i => (i.zero, i.size, i.bytes)) = some (some z, 1, b)) : (Tryz.prog.info? t).map (·.size) = some 1 := by
  cases hq : Tryz.prog.info? t with
  | none => rw [hq] at h; cases h
  | some i => rw [hq] at h; simp at h; simp [h]
theorem make_row (st et : TypeId) (z : Value) (hz : z.cells = #[z]) (hu : Tryz.prog.underlying st = some (.slice et)) (hinfo : (Tryz.prog.info? et).map (fun i => (i.zero, i.size, i.bytes)) = some (some z, 1, 8)) (n : Nat) (hn : n ≤ 1000000) (w : World) : (Instr.makeSlice st (.int .i64 n) (.int .i64 n)).run Tryz.prog w = .ok (.slice (some ⟨w.heap.size, 0, none⟩) n n) (w.alloc (.cells (Array.replicate n z) et)) := by
  obtain ⟨i0, hi, hz0, hz1, hz2⟩ := info_parts hinfo
  have h := run_make (P := Tryz.prog) w st et i0 z hu hi hz0 .i64 .i64 n n (by omega) (Int.le_refl _) (by rw [hz2]; omega) (by omega)
  rw [hz1, Int.toNat_natCast, Nat.mul_one, hz] at h
  rw [h]
  congr 2
  have e : madeCells #[z] n = Array.replicate n z := by
    apply Array.toList_inj.1
    rw [toList_madeCells_one]
    simp
  rw [e]

/-- The cells of the row, k of them filled. -/
def fillV (v z : Value) (k n : Nat) : Array Value := (List.replicate k v ++ List.replicate (n - k) z).toArray
theorem fillV_at (v z : Value) (k n j : Nat) (h : j < k) : (fillV v z k n)[j]? = some v := by
  unfold fillV
  rw [List.getElem?_toArray, List.getElem?_append_left (by simpa using h), List.getElem?_replicate, if_pos h]
theorem fillV_size (v z : Value) (k n : Nat) (h : k ≤ n) : (fillV v z k n).size = n := by simp [fillV]; omega
theorem fillV_more (v z : Value) (k n m : Nat) (h : k + m ≤ n) : ((fillV v z k n).toList.take k ++ List.replicate m v ++ (fillV v z k n).toList.drop (k + m)).toArray = fillV v z (k + m) n := by
  unfold fillV
  congr 1
  rw [List.take_left' (by simp), List.drop_append, List.length_replicate]
  rw [List.drop_eq_nil_of_le (by simp), List.nil_append, List.drop_replicate, List.replicate_append_replicate]
  congr 2
  omega
theorem fillV_zero (v z : Value) (n : Nat) : fillV v z 0 n = Array.replicate n z := by simp [fillV]
theorem fillV_full (v z : Value) (n : Nat) : fillV v z n n = Array.replicate n v := by simp [fillV]

theorem mul_one_of (n : Nat) (hn : n ≤ 16384) (wx : World) : Calls Tryz.prog 136 #[.int .u64 1, .int .u64 n] wx fun e w' => e = .returned (.tuple #[.int .u64 0, .int .u64 n]) ∧ wx = w' := by
  have h := Tryz.bits_Mul 1 n (by omega) (by omega) wx
  rw [Nat.one_mul, Nat.div_eq_of_lt (by omega), Nat.mod_eq_of_lt (by omega)] at h
  exact h.mono fun e w' ⟨h1, h2⟩ => ⟨h1, h2.symm⟩

set_option maxHeartbeats 1000000 in
theorem repeat_dist (v : Value) (h1 : v.oneCell' = true) (r : Nat) (n : Nat) (w : World) (hrc : w.cell? ⟨r, 0, none⟩ = some v) (hrl : r < w.heap.size) (h0 : 1 ≤ n) (hn : n ≤ 16384) :
    Calls Tryz.prog 102 #[.slice (some ⟨r, 0, none⟩) 1 1, .int .i64 n] w fun en w' => ∃ q, en = .returned (.slice (some ⟨q, 0, none⟩) n n) ∧ w.heap.size ≤ q ∧ w'.heap[q]? = some (.cells (Array.replicate n v) 43 (0, 0)) ∧ Below w.heap.size w w' := by
  have hmk := make_row 35 43 (.int .u64 0) rfl Tryz.underlying35 infoDist n (by omega)
  have z0 : ¬ (n : Int) < 0 := by omega
  have z1 : ¬ (9223372036854775807 : Int) < (n : Int) := by omega
  have HM := Lib.hid (mul_one_of n hn w)
  have HR := Lib.hid hrc
  have hsz1 := sz1_of infoDist
  have HZ1 := Lib.hid hsz1
  have HONE := Lib.hid h1
  have hu := Tryz.underlying35
  have HU := Lib.hid hu
  clear hrc hsz1 h1 hu
  go_enter Tryz.func102, Tryz.ntmps102
  go_wp2_with fail
  refine HM.out.mono ?_
  rintro e w' ⟨rfl, rfl⟩
  clear HM
  have hwn : IntKind.i64.wrap (n : Int) = (n : Int) := IntWalk.i64_in _ (by omega)
  go_upto_region 7 with fail
  clear hmk hwn
  have hb1 : Below w.heap.size w (w.alloc (.cells (Array.replicate n (.int .u64 0)) 43)) := (Below.refl _ w).alloc (Nat.le_refl _) _
  have hq1 := heap_alloc_new w (.cells (Array.replicate n (.int .u64 0)) 43 (0, 0))
  have hr1 := (hb1.cell (p := ⟨r, 0, none⟩) hrl).trans HR.out
  have hs1 : (w.alloc (.cells (Array.replicate n (.int .u64 0)) 43)).heap.size = w.heap.size + 1 := by simp
  generalize (w.alloc (.cells (Array.replicate n (.int .u64 0)) 43)) = w1 at *
  generalize hq : w.heap.size = q at *
  have HQ0 := Lib.hid hq
  have HB1 := Lib.hid hb1
  have HQ1 := Lib.hid hq1
  have hqr : q ≠ r := by omega
  clear hq hb1 hq1
  have hf1 := fillV_more v (.int .u64 0) 0 n 1 (by omega)
  rw [fillV_zero, Nat.zero_add] at hf1
  have HF1 := Lib.hid hf1
  clear hf1
  have hcp := run_copy_row (P := Tryz.prog) w1 35 35 3 43 q 0 n n ⟨r, 0, none⟩ 1 1 (Array.replicate n (.int .u64 0)) 43 [v] HU.out HZ1.out HQ1.out (Nat.min_eq_left h0).symm (fun j u hj => by
    match j, hj with
    | 0, hj => simp at hj; subst hj; simp [Addr.add, hr1]) (by simp; omega) (by simp [HONE.out])
  rw [show [v].length = 1 from rfl, show goInt ((1 : Nat) : Int) = Value.int .i64 1 from rfl, Nat.zero_add, show (Array.replicate n (Value.int .u64 0)).toList.take 0 ++ [v] ++ (Array.replicate n (Value.int .u64 0)).toList.drop 1 = (fillV v (.int .u64 0) 1 n).toList from by rw [← HF1.out]; simp, Array.toArray_toList] at hcp
  have hq2 := setRow_heap w1 q _ (fillV v (.int .u64 0) 1 n) 43 _ HQ1.out
  have hb2 : Below q w (w1.setRow q (fillV v (.int .u64 0) 1 n)) := ⟨HB1.out.os, HB1.out.tape, HB1.out.output, by have := HB1.out.size; simpa [World.setRow] using this, fun k hk => (setRow_other w1 q k _ (by omega)).trans (HB1.out.block k hk)⟩
  generalize (w1.setRow q (fillV v (.int .u64 0) 1 n)) = w2 at *
  have HQ2 := Lib.hid hq2
  have HB2 := Lib.hid hb2
  clear hq2 hb2
  go_wp2_with fail
  clear hcp hr1 hs1
  go_loopg [8] n (fun gg s8 wr => ∃ k : Nat, 1 ≤ k ∧ k ≤ n ∧ n - k ≤ gg ∧ s8 = .int .i64 k ∧ Hid (wr.heap[q]? = some (.cells (fillV v (.int .u64 0) k n) 43 (0, 0))) ∧ Hid (Below q w wr))
  case atStart => exact ⟨1, Nat.le_refl _, h0, by omega, rfl, HQ2, HB2⟩
  case round =>
    obtain ⟨k, hk1, hkn, hgg, rfl, HQ, HB⟩ := hrel
    by_cases hlt : k < n
    · have hkz : (k : Int) < (n : Int) := by omega
      have hnk : ¬ n = k := by omega
      have hnkz : ¬ n - k = 0 := by omega
      have hkl : k ≤ n := hkn
      obtain ⟨m, hm⟩ : ∃ m, m = Nat.min k (n - k) := ⟨_, rfl⟩
      have hmk : m ≤ k := by rw [hm]; exact Nat.min_le_left _ _
      have hmn : k + m ≤ n := by have : m ≤ n - k := by rw [hm]; exact Nat.min_le_right _ _
                                 omega
      have hm1 : 1 ≤ m := by rw [hm]; exact Nat.le_min.2 ⟨hk1, by omega⟩
      have hcp := run_copy_row (P := Tryz.prog) wr.drew 35 35 3 43 q k (n - k) (n - k) ⟨q, 0, none⟩ k n (fillV v (.int .u64 0) k n) 43 (List.replicate m v) HU.out HZ1.out HQ.out (by rw [List.length_replicate]; exact hm) (fun j u hj => by
        rw [List.getElem?_replicate] at hj
        have hjm : j < m := by
          rcases Nat.lt_or_ge j m with h | h
          · exact h
          · rw [if_neg (by omega)] at hj; cases hj
        rw [if_pos hjm] at hj
        cases hj
        have hadd : (⟨q, 0, none⟩ : Addr).add j = ⟨q, j, none⟩ := by by_cases h : j = 0 <;> simp [Addr.add, h]
        rw [hadd]
        show wr.cell? _ = _
        simp only [World.cell?, HQ.out]
        exact fillV_at v _ k n j (by omega)) (by rw [List.length_replicate, fillV_size v _ k n hkn]; exact hmn) (fun u hu => by rw [List.eq_of_mem_replicate hu]; exact HONE.out)
      rw [List.length_replicate, fillV_more v _ k n m hmn, show goInt ((m : Nat) : Int) = Value.int .i64 m from rfl] at hcp
      have hq3 := setRow_heap wr.drew q _ (fillV v (.int .u64 0) (k + m) n) 43 _ HQ.out
      have hb3 : Below q w (wr.drew.setRow q (fillV v (.int .u64 0) (k + m) n)) := ⟨HB.out.os, HB.out.tape, HB.out.output, by have := HB.out.size; simpa [World.setRow] using this, fun j hj => (setRow_other wr.drew q j _ (by omega)).trans (HB.out.block j hj)⟩
      generalize (wr.drew.setRow q (fillV v (.int .u64 0) (k + m) n)) = w4 at *
      have HQ4 := Lib.hid hq3
      have HB4 := Lib.hid hb3
      have HCP := Lib.hid hcp
      have hnz : (k : Int) ≤ (n : Int) := by omega
      have hw : IntKind.i64.wrap ((k : Int) + (m : Int)) = ((k + m : Nat) : Int) := by rw [IntWalk.i64_in _ (by omega)]; omega
      clear hq3 hb3 hcp hm
      go_upto_region 9 with fail
      go_region_law (refine step_copy_runI (by rfl) (.tmp 41) (.tmp 44) 35 35 (by rfl) (.slice (some ⟨q, k, none⟩) (n - k) (n - k)) (.slice (some ⟨q, 0, none⟩) k n) (by simp [Act.eval, Act.put]) (by simp [Act.eval, Act.put]) HCP.out ?_)
      all_goals
        go_wp2_with fail
        go_roundg (n - (k + m))
      all_goals first
        | (show _ < _; omega)
        | exact ⟨k + m, by omega, hmn, by omega, by go_num, HQ4, HB4⟩
    · have hkz : ¬ (k : Int) < (n : Int) := by omega
      have hk : k = n := by omega
      subst hk
      go_wp2_with fail
      go_ret
      have hq := HQ.out
      rw [fillV_full] at hq
      exact ⟨q, rfl, by have := HQ0.out; omega, hq, by have := HQ0.out; rw [this]; exact HB.out⟩

end Go.Proofs.YtjddimoeodecgaaGreat

/- slices.Repeat of one whole number. -/
namespace Go.Proofs.YtjddimoeodecgaaGreat
open Go.RowKit Go.Lib
set_option linter.unusedVariables false
set_option maxRecDepth 100000

set_option maxHeartbeats 1000000 in
theorem repeat_int (v : Value) (h1 : v.oneCell' = true) (r : Nat) (n : Nat) (w : World) (hrc : w.cell? ⟨r, 0, none⟩ = some v) (hrl : r < w.heap.size) (h0 : 1 ≤ n) (hn : n ≤ 16384) :
    Calls Tryz.prog 103 #[.slice (some ⟨r, 0, none⟩) 1 1, .int .i64 n] w fun en w' => ∃ q, en = .returned (.slice (some ⟨q, 0, none⟩) n n) ∧ w.heap.size ≤ q ∧ w'.heap[q]? = some (.cells (Array.replicate n v) 3 (0, 0)) ∧ Below w.heap.size w w' := by
  have hmk := make_row 25 3 (.int .i64 0) rfl Tryz.underlying25 infoInt n (by omega)
  have z0 : ¬ (n : Int) < 0 := by omega
  have z1 : ¬ (9223372036854775807 : Int) < (n : Int) := by omega
  have HM := Lib.hid (mul_one_of n hn w)
  have HR := Lib.hid hrc
  have hsz1 := sz1_of infoInt
  have HZ1 := Lib.hid hsz1
  have HONE := Lib.hid h1
  have hu := Tryz.underlying25
  have HU := Lib.hid hu
  clear hrc hsz1 h1 hu
  go_enter Tryz.func103, Tryz.ntmps103
  go_wp2_with fail
  refine HM.out.mono ?_
  rintro e w' ⟨rfl, rfl⟩
  clear HM
  have hwn : IntKind.i64.wrap (n : Int) = (n : Int) := IntWalk.i64_in _ (by omega)
  go_upto_region 7 with fail
  clear hmk hwn
  have hb1 : Below w.heap.size w (w.alloc (.cells (Array.replicate n (.int .i64 0)) 3)) := (Below.refl _ w).alloc (Nat.le_refl _) _
  have hq1 := heap_alloc_new w (.cells (Array.replicate n (.int .i64 0)) 3 (0, 0))
  have hr1 := (hb1.cell (p := ⟨r, 0, none⟩) hrl).trans HR.out
  have hs1 : (w.alloc (.cells (Array.replicate n (.int .i64 0)) 3)).heap.size = w.heap.size + 1 := by simp
  generalize (w.alloc (.cells (Array.replicate n (.int .i64 0)) 3)) = w1 at *
  generalize hq : w.heap.size = q at *
  have HQ0 := Lib.hid hq
  have HB1 := Lib.hid hb1
  have HQ1 := Lib.hid hq1
  have hqr : q ≠ r := by omega
  clear hq hb1 hq1
  have hf1 := fillV_more v (.int .i64 0) 0 n 1 (by omega)
  rw [fillV_zero, Nat.zero_add] at hf1
  have HF1 := Lib.hid hf1
  clear hf1
  have hcp := run_copy_row (P := Tryz.prog) w1 25 25 3 3 q 0 n n ⟨r, 0, none⟩ 1 1 (Array.replicate n (.int .i64 0)) 3 [v] HU.out HZ1.out HQ1.out (Nat.min_eq_left h0).symm (fun j u hj => by
    match j, hj with
    | 0, hj => simp at hj; subst hj; simp [Addr.add, hr1]) (by simp; omega) (by simp [HONE.out])
  rw [show [v].length = 1 from rfl, show goInt ((1 : Nat) : Int) = Value.int .i64 1 from rfl, Nat.zero_add, show (Array.replicate n (Value.int .i64 0)).toList.take 0 ++ [v] ++ (Array.replicate n (Value.int .i64 0)).toList.drop 1 = (fillV v (.int .i64 0) 1 n).toList from by rw [← HF1.out]; simp, Array.toArray_toList] at hcp
  have hq2 := setRow_heap w1 q _ (fillV v (.int .i64 0) 1 n) 3 _ HQ1.out
  have hb2 : Below q w (w1.setRow q (fillV v (.int .i64 0) 1 n)) := ⟨HB1.out.os, HB1.out.tape, HB1.out.output, by have := HB1.out.size; simpa [World.setRow] using this, fun k hk => (setRow_other w1 q k _ (by omega)).trans (HB1.out.block k hk)⟩
  generalize (w1.setRow q (fillV v (.int .i64 0) 1 n)) = w2 at *
  have HQ2 := Lib.hid hq2
  have HB2 := Lib.hid hb2
  clear hq2 hb2
  go_wp2_with fail
  clear hcp hr1 hs1
  go_loopg [8] n (fun gg s8 wr => ∃ k : Nat, 1 ≤ k ∧ k ≤ n ∧ n - k ≤ gg ∧ s8 = .int .i64 k ∧ Hid (wr.heap[q]? = some (.cells (fillV v (.int .i64 0) k n) 3 (0, 0))) ∧ Hid (Below q w wr))
  case atStart => exact ⟨1, Nat.le_refl _, h0, by omega, rfl, HQ2, HB2⟩
  case round =>
    obtain ⟨k, hk1, hkn, hgg, rfl, HQ, HB⟩ := hrel
    by_cases hlt : k < n
    · have hkz : (k : Int) < (n : Int) := by omega
      have hnk : ¬ n = k := by omega
      have hnkz : ¬ n - k = 0 := by omega
      have hkl : k ≤ n := hkn
      obtain ⟨m, hm⟩ : ∃ m, m = Nat.min k (n - k) := ⟨_, rfl⟩
      have hmk : m ≤ k := by rw [hm]; exact Nat.min_le_left _ _
      have hmn : k + m ≤ n := by have : m ≤ n - k := by rw [hm]; exact Nat.min_le_right _ _
                                 omega
      have hm1 : 1 ≤ m := by rw [hm]; exact Nat.le_min.2 ⟨hk1, by omega⟩
      have hcp := run_copy_row (P := Tryz.prog) wr.drew 25 25 3 3 q k (n - k) (n - k) ⟨q, 0, none⟩ k n (fillV v (.int .i64 0) k n) 3 (List.replicate m v) HU.out HZ1.out HQ.out (by rw [List.length_replicate]; exact hm) (fun j u hj => by
        rw [List.getElem?_replicate] at hj
        have hjm : j < m := by
          rcases Nat.lt_or_ge j m with h | h
          · exact h
          · rw [if_neg (by omega)] at hj; cases hj
        rw [if_pos hjm] at hj
        cases hj
        have hadd : (⟨q, 0, none⟩ : Addr).add j = ⟨q, j, none⟩ := by by_cases h : j = 0 <;> simp [Addr.add, h]
        rw [hadd]
        show wr.cell? _ = _
        simp only [World.cell?, HQ.out]
        exact fillV_at v _ k n j (by omega)) (by rw [List.length_replicate, fillV_size v _ k n hkn]; exact hmn) (fun u hu => by rw [List.eq_of_mem_replicate hu]; exact HONE.out)
      rw [List.length_replicate, fillV_more v _ k n m hmn, show goInt ((m : Nat) : Int) = Value.int .i64 m from rfl] at hcp
      have hq3 := setRow_heap wr.drew q _ (fillV v (.int .i64 0) (k + m) n) 3 _ HQ.out
      have hb3 : Below q w (wr.drew.setRow q (fillV v (.int .i64 0) (k + m) n)) := ⟨HB.out.os, HB.out.tape, HB.out.output, by have := HB.out.size; simpa [World.setRow] using this, fun j hj => (setRow_other wr.drew q j _ (by omega)).trans (HB.out.block j hj)⟩
      generalize (wr.drew.setRow q (fillV v (.int .i64 0) (k + m) n)) = w4 at *
      have HQ4 := Lib.hid hq3
      have HB4 := Lib.hid hb3
      have HCP := Lib.hid hcp
      have hnz : (k : Int) ≤ (n : Int) := by omega
      have hw : IntKind.i64.wrap ((k : Int) + (m : Int)) = ((k + m : Nat) : Int) := by rw [IntWalk.i64_in _ (by omega)]; omega
      clear hq3 hb3 hcp hm
      go_upto_region 9 with fail
      go_region_law (refine step_copy_runI (by rfl) (.tmp 41) (.tmp 44) 25 25 (by rfl) (.slice (some ⟨q, k, none⟩) (n - k) (n - k)) (.slice (some ⟨q, 0, none⟩) k n) (by simp [Act.eval, Act.put]) (by simp [Act.eval, Act.put]) HCP.out ?_)
      all_goals
        go_wp2_with fail
        go_roundg (n - (k + m))
      all_goals first
        | (show _ < _; omega)
        | exact ⟨k + m, by omega, hmn, by omega, by go_num, HQ4, HB4⟩
    · have hkz : ¬ (k : Int) < (n : Int) := by omega
      have hk : k = n := by omega
      subst hk
      go_wp2_with fail
      go_ret
      have hq := HQ.out
      rw [fillV_full] at hq
      exact ⟨q, rfl, by have := HQ0.out; omega, hq, by have := HQ0.out; rw [this]; exact HB.out⟩

end Go.Proofs.YtjddimoeodecgaaGreat

/- The arcs out of each vertex, as the printed function makes them. -/
namespace Go.Proofs.YtjddimoeodecgaaGreat.Q
open Go.RowKit Go.Proofs.YtjddimoeodecgaaGreatW.PrintWords Go.Proofs.YtjddimoeodecgaaGreatW.PrintLast
set_option linter.unusedVariables false
set_option maxRecDepth 100000

/-- A graph that may be. -/
structure GOk (N : Nat) (arcs : List S95) : Prop where
  n1 : 1 ≤ N
  n2 : N ≤ 1024
  m : arcs.length ≤ 8192
  ends : ∀ a ∈ arcs, (0 ≤ a.f0 ∧ a.f0 < (N : Int)) ∧ (0 ≤ a.f1 ∧ a.f1 < (N : Int))
  wt : ∀ a ∈ arcs, 0 ≤ a.f2 ∧ a.f2 < 4294967296

/-- The end at which an arc is listed; the other one. -/
def hd (back : Bool) (a : S95) : Nat := if back then a.f1.toNat else a.f0.toNat
def tl (back : Bool) (a : S95) : Nat := if back then a.f0.toNat else a.f1.toNat
theorem GOk.hd {N : Nat} {arcs : List S95} (h : GOk N arcs) (back : Bool) {a : S95} (ha : a ∈ arcs) : hd back a < N := by
  have := h.ends a ha
  unfold Q.hd
  split <;> omega
theorem GOk.tl {N : Nat} {arcs : List S95} (h : GOk N arcs) (back : Bool) {a : S95} (ha : a ∈ arcs) : tl back a < N := by
  have := h.ends a ha
  unfold Q.tl
  split <;> omega

/-- What is so of the lists, when n arcs have been listed. -/
structure OutsAt (back : Bool) (N : Nat) (arcs : List S95) (n : Nat) (L : List (List Int)) : Prop where
  len : L.length = N
  few : ∀ v, v < N → (L.getD v []).length ≤ n
  mem : ∀ v i, v < N → (i ∈ L.getD v [] ↔ ∃ k : Nat, i = (k : Int) ∧ k < n ∧ k < arcs.length ∧ hd back (arcs.getD k z95) = v)

theorem outs_loop (back : Bool) (N : Nat) (arcs : List S95) (h : GOk N arcs) (d : Nat) : ∀ (k n : Nat) (L : List (List Int)), n + d = arcs.length → d < k → OutsAt back N arcs n L →
    ∃ L', near_outs.l0 k back L arcs (arcs.length : Int) (n : Int) = some L' ∧ OutsAt back N arcs arcs.length L' := by
  induction d with
  | zero =>
    intro k n L hn hk hL
    obtain ⟨k, rfl⟩ : ∃ m, k = m + 1 := ⟨k - 1, by omega⟩
    have e : n = arcs.length := by omega
    subst e
    exact ⟨L, by simp only [near_outs.l0]; rw [if_neg (by omega)], hL⟩
  | succ d ih =>
    intro k n L hn hk hL
    obtain ⟨k, rfl⟩ : ∃ m, k = m + 1 := ⟨k - 1, by omega⟩
    have hlt : n < arcs.length := by omega
    have hr : rd_T95 arcs (n : Int) = arcs.getD n z95 := by unfold rd_T95; simp
    have ha : arcs.getD n z95 ∈ arcs := by rw [List.getD_eq_getElem?_getD, List.getElem?_eq_getElem hlt]; exact List.getElem_mem hlt
    obtain ⟨⟨p0, p1⟩, q0, q1⟩ := h.ends _ ha
    have hm := h.m
    have hhd := h.hd back ha
    have hw : wrap64 ((n : Int) + 1) = ((n + 1 : Nat) : Int) := by unfold wrap64; omega
    have hnext : ∀ e : Nat, hd back (arcs.getD n z95) = e → OutsAt back N arcs (n + 1) (L.set e (L.getD e [] ++ [(n : Int)])) := by
      intro e he
      have heN : e < N := by rw [← he]; exact hhd
      have hget : ∀ v, v < N → (L.set e (L.getD e [] ++ [(n : Int)])).getD v [] = if v = e then L.getD e [] ++ [(n : Int)] else L.getD v [] := by
        intro v hv
        by_cases ev : v = e
        · subst ev
          rw [if_pos rfl, List.getD_eq_getElem?_getD, List.getElem?_set_self (by rw [hL.len]; exact hv)]
          rfl
        · rw [if_neg ev, List.getD_eq_getElem?_getD, List.getElem?_set_ne (fun x => ev x.symm), ← List.getD_eq_getElem?_getD]
      refine ⟨by simpa using hL.len, fun v hv => ?_, fun v i hv => ?_⟩
      · rw [hget v hv]
        have := hL.few v hv
        split
        · rename_i ev
          subst ev
          rw [List.length_append, List.length_singleton]
          omega
        · omega
      · rw [hget v hv]
        by_cases ev : v = e
        · rw [if_pos ev, List.mem_append, ev, hL.mem e i heN]
          constructor
          · rintro (⟨j, h1, h2, h3, h4⟩ | h1)
            · exact ⟨j, h1, by omega, h3, h4⟩
            · simp at h1; exact ⟨n, h1, by omega, hlt, he⟩
          · rintro ⟨j, h1, h2, h3, h4⟩
            by_cases ej : j = n
            · subst ej; right; simp [h1]
            · left; exact ⟨j, h1, by omega, h3, h4⟩
        · rw [if_neg ev, hL.mem v i hv]
          constructor
          · rintro ⟨j, h1, h2, h3, h4⟩
            exact ⟨j, h1, by omega, h3, h4⟩
          · rintro ⟨j, h1, h2, h3, h4⟩
            refine ⟨j, h1, ?_, h3, h4⟩
            by_cases ej : j = n
            · subst ej; exact absurd (h4.symm.trans he) ev
            · omega
    have hfew : ∀ e : Nat, e < N → (L.getD e []).length < 17592186044416 := fun e he => by have := hL.few e he; omega
    simp only [near_outs.l0]
    rw [if_pos (by omega), if_pos (by omega), if_pos (by omega), hr]
    cases back with
    | true =>
      obtain ⟨e, he⟩ : ∃ e : Nat, (arcs.getD n z95).f1 = (e : Int) := ⟨_, (Int.toNat_of_nonneg q0).symm⟩
      have heN : e < N := by omega
      rw [if_pos rfl, he, if_pos (by omega), if_pos (by rw [hL.len]; omega)]
      have hrl : rd_L5 L (e : Int) = L.getD e [] := by unfold rd_L5; simp
      rw [hrl, if_pos (hfew e heN), hw, Int.toNat_natCast]
      exact ih k (n + 1) _ (by omega) (by omega) (hnext e (by unfold hd; rw [if_pos rfl, he]; simp))
    | false =>
      obtain ⟨e, he⟩ : ∃ e : Nat, (arcs.getD n z95).f0 = (e : Int) := ⟨_, (Int.toNat_of_nonneg p0).symm⟩
      have heN : e < N := by omega
      rw [if_neg (by simp), he, if_pos (by omega), if_pos (by rw [hL.len]; omega)]
      have hrl : rd_L5 L (e : Int) = L.getD e [] := by unfold rd_L5; simp
      rw [hrl, if_pos (hfew e heN), hw, Int.toNat_natCast]
      exact ih k (n + 1) _ (by omega) (by omega) (hnext e (by unfold hd; rw [if_neg (by simp), he]; simp))

theorem outs_f (back : Bool) (N : Nat) (arcs : List S95) (h : GOk N arcs) : ∃ L, near_outs.f (arcs.length + 1) (N : Int) arcs back = some L ∧ OutsAt back N arcs arcs.length L := by
  unfold near_outs.f
  have := h.n2
  rw [if_pos (by omega), if_pos (by rw [Int.toNat_natCast]; omega), Int.toNat_natCast]
  exact outs_loop back N arcs h arcs.length _ 0 _ (by omega) (by omega) ⟨by simp, fun v hv => by simp [List.getD_eq_getElem?_getD, hv], fun v i hv => by simp [List.getD_eq_getElem?_getD, hv]⟩

end Go.Proofs.YtjddimoeodecgaaGreat.Q

/- A search in memory. -/
namespace Go.Proofs.YtjddimoeodecgaaGreat
open Go.RowKit Go.Lib Go.Proofs.YtjddimoeodecgaaGreatW.PrintWords Go.Proofs.YtjddimoeodecgaaGreatW.PrintLast Go.Proofs.YtjddimoeodecgaaGreatW.PrintMore
set_option linter.unusedVariables false
set_option maxRecDepth 100000

/-- A search in memory. B: from where on all is its own; K: from where on the heap lies. -/
structure IsSearch (B K X db yb hp T ab N : Nat) (A : Option Addr) (m c : Nat) (back : Bool) (OA : Option Addr) (oc : Nat) (L : List (List Int)) (w : World) (v : Value) (ds : List Nat) (ys : List Int) (l : List Ent) : Prop where
  box : w.heap[X]? = some (.cells #[.int .i64 N, .slice A m c, .bool back, .slice OA L.length oc, .slice (some ⟨db, 0, none⟩) N N, .slice (some ⟨yb, 0, none⟩) N N, .pointer (some ⟨hp, 0, none⟩)] 148 (0, 0))
  drow : w.heap[db]? = some (.cells (ds.map (fun x : Nat => Value.int .u64 (x : Int))).toArray 43 (0, 0))
  yrow : w.heap[yb]? = some (.cells (ys.map (Value.int .i64)).toArray 3 (0, 0))
  dlen : ds.length = N
  ylen : ys.length = N
  heap : IsHeap w K hp T ab v l N
  outs : (Kd.slice 3 (Kd.int .i64)).R 25 w B (fun k => k < K ∧ k ≠ X ∧ k ≠ db ∧ k ≠ yb) (.slice OA L.length oc) L
  lt : X < K ∧ db < K ∧ yb < K
  bs : B ≤ X ∧ B ≤ db ∧ B ≤ yb ∧ B ≤ K
  ne : X ≠ db ∧ X ≠ yb ∧ db ≠ yb

section
variable {B K X db yb hp T ab N : Nat} {A : Option Addr} {m c : Nat} {back : Bool} {OA : Option Addr} {oc : Nat} {L : List (List Int)} {w w' : World} {v v' : Value} {ds : List Nat} {ys : List Int} {l l' : List Ent}
theorem IsSearch.ltX (h : IsSearch B K X db yb hp T ab N A m c back OA oc L w v ds ys l) : X < w.heap.size := lt_of_block h.box
theorem IsSearch.ltD (h : IsSearch B K X db yb hp T ab N A m c back OA oc L w v ds ys l) : db < w.heap.size := lt_of_block h.drow
theorem IsSearch.ltY (h : IsSearch B K X db yb hp T ab N A m c back OA oc L w v ds ys l) : yb < w.heap.size := lt_of_block h.yrow
/-- Nothing below the heap has changed. -/
theorem IsSearch.moved (h : IsSearch B K X db yb hp T ab N A m c back OA oc L w v ds ys l) (hb : ∀ k, k < K → k < w.heap.size → w'.heap[k]? = w.heap[k]?) (hh : IsHeap w' K hp T ab v' l' N) : IsSearch B K X db yb hp T ab N A m c back OA oc L w' v' ds ys l' :=
  ⟨(hb X h.lt.1 h.ltX).trans h.box, (hb db h.lt.2.1 h.ltD).trans h.drow, (hb yb h.lt.2.2 h.ltY).trans h.yrow, h.dlen, h.ylen, hh, Kd.R_step h.outs (fun k hk hl => hb k hk.1 hl), h.lt, h.bs, h.ne⟩
theorem IsSearch.turned (h : IsSearch B K X db yb hp T ab N A m c back OA oc L w v ds ys l) (hh : IsHeap w' K hp T ab v' l' N) (ht : HTurn T ab v w w' v') : IsSearch B K X db yb hp T ab N A m c back OA oc L w' v' ds ys l' := by
  refine h.moved (fun k hk hl => ht.block k hl ?_ ?_ ?_) hh
  · have := h.heap.tree.bT; omega
  · have := h.heap.tree.bA; omega
  · intro e
    have := (h.heap.tree.ltV k e).1
    omega
theorem IsSearch.below (h : IsSearch B K X db yb hp T ab N A m c back OA oc L w v ds ys l) (hb : Below w.heap.size w w') : IsSearch B K X db yb hp T ab N A m c back OA oc L w' v ds ys l :=
  h.moved (fun k _ hl => hb.block k hl) (h.heap.below hb)
/-- A block below the heap is none of the heap's. -/
theorem IsSearch.heapFar (h : IsSearch B K X db yb hp T ab N A m c back OA oc L w v ds ys l) (g j : Nat) (u : Value) (hg : g < K) : IsHeap (w.setCell ⟨g, j, none⟩ u) K hp T ab v l N := by
  have e : ∀ k, K ≤ k → (w.setCell ⟨g, j, none⟩ u).heap[k]? = w.heap[k]? := fun k hk => heap_setCell_other w ⟨g, j, none⟩ k u (by show k ≠ g; omega)
  exact h.heap.kept (e hp h.heap.bh) (e T h.heap.tree.bT) (e ab h.heap.tree.bA) (fun k hk => e k (h.heap.tree.ltV k hk).1)
theorem IsSearch.setD (h : IsSearch B K X db yb hp T ab N A m c back OA oc L w v ds ys l) (i x : Nat) : IsSearch B K X db yb hp T ab N A m c back OA oc L (w.setCell ⟨db, i, none⟩ (.int .u64 (x : Int))) v (ds.set i x) ys l := by
  have e : ∀ k, k ≠ db → (w.setCell ⟨db, i, none⟩ (.int .u64 (x : Int))).heap[k]? = w.heap[k]? := fun k hk => heap_setCell_other w ⟨db, i, none⟩ k _ hk
  refine ⟨(e X h.ne.1).trans h.box, ?_, (e yb (Ne.symm h.ne.2.2)).trans h.yrow, by simpa using h.dlen, h.ylen, h.heapFar db i _ h.lt.2.1, Kd.R_step h.outs (fun k hk hl => e k hk.2.2.1), h.lt, h.bs, h.ne⟩
  have := heap_setCell_same w db i _ _ (.int .u64 (x : Int)) h.drow
  rw [this]
  congr 2
  simp [List.map_set]
theorem IsSearch.setY (h : IsSearch B K X db yb hp T ab N A m c back OA oc L w v ds ys l) (i : Nat) (x : Int) : IsSearch B K X db yb hp T ab N A m c back OA oc L (w.setCell ⟨yb, i, none⟩ (.int .i64 x)) v ds (ys.set i x) l := by
  have e : ∀ k, k ≠ yb → (w.setCell ⟨yb, i, none⟩ (.int .i64 x)).heap[k]? = w.heap[k]? := fun k hk => heap_setCell_other w ⟨yb, i, none⟩ k _ hk
  refine ⟨(e X h.ne.2.1).trans h.box, (e db h.ne.2.2).trans h.drow, ?_, h.dlen, by simpa using h.ylen, h.heapFar yb i _ h.lt.2.2, Kd.R_step h.outs (fun k hk hl => e k hk.2.2.2), h.lt, h.bs, h.ne⟩
  have := heap_setCell_same w yb i _ _ (.int .i64 x) h.yrow
  rw [this]
  congr 2
  simp [List.map_set]
theorem IsSearch.cD (h : IsSearch B K X db yb hp T ab N A m c back OA oc L w v ds ys l) (i : Nat) (hi : i < N) : w.cell? ⟨db, i, none⟩ = some (.int .u64 (ds.getD i 0 : Nat)) := by
  have : i < ds.length := by rw [h.dlen]; exact hi
  simp [World.cell?, h.drow, this]
theorem IsSearch.cY (h : IsSearch B K X db yb hp T ab N A m c back OA oc L w v ds ys l) (i : Nat) (hi : i < N) : w.cell? ⟨yb, i, none⟩ = some (.int .i64 (ys.getD i 0)) := by
  have : i < ys.length := by rw [h.ylen]; exact hi
  simp [World.cell?, h.yrow, this]
theorem IsSearch.fD (h : IsSearch B K X db yb hp T ab N A m c back OA oc L w v ds ys l) (i : Nat) : w.frozen? ⟨db, i, none⟩ = false := by simp [World.frozen?, h.drow]
theorem IsSearch.fY (h : IsSearch B K X db yb hp T ab N A m c back OA oc L w v ds ys l) (i : Nat) : w.frozen? ⟨yb, i, none⟩ = false := by simp [World.frozen?, h.yrow]
theorem IsSearch.x0 (h : IsSearch B K X db yb hp T ab N A m c back OA oc L w v ds ys l) : w.cell? ⟨X, 0, none⟩ = some (.int .i64 N) := by simp [World.cell?, h.box]
theorem IsSearch.x1 (h : IsSearch B K X db yb hp T ab N A m c back OA oc L w v ds ys l) : w.cell? ⟨X, 1, none⟩ = some (.slice A m c) := by simp [World.cell?, h.box]
theorem IsSearch.x2 (h : IsSearch B K X db yb hp T ab N A m c back OA oc L w v ds ys l) : w.cell? ⟨X, 2, none⟩ = some (.bool back) := by simp [World.cell?, h.box]
theorem IsSearch.x3 (h : IsSearch B K X db yb hp T ab N A m c back OA oc L w v ds ys l) : w.cell? ⟨X, 3, none⟩ = some (.slice OA L.length oc) := by simp [World.cell?, h.box]
theorem IsSearch.x4 (h : IsSearch B K X db yb hp T ab N A m c back OA oc L w v ds ys l) : w.cell? ⟨X, 4, none⟩ = some (.slice (some ⟨db, 0, none⟩) N N) := by simp [World.cell?, h.box]
theorem IsSearch.x5 (h : IsSearch B K X db yb hp T ab N A m c back OA oc L w v ds ys l) : w.cell? ⟨X, 5, none⟩ = some (.slice (some ⟨yb, 0, none⟩) N N) := by simp [World.cell?, h.box]
theorem IsSearch.x6 (h : IsSearch B K X db yb hp T ab N A m c back OA oc L w v ds ys l) : w.cell? ⟨X, 6, none⟩ = some (.pointer (some ⟨hp, 0, none⟩)) := by simp [World.cell?, h.box]
end

end Go.Proofs.YtjddimoeodecgaaGreat

/- near.begin: a search in memory. -/
namespace Go.Proofs.YtjddimoeodecgaaGreat
open Go.RowKit Go.Lib Go.Proofs.YtjddimoeodecgaaGreatW.PrintWords Go.Proofs.YtjddimoeodecgaaGreatW.PrintLast Go.Proofs.YtjddimoeodecgaaGreatW.PrintMore
set_option linter.unusedVariables false
set_option maxRecDepth 100000

def infN : Nat := 18446744073709551615

theorem alloc_cell_old (w : World) (o : Obj) (b k : Nat) (h : b < w.heap.size) : (w.alloc o).cell? ⟨b, k, none⟩ = w.cell? ⟨b, k, none⟩ := ((Below.refl w.heap.size w).alloc (Nat.le_refl _) o).cell (p := ⟨b, k, none⟩) h
theorem drew_cell_all (w : World) (p : Addr) : w.drew.cell? p = w.cell? p := by simp

theorem alloc_heap_old (w : World) (o : Obj) (b : Nat) (h : b < w.heap.size) : (w.alloc o).heap[b]? = w.heap[b]? := ((Below.refl w.heap.size w).alloc (Nat.le_refl _) o).block b h
theorem drew_heap_all (w : World) (k : Nat) : w.drew.heap[k]? = w.heap[k]? := rfl

/-- A search whose heap is not yet made. -/
structure Begun (w0 : World) (B X db yb N : Nat) (A : Option Addr) (m c : Nat) (back : Bool) (OA : Option Addr) (oc : Nat) (L : List (List Int)) (w : World) : Prop where
  box : w.heap[X]? = some (.cells #[.int .i64 N, .slice A m c, .bool back, .slice OA L.length oc, .slice (some ⟨db, 0, none⟩) N N, .slice (some ⟨yb, 0, none⟩) N N, .pointer none] 148 (0, 0))
  drow : w.heap[db]? = some (.cells (Array.replicate N (.int .u64 18446744073709551615)) 43 (0, 0))
  yrow : w.heap[yb]? = some (.cells (Array.replicate N (.int .i64 (-1))) 3 (0, 0))
  outs : (Kd.slice 3 (Kd.int .i64)).R 25 w B (fun k => k < w.heap.size ∧ k ≠ X ∧ k ≠ db ∧ k ≠ yb) (.slice OA L.length oc) L
  bX : B < X
  bd : B < db
  by_ : B < yb
  ne : X ≠ db ∧ X ≠ yb ∧ db ≠ yb
  cell : w.cell? ⟨B, 0, none⟩ = some (.int .i64 N)
  below : Below B w0 w

set_option maxHeartbeats 4000000 in
theorem begin_any (N : Nat) (arcs : List Q.S95) (A : Option Addr) (c s : Nat) (back : Bool) (w : World) (hg : Q.GOk N arcs) (hr : Kd.C Q.k95 w A arcs.length arcs) (hc : arcs.length ≤ c) (hs : s < N) (L : List (List Int)) (hL : Q.near_outs.f (arcs.length + 1) N arcs back = some L) :
    Calls Tryz.prog 65 #[.agg #[.int .i64 N, .slice A arcs.length c], .int .i64 s, .bool back] w fun e w' => ∃ K X db yb hp T ab v OA oc, e = .returned (.pointer (some ⟨X, 0, none⟩)) ∧ IsSearch w.heap.size K X db yb hp T ab N A arcs.length c back OA oc L w' v ((List.replicate N infN).set s 0) (List.replicate N (-1)) (lowF [] s 0) ∧ Below w.heap.size w w' := by
  have hn1 := hg.n1
  have hn2 := hg.n2
  have HR := Lib.hid hr
  have HC := Lib.hid hc
  have HL := Lib.hid hL
  clear hr hc hL
  go_enter Tryz.func65, Tryz.ntmps65
  go_wp2_with fail
  have hb1 : Below w.heap.size w (w.alloc (.cells #[.int .i64 N, .slice A arcs.length c] 24)) := (Below.refl _ w).alloc (Nat.le_refl _) _
  have c0 : (w.alloc (.cells #[.int .i64 N, .slice A arcs.length c] 24)).cell? ⟨w.heap.size, 0, none⟩ = some (.int .i64 N) := by simp
  have c1 : (w.alloc (.cells #[.int .i64 N, .slice A arcs.length c] 24)).cell? ⟨w.heap.size, 1, none⟩ = some (.slice A arcs.length c) := by simp
  have hlt : w.heap.size < (w.alloc (.cells #[.int .i64 N, .slice A arcs.length c] 24)).heap.size := by simp
  have hr1 := Kd.C_below HR.out hb1
  generalize (w.alloc (.cells #[.int .i64 N, .slice A arcs.length c] 24)) = w1 at *
  generalize hbx : w.heap.size = bx at *
  have HB1 := Lib.hid hb1
  have HR1 := Lib.hid hr1
  have HBX := Lib.hid hbx
  clear hb1 hr1 hbx
  have hcell : ∀ (wa wb : World), Below wa.heap.size wa wb → bx < wa.heap.size → ∀ k, wb.cell? ⟨bx, k, none⟩ = wa.cell? ⟨bx, k, none⟩ := fun wa wb hb hl k => hb.cell (p := ⟨bx, k, none⟩) hl
  go_upto_region 1 with fail
  go_cut [7] (fun s7 wx => ∃ X db yb OA oc, s7 = .pointer (some ⟨X, 0, none⟩) ∧ Hid (Begun w bx X db yb N A arcs.length c back OA oc L wx))
  case first =>
    go_region_held3 (fun w' => w'.cell? ⟨bx, 0, none⟩ = some (.int .i64 N) ∧ w'.cell? ⟨bx, 1, none⟩ = some (.slice A arcs.length c)) (first | (refine ⟨?_, ?_⟩ <;> (repeat (first | (simp; done) | (simp [*]; done) | rw [alloc_cell_old _ _ _ _ (by first | omega | (simp; done) | (simp; omega))] | rw [hbO.cell (by first | omega | (simp; done) | (simp; omega))] | rw [hbD.cell (by first | omega | (simp; done) | (simp; omega))] | rw [hbI.cell (by first | omega | (simp; done) | (simp; omega))] | rw [drew_cell_all]))) | (go_keep; done))
      (first
        | (go_at_call 101; (with_reducible refine (Q.near_outs.calls (arcs.length + 1) N A c arcs back L _ ?hrr HC.out HL.out).mono ?_); (case hrr => exact Kd.C_below HR1.out (by repeat (first | exact Below.refl _ _ | apply below_alloc | apply below_drew1))); rintro e wO ⟨vO, rfl, hRO, hbO⟩; obtain ⟨OA, oc, rfl⟩ := Kd.R_slice (Kd.S_R hRO); have sO := hbO.size; (try simp at sO))
        | (go_at_call 102; go_loud ((with_reducible refine (repeat_dist (.int .u64 18446744073709551615) rfl _ N _ ?hrr ?hrl hn1 (by omega)).mono ?_); (case hrl => (first | omega | (simp; done) | (simp; omega))); (case hrr => (repeat (first | (simp; done) | (simp [*]; done) | rw [alloc_cell_old _ _ _ _ (by first | omega | (simp; done) | (simp; omega))] | rw [hbO.cell (by first | omega | (simp; done) | (simp; omega))] | rw [hbD.cell (by first | omega | (simp; done) | (simp; omega))] | rw [hbI.cell (by first | omega | (simp; done) | (simp; omega))] | rw [drew_cell_all]))); rintro e wD ⟨qD, rfl, hqD, hrowD, hbD⟩; have sD := hbD.size; (try simp at sD); (try simp at hqD)))
        | (go_at_call 103; (with_reducible refine (repeat_int (.int .i64 (-1)) rfl _ N _ ?hrr ?hrl hn1 (by omega)).mono ?_); (case hrl => (first | omega | (simp; done) | (simp; omega))); (case hrr => (repeat (first | (simp; done) | (simp [*]; done) | rw [alloc_cell_old _ _ _ _ (by first | omega | (simp; done) | (simp; omega))] | rw [hbO.cell (by first | omega | (simp; done) | (simp; omega))] | rw [hbD.cell (by first | omega | (simp; done) | (simp; omega))] | rw [hbI.cell (by first | omega | (simp; done) | (simp; omega))] | rw [drew_cell_all]))); rintro e wI ⟨qI, rfl, hqI, hrowI, hbI⟩; have sI := hbI.size; (try simp at sI); (try simp at hqI)))
    all_goals
      go_wp2_with fail
      go_meet
      have lD := lt_of_block hrowD
      have lI := lt_of_block hrowI
      have hRB := Kd.R_bound (Kd.S_R hRO)
      refine ⟨_, _, _, _, _, rfl, Lib.hid ⟨heap_alloc_new _ _, ?_, ?_, ?_, ?_, ?_, ?_, ?_, ?_, ?_⟩⟩
      · (repeat (first | rfl | assumption | rw [alloc_heap_old _ _ _ (by first | omega | (simp; done) | (simp; omega))] | rw [drew_heap_all] | rw [hbO.block _ (by first | omega | (simp; done) | (simp; omega))] | rw [hbD.block _ (by first | omega | (simp; done) | (simp; omega))] | rw [hbI.block _ (by first | omega | (simp; done) | (simp; omega))]))
      · (repeat (first | rfl | assumption | rw [alloc_heap_old _ _ _ (by first | omega | (simp; done) | (simp; omega))] | rw [drew_heap_all] | rw [hbO.block _ (by first | omega | (simp; done) | (simp; omega))] | rw [hbD.block _ (by first | omega | (simp; done) | (simp; omega))] | rw [hbI.block _ (by first | omega | (simp; done) | (simp; omega))]))
      · refine Kd.R_lower (Kd.R_mono (Kd.R_step hRB (fun k _ hk => ?_)) (fun k hk => ?_)) ?_
        · (repeat (first | rfl | assumption | rw [alloc_heap_old _ _ _ (by first | omega | (simp; done) | (simp; omega))] | rw [drew_heap_all] | rw [hbO.block _ (by first | omega | (simp; done) | (simp; omega))] | rw [hbD.block _ (by first | omega | (simp; done) | (simp; omega))] | rw [hbI.block _ (by first | omega | (simp; done) | (simp; omega))]))
        · have hk1 := hk.2.1
          have hk2 := hk.2.2.1
          simp at hk1 hk2
          refine ⟨?_, ?_, ?_, ?_⟩ <;> (try simp) <;> omega
        · (try simp); omega
      · (try simp); omega
      · (try simp); omega
      · (try simp); omega
      · exact ⟨by omega, by (try simp); omega, by (try simp); omega⟩
      · (repeat (first | exact c0 | assumption | rw [alloc_cell_old _ _ _ _ (by first | omega | (simp; done) | (simp; omega))] | rw [drew_cell_all] | rw [hbO.cell (by first | omega | (simp; done) | (simp; omega))] | rw [hbD.cell (by first | omega | (simp; done) | (simp; omega))] | rw [hbI.cell (by first | omega | (simp; done) | (simp; omega))]))
      · repeat (first | exact HB1.out | refine Below.alloc ?_ (by first | omega | (simp; done) | (simp; omega)) _ | refine Below.drew ?_ | refine Below.trans ?_ (hbI.mono (by first | omega | (simp; done) | (simp; omega))) | refine Below.trans ?_ (hbD.mono (by first | omega | (simp; done) | (simp; omega))) | refine Below.trans ?_ (hbO.mono (by first | omega | (simp; done) | (simp; omega))))
  case rest =>
    obtain ⟨X, db, yb, OA, oc, rfl, HBG⟩ := hcut
    have b0 := HBG.out.cell
    have hXlt := lt_of_block HBG.out.box
    have hBlt : bx < wc.heap.size := by have := HBG.out.bX; omega
    clear c0 c1 hcell hlt
    go_upto_region 2 with fail
    go_upto_region 3 with (go_at_call 104; go_loud ((with_reducible refine (new_any N _ hn1 (by omega)).mono ?_); rintro e wn ⟨hp, T, ab, rfl, hhN, hbN⟩; have HHN := Lib.hid hhN; have HBN := Lib.hid hbN; have d6 : wn.cell? ⟨X, 6, none⟩ = some (.pointer none) := by { rw [hbN.cell hXlt]; simp [World.cell?, HBG.out.box] }; have f6 : wn.frozen? ⟨X, 6, none⟩ = false := by { rw [hbN.frozen hXlt]; simp [World.frozen?, HBG.out.box] }; clear hhN hbN))
    have hs2 : IsSearch bx wc.heap.size X db yb hp T ab N A arcs.length c back OA oc L (wn.setCell ⟨X, 6, none⟩ (.pointer (some ⟨hp, 0, none⟩))) (.slice none 0 0) (List.replicate N infN) (List.replicate N (-1)) [] := by
      have hx := (HBN.out.block X hXlt).trans HBG.out.box
      have hdl := lt_of_block HBG.out.drow
      have hyl := lt_of_block HBG.out.yrow
      have e : ∀ k, k ≠ X → k < wc.heap.size → (wn.setCell ⟨X, 6, none⟩ (.pointer (some ⟨hp, 0, none⟩))).heap[k]? = wc.heap[k]? := fun k hk hl => (heap_setCell_other wn ⟨X, 6, none⟩ k _ hk).trans (HBN.out.block k hl)
      have eh : ∀ k, wc.heap.size ≤ k → (wn.setCell ⟨X, 6, none⟩ (.pointer (some ⟨hp, 0, none⟩))).heap[k]? = wn.heap[k]? := fun k hk => heap_setCell_other wn ⟨X, 6, none⟩ k _ (by show k ≠ X; omega)
      have hb1 := HBG.out.bX
      have hb2 := HBG.out.bd
      have hb3 := HBG.out.by_
      refine ⟨?_, (e db (Ne.symm HBG.out.ne.1) hdl).trans ?_, (e yb (Ne.symm HBG.out.ne.2.1) hyl).trans ?_, by simp, by simp, ?_, ?_, ⟨hXlt, hdl, hyl⟩, ⟨by omega, by omega, by omega, by omega⟩, HBG.out.ne⟩
      · have := heap_setCell_same wn X 6 _ _ (.pointer (some ⟨hp, 0, none⟩)) hx
        rw [this]
        rfl
      · rw [HBG.out.drow]
        simp [infN]
      · rw [HBG.out.yrow]
        simp
      · exact HHN.out.kept (eh hp HHN.out.bh) (eh T HHN.out.tree.bT) (eh ab HHN.out.tree.bA) (fun k hk => eh k (HHN.out.tree.ltV k hk).1)
      · exact Kd.R_step HBG.out.outs (fun k hk hl => e k hk.2.1 hl)
    have hbb : Below bx w (wn.setCell ⟨X, 6, none⟩ (.pointer (some ⟨hp, 0, none⟩))) := (HBG.out.below.trans (HBN.out.mono (by omega))).setCell (by show bx ≤ X; have := HBG.out.bX; omega) _
    generalize (wn.setCell ⟨X, 6, none⟩ (.pointer (some ⟨hp, 0, none⟩))) = w2 at *
    have HS2 := Lib.hid hs2
    have HBB := Lib.hid hbb
    have y4 := hs2.x4
    have g4 := hs2.fD s
    have g5 := hs2.cD s hs
    have hsz : (s : Int) < (N : Int) := by omega
    clear hs2 hbb d6 f6
    go_upto_region 4 with fail
    have hs3 : IsSearch bx wc.heap.size X db yb hp T ab N A arcs.length c back OA oc L (w2.setCell ⟨db, s, none⟩ (.int .u64 0)) (.slice none 0 0) ((List.replicate N infN).set s 0) (List.replicate N (-1)) [] := HS2.out.setD s 0
    have hbb : Below bx w (w2.setCell ⟨db, s, none⟩ (.int .u64 0)) := HBB.out.setCell HS2.out.bs.2.1 _
    generalize (w2.setCell ⟨db, s, none⟩ (.int .u64 0)) = w3 at *
    have HS3 := Lib.hid hs3
    have HBB3 := Lib.hid hbb
    have y6 := hs3.x6
    clear hs3 hbb y4 g4 g5
    have hlo := lower_any wc.heap.size hp T ab N _ [] s 0 w3 HS3.out.heap hs (by omega) (by simp) (by intro i hi; simp at hi) (by simp)
    rw [show ((0 : Nat) : Int) = 0 from rfl] at hlo
    have HLO := Lib.hid hlo
    clear hlo
    go_upto_region 5 with ((with_reducible refine HLO.out.mono ?_); rintro e w4 ⟨rfl, v4, hh4, ht4⟩; have HH4 := Lib.hid hh4; have HT4 := Lib.hid ht4; clear hh4 ht4)
    clear HLO
    go_wp2_with fail
    go_ret
    have hbk : ∀ k, k < bx → w4.heap[k]? = w3.heap[k]? := fun k hk => by
      have h1 := HS3.out.heap.tree.bT
      have h2 := HS3.out.heap.tree.bA
      have h3 := HS3.out.ltX
      have h4 := HS3.out.lt.1
      have h5 := HS3.out.bs.1
      refine HT4.out.block k (by omega) (by omega) (by omega) (fun e => ?_)
      have := (HS3.out.heap.tree.ltV k e).1
      omega
    have hsz : w3.heap.size ≤ w4.heap.size := HT4.out.size
    have hfin : Below bx w w4 := HBB3.out.trans ⟨HT4.out.os, HT4.out.tape, HT4.out.output, hsz, hbk⟩
    have hbx := HBX.out
    subst hbx
    exact ⟨_, X, db, yb, hp, T, ab, v4, OA, oc, rfl, HS3.out.turned HH4.out HT4.out, hfin⟩

end Go.Proofs.YtjddimoeodecgaaGreat
