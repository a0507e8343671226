/- The contracts of package code's (*reader).item and Decode at what was written of texts. -/
import Derived.Test.YtmlmjchifelpkaaDoorCodeJ
import Derived.Test.YtmlmjchifelpkaaDoorCodeG
import Derived.StillTailTactics
namespace Go.Proofs.YtmlmjchifelpkaaDoor
open Go.RowKit Go.Lib Go.Maps
set_option linter.unusedVariables false
set_option maxRecDepth 100000

theorem scan_grp (n : Nat) : ∀ (k : Nat) (rest : List UInt8), k + (grpB n).length ≤ 9 → (k = 0 ∨ 1 ≤ n) → numScan (grpB n ++ rest) k = (0, k + (grpB n).length - 1) := by
  induction n using Nat.strongRecOn with
  | _ n ih =>
    intro k rest hk hz
    by_cases hs : n < 128
    · rw [grpB_small n hs] at hk ⊢
      simp only [List.length_singleton, List.singleton_append] at hk ⊢
      unfold numScan
      have e : (UInt8.ofNat n).toNat = n := by simp; omega
      rw [e, if_neg (by omega), if_pos hs, if_neg (by omega)]
      simp
    · rw [grpB_large n (by omega)] at hk ⊢
      simp only [List.length_cons, List.cons_append] at hk ⊢
      unfold numScan
      have e : (UInt8.ofNat (n % 128 + 128)).toNat = n % 128 + 128 := by simp; omega
      rw [e, if_neg (by omega), if_neg (by omega), ih (n / 128) (by omega) (k + 1) rest (by omega) (by omega)]
      simp only [Prod.mk.injEq, true_and]
      omega
theorem val_grp (n : Nat) : numVal (grpB n) = n := by
  induction n using Nat.strongRecOn with
  | _ n ih =>
    by_cases hs : n < 128
    · rw [grpB_small n hs]
      simp only [numVal, UInt8.toNat_ofNat']
      omega
    · rw [grpB_large n (by omega)]
      simp only [numVal, UInt8.toNat_ofNat', ih (n / 128) (by omega)]
      omega
theorem grpB_pos (n : Nat) : 1 ≤ (grpB n).length := by
  rw [grpB]
  split <;> simp

/-- The number of groups that were written, read. -/
theorem number_grp (R : Nat) (b : ByteArray) (i n : Nat) (rest : List UInt8) (w : World) (hb : b.size ≤ 1000000) (hi : i ≤ b.size) (hR : IsReader w R b i) (hn : (grpB n).length ≤ 9) (h : b.data.toList.drop i = grpB n ++ rest) :
    Calls Tryd.prog 83 #[.pointer (some ⟨R, 0, none⟩)] w (NOut R b i n 0 0 (i + (grpB n).length) w) := by
  have hs := scan_grp n 0 rest (by omega) (.inl rfl)
  have hp := grpB_pos n
  have := number_any R b i w hb hi hR _ (by rw [h]; exact hs)
  rw [h, show 0 + (grpB n).length - 1 + 1 = (grpB n).length by omega, List.take_left, val_grp, show i + (0 + (grpB n).length - 1) + 1 = i + (grpB n).length by omega] at this
  exact this

/-- What reading an item answers. -/
def IOut (R : Nat) (b : ByteArray) (x : Value) (j : Nat) (w : World) (e : Ending) (w' : World) : Prop :=
  e = .returned (.tuple #[x, .agg #[.int .i64 0, .int .i64 0]]) ∧ IsReader w' R b j ∧ But R w w'

theorem IsReader.other {w : World} {R : Nat} {b : ByteArray} {i : Nat} (h : IsReader w R b i) (k o : Nat) (v : Value) (hk : k ≠ R) : IsReader (w.setCell ⟨k, o, none⟩ v) R b i := (Below.heap_setCell _ _ _ _ (fun e => hk e.symm)).trans h
theorem But.new {R : Nat} {w w' : World} (h : But R w w') (k o : Nat) (v : Value) (hk : w.heap.size ≤ k) : But R w (w'.setCell ⟨k, o, none⟩ v) :=
  ⟨h.os, h.tape, h.output, by have := h.size; simpa [World.setCell] using this, fun i hi hn => (Below.heap_setCell _ _ _ _ (by show i ≠ k; omega)).trans (h.block i hi hn)⟩
theorem But.own {R : Nat} {w w' : World} (h : But R w w') (o : Nat) (v : Value) : But R w (w'.setCell ⟨R, o, none⟩ v) := h.trans (But.set R w' o v)
theorem IsReader.drew {w : World} {R : Nat} {b : ByteArray} {i : Nat} (h : IsReader w R b i) : IsReader w.drew R b i := h
theorem But.drew {R : Nat} {w w' : World} (h : But R w w') : But R w w'.drew := ⟨h.os, h.tape, h.output, h.size, h.block⟩
theorem thaw_of_heap {w : World} {X : Nat} {cx : Array Value} {t : TypeId} (h : w.heap[X]? = some (.cells cx t (0, 0))) (j : Nat) : w.frozen? ⟨X, j, none⟩ = false := by simp [World.frozen?, h]

/-- In the midst of reading an item. -/
structure RSt (R N : Nat) (b : ByteArray) (w0 : World) (xs : Array Value) (j : Nat) (w : World) : Prop where
  rd : IsReader w R b j
  res : w.heap[N]? = some (.cells #[.int .i64 0, .int .u64 0, .string ⟨#[]⟩, .slice none 0 0] 80 (0, 0))
  flt : w.heap[N + 1]? = some (.cells #[.int .i64 0, .int .i64 0] 67 (0, 0))
  x : w.heap[N + 2]? = some (.cells xs 80 (0, 0))
  but : But R w0 w
  size : N + 3 ≤ w.heap.size
  lt : R < N
  base : w0.heap.size = N
section
variable {R N : Nat} {b : ByteArray} {w0 w w' : World} {xs : Array Value} {j : Nat}
theorem RSt.start (hR : IsReader w R b j) (n : Nat) : RSt R w.heap.size b w xs n ((((w.setCell ⟨R, 1, none⟩ (.int .i64 n)).alloc (.cells #[.int .i64 0, .int .u64 0, .string ⟨#[]⟩, .slice none 0 0] 80)).alloc (.cells #[.int .i64 0, .int .i64 0] 67)).alloc (.cells xs 80)) := by
  have hlt : R < w.heap.size := (Array.getElem?_eq_some_iff.1 hR).1
  have hs : (w.setCell ⟨R, 1, none⟩ (.int .i64 n)).heap.size = w.heap.size := by simp [World.setCell]
  refine ⟨(((hR.set n).alloc _).alloc _).alloc _, ?_, ?_, ?_, (((But.set R w 1 _).alloc _).alloc _).alloc _, ?_, hlt, rfl⟩
  · rw [Below.heap_alloc _ _ _ (by simp [hs]; omega), Below.heap_alloc _ _ _ (by simp [hs]), ← hs]; exact heap_alloc_new _ _
  · rw [Below.heap_alloc _ _ _ (by simp [hs]), show w.heap.size + 1 = ((w.setCell ⟨R, 1, none⟩ (.int .i64 n)).alloc (.cells #[.int .i64 0, .int .u64 0, .string ⟨#[]⟩, .slice none 0 0] 80)).heap.size by simp [hs]]; exact heap_alloc_new _ _
  · rw [show w.heap.size + 2 = (((w.setCell ⟨R, 1, none⟩ (.int .i64 n)).alloc (.cells #[.int .i64 0, .int .u64 0, .string ⟨#[]⟩, .slice none 0 0] 80)).alloc (.cells #[.int .i64 0, .int .i64 0] 67)).heap.size by simp [hs]]; exact heap_alloc_new _ _
  · simp [hs]
theorem RSt.next (h : RSt R N b w0 xs j w) {j' : Nat} (h1 : IsReader w' R b j') (h2 : But R w w') : RSt R N b w0 xs j' w' := by
  have hs := h.size
  have hl := h.lt
  exact ⟨h1, (h2.block N (by omega) (by omega)).trans h.res, (h2.block (N + 1) (by omega) (by omega)).trans h.flt, (h2.block (N + 2) (by omega) (by omega)).trans h.x, h.but.trans h2, Nat.le_trans hs h2.size, hl, h.base⟩
theorem RSt.alloc (h : RSt R N b w0 xs j w) (o : Obj) : RSt R N b w0 xs j (w.alloc o) := h.next (h.rd.alloc o) (But.of_below ((Below.refl _ _).alloc (Nat.le_refl _) o) R)
theorem RSt.drewN (h : RSt R N b w0 xs j w) (n : Nat) : RSt R N b w0 xs j (w.drewN n) := ⟨h.rd, h.res, h.flt, h.x, ⟨h.but.os, h.but.tape, h.but.output, h.but.size, h.but.block⟩, h.size, h.lt, h.base⟩
theorem RSt.xc (h : RSt R N b w0 xs j w) (i : Nat) (v : Value) (hv : xs[i]? = some v) : w.cell? ⟨N + 1 + 1, i, none⟩ = some v := cell_of_heap h.x i v hv
theorem RSt.setX (h : RSt R N b w0 xs j w) (i : Nat) (v : Value) (hi : i < xs.size) : RSt R N b w0 (xs.setIfInBounds i v) j (w.setCell ⟨N + 1 + 1, i, none⟩ v) := by
  have hs := h.size
  have hl := h.lt
  have hb := h.base
  refine ⟨(Below.heap_setCell _ _ _ _ (by show R ≠ N + 1 + 1; omega)).trans h.rd, (Below.heap_setCell _ _ _ _ (by show N ≠ N + 1 + 1; omega)).trans h.res, (Below.heap_setCell _ _ _ _ (by show N + 1 ≠ N + 1 + 1; omega)).trans h.flt, ?_, ⟨h.but.os, h.but.tape, h.but.output, by have := h.but.size; simpa [World.setCell] using this, fun k hk hn => (Below.heap_setCell _ _ _ _ (by show k ≠ N + 1 + 1; omega)).trans (h.but.block k hk hn)⟩, by simp [World.setCell]; omega, hl, hb⟩
  · unfold World.setCell
    simp only [Array.getElem?_modify, if_pos trivial]
    rw [show N + 1 + 1 = N + 2 from rfl, h.x]
    rfl
end

set_option maxHeartbeats 4000000 in
theorem read_text (R : Nat) (b s : ByteArray) (i d : Nat) (rest : List UInt8) (w : World) (hb : b.size ≤ 1000000) (hi : i ≤ b.size) (hR : IsReader w R b i) (hd : d ≤ 8) (hs : s.size ≤ 262144) (h : b.data.toList.drop i = encT s ++ rest) :
    Calls Tryd.prog 73 #[.pointer (some ⟨R, 0, none⟩), .int .i64 d] w (IOut R b (.agg #[.int .i64 2, .int .u64 0, .string s, .slice none 0 0]) (i + (encT s).length) w) := by
  have c0 := hR.c0
  have c1 := hR.c1
  have f1 := hR.thaw 1
  have hRlt : R < w.heap.size := World.block_lt_of_cell? w _ c0
  have hR1 : R < w.heap.size + 1 := by omega
  have hR2 : R < w.heap.size + 1 + 1 := by omega
  have hR3 : R < w.heap.size + 1 + 1 + 1 := by omega
  have hd' : ¬ (8 : Int) < (d : Int) := by omega
  have hlen : i < b.size := by
    rcases Nat.lt_or_ge i b.size with h1 | h1
    · exact h1
    · rw [List.drop_eq_nil_of_le (by rw [← Lib.size_eq]; exact h1)] at h
      simp [encT] at h
  have hlt : (i : Int) < (b.size : Int) := by omega
  have hbi : b[i] = 2 := by
    have e : b.data.toList.drop i = b[i] :: b.data.toList.drop (i + 1) := by
      rw [List.drop_eq_getElem_cons (by rw [← Lib.size_eq]; exact hlen)]; rfl
    rw [e] at h
    exact (List.cons.inj h).1
  have hbn : (b[i].toNat : Int) = 2 := by rw [hbi]; rfl
  have HR := Lib.hid hR
  have H := Lib.hid h
  clear hR h hbi
  go_enter Tryd.func73, Tryd.ntmps73
  go_wp2_with fail
  have HQ := Lib.hid (RSt.start (xs := #[.int .i64 2, .int .u64 0, .string ⟨#[]⟩, .slice none 0 0]) HR.out (i + 1))
  have hgl := grpB_len s.size 2 (by omega)
  have hdn : b.data.toList.drop (i + 1) = grpB s.size ++ (s.data.toList ++ rest) := by
    rw [← List.drop_drop, H.out]
    simp [encT]
  have hsl := Lib.size_eq s
  have hbl := Lib.size_eq b
  have hbz : b.data.toList.length - (i + 1) = (grpB s.size).length + (s.size + rest.length) := by rw [← List.length_drop, hdn, List.length_append, List.length_append, hsl]
  refine (number_grp R b (i + 1) s.size (s.data.toList ++ rest) _ hb (by omega) HQ.out.rd (by omega) hdn).mono ?_
  rintro e w5 ⟨rfl, hr5, hb5⟩
  have HQ5 := Lib.hid (HQ.out.next hr5 hb5)
  have HSX : Hid (b.extract (i + 1 + (grpB s.size).length) (i + 1 + (grpB s.size).length + s.size) = s) := by
    apply Lib.hid
    apply bytes_eq
    rw [drop_extract, List.drop_take, ← List.drop_drop, hdn, List.drop_left, List.take_left' (by omega)]
  have HJ : Hid (i + 1 + (grpB s.size).length + s.size = i + (encT s).length) := by
    apply Lib.hid
    simp only [encT, List.length_cons, List.length_append]
    omega
  have hjb : i + 1 + (grpB s.size).length + s.size ≤ b.size := by omega
  clear hr5 hb5 HQ hdn hbz hgl hsl hbl H
  generalize i + 1 + (grpB s.size).length = j at *
  have r0 := HQ5.out.rd.c0
  have r1 := HQ5.out.rd.c1
  have x0 : w5.cell? ⟨w.heap.size + 1 + 1, 0, none⟩ = some (.int .i64 2) := HQ5.out.xc 0 _ rfl
  have hsz5 := HQ5.out.size
  have l1 : R < w5.heap.size := by omega
  have l2 : w.heap.size + 1 + 1 < w5.heap.size := by omega
  have en1 : IntKind.u64.wrap ((b.size : Int) - (j : Int)) = (b.size : Int) - (j : Int) := by rw [IntKind.wrap_u64]; omega
  have en2 : ¬ (b.size : Int) - (j : Int) < (s.size : Int) := by omega
  have en3 : ((b.size : Int) - (j : Int) < (s.size : Int)) = False := by simp; omega
  clear en3
  go_upto_region 26 with fail
  go_quiet (fail)
  go_upto_region 28 with fail
  have HQ6 := Lib.hid ((HQ5.out.alloc (.cells #[.int .i64 0, .int .i64 0] 67)).drewN nq)
  generalize (w5.alloc (.cells #[.int .i64 0, .int .i64 0] 67)).drewN nq = w6 at *
  clear r0 r1 x0 hsz5 l1 l2 HQ5
  have r0 := HQ6.out.rd.c0
  have r1 := HQ6.out.rd.c1
  have x0 : w6.cell? ⟨w.heap.size + 1 + 1, 0, none⟩ = some (.int .i64 2) := HQ6.out.xc 0 _ rfl
  have x1 : w6.cell? ⟨w.heap.size + 1 + 1, 1, none⟩ = some (.int .u64 0) := HQ6.out.xc 1 _ rfl
  have x2 : w6.cell? ⟨w.heap.size + 1 + 1, 2, none⟩ = some (.string ⟨#[]⟩) := HQ6.out.xc 2 _ rfl
  have x3 : w6.cell? ⟨w.heap.size + 1 + 1, 3, none⟩ = some (.slice none 0 0) := HQ6.out.xc 3 _ rfl
  have y0 : w6.cell? ⟨w.heap.size, 0, none⟩ = some (.int .i64 0) := cell_of_heap HQ6.out.res 0 _ rfl
  have y1 : w6.cell? ⟨w.heap.size, 1, none⟩ = some (.int .u64 0) := cell_of_heap HQ6.out.res 1 _ rfl
  have y2 : w6.cell? ⟨w.heap.size, 2, none⟩ = some (.string ⟨#[]⟩) := cell_of_heap HQ6.out.res 2 _ rfl
  have y3 : w6.cell? ⟨w.heap.size, 3, none⟩ = some (.slice none 0 0) := cell_of_heap HQ6.out.res 3 _ rfl
  have z0 : w6.cell? ⟨w.heap.size + 1, 0, none⟩ = some (.int .i64 0) := cell_of_heap HQ6.out.flt 0 _ rfl
  have z1 : w6.cell? ⟨w.heap.size + 1, 1, none⟩ = some (.int .i64 0) := cell_of_heap HQ6.out.flt 1 _ rfl
  have fy := thaw_of_heap HQ6.out.res
  have fz := thaw_of_heap HQ6.out.flt
  have fx := thaw_of_heap HQ6.out.x
  have fr := HQ6.out.rd.thaw 1
  have hsz6 := HQ6.out.size
  have l1 : R < w6.heap.size := by omega
  have l2 : w.heap.size + 1 + 1 < w6.heap.size := by omega
  have en4 : ((j : Int) + (s.size : Int)).toNat = j + s.size := by omega
  have en5 : (j : Int) + (s.size : Int) ≤ (b.size : Int) := by omega
  have en6 : (j : Int) ≤ (j : Int) + (s.size : Int) := by omega
  have en7 : (j : Int) ≤ (b.size : Int) := by omega
  have ew1 : IntKind.i64.wrap (s.size : Int) = (s.size : Int) := IntWalk.i64_in _ (by omega)
  have ew2 : IntKind.i64.wrap ((j : Int) + (s.size : Int)) = (j : Int) + (s.size : Int) := IntWalk.i64_in _ (by omega)
  have ew3 : (0 : Int) ≤ (j : Int) + (s.size : Int) := by omega
  go_still_tail 17, (by kernel_rfl)
  change wpList _ _ _ _ _ w6.drew
  go_wp2_with fail
  rw [HSX.out, show ((j : Int) + (s.size : Int)) = ((j + s.size : Nat) : Int) by omega]
  have hNR : w.heap.size ≠ R := by omega
  have hNR1 : w.heap.size + 1 ≠ R := by omega
  have hNR2 : w.heap.size + 1 + 1 ≠ R := by omega
  refine bodyPost_ret (v := .tuple #[.agg #[.int .i64 2, .int .u64 0, .string s, .slice none 0 0], .agg #[.int .i64 0, .int .i64 0]]) (by simp [results, Tryd.results73, go_sem, y0, y1, y2, y3, z0, z1]; try rfl) rfl ⟨rfl, ?_, ?_⟩
  · rw [← HJ.out]
    exact ((((((((HQ6.out.rd.other _ _ _ hNR2).set (j + s.size)).other _ _ _ hNR).other _ _ _ hNR).other _ _ _ hNR).other _ _ _ hNR).other _ _ _ hNR1).other _ _ _ hNR1).drew
  · exact ((((((((HQ6.out.but.new _ _ _ (by omega)).own _ _).new _ _ _ (by omega)).new _ _ _ (by omega)).new _ _ _ (by omega)).new _ _ _ (by omega)).new _ _ _ (by omega)).new _ _ _ (by omega)).drew

end Go.Proofs.YtmlmjchifelpkaaDoor
