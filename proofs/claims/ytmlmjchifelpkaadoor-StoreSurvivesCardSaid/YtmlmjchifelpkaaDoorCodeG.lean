/- The contracts of package code's looked and Encode at lists of texts; of a store's record. -/
import Derived.Test.YtmlmjchifelpkaaDoorCodeF
namespace Go.Proofs.YtmlmjchifelpkaaDoor
open Go.RowKit Go.Lib Go.Maps
set_option linter.unusedVariables false
set_option maxRecDepth 100000

theorem Wts.below {W B K : Nat} {w w' : World} (h : Wts W B w w') (h1 : K ≤ w.heap.size) (h2 : K ≤ W) (h3 : K ≤ B) : Below K w w' := ⟨h.os, h.tape, h.output, h.size, fun k hk => h.block k (by omega) (by omega) (.inl (by omega))⟩

theorem looked_text (s : ByteArray) (d : Int) (w : World) (hd : 0 ≤ d ∧ d ≤ 8) : Calls Tryd.prog 57 #[.agg #[.int .i64 2, .int .u64 0, .string s, .slice none 0 0], .int .i64 d] w fun e w' => e = .returned (.int .i64 0) ∧ Below w.heap.size w w' := by
  obtain ⟨hd0, hd1⟩ := hd
  go_enter Tryd.func57, Tryd.ntmps57
  go_wp2_with fail
  go_loopg [53] 0 (fun gg s53 wr => s53 = .int .i64 0 ∧ Hid (Below w.heap.size w wr))
  case atStart => exact ⟨rfl, Lib.hid ((Below.refl _ _).alloc (Nat.le_refl _) _)⟩
  case round =>
    obtain ⟨rfl, HB⟩ := hrel
    go_wp2_with fail
    go_ret
    exact ⟨rfl, HB.out⟩

set_option maxHeartbeats 1000000 in
theorem looked_list (b cap : Nat) (ts : List ByteArray) (w : World) (ht : TextsAt w b ts) (hb : b < w.heap.size) (hn : ts.length ≤ 16384) : Calls Tryd.prog 57 #[.agg (listI b ts.length cap), .int .i64 1] w fun e w' => e = .returned (.int .i64 0) ∧ Below w.heap.size w w' := by
  have HT := Lib.hid ht
  clear ht
  have hn' : (ts.length : Int) ≤ 16384 := by omega
  unfold listI
  go_enter Tryd.func57, Tryd.ntmps57
  go_wp2_with fail
  go_loopg [53] ts.length (fun gg s53 wr => ∃ k : Nat, k ≤ ts.length ∧ ts.length - k ≤ gg ∧ s53 = .int .i64 k ∧ Hid (Below w.heap.size w wr))
  case atStart => exact ⟨0, by omega, by omega, rfl, Lib.hid ((Below.refl _ _).alloc (Nat.le_refl _) _)⟩
  case round =>
    obtain ⟨k, hk, hgg, rfl, HB⟩ := hrel
    by_cases hlt : k < ts.length
    · have hlt' : (k : Int) < (ts.length : Int) := by omega
      have htx := (HT.out.stays (w' := wr) (HB.out.block b hb)) k hlt
      obtain ⟨z0, z1, z2, z3⟩ := htx
      generalize ts.getD k ⟨#[]⟩ = t at *
      have q := HB.out.size
      go_wp2_with fail
      refine (looked_text t 2 _ (by decide)).mono ?_
      rintro e w5 ⟨rfl, hb5⟩
      have HB5 := Lib.hid ((HB.out.alloc (by omega) _).trans (hb5.mono (by simp; omega)))
      clear hb5
      go_wp2_with fail
      go_roundg (ts.length - (k + 1))
      case measure => omega
      case rel => exact ⟨k + 1, by omega, by omega, by go_num, HB5⟩
    · have hk2 : k = ts.length := by omega
      subst hk2
      go_wp2_with fail
      go_ret
      exact ⟨rfl, HB.out⟩

set_option maxHeartbeats 1000000 in
theorem encode_any (b cap : Nat) (ts : List ByteArray) (w : World) (ht : TextsAt w b ts) (hb : b < w.heap.size) (hn : ts.length ≤ 16384) (hl : (encTs ts).length ≤ 261000) :
    Calls Tryd.prog 43 #[.agg (listI b ts.length cap)] w fun e w' => e = .returned (.tuple #[.string ⟨(encL ts).toArray⟩, .int .i64 0]) ∧ Below w.heap.size w w' := by
  have HT := Lib.hid ht
  clear ht
  have hel : (encL ts).length ≤ 262144 := by
    have := grpB_len ts.length 2 (by omega)
    simp only [encL, List.length_cons, List.length_append]
    omega
  unfold listI
  go_enter Tryd.func43, Tryd.ntmps43
  go_wp2_with fail
  refine (looked_list b cap ts _ (HT.out.stays (Below.heap_alloc _ _ _ hb)) (by simp; omega) hn).mono ?_
  rintro e w1 ⟨rfl, hb1⟩
  have HB1 := Lib.hid (((Below.refl _ _).alloc (Nat.le_refl _) _).trans (hb1.mono (by simp)))
  have q1 : w.heap.size + 1 ≤ w1.heap.size := by have := hb1.size; simpa using this
  have cx : w1.heap[w.heap.size]? = some (.cells (listI b ts.length cap) 80 (0, 0)) := (hb1.block w.heap.size (by simp)).trans (heap_alloc_new w _)
  have ct := HT.out.stays (w' := w1) (HB1.out.block b hb)
  have HT1 := Lib.hid ct
  have HX := Lib.hid cx
  clear hb1 ct cx
  have q2 : w.heap.size < w1.heap.size := by omega
  have x0 : w1.cell? ⟨w.heap.size, 0, none⟩ = some (.int .i64 3) := cell_of_heap HX.out 0 _ rfl
  have x1 : w1.cell? ⟨w.heap.size, 1, none⟩ = some (.int .u64 0) := cell_of_heap HX.out 1 _ rfl
  have x2 : w1.cell? ⟨w.heap.size, 2, none⟩ = some (.string ⟨#[]⟩) := cell_of_heap HX.out 2 _ rfl
  have x3 : w1.cell? ⟨w.heap.size, 3, none⟩ = some (.slice (some ⟨b, 0, none⟩) ts.length cap) := cell_of_heap HX.out 3 _ rfl
  go_wp2_with fail
  refine (item_list (w1.heap.size + 1) w1.heap.size none 0 [] ts b cap _ (heap_alloc_new w1 _) (by omega) (by simp) (BRow.nil _ _) (HT1.out.stays (Below.heap_alloc _ _ _ (by omega))) (by omega) (by omega) hn (by simp; omega)).mono ?_
  rintro e w3 ⟨rfl, p3, c3, h31, h32, h33⟩
  have HB3 := Lib.hid ((HB1.out.alloc (by omega) _).trans (h33.below (K := w.heap.size) (by simp; omega) (by omega) (by omega)))
  rw [List.nil_append] at h31 h32
  have H31 := Lib.hid h31
  have H32 := Lib.hid h32
  have c31 := h31.cell
  clear h31 h32 h33 x0 x1 x2 x3
  go_wp2_with fail
  refine (full_no _ p3 _ c3 _ H31.out hel).mono ?_
  rintro e w' ⟨rfl, rfl⟩
  have htx := H32.out.text
  go_wp2_with fail
  go_ret2
  exact ⟨rfl, HB3.out⟩

/-- A record. -/
def recP (k v : ByteArray) : ByteArray := frameP ⟨(encL [k, v]).toArray⟩

theorem texts_two (w : World) (k v : ByteArray) : TextsAt (w.alloc (.cells #[.int .i64 2, .int .u64 0, .string k, .slice none 0 0, .int .i64 2, .int .u64 0, .string v, .slice none 0 0] 80)) w.heap.size [k, v] := by
  intro j hj
  have h := fun i u h => cell_of_heap (heap_alloc_new w (.cells #[.int .i64 2, .int .u64 0, .string k, .slice none 0 0, .int .i64 2, .int .u64 0, .string v, .slice none 0 0] 80)) i u h
  match j, hj with
  | 0, _ => exact ⟨h 0 _ rfl, h 1 _ rfl, h 2 _ rfl, h 3 _ rfl⟩
  | 1, _ => exact ⟨h 4 _ rfl, h 5 _ rfl, h 6 _ rfl, h 7 _ rfl⟩
theorem encL_two (k v : ByteArray) : encL [k, v] = [3, 2] ++ (2 :: (grpB k.size ++ k.data.toList)) ++ (2 :: (grpB v.size ++ v.data.toList)) := by
  simp [encL, encTs, encT, grpB_small]
theorem encL_two_len (k v : ByteArray) (hk : k.size ≤ 100000) (hv : v.size ≤ 100000) : (encL [k, v]).length ≤ k.size + v.size + 10 := by
  have := grpB_len k.size 2 (by omega)
  have := grpB_len v.size 2 (by omega)
  have := Lib.size_eq k
  have := Lib.size_eq v
  rw [encL_two]
  simp only [List.length_append, List.length_cons, List.length_nil]
  omega
theorem rec_small (k v : ByteArray) (hk : k.size ≤ 100000) (hv : v.size ≤ 100000) : ByteArray.size ⟨(encL [k, v]).toArray⟩ ≤ 262144 := by
  have := encL_two_len k v hk hv
  show (encL [k, v]).toArray.size ≤ 262144
  simp only [List.size_toArray]
  omega

theorem record_any (k v : ByteArray) (w : World) (hk : k.size ≤ 100000) (hv : v.size ≤ 100000) (hl : Laid w) : Calls Tryd.prog 28 #[.string k, .string v] w fun e w' => e = .returned (.string (recP k v)) ∧ Below w.heap.size w w' := by
  have HL := Lib.hid hl
  clear hl
  go_enter Tryd.func28, Tryd.ntmps28
  go_wp2_with fail
  refine (encode_any w.heap.size 2 [k, v] _ (texts_two w k v) (by simp) (by simp) (by have := grpB_len k.size 2 (by omega); have := grpB_len v.size 2 (by omega); have := Lib.size_eq k; have := Lib.size_eq v; simp only [encTs, encT, List.flatMap_cons, List.flatMap_nil, List.length_append, List.length_cons, List.length_nil]; omega)).mono ?_
  rintro e w1 ⟨rfl, hb1⟩
  have HB1 := Lib.hid (((Below.refl _ _).alloc (Nat.le_refl _) _).trans (hb1.mono (by simp)))
  clear hb1
  go_wp2_with fail
  refine (frame_any ⟨(encL [k, v]).toArray⟩ w1 (rec_small k v hk hv) (HL.out.stays HB1.out (Nat.le_refl _))).mono ?_
  rintro e w2 ⟨rfl, hb2⟩
  have HB2 := Lib.hid (HB1.out.trans (hb2.mono HB1.out.size))
  clear hb2
  go_wp2_with fail
  go_ret
  exact ⟨rfl, HB2.out⟩

end Go.Proofs.YtmlmjchifelpkaaDoor
