/- The contracts of package code's Decode at a list of texts, of a store's text and parsed. -/
import Derived.Test.YtmlmjchifelpkaaDoorCodeM
namespace Go.Proofs.YtmlmjchifelpkaaDoor
open Go.RowKit Go.Lib Go.Maps
set_option linter.unusedVariables false
set_option maxRecDepth 100000

def DOut (ts : List ByteArray) (w : World) (e : Ending) (w' : World) : Prop :=
  ∃ p c, e = .returned (.tuple #[.agg #[.int .i64 3, .int .u64 0, .string ⟨#[]⟩, .slice p ts.length c], .agg #[.int .i64 0, .int .i64 0]]) ∧ w'.ownsRow w.heap.size 80 4 (.slice p ts.length c) ts.length (textsV ts) ∧ Below w.heap.size w w'

theorem decode_start (w : World) (b : ByteArray) : IsReader (((w.alloc (.cells #[.int .i64 0, .int .u64 0, .string ⟨#[]⟩, .slice none 0 0] 80)).alloc (.cells #[.int .i64 0, .int .i64 0] 67)).alloc (.cells #[.string b, .int .i64 0] 111)) (w.heap.size + 1 + 1) b 0 ∧
    (((w.alloc (.cells #[.int .i64 0, .int .u64 0, .string ⟨#[]⟩, .slice none 0 0] 80)).alloc (.cells #[.int .i64 0, .int .i64 0] 67)).alloc (.cells #[.string b, .int .i64 0] 111)).heap[w.heap.size]? = some (.cells #[.int .i64 0, .int .u64 0, .string ⟨#[]⟩, .slice none 0 0] 80 (0, 0)) ∧
    (((w.alloc (.cells #[.int .i64 0, .int .u64 0, .string ⟨#[]⟩, .slice none 0 0] 80)).alloc (.cells #[.int .i64 0, .int .i64 0] 67)).alloc (.cells #[.string b, .int .i64 0] 111)).heap[w.heap.size + 1]? = some (.cells #[.int .i64 0, .int .i64 0] 67 (0, 0)) ∧
    Below w.heap.size w (((w.alloc (.cells #[.int .i64 0, .int .u64 0, .string ⟨#[]⟩, .slice none 0 0] 80)).alloc (.cells #[.int .i64 0, .int .i64 0] 67)).alloc (.cells #[.string b, .int .i64 0] 111)) ∧ (((w.alloc (.cells #[.int .i64 0, .int .u64 0, .string ⟨#[]⟩, .slice none 0 0] 80)).alloc (.cells #[.int .i64 0, .int .i64 0] 67)).alloc (.cells #[.string b, .int .i64 0] 111)).heap.size = w.heap.size + 1 + 1 + 1 := by
  refine ⟨?_, ?_, ?_, ?_, by simp⟩
  · unfold IsReader
    rw [show w.heap.size + 1 + 1 = ((w.alloc (.cells #[.int .i64 0, .int .u64 0, .string ⟨#[]⟩, .slice none 0 0] 80)).alloc (.cells #[.int .i64 0, .int .i64 0] 67)).heap.size by simp]
    exact heap_alloc_new _ _
  · rw [Below.heap_alloc _ _ _ (by simp; omega), Below.heap_alloc _ _ _ (by simp)]
    exact heap_alloc_new _ _
  · rw [Below.heap_alloc _ _ _ (by simp), show w.heap.size + 1 = (w.alloc (.cells #[.int .i64 0, .int .u64 0, .string ⟨#[]⟩, .slice none 0 0] 80)).heap.size by simp]
    exact heap_alloc_new _ _
  · exact (((Below.refl _ _).alloc (Nat.le_refl _) _).alloc (by simp) _).alloc (by simp; omega) _

set_option maxHeartbeats 200000 in
theorem decode_list (b : ByteArray) (ts : List ByteArray) (w : World) (hn : ts.length ≤ 16384) (hb : b.size ≤ 262144) (h : b.data.toList = encL ts) (hts : ∀ t ∈ ts, t.size ≤ 262144) :
    Calls Tryd.prog 51 #[.string b] w (DOut ts w) := by
  have hb1 : ¬ (262144 : Int) < (b.size : Int) := by omega
  have H := Lib.hid h
  have HTS := Lib.hid hts
  clear h hts
  go_enter Tryd.func51, Tryd.ntmps51
  go_wp2_with fail
  obtain ⟨hR, hres3, hflt3, hB3, hs3⟩ := decode_start w b
  have he : (encL ts).length = b.size := by rw [Lib.size_eq, H.out]
  generalize ((w.alloc (.cells #[.int .i64 0, .int .u64 0, .string ⟨#[]⟩, .slice none 0 0] 80)).alloc (.cells #[.int .i64 0, .int .i64 0] 67)).alloc (.cells #[.string b, .int .i64 0] 111) = w3 at *
  refine (read_list (w.heap.size + 1 + 1) b ts 0 1 [] w3 (by omega) (by omega) hR (by omega) hn HTS.out (by rw [List.drop_zero, List.append_nil]; exact H.out)).mono ?_
  rintro e w5 ⟨p, c, rfl, ho, hr5, hb5⟩
  rw [he, Nat.zero_add] at hr5
  have r1 := hr5.c1
  have hsz : w.heap.size + 1 + 1 + 1 ≤ w5.heap.size := by have := hb5.size; omega
  have hres := (hb5.block w.heap.size (by omega) (by omega)).trans hres3
  have hflt := (hb5.block (w.heap.size + 1) (by omega) (by omega)).trans hflt3
  have hB5 : Below w.heap.size w w5 := hB3.trans (hb5.below (by omega) (by omega))
  have l1 : w.heap.size < w5.heap.size := by omega
  have l2 : w.heap.size + 1 < w5.heap.size := by omega
  have l3 : w.heap.size + 1 + 1 < w5.heap.size := by omega
  have hs3' : w.heap.size ≤ w3.heap.size := by omega
  have HG : Hid (∀ g, (Value.slice p ts.length c).ownBlock = some g → w.heap.size + 3 ≤ g) := fun g hg => by have := (own_lt ho g hg).2; omega
  have HO := Lib.hid (own_mono ho hs3')
  clear hs3'
  have HRES := Lib.hid hres
  have HFLT := Lib.hid hflt
  have HB5 := Lib.hid hB5
  have HR5 := Lib.hid hr5
  clear he
  clear ho hB5 hr5 hres hflt hb5 hR hB3 hres3 hflt3 hs3
  go_upto_region 9 with fail
  have hres := (Below.heap_alloc (w5.alloc (.cells #[.int .i64 3, .int .u64 0, .string ⟨#[]⟩, .slice p ts.length c] 80)) (.cells #[.int .i64 0, .int .i64 0] 67) w.heap.size (by simp; omega)).trans ((Below.heap_alloc w5 (.cells #[.int .i64 3, .int .u64 0, .string ⟨#[]⟩, .slice p ts.length c] 80) w.heap.size (by omega)).trans HRES.out)
  have hflt := (Below.heap_alloc (w5.alloc (.cells #[.int .i64 3, .int .u64 0, .string ⟨#[]⟩, .slice p ts.length c] 80)) (.cells #[.int .i64 0, .int .i64 0] 67) (w.heap.size + 1) (by simp; omega)).trans ((Below.heap_alloc w5 (.cells #[.int .i64 3, .int .u64 0, .string ⟨#[]⟩, .slice p ts.length c] 80) (w.heap.size + 1) (by omega)).trans HFLT.out)
  have hbx := (Below.heap_alloc (w5.alloc (.cells #[.int .i64 3, .int .u64 0, .string ⟨#[]⟩, .slice p ts.length c] 80)) (.cells #[.int .i64 0, .int .i64 0] 67) w5.heap.size (by simp)).trans (heap_alloc_new w5 (.cells #[.int .i64 3, .int .u64 0, .string ⟨#[]⟩, .slice p ts.length c] 80))
  have HO6 := Lib.hid ((HO.out.alloc (.cells #[.int .i64 3, .int .u64 0, .string ⟨#[]⟩, .slice p ts.length c] 80)).alloc (.cells #[.int .i64 0, .int .i64 0] 67))
  have HB6 := Lib.hid ((HB5.out.alloc (by omega) (.cells #[.int .i64 3, .int .u64 0, .string ⟨#[]⟩, .slice p ts.length c] 80)).alloc (by simp; omega) (.cells #[.int .i64 0, .int .i64 0] 67))
  have hs6 : w5.heap.size + 1 + 1 ≤ ((w5.alloc (.cells #[.int .i64 3, .int .u64 0, .string ⟨#[]⟩, .slice p ts.length c] 80)).alloc (.cells #[.int .i64 0, .int .i64 0] 67)).heap.size := by simp
  clear HO HB5 HRES HFLT r1 HR5
  generalize (w5.alloc (.cells #[.int .i64 3, .int .u64 0, .string ⟨#[]⟩, .slice p ts.length c] 80)).alloc (.cells #[.int .i64 0, .int .i64 0] 67) = w6 at *
  have y0 : w6.cell? ⟨w.heap.size, 0, none⟩ = some (.int .i64 0) := cell_of_heap hres 0 _ rfl
  have y1 : w6.cell? ⟨w.heap.size, 1, none⟩ = some (.int .u64 0) := cell_of_heap hres 1 _ rfl
  have y2 : w6.cell? ⟨w.heap.size, 2, none⟩ = some (.string ⟨#[]⟩) := cell_of_heap hres 2 _ rfl
  have y3 : w6.cell? ⟨w.heap.size, 3, none⟩ = some (.slice none 0 0) := cell_of_heap hres 3 _ rfl
  have z0 : w6.cell? ⟨w.heap.size + 1, 0, none⟩ = some (.int .i64 0) := cell_of_heap hflt 0 _ rfl
  have z1 : w6.cell? ⟨w.heap.size + 1, 1, none⟩ = some (.int .i64 0) := cell_of_heap hflt 1 _ rfl
  have fy := thaw_of_heap hres
  have fz := thaw_of_heap hflt
  have v0 := cell_of_heap hbx 0 _ rfl
  have v1 := cell_of_heap hbx 1 _ rfl
  have v2 := cell_of_heap hbx 2 _ rfl
  have v3 := cell_of_heap hbx 3 _ rfl
  clear hres hflt hbx
  go_wp2_with fail
  refine bodyPost_ret (v := .tuple #[.agg #[.int .i64 3, .int .u64 0, .string ⟨#[]⟩, .slice p ts.length c], .agg #[.int .i64 0, .int .i64 0]]) (by simp [results, Tryd.results51, go_sem, y0, y1, y2, y3, z0, z1]; try rfl) rfl ⟨p, c, rfl, ?_, ?_⟩
  · refine own_stays HO6.out (fun g hg => ?_)
    have := HG.out g hg
    simp only [Below.heap_setCell _ _ _ _ (show g ≠ (⟨w.heap.size, _, none⟩ : Addr).block by show g ≠ w.heap.size; omega), Below.heap_setCell _ _ _ _ (show g ≠ (⟨w.heap.size + 1, _, none⟩ : Addr).block by show g ≠ w.heap.size + 1; omega)]
  · exact (((((HB6.out.setCell (Nat.le_refl _) _).setCell (Nat.le_refl _) _).setCell (Nat.le_refl _) _).setCell (Nat.le_refl _) _).setCell (Nat.le_succ _) _).setCell (Nat.le_succ _) _

theorem text_any (t : ByteArray) (w : World) : Calls Tryd.prog 52 #[.agg #[.int .i64 2, .int .u64 0, .string t, .slice none 0 0]] w fun e w' => e = .returned (.string t) ∧ Below w.heap.size w w' := by
  go_enter Tryd.func52, Tryd.ntmps52
  go_wp2_with fail
  go_ret
  exact ⟨rfl, (Below.refl _ _).alloc (Nat.le_refl _) _⟩

theorem smay_any (k : ByteArray) (w : World) (h : 1 ≤ k.size ∧ k.size ≤ 64) : Calls Tryd.prog 26 #[.string k] w fun e w' => e = .returned (.bool true) ∧ w = w' := by
  obtain ⟨h1, h2⟩ := h
  go_enter Tryd.func26, Tryd.ntmps26
  go_wp2
  go_ret
  exact ⟨by simp; omega, rfl⟩

theorem smay_not (k : ByteArray) (w : World) (h : ¬ (1 ≤ k.size ∧ k.size ≤ 64)) : Calls Tryd.prog 26 #[.string k] w fun e w' => e = .returned (.bool false) ∧ w = w' := by
  go_enter Tryd.func26, Tryd.ntmps26
  go_wp2
  all_goals (go_ret; first | exact ⟨rfl, rfl⟩ | (refine ⟨?_, rfl⟩; simp; omega))

theorem keep9 {W w' : World} {X g c : Nat} {k v : ByteArray} (hb : Below W.heap.size W w') (h : W.cell? ⟨X, 3, none⟩ = some (.slice (some ⟨g, 0, none⟩) 2 c) ∧ W.cell? ⟨g, 0, none⟩ = some (.int .i64 2) ∧ W.cell? ⟨g, 1, none⟩ = some (.int .u64 0) ∧ W.cell? ⟨g, 2, none⟩ = some (.string k) ∧ W.cell? ⟨g, 3, none⟩ = some (.slice none 0 0) ∧ W.cell? ⟨g, 4, none⟩ = some (.int .i64 2) ∧ W.cell? ⟨g, 5, none⟩ = some (.int .u64 0) ∧ W.cell? ⟨g, 6, none⟩ = some (.string v) ∧ W.cell? ⟨g, 7, none⟩ = some (.slice none 0 0)) : w'.cell? ⟨X, 3, none⟩ = some (.slice (some ⟨g, 0, none⟩) 2 c) ∧ w'.cell? ⟨g, 0, none⟩ = some (.int .i64 2) ∧ w'.cell? ⟨g, 1, none⟩ = some (.int .u64 0) ∧ w'.cell? ⟨g, 2, none⟩ = some (.string k) ∧ w'.cell? ⟨g, 3, none⟩ = some (.slice none 0 0) ∧ w'.cell? ⟨g, 4, none⟩ = some (.int .i64 2) ∧ w'.cell? ⟨g, 5, none⟩ = some (.int .u64 0) ∧ w'.cell? ⟨g, 6, none⟩ = some (.string v) ∧ w'.cell? ⟨g, 7, none⟩ = some (.slice none 0 0) := by
  obtain ⟨h0, h1, h2, h3, h4, h5, h6, h7, h8⟩ := h
  have l := fun {a : Addr} {u : Value} (h : W.cell? a = some u) => (hb.cell (World.block_lt_of_cell? W a h)).trans h
  exact ⟨l h0, l h1, l h2, l h3, l h4, l h5, l h6, l h7, l h8⟩
theorem two_cells {w : World} {B : Nat} {p : Option Addr} {c : Nat} {k v : ByteArray} (h : w.ownsRow B 80 4 (.slice p 2 c) 2 (textsV [k, v])) :
    ∃ g, p = some ⟨g, 0, none⟩ ∧ B ≤ g ∧ w.cell? ⟨g, 0, none⟩ = some (.int .i64 2) ∧ w.cell? ⟨g, 1, none⟩ = some (.int .u64 0) ∧ w.cell? ⟨g, 2, none⟩ = some (.string k) ∧ w.cell? ⟨g, 3, none⟩ = some (.slice none 0 0) ∧ w.cell? ⟨g, 4, none⟩ = some (.int .i64 2) ∧ w.cell? ⟨g, 5, none⟩ = some (.int .u64 0) ∧ w.cell? ⟨g, 6, none⟩ = some (.string v) ∧ w.cell? ⟨g, 7, none⟩ = some (.slice none 0 0) := by
  rcases h.2 with ⟨_, hn⟩ | ⟨g, cap, cur, hv, hb, hg, hnc, hcm, hcs, ht⟩
  · cases hn
  · cases hv
    have hat := fun j u (hu : (textsV [k, v])[j]? = some u) => show w.cell? ⟨g, j, none⟩ = some u by
      have : cur[j]? = some u := by
        rw [← ht] at hu
        rw [List.getElem?_take] at hu
        split at hu
        · simpa using hu
        · cases hu
      exact cell_of_heap hg j u this
    exact ⟨g, rfl, hb, hat 0 _ rfl, hat 1 _ rfl, hat 2 _ rfl, hat 3 _ rfl, hat 4 _ rfl, hat 5 _ rfl, hat 6 _ rfl, hat 7 _ rfl⟩

set_option maxHeartbeats 2000000 in
theorem parsed_any (k v : ByteArray) (w : World) (hk : 1 ≤ k.size ∧ k.size ≤ 64) (hv : v.size ≤ 65536) :
    Calls Tryd.prog 37 #[.string ⟨(encL [k, v]).toArray⟩] w fun e w' => e = .returned (.tuple #[.string k, .string v]) ∧ Below w.heap.size w w' := by
  go_enter Tryd.func37, Tryd.ntmps37
  go_wp2_with fail
  refine (decode_list _ [k, v] w (by simp) (rec_small k v (by omega) (by omega)) rfl (by intro t ht; simp at ht; rcases ht with rfl | rfl <;> omega)).mono ?_
  rintro e w1 ⟨p, c, rfl, ho, hb1⟩
  obtain ⟨g, rfl, hgB, q0, q1, q2, q3, q4, q5, q6, q7⟩ := two_cells ho
  have hgl := World.block_lt_of_cell? w1 _ q0
  have HB1 := Lib.hid hb1
  have q := hb1.size
  clear hb1 ho
  go_wp2_with fail
  have hB2 : Below w.heap.size w ((w1.alloc (.cells #[.int .i64 3, .int .u64 0, .string ⟨#[]⟩, .slice (some ⟨g, 0, none⟩) 2 c] 80)).alloc (.cells #[.int .i64 0, .int .i64 0] 67)) := (HB1.out.alloc q _).alloc (by simp; omega) _
  have hx := (Below.heap_alloc (w1.alloc (.cells #[.int .i64 3, .int .u64 0, .string ⟨#[]⟩, .slice (some ⟨g, 0, none⟩) 2 c] 80)) (.cells #[.int .i64 0, .int .i64 0] 67) w1.heap.size (by simp)).trans (heap_alloc_new w1 _)
  have hq2 : w.heap.size + 2 ≤ ((w1.alloc (.cells #[.int .i64 3, .int .u64 0, .string ⟨#[]⟩, .slice (some ⟨g, 0, none⟩) 2 c] 80)).alloc (.cells #[.int .i64 0, .int .i64 0] 67)).heap.size := by simp; omega
  have hB12 : Below w1.heap.size w1 ((w1.alloc (.cells #[.int .i64 3, .int .u64 0, .string ⟨#[]⟩, .slice (some ⟨g, 0, none⟩) 2 c] 80)).alloc (.cells #[.int .i64 0, .int .i64 0] 67)) := ((Below.refl _ w1).alloc (Nat.le_refl _) _).alloc (by simp) _
  have l := fun (j : Nat) {u : Value} (h : w1.cell? ⟨g, j, none⟩ = some u) => (hB12.cell (p := ⟨g, j, none⟩) hgl).trans h
  have hx3 := cell_of_heap hx 3 _ rfl
  have t0 := l 0 q0
  have t1 := l 1 q1
  have t2 := l 2 q2
  have t3 := l 3 q3
  have t4 := l 4 q4
  have t5 := l 5 q5
  have t6 := l 6 q6
  have t7 := l 7 q7
  have HB2 := Lib.hid hB2
  clear l hB12 hx hB2 q0 q1 q2 q3 q4 q5 q6 q7
  generalize ((w1.alloc (.cells #[.int .i64 3, .int .u64 0, .string ⟨#[]⟩, .slice (some ⟨g, 0, none⟩) 2 c] 80)).alloc (.cells #[.int .i64 0, .int .i64 0] 67)) = w2 at *
  go_region_held3 (fun w' => w'.cell? ⟨w1.heap.size, 3, none⟩ = some (.slice (some ⟨g, 0, none⟩) 2 c) ∧ w'.cell? ⟨g, 0, none⟩ = some (.int .i64 2) ∧ w'.cell? ⟨g, 1, none⟩ = some (.int .u64 0) ∧ w'.cell? ⟨g, 2, none⟩ = some (.string k) ∧ w'.cell? ⟨g, 3, none⟩ = some (.slice none 0 0) ∧ w'.cell? ⟨g, 4, none⟩ = some (.int .i64 2) ∧ w'.cell? ⟨g, 5, none⟩ = some (.int .u64 0) ∧ w'.cell? ⟨g, 6, none⟩ = some (.string v) ∧ w'.cell? ⟨g, 7, none⟩ = some (.slice none 0 0))
    (first | exact keep9 hbv (by assumption) | exact keep9 hbk (by assumption) | (go_keep; done))
    (first | (go_at_call 52; (with_reducible refine (text_any k _).mono ?_); rintro e w3 ⟨rfl, hbk⟩) | (go_at_call 52; (with_reducible refine (text_any v _).mono ?_); rintro e w4 ⟨rfl, hbv⟩))
  have q4 := hbk.size
  have q5 := hbv.size
  have q6 : w.heap.size ≤ w2.heap.size := by omega
  have HB4 := Lib.hid ((HB2.out.drew.trans (hbk.mono q6)).trans (hbv.mono (Nat.le_trans q6 q4)))
  clear hbk hbv q4 q5 q6
  go_wp2_with fail
  refine (smay_any k _ hk).mono ?_
  rintro e w' ⟨rfl, rfl⟩
  go_wp2_with fail
  go_ret2
  exact ⟨rfl, HB4.out⟩

end Go.Proofs.YtmlmjchifelpkaaDoor
