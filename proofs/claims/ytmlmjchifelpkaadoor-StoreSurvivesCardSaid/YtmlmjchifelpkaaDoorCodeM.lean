/- The contract of package code's (*reader).item at a list of texts. -/
import Derived.Test.YtmlmjchifelpkaaDoorCodeK
namespace Go.Proofs.YtmlmjchifelpkaaDoor
open Go.RowKit Go.Lib Go.Maps
set_option linter.unusedVariables false
set_option maxRecDepth 100000

theorem infoItem : (Tryd.prog.info? 80).map (fun i => (i.zero, i.size, i.bytes)) = some (some (.agg #[.int .i64 0, .int .u64 0, .string ⟨#[]⟩, .slice none 0 0]), 4, 56) := by kernel_rfl

/-- Texts as cells. -/
def textV (t : ByteArray) : List Value := [.int .i64 2, .int .u64 0, .string t, .slice none 0 0]
def textsV (ts : List ByteArray) : List Value := ts.flatMap textV
theorem textsV_snoc (ts : List ByteArray) (k : Nat) (h : k < ts.length) : textsV (ts.take (k + 1)) = textsV (ts.take k) ++ textV (ts.getD k ⟨#[]⟩) := by
  unfold textsV
  rw [List.take_succ_eq_append_getElem h, List.getD_eq_getElem?_getD, List.getElem?_eq_getElem h, List.flatMap_append, Option.getD_some]
  simp only [List.flatMap_cons, List.flatMap_nil, List.append_nil]

theorem own_stays {w w' : World} {B size n : Nat} {e : TypeId} {v : Value} {xs : List Value} (hr : w.ownsRow B e size v n xs) (h : ∀ k, v.ownBlock = some k → w'.heap[k]? = w.heap[k]?) : w'.ownsRow B e size v n xs := by
  refine ⟨hr.1, ?_⟩
  rcases hr.2 with h0 | ⟨g, cap, cur, rfl, hb, hg, rest⟩
  · exact .inl h0
  · exact .inr ⟨g, cap, cur, rfl, hb, by rw [h g rfl]; exact hg, rest⟩
theorem own_lt {w : World} {B size n : Nat} {e : TypeId} {v : Value} {xs : List Value} (hr : w.ownsRow B e size v n xs) : ∀ k, v.ownBlock = some k → k < w.heap.size ∧ B ≤ k := by
  rcases hr.2 with ⟨rfl, hn⟩ | ⟨g, cap, cur, rfl, hb, hg, _⟩
  · intro k hk; cases hk
  · intro k hk; cases hk; exact ⟨(Array.getElem?_eq_some_iff.1 hg).1, hb⟩
theorem own_form {w : World} {B size n : Nat} {e : TypeId} {v : Value} {xs : List Value} (hr : w.ownsRow B e size v n xs) : ∃ p c, v = .slice p n c := by
  rcases hr.2 with ⟨rfl, hn⟩ | ⟨g, cap, cur, rfl, _⟩
  · exact ⟨none, 0, by rw [hn]⟩
  · exact ⟨_, _, rfl⟩

theorem RSt.grown {R N : Nat} {b : ByteArray} {w0 w w' : World} {xs : Array Value} {j : Nat} {row : Option Nat} (h : RSt R N b w0 xs j w) (hg : w.grownBy w' row) (hr : ∀ k, row = some k → N + 3 ≤ k) : RSt R N b w0 xs j w' := by
  have hs := h.size
  have hl := h.lt
  have hb := h.base
  have e : ∀ k, k < N + 3 → w'.heap[k]? = w.heap[k]? := fun k hk => hg.block k (by omega) (fun e => by have := hr k e.symm; omega)
  exact ⟨(e R (by omega)).trans h.rd, (e N (by omega)).trans h.res, (e (N + 1) (by omega)).trans h.flt, (e (N + 2) (by omega)).trans h.x, ⟨hg.os.trans h.but.os, hg.tape.trans h.but.tape, hg.output.trans h.but.output, Nat.le_trans h.but.size hg.size, fun k hk hn => (e k (by omega)).trans (h.but.block k hk hn)⟩, Nat.le_trans hs hg.size, hl, hb⟩

theorem encTs_drop (ts : List ByteArray) (k : Nat) (h : k < ts.length) : encTs (ts.drop k) = encT (ts.getD k ⟨#[]⟩) ++ encTs (ts.drop (k + 1)) := by
  unfold encTs
  rw [List.drop_eq_getElem_cons h, List.flatMap_cons, List.getD_eq_getElem?_getD, List.getElem?_eq_getElem h, Option.getD_some]

theorem cell_four_at (w : World) (x y z u : Value) (t : TypeId) (g : Nat) (hg : w.heap.size = g) : ∀ j v, [x, y, z, u][j]? = some v → (w.alloc (.cells #[x, y, z, u] t)).cell? ((⟨g, 0, none⟩ : Addr).add j) = some v := by
  subst hg
  exact cell_four_new w x y z u t

theorem own_mono {w : World} {B B' size n : Nat} {e : TypeId} {v : Value} {xs : List Value} (hr : w.ownsRow B e size v n xs) (h : B' ≤ B) : w.ownsRow B' e size v n xs := by
  refine ⟨hr.1, ?_⟩
  rcases hr.2 with h0 | ⟨g, cap, cur, rfl, hb, rest⟩
  · exact .inl h0
  · exact .inr ⟨g, cap, cur, rfl, by omega, rest⟩

/-- What reading a list of texts answers. -/
def LOut (R : Nat) (b : ByteArray) (ts : List ByteArray) (j : Nat) (w : World) (e : Ending) (w' : World) : Prop :=
  ∃ p c, e = .returned (.tuple #[.agg #[.int .i64 3, .int .u64 0, .string ⟨#[]⟩, .slice p ts.length c], .agg #[.int .i64 0, .int .i64 0]]) ∧ w'.ownsRow w.heap.size 80 4 (.slice p ts.length c) ts.length (textsV ts) ∧ IsReader w' R b j ∧ But R w w'

set_option maxHeartbeats 4000000 in
theorem read_list (R : Nat) (b : ByteArray) (ts : List ByteArray) (i d : Nat) (rest : List UInt8) (w : World) (hb : b.size ≤ 1000000) (hi : i ≤ b.size) (hR : IsReader w R b i) (hd : d ≤ 7) (hn : ts.length ≤ 16384) (hts : ∀ t ∈ ts, t.size ≤ 262144) (h : b.data.toList.drop i = encL ts ++ rest) :
    Calls Tryd.prog 73 #[.pointer (some ⟨R, 0, none⟩), .int .i64 d] w (LOut R b ts (i + (encL ts).length) w) := by
  have c0 := hR.c0
  have c1 := hR.c1
  have f1 := hR.thaw 1
  have hRlt : R < w.heap.size := World.block_lt_of_cell? w _ c0
  have hR1 : R < w.heap.size + 1 := by omega
  have hR2 : R < w.heap.size + 1 + 1 := by omega
  have hR3 : R < w.heap.size + 1 + 1 + 1 := by omega
  have hd' : ¬ (8 : Int) < (d : Int) := by omega
  have hlen : i < b.size := by
    rcases Nat.lt_or_ge i b.size with h1 | h1
    · exact h1
    · rw [List.drop_eq_nil_of_le (by rw [← Lib.size_eq]; exact h1)] at h
      simp [encL] at h
  have hlt : (i : Int) < (b.size : Int) := by omega
  have hbi : b[i] = 3 := by
    have e : b.data.toList.drop i = b[i] :: b.data.toList.drop (i + 1) := by
      rw [List.drop_eq_getElem_cons (by rw [← Lib.size_eq]; exact hlen)]; rfl
    rw [e] at h
    exact (List.cons.inj h).1
  have hbn : (b[i].toNat : Int) = 3 := by rw [hbi]; rfl
  have HR := Lib.hid hR
  have H := Lib.hid h
  have HTS := Lib.hid hts
  clear hR h hbi hts
  go_enter Tryd.func73, Tryd.ntmps73
  go_wp2_with fail
  have HQ := Lib.hid (RSt.start (xs := #[.int .i64 3, .int .u64 0, .string ⟨#[]⟩, .slice none 0 0]) HR.out (i + 1))
  have hgl := grpB_len ts.length 2 (by omega)
  have hdn : b.data.toList.drop (i + 1) = grpB ts.length ++ (encTs ts ++ rest) := by
    rw [← List.drop_drop, H.out]
    simp [encL]
  have hbl := Lib.size_eq b
  have hbz : b.data.toList.length - (i + 1) = (grpB ts.length).length + ((encTs ts).length + rest.length) := by rw [← List.length_drop, hdn, List.length_append, List.length_append]
  refine (number_grp R b (i + 1) ts.length (encTs ts ++ rest) _ hb (by omega) HQ.out.rd (by omega) hdn).mono ?_
  rintro e w5 ⟨rfl, hr5, hb5⟩
  have HQ5 := Lib.hid (HQ.out.next hr5 hb5)
  have HD : Hid (b.data.toList.drop (i + 1 + (grpB ts.length).length) = encTs ts ++ rest) := by
    apply Lib.hid
    rw [← List.drop_drop, hdn, List.drop_left]
  have HJ : Hid (i + 1 + (grpB ts.length).length + (encTs ts).length = i + (encL ts).length) := by
    apply Lib.hid
    simp only [encL, List.length_cons, List.length_append]
    omega
  have hjb : i + 1 + (grpB ts.length).length + (encTs ts).length ≤ b.size := by omega
  clear hr5 hb5 HQ hdn hbz hgl hbl H
  generalize i + 1 + (grpB ts.length).length = j at *
  have x0 : w5.cell? ⟨w.heap.size + 1 + 1, 0, none⟩ = some (.int .i64 3) := HQ5.out.xc 0 _ rfl
  have hsz5 := HQ5.out.size
  have l1 : R < w5.heap.size := by omega
  have l2 : w.heap.size + 1 + 1 < w5.heap.size := by omega
  have en1 : ¬ (16384 : Int) < (ts.length : Int) := by omega
  go_wp2_with fail
  obtain ⟨i0, hi0, hz0, hz1, hz2⟩ := info_parts infoItem
  go_loopg [78] ts.length (fun gg s78 wr => ∃ (k : Nat) (p : Option Addr) (c jj : Nat), k ≤ ts.length ∧ ts.length - k ≤ gg ∧ s78 = .int .u64 k ∧ jj ≤ b.size ∧ jj + (encTs (ts.drop k)).length = j + (encTs ts).length ∧
    Hid (RSt R w.heap.size b w #[.int .i64 3, .int .u64 0, .string ⟨#[]⟩, .slice p k c] jj wr) ∧ Hid (wr.ownsRow (w.heap.size + 3) 80 4 (.slice p k c) k (textsV (ts.take k))) ∧ Hid (b.data.toList.drop jj = encTs (ts.drop k) ++ rest))
  case atStart => exact ⟨0, none, 0, j, by omega, by omega, rfl, by omega, by simp, HQ5.out.alloc _, ⟨rfl, .inl ⟨rfl, rfl⟩⟩, by rw [List.drop_zero]; exact HD.out⟩
  case round =>
    obtain ⟨k, p, c, jj, hk, hgg, rfl, hjj, hje, HQ6, HO, HD6⟩ := hrel
    clear x0 hsz5 l1 l2
    have r0 := HQ6.out.rd.c0
    have hsz6 := HQ6.out.size
    have l1 : R < wr.heap.size := by omega
    have l2 : w.heap.size + 1 + 1 < wr.heap.size := by omega
    by_cases hlt2 : k < ts.length
    · have hltz : (k : Int) < (ts.length : Int) := by omega
      have hmem : ts.getD k ⟨#[]⟩ ∈ ts := by
        rw [List.getD_eq_getElem?_getD, List.getElem?_eq_getElem hlt2, Option.getD_some]
        exact List.getElem_mem hlt2
      have htz := HTS.out _ hmem
      have hed := encTs_drop ts k hlt2
      have hcs := textsV_snoc ts k hlt2
      have hde : b.data.toList.drop jj = encT (ts.getD k ⟨#[]⟩) ++ (encTs (ts.drop (k + 1)) ++ rest) := by rw [HD6.out, hed, List.append_assoc]
      have hlen2 : (encTs (ts.drop k)).length = (encT (ts.getD k ⟨#[]⟩)).length + (encTs (ts.drop (k + 1))).length := by rw [hed, List.length_append]
      clear hmem hed
      generalize ts.getD k ⟨#[]⟩ = t at *
      have HCS := Lib.hid hcs
      have HDE := Lib.hid hde
      clear hcs hde
      go_wp2_with fail
      refine (read_text R b t jj (d + 1) _ wr hb hjj HQ6.out.rd (by omega) htz HDE.out).mono ?_
      rintro e w7 ⟨rfl, hr7, hb7⟩
      have HQ7 := Lib.hid (HQ6.out.next hr7 hb7)
      have HO7 := Lib.hid (own_stays HO.out (fun g hg => hb7.block g (own_lt HO.out g hg).1 (by have := (own_lt HO.out g hg).2; omega)))
      have HD7 : Hid (b.data.toList.drop (jj + (encT t).length) = encTs (ts.drop (k + 1)) ++ rest) := by apply Lib.hid; rw [← List.drop_drop, HDE.out, List.drop_left]
      have hjj7 : jj + (encT t).length ≤ b.size := by omega
      have hje7 : jj + (encT t).length + (encTs (ts.drop (k + 1))).length = j + (encTs ts).length := by omega
      clear hr7 hb7 r0 hlen2 hje
      generalize jj + (encT t).length = j7 at *
      have hsz7 := HQ7.out.size
      have l1 : R < w7.heap.size := by omega
      have l2 : w.heap.size + 1 + 1 < w7.heap.size := by omega
      have l3 : w.heap.size + 1 + 1 < w7.heap.size + 1 := by omega
      have l4 : w.heap.size + 1 + 1 < w7.heap.size + 1 + 1 := by omega
      have l5 : R < w7.heap.size + 1 := by omega
      have x3 : w7.cell? ⟨w.heap.size + 1 + 1, 3, none⟩ = some (.slice p k c) := HQ7.out.xc 3 _ rfl
      have fx := thaw_of_heap HQ7.out.x
      have hoa := HO7.out
      go_wp2_with (at_builtin; refine wpList_append_lies _ rfl _ _ 78 rfl (w.heap.size + 3) 80 i0 _ 4 56 Tryd.underlying78 hi0 hz0 hz1 hz2 rfl (by decide) _ _ _ rfl (((hoa.alloc _).alloc _).alloc _) ⟨w7.heap.size + 1 + 1, 0, none⟩ 1 1 [.int .i64 2, .int .u64 0, .string t, .slice none 0 0] rfl rfl (cell_four_at _ _ _ _ _ _ _ (by simp)) (by simp [Value.oneCell']) (by decide) (by unfold maxLen; omega) (by omega) (by simp; omega) (w7.heap.size + 1 + 1 + 1) (by simp) ?_; intro gg cap w8 hown8 hg8 hat8 hlt8; have HQ8 := Lib.hid ((((HQ7.out.alloc (.cells #[.int .i64 2, .int .u64 0, .string t, .slice none 0 0] 80)).alloc (.cells #[.int .i64 0, .int .i64 0] 67)).alloc (.cells #[.int .i64 2, .int .u64 0, .string t, .slice none 0 0] 80)).grown hg8 (fun g hg => (own_lt hoa g hg).2)); have y3 : w8.cell? ⟨w.heap.size + 1 + 1, 3, none⟩ = some (.slice p k c) := HQ8.out.xc 3 _ rfl; have fx8 : w8.frozen? ⟨w.heap.size + 1 + 1, 3, none⟩ = false := thaw_of_heap HQ8.out.x 3; clear hg8 hat8)
      have hown9 : (w8.setCell ⟨w.heap.size + 1 + 1, 3, none⟩ (.slice (some ⟨gg, 0, none⟩) (k + 1) cap)).ownsRow (w.heap.size + 3) 80 4 (.slice (some ⟨gg, 0, none⟩) (k + 1) cap) (k + 1) (textsV (ts.take (k + 1))) := by
        rw [HCS.out]
        exact own_stays hown8 (fun g hg => Below.heap_setCell _ _ _ _ (by have := (own_lt hown8 g hg).2; show g ≠ w.heap.size + 1 + 1; omega))
      have HO9 := Lib.hid hown9
      have HQ9 : Hid (RSt R w.heap.size b w #[.int .i64 3, .int .u64 0, .string ⟨#[]⟩, .slice (some ⟨gg, 0, none⟩) (k + 1) cap] j7 (w8.setCell ⟨w.heap.size + 1 + 1, 3, none⟩ (.slice (some ⟨gg, 0, none⟩) (k + 1) cap))) := Lib.hid (HQ8.out.setX 3 (.slice (some ⟨gg, 0, none⟩) (k + 1) cap) (by simp))
      clear hoa hown8 hown9
      go_wp2_with fail
      go_roundg (ts.length - (k + 1))
      case measure => omega
      case rel => exact ⟨k + 1, _, _, j7, by omega, by omega, by go_num, hjj7, hje7, HQ9, HO9, HD7⟩
    · have hk2 : k = ts.length := by omega
      subst hk2
      have x0 : wr.cell? ⟨w.heap.size + 1 + 1, 0, none⟩ = some (.int .i64 3) := HQ6.out.xc 0 _ rfl
      have x1 : wr.cell? ⟨w.heap.size + 1 + 1, 1, none⟩ = some (.int .u64 0) := HQ6.out.xc 1 _ rfl
      have x2 : wr.cell? ⟨w.heap.size + 1 + 1, 2, none⟩ = some (.string ⟨#[]⟩) := HQ6.out.xc 2 _ rfl
      have x3 : wr.cell? ⟨w.heap.size + 1 + 1, 3, none⟩ = some (.slice p ts.length c) := HQ6.out.xc 3 _ rfl
      have y0 : wr.cell? ⟨w.heap.size, 0, none⟩ = some (.int .i64 0) := cell_of_heap HQ6.out.res 0 _ rfl
      have y1 : wr.cell? ⟨w.heap.size, 1, none⟩ = some (.int .u64 0) := cell_of_heap HQ6.out.res 1 _ rfl
      have y2 : wr.cell? ⟨w.heap.size, 2, none⟩ = some (.string ⟨#[]⟩) := cell_of_heap HQ6.out.res 2 _ rfl
      have y3 : wr.cell? ⟨w.heap.size, 3, none⟩ = some (.slice none 0 0) := cell_of_heap HQ6.out.res 3 _ rfl
      have z0 : wr.cell? ⟨w.heap.size + 1, 0, none⟩ = some (.int .i64 0) := cell_of_heap HQ6.out.flt 0 _ rfl
      have z1 : wr.cell? ⟨w.heap.size + 1, 1, none⟩ = some (.int .i64 0) := cell_of_heap HQ6.out.flt 1 _ rfl
      have fy := thaw_of_heap HQ6.out.res
      have fz := thaw_of_heap HQ6.out.flt
      go_wp2_with fail
      have hNR : w.heap.size ≠ R := by omega
      have hNR1 : w.heap.size + 1 ≠ R := by omega
      have hje2 : jj = i + (encL ts).length := by
        have := HJ.out
        rw [List.drop_length] at hje
        simp [encTs] at hje this
        omega
      refine bodyPost_ret (v := .tuple #[.agg #[.int .i64 3, .int .u64 0, .string ⟨#[]⟩, .slice p ts.length c], .agg #[.int .i64 0, .int .i64 0]]) (by simp [results, Tryd.results73, go_sem, y0, y1, y2, y3, z0, z1]; try rfl) rfl ⟨p, c, rfl, ?_, ?_, ?_⟩
      · have hlow : ∀ g, (Value.slice p ts.length c).ownBlock = some g → w.heap.size + 3 ≤ g := fun g hg => (own_lt HO.out g hg).2
        have ho := HO.out
        rw [List.take_length] at ho
        have ho2 : wr.ownsRow w.heap.size 80 4 (.slice p ts.length c) ts.length (textsV ts) := own_mono ho (by omega)
        refine own_stays ho2 (fun g hg => ?_)
        have := hlow g hg
        simp only [Below.heap_setCell _ _ _ _ (show g ≠ (⟨w.heap.size, _, none⟩ : Addr).block by show g ≠ w.heap.size; omega), Below.heap_setCell _ _ _ _ (show g ≠ (⟨w.heap.size + 1, _, none⟩ : Addr).block by show g ≠ w.heap.size + 1; omega)]
      · rw [← hje2]
        exact (((((HQ6.out.rd.other _ _ _ hNR).other _ _ _ hNR).other _ _ _ hNR).other _ _ _ hNR).other _ _ _ hNR1).other _ _ _ hNR1
      · exact (((((HQ6.out.but.new _ _ _ (by omega)).new _ _ _ (by omega)).new _ _ _ (by omega)).new _ _ _ (by omega)).new _ _ _ (by omega)).new _ _ _ (by omega)

end Go.Proofs.YtmlmjchifelpkaaDoor
