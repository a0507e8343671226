/- The tree's own Push and Pop. -/
import Derived.Test.YtjddimoeodecgaaGreatXG02
import Derived.Deep.RegionHeld
import Derived.WalkSmall
namespace Go.Proofs.YtjddimoeodecgaaGreat
open Go.RowKit Go.Lib
set_option linter.unusedVariables false
set_option maxRecDepth 100000

theorem infoEnt : (Tryz.prog.info? 187).map (fun i => (i.zero, i.size, i.bytes)) = some (some (.agg #[.int .i64 0, .int .u64 0]), 2, 16) := by kernel_rfl

theorem assertEnt (v : Value) (w : World) : (Instr.typeAssert (.iface 187 v) 20 187 false).run Tryz.prog w = .ok v w := by kernel_rfl
theorem atE_app (l : List Ent) (e : Ent) (j : Nat) (h : j < l.length + 1) : atE (l ++ [e]) j = if j = l.length then e else atE l j := by
  unfold atE
  rw [List.getD_eq_getElem?_getD]
  by_cases hj : j = l.length
  · subst hj; simp
  · rw [if_neg hj, List.getElem?_append_left (by omega), List.getD_eq_getElem?_getD]
theorem AtOk.push {zs : List Int} {l : List Ent} {N : Nat} (h : AtOk zs l N) (e : Ent) (he : e.1 < N) (hn : ∀ i, i < l.length → (atE l i).1 ≠ e.1) : AtOk (zs.set e.1 (l.length : Int)) (l ++ [e]) N := by
  refine ⟨by simpa using h.len, fun i hi => ?_, fun j hj hall => ?_⟩
  · rw [List.length_append, List.length_singleton] at hi
    rw [atE_app l e i hi]
    by_cases e1 : i = l.length
    · rw [if_pos e1, List.getElem?_set_self (by rw [h.len]; exact he), e1]
    · rw [if_neg e1, List.getElem?_set_ne (fun x => hn i (by omega) x.symm)]
      exact h.at_ i (by omega)
  · have h1 := hall l.length (by simp)
    rw [atE_app l e _ (by omega), if_pos rfl] at h1
    rw [List.getElem?_set_ne h1]
    refine h.out j hj (fun i hi => ?_)
    have h2 := hall i (by simp; omega)
    rwa [atE_app l e _ (by omega), if_neg (by omega)] at h2

set_option maxHeartbeats 2000000 in
theorem tpush_any (B T ab N : Nat) (v : Value) (l : List Ent) (e : Ent) (w : World) (h : IsTree w B T ab v l N) (he : e.1 < N) (hk : e.2 < 18446744073709551616) (hn : ∀ i, i < l.length → (atE l i).1 ≠ e.1) (hl : l.length ≤ 16383) :
    Calls Tryz.prog 204 #[.pointer (some ⟨T, 0, none⟩), .iface 187 (.agg #[.int .i64 e.1, .int .u64 e.2])] w fun en w' => ∃ v', en = .returned (.tuple #[]) ∧ IsTree w' B T ab v' (l ++ [e]) N ∧ HTurn T ab v w w' v' := by
  obtain ⟨i0, hi, hz0, hz1, hz2⟩ := info_parts infoEnt
  have c0 := h.cell0
  have c1 := h.cell1
  obtain ⟨A, cap, hv⟩ := h.nilslice
  obtain ⟨zs, hzs, hok⟩ := h.places
  have hTlt := h.ltT
  have hAlt := h.ltA
  have H := Lib.hid h
  have hbe : (e.1 : Int) < (N : Int) := by omega
  have HOK := Lib.hid (hok.push e he hn)
  have HNE := Lib.hid hn
  obtain ⟨eid, ekey⟩ := e
  simp only at he hk hbe HOK
  have HK := Lib.hid hk
  clear hk
  have hzc : w.cell? ⟨ab, eid, none⟩ = some (.int .i64 (zs.getD eid 0)) := by
    simp [World.cell?, hzs, hok.len, he]
  have hfz : w.frozen? ⟨ab, eid, none⟩ = false := by simp [World.frozen?, hzs]
  have HZS := Lib.hid hzs
  clear h hzs hok hn
  go_enter Tryz.func204, Tryz.ntmps204
  have hta := assertEnt
  go_upto_region 1 with fail
  clear hta
  have hE0 : (w.alloc (.cells #[.int .i64 eid, .int .u64 ekey] 187)).cell? ⟨w.heap.size, 0, none⟩ = some (.int .i64 eid) := by simp
  have hE1 : (w.alloc (.cells #[.int .i64 eid, .int .u64 ekey] 187)).cell? ⟨w.heap.size, 1, none⟩ = some (.int .u64 ekey) := by simp
  have hb1 : Below w.heap.size w (w.alloc (.cells #[.int .i64 eid, .int .u64 ekey] 187)) := (Below.refl _ w).alloc (Nat.le_refl _) _
  have H1 := Lib.hid (H.out.below hb1)
  have a0 := (hb1.cell (p := ⟨T, 0, none⟩) hTlt).trans c0
  have a1 := (hb1.cell (p := ⟨T, 1, none⟩) hTlt).trans c1
  have azc := (hb1.cell (p := ⟨ab, eid, none⟩) hAlt).trans hzc
  have afz := (hb1.frozen (p := ⟨ab, eid, none⟩) hAlt).trans hfz
  have azs := Lib.hid ((hb1.block ab hAlt).trans HZS.out)
  have hEl : w.heap.size < (w.alloc (.cells #[.int .i64 eid, .int .u64 ekey] 187)).heap.size := by simp
  have HB1 := Lib.hid hb1
  have hEA : w.heap.size ≠ ab := by omega
  have hET : w.heap.size ≠ T := by omega
  clear c0 c1 hzc hfz hb1
  generalize (w.alloc (.cells #[.int .i64 eid, .int .u64 ekey] 187)) = w1 at *
  generalize hEE : w.heap.size = E at *
  have HE := Lib.hid hEE
  clear hEE
  go_cut [] (fun wx => OneTurn ab w1 wx ∧ wx.heap[ab]? = some (.cells ((zs.set eid (l.length : Int)).map (Value.int .i64)).toArray 3 (0, 0)))
  case first =>
    subst hv
    have b0 : w1.drew.cell? ⟨T, 0, none⟩ = some (.slice A l.length cap) := a0
    have b1 : w1.drew.cell? ⟨T, 1, none⟩ = some (.slice (some ⟨ab, 0, none⟩) N N) := a1
    have b2 : w1.drew.cell? ⟨E, 0, none⟩ = some (.int .i64 eid) := hE0
    have b3 : w1.drew.cell? ⟨ab, eid, none⟩ = some (.int .i64 (zs.getD eid 0)) := azc
    have b4 : w1.drew.frozen? ⟨ab, eid, none⟩ = false := afz
    go_region
    all_goals
      go_wp2_with fail
      go_meet
      refine ⟨((OneTurn.refl ab w1).set _ _).drew, ?_⟩
      have := heap_setCell_same w1 ab eid _ _ (.int .i64 (l.length : Int)) azs.out
      rw [ints_set] at this
      exact this
  case rest =>
    obtain ⟨ht, hzs⟩ := hcut
    obtain ⟨wy, rfl⟩ : ∃ x : World, x = wc := ⟨_, rfl⟩
    subst hv
    have hne := H.out.ne
    have hTb : wy.heap[T]? = some (.cells #[.slice A l.length cap, .slice (some ⟨ab, 0, none⟩) N N, .func (.func 137) #[] #[]] 185 (0, 0)) := (ht.block T hne).trans H1.out.cells
    have hrow : wy.ownsRow B 187 2 (.slice A l.length cap) l.length (encE l) := row_stays H1.out.row (fun j hj => ht.block j (fun e => H1.out.neA (by rw [hj, e])))
    have hrd := hrow.drew
    have b0 : wy.cell? ⟨T, 0, none⟩ = some (.slice A l.length cap) := by simp [World.cell?, hTb]
    have b1 : wy.cell? ⟨E, 0, none⟩ = some (.int .i64 eid) := (ht.cell hEA).trans hE0
    have b2 : wy.cell? ⟨E, 1, none⟩ = some (.int .u64 ekey) := (ht.cell hEA).trans hE1
    have e0 := World.new_ne wy _ b0
    have e1 := World.new_ne wy _ b1
    have e2 := World.new_ne wy _ b2
    have g0 := World.block_lt_of_cell? wy _ b0
    have g1 := World.block_lt_of_cell? wy _ b1
    have hTl : T < wy.heap.size := lt_of_block hTb
    have hBs : B ≤ wy.heap.size := by have := H.out.bT; omega
    have HTB := Lib.hid hTb
    have HRD := Lib.hid hrd
    have HT := Lib.hid ht
    have HZ := Lib.hid hzs
    have hnT := H.out.neT
    have HNT := Lib.hid hnT
    clear a0 a1 hE0 hE1 azc afz ht hzs hTb hnT
    go_upto_region 2 with fail
    go_region_law (refine step_append_lies _ (by rfl) _ _ _ (by rfl) B 187 i0 _ 2 16 Tryz.underlying182 hi hz0 hz1 hz2 rfl (by omega) _ _ _ (by rfl) ((hrow.alloc _).drew) ⟨wy.heap.size, 0, none⟩ 1 1 [.int .i64 eid, .int .u64 ekey] (by rfl) (by rfl) (World.news_of_block (cs := #[.int .i64 eid, .int .u64 ekey]) (t := 187) (fr := (0, 0)) (heap_alloc_new wy _)) (by simp [Value.oneCell']) (by omega) (by unfold maxLen; omega) (by omega) (by simp; omega) (wy.heap.size + 1) (by simp) ?_; intro gg cap3 w3 hown hgrow hat hlt3; have hT3 : w3.heap[T]? = wy.heap[T]? := (hgrow.block T (by simp; omega) (fun e => HNT.out e.symm)).trans (heap_alloc_old wy _ hTl); have cT3 : w3.cell? ⟨T, 0, none⟩ = some (.slice A l.length cap) := (World.cell?_of_block (a := ⟨T, 0, none⟩) hT3).trans b0; have fT3 : w3.frozen? ⟨T, 0, none⟩ = false := (by simp [World.frozen?, hT3, HTB.out]); have HO3 := Lib.hid hown; have HG3 := Lib.hid hgrow; have HA3 := Lib.hid hat; clear hown hgrow hat)
    all_goals
      go_wp2_with fail
      go_end0
      have hggT : gg ≠ T := fun e => by
        rcases HA3.out with h1 | h1
        · exact HNT.out (by rw [h1, e])
        · omega
      have hab3 : w3.heap[ab]? = wy.heap[ab]? := (HG3.out.block ab (by simp; have := lt_of_block HZ.out; omega) (fun e => H1.out.neA e.symm)).trans (heap_alloc_old wy _ (lt_of_block HZ.out))
      have hT4 := heap_setCell_same w3 T 0 _ _ (.slice (some ⟨gg, 0, none⟩) (l.length + 1) cap3) (hT3.trans HTB.out)
      have hll : (l ++ [((eid, ekey) : Ent)]).length = l.length + 1 := by simp
      refine ⟨rfl, _, ⟨hT4, ?_, ⟨_, (heap_setCell_other w3 ⟨T, 0, none⟩ ab _ (Ne.symm hne)).trans (hab3.trans HZ.out), HOK.out⟩, ?_, ?_, hne, fun e => hggT (by simpa [Value.ownBlock] using e), fun e => ?_, H.out.bT, H.out.bA, H.out.small⟩, ?_⟩
      · rw [hll, encE_app]
        exact row_stays HO3.out (fun j hj => heap_setCell_other w3 ⟨T, 0, none⟩ j _ (fun e => hggT (by simp [Value.ownBlock] at hj; rw [hj, e])))
      · intro i j hi hj hij
        rw [hll] at hi hj
        rw [atE_app l _ i hi, atE_app l _ j hj] at hij
        by_cases e1 : i = l.length
        · by_cases e2 : j = l.length
          · omega
          · rw [if_pos e1, if_neg e2] at hij
            exact absurd hij.symm (HNE.out j (by omega))
        · by_cases e2 : j = l.length
          · rw [if_neg e1, if_pos e2] at hij
            exact absurd hij (HNE.out i (by omega))
          · rw [if_neg e1, if_neg e2] at hij
            exact H.out.ids i j (by omega) (by omega) hij
      · intro i hi
        rw [hll] at hi
        rw [atE_app l _ i hi]
        split
        · exact ⟨he, HK.out⟩
        · exact H.out.lt i (by omega)
      · rcases HA3.out with h1 | h1
        · exact H.out.neA (by rw [h1]; simpa [Value.ownBlock] using e)
        · have e2 : gg = ab := by simpa [Value.ownBlock] using e
          have := lt_of_block HZ.out
          omega
      · have hs3 := HG3.out.size
        have hsz : wy.heap.size = w1.heap.size := HT.out.size
        simp at hs3
        refine ⟨?_, ?_, ?_, ?_, ?_, ?_⟩
        · exact HG3.out.os.trans (HT.out.os.trans HB1.out.os)
        · exact HG3.out.tape.trans (HT.out.tape.trans HB1.out.tape)
        · exact HG3.out.output.trans (HT.out.output.trans HB1.out.output)
        · have := HB1.out.size; simp [World.setCell]; omega
        · intro k hk a1 a2 a3
          have hkE : k < wy.heap.size := by have := HB1.out.size; omega
          exact (heap_setCell_other w3 ⟨T, 0, none⟩ k _ a1).trans ((HG3.out.block k (by simp; omega) (fun e => a3 e.symm)).trans ((heap_alloc_old wy _ hkE).trans ((HT.out.block k a2).trans (HB1.out.block k (by have := HE.out; omega)))))
        · rcases HA3.out with h1 | h1
          · exact Or.inl h1.symm
          · exact Or.inr ⟨gg, rfl, by have := HB1.out.size; omega⟩

end Go.Proofs.YtjddimoeodecgaaGreat

/- The tree's own Pop. -/
namespace Go.Proofs.YtjddimoeodecgaaGreat
open Go.RowKit Go.Lib
set_option linter.unusedVariables false
set_option maxRecDepth 100000

theorem AtOk.pop {zs : List Int} {l : List Ent} {N : Nat} (h : AtOk zs l N) (hl : 0 < l.length) (lt : ∀ i, i < l.length → (atE l i).1 < N) (ids : ∀ i j, i < l.length → j < l.length → (atE l i).1 = (atE l j).1 → i = j) : AtOk (zs.set (atE l (l.length - 1)).1 (-1)) (l.take (l.length - 1)) N := by
  have ht : (l.take (l.length - 1)).length = l.length - 1 := by rw [List.length_take]; omega
  have ha : ∀ i, i < l.length - 1 → atE (l.take (l.length - 1)) i = atE l i := fun i hi => by
    unfold atE
    rw [List.getD_eq_getElem?_getD, List.getElem?_take_of_lt hi, List.getD_eq_getElem?_getD]
  refine ⟨by simpa using h.len, fun i hi => ?_, fun j hj hall => ?_⟩
  · rw [ht] at hi
    rw [ha i hi, List.getElem?_set_ne (fun e => by have := ids _ _ (by omega) (by omega) e; omega)]
    exact h.at_ i (by omega)
  · by_cases e : (atE l (l.length - 1)).1 = j
    · rw [e, List.getElem?_set_self (by rw [h.len]; exact hj)]
    · rw [List.getElem?_set_ne e]
      refine h.out j hj (fun i hi => ?_)
      by_cases e1 : i = l.length - 1
      · rw [e1]; exact e
      · have := hall i (by omega)
        rwa [ha i (by omega)] at this

set_option maxHeartbeats 2000000 in
theorem tpop_any (B T ab N : Nat) (v : Value) (l : List Ent) (w : World) (h : IsTree w B T ab v l N) (hl0 : 0 < l.length) (hl : l.length ≤ 16384) :
    Calls Tryz.prog 203 #[.pointer (some ⟨T, 0, none⟩)] w fun en w' => ∃ v', en = .returned (.iface 187 (.agg #[.int .i64 (atE l (l.length - 1)).1, .int .u64 (atE l (l.length - 1)).2])) ∧ IsTree w' B T ab v' (l.take (l.length - 1)) N ∧ HTurn T ab v w w' v' := by
  have c0 := h.cell0
  have c1 := h.cell1
  have f0 := h.thaw 0
  obtain ⟨lb, cap, rfl, hc1, hc2, hbl, hlb, hlT, hlA, hcell, hfr⟩ := h.slice hl0
  obtain ⟨n, hn⟩ : ∃ n, n = l.length - 1 := ⟨_, rfl⟩
  obtain ⟨x0, x1⟩ := hcell n (by omega)
  obtain ⟨zs, hzs, hok⟩ := h.places
  have HOK := Lib.hid (hok.pop hl0 (fun i hi => (h.lt i hi).1) h.ids)
  have hTlt := h.ltT
  have hAlt := h.ltA
  have H := Lib.hid h
  have hx := (h.lt n (by omega)).1
  rw [← hn] at HOK ⊢
  have hzc : w.cell? ⟨ab, (atE l n).1, none⟩ = some (.int .i64 (zs.getD (atE l n).1 0)) := by
    simp [World.cell?, hzs, hok.len, hx]
  have hfz : w.frozen? ⟨ab, (atE l n).1, none⟩ = false := by simp [World.frozen?, hzs]
  have hxz : ((atE l n).1 : Int) < (N : Int) := by omega
  have hnz : (n : Int) < (l.length : Int) := by omega
  have hnc : (n : Int) ≤ (cap : Int) := by omega
  have hw : IntKind.i64.wrap ((l.length : Int) - 1) = (n : Int) := by rw [IntWalk.i64_in _ (by omega)]; omega
  have HZS := Lib.hid hzs
  have HN := Lib.hid hn
  clear h hcell hfr hzs hok hn
  generalize (atE l n).1 = eid at *
  generalize (atE l n).2 = ekey at *
  go_enter Tryz.func203, Tryz.ntmps203
  go_upto_region 4 with fail
  have hT1 : ((w.setCell ⟨T, 0, none⟩ (.slice (some ⟨lb, 0, none⟩) n cap)).alloc (.cells #[.int .i64 eid, .int .u64 ekey] 187)).heap[T]? = some (.cells #[.slice (some ⟨lb, 0, none⟩) n cap, .slice (some ⟨ab, 0, none⟩) N N, .func (.func 137) #[] #[]] 185 (0, 0)) :=
    (heap_alloc_old (w.setCell ⟨T, 0, none⟩ (.slice (some ⟨lb, 0, none⟩) n cap)) _ (by simpa [World.setCell] using hTlt)).trans (heap_setCell_same w T 0 _ _ _ H.out.cells)
  have hO1 : ∀ k, k < w.heap.size → k ≠ T → ((w.setCell ⟨T, 0, none⟩ (.slice (some ⟨lb, 0, none⟩) n cap)).alloc (.cells #[.int .i64 eid, .int .u64 ekey] 187)).heap[k]? = w.heap[k]? := fun k hk hne =>
    (heap_alloc_old (w.setCell ⟨T, 0, none⟩ (.slice (some ⟨lb, 0, none⟩) n cap)) _ (by simpa [World.setCell] using hk)).trans (heap_setCell_other w ⟨T, 0, none⟩ k _ hne)
  have hszT : (w.setCell ⟨T, 0, none⟩ (.slice (some ⟨lb, 0, none⟩) n cap)).heap.size = w.heap.size := by simp [World.setCell]
  have hE1 : ((w.setCell ⟨T, 0, none⟩ (.slice (some ⟨lb, 0, none⟩) n cap)).alloc (.cells #[.int .i64 eid, .int .u64 ekey] 187)).heap[w.heap.size]? = some (.cells #[.int .i64 eid, .int .u64 ekey] 187 (0, 0)) := by
    have := heap_alloc_new (w.setCell ⟨T, 0, none⟩ (.slice (some ⟨lb, 0, none⟩) n cap)) (.cells #[.int .i64 eid, .int .u64 ekey] 187 (0, 0))
    rwa [hszT] at this
  have hos : ((w.setCell ⟨T, 0, none⟩ (.slice (some ⟨lb, 0, none⟩) n cap)).alloc (.cells #[.int .i64 eid, .int .u64 ekey] 187)).heap.size = w.heap.size + 1 ∧ ((w.setCell ⟨T, 0, none⟩ (.slice (some ⟨lb, 0, none⟩) n cap)).alloc (.cells #[.int .i64 eid, .int .u64 ekey] 187)).os = w.os ∧ ((w.setCell ⟨T, 0, none⟩ (.slice (some ⟨lb, 0, none⟩) n cap)).alloc (.cells #[.int .i64 eid, .int .u64 ekey] 187)).tape = w.tape ∧ ((w.setCell ⟨T, 0, none⟩ (.slice (some ⟨lb, 0, none⟩) n cap)).alloc (.cells #[.int .i64 eid, .int .u64 ekey] 187)).output = w.output :=
    ⟨by rw [World.size_alloc, hszT], rfl, rfl, rfl⟩
  clear hszT
  generalize ((w.setCell ⟨T, 0, none⟩ (.slice (some ⟨lb, 0, none⟩) n cap)).alloc (.cells #[.int .i64 eid, .int .u64 ekey] 187)) = w1 at *
  have hEE : w.heap.size ≠ ab := by omega
  have a0 : w1.cell? ⟨T, 1, none⟩ = some (.slice (some ⟨ab, 0, none⟩) N N) := by simp [World.cell?, hT1]
  have a1 : w1.cell? ⟨w.heap.size, 0, none⟩ = some (.int .i64 eid) := by simp [World.cell?, hE1]
  have a2 : w1.cell? ⟨w.heap.size, 1, none⟩ = some (.int .u64 ekey) := by simp [World.cell?, hE1]
  have hne := H.out.ne
  have a3 : w1.cell? ⟨ab, eid, none⟩ = some (.int .i64 (zs.getD eid 0)) := (World.cell?_of_block (a := ⟨ab, eid, none⟩) (hO1 ab hAlt (Ne.symm hne))).trans hzc
  have a4 : w1.frozen? ⟨ab, eid, none⟩ = false := by simp [World.frozen?, hO1 ab hAlt (Ne.symm hne), HZS.out]
  have hz4 := Lib.hid ((hO1 ab hAlt (Ne.symm hne)).trans HZS.out)
  have HT1 := Lib.hid hT1
  have HO1 := Lib.hid hO1
  have HOS := Lib.hid hos
  generalize hEq : w.heap.size = E at *
  have HE := Lib.hid hEq
  clear hEq hT1 hO1 hE1 hos c0 c1 f0 x0 x1 hzc hfz
  go_cut [] (fun wx => OneTurn ab w1 wx ∧ wx.heap[ab]? = some (.cells ((zs.set eid (-1)).map (Value.int .i64)).toArray 3 (0, 0)))
  case first =>
    have b0 : w1.drew.cell? ⟨T, 1, none⟩ = some (.slice (some ⟨ab, 0, none⟩) N N) := a0
    have b1 : w1.drew.cell? ⟨E, 0, none⟩ = some (.int .i64 eid) := a1
    have b3 : w1.drew.cell? ⟨ab, eid, none⟩ = some (.int .i64 (zs.getD eid 0)) := a3
    have b4 : w1.drew.frozen? ⟨ab, eid, none⟩ = false := a4
    go_region
    all_goals
      go_wp2_with fail
      go_meet
      refine ⟨((OneTurn.refl ab w1).set _ _).drew, ?_⟩
      have := heap_setCell_same w1 ab eid _ _ (.int .i64 (-1 : Int)) hz4.out
      rw [ints_set] at this
      exact this
  case rest =>
    obtain ⟨ht, hzs⟩ := hcut
    have d1 : wc.cell? ⟨E, 0, none⟩ = some (.int .i64 eid) := (ht.cell hEE).trans a1
    have d2 : wc.cell? ⟨E, 1, none⟩ = some (.int .u64 ekey) := (ht.cell hEE).trans a2
    have HT := Lib.hid ht
    have HZ := Lib.hid hzs
    clear ht hzs a0 a1 a2 a3 a4
    go_wp2_with fail
    go_ret
    have htl : (l.take n).length = n := by rw [List.length_take]; have := HN.out; omega
    have hat : ∀ i, i < n → atE (l.take n) i = atE l i := fun i hi => by
      unfold atE
      rw [List.getD_eq_getElem?_getD, List.getElem?_take_of_lt hi, List.getD_eq_getElem?_getD]
    have hlbT : lb ≠ T := hlT
    have hlbE : lb < w.heap.size := by have := HE.out; omega
    have hn1 := HN.out
    refine ⟨_, rfl, ⟨(HT.out.block T hne).trans HT1.out, ?_, ⟨_, HZ.out, HOK.out⟩, ?_, ?_, hne, fun e => hlT (by simpa [Value.ownBlock] using e), fun e => hlA (by simpa [Value.ownBlock] using e), H.out.bT, H.out.bA, H.out.small⟩, ?_⟩
    · have hr := H.out.row
      rcases hr.2 with ⟨h', _⟩ | ⟨q, c, cur, h', hbase, hb, k1, k2, k3, k4⟩
      · cases h'
      · cases h'
        refine ⟨by rw [encE_len, htl], Or.inr ⟨lb, cap, cur, by rw [htl], hbase, (HT.out.block lb hlA).trans ((HO1.out lb (by omega) hlT).trans hb), by rw [htl]; omega, k2, k3, ?_⟩⟩
        rw [htl]
        have e1 : l = l.take n ++ l.drop n := (List.take_append_drop n l).symm
        have e2 : encE l = encE (l.take n) ++ encE (l.drop n) := by rw [← encE_app, ← e1]
        rw [← k4] at e2
        have e3 := congrArg (List.take (n * 2)) e2
        rw [List.take_take, Nat.min_eq_left (by omega), List.take_left' (by rw [encE_len, htl])] at e3
        exact e3
    · intro i j hi hj hij
      rw [htl] at hi hj
      rw [hat i hi, hat j hj] at hij
      exact H.out.ids i j (by omega) (by omega) hij
    · intro i hi
      rw [htl] at hi
      rw [hat i hi]
      exact H.out.lt i (by omega)
    · have hsz := HT.out.size
      have hE := HE.out
      refine ⟨HT.out.os.trans HOS.out.2.1, HT.out.tape.trans HOS.out.2.2.1, HT.out.output.trans HOS.out.2.2.2, by rw [hsz, HOS.out.1]; omega, fun k hk a1 a2 a3 => (HT.out.block k a2).trans (HO1.out k (by omega) a1), Or.inl rfl⟩

end Go.Proofs.YtjddimoeodecgaaGreat

/- container/heap's Push, Pop, Fix over an indexed heap. -/
namespace Go.Proofs.YtjddimoeodecgaaGreat
open Go.RowKit Go.Lib
set_option linter.unusedVariables false
set_option maxRecDepth 100000

theorem cpush_any (B T ab N : Nat) (v : Value) (l : List Ent) (e : Ent) (w : World) (h : IsTree w B T ab v l N) (he : e.1 < N) (hk : e.2 < 18446744073709551616) (hn : ∀ i, i < l.length → (atE l i).1 ≠ e.1) (hl : l.length ≤ 16383) :
    Calls Tryz.prog 139 #[.iface 181 (.pointer (some ⟨T, 0, none⟩)), .iface 187 (.agg #[.int .i64 e.1, .int .u64 e.2])] w fun en w' => en = .returned (.tuple #[]) ∧ ∃ v', IsTree w' B T ab v' (pushF l e) N ∧ HTurn T ab v w w' v' := by
  have HP := Lib.hid (tpush_any B T ab N v l e w h he hk hn hl)
  have hll : (l ++ [e]).length = l.length + 1 := by simp
  have hw : IntKind.i64.wrap (((l.length + 1 : Nat) : Int) - 1) = (l.length : Int) := by rw [IntWalk.i64_in _ (by omega)]; omega
  clear h hk hn
  go_enter Tryz.func139, Tryz.ntmps139
  go_wp2_with fail
  refine HP.out.mono ?_
  rintro en w1 ⟨v1, rfl, ht1, hf1⟩
  have HL := Lib.hid (len_any B T ab N v1 (l ++ [e]) w1 ht1)
  rw [hll] at HL
  have HU := Lib.hid (up_any B T ab N v1 (l ++ [e]) l.length w1 ht1 (by omega) (by omega))
  have HF := Lib.hid hf1
  clear ht1 hf1 HP hll
  go_wp2_with fail
  refine HL.out.mono ?_
  rintro en w2 ⟨rfl, rfl⟩
  clear HL
  go_wp2_with fail
  refine HU.out.mono ?_
  rintro en w3 ⟨rfl, ht3, hf3⟩
  have HT3 := Lib.hid ht3
  have HF3 := Lib.hid (HF.out.trans hf3)
  clear ht3 hf3 hw
  go_wp2_with fail
  go_end0
  exact ⟨rfl, v1, HT3.out, HF3.out⟩

theorem fix_any (B T ab N : Nat) (v : Value) (l : List Ent) (i : Nat) (w : World) (h : IsTree w B T ab v l N) (hi : i < l.length) (hl : l.length ≤ 16384) :
    Calls Tryz.prog 140 #[.iface 181 (.pointer (some ⟨T, 0, none⟩)), .int .i64 i] w fun en w' => en = .returned (.tuple #[]) ∧ IsTree w' B T ab v (fixF l i) N ∧ HTurn T ab v w w' v := by
  have HL := Lib.hid (len_any B T ab N v l w h)
  have HD := Lib.hid (down_any B T ab N v l i l.length w h hi (Nat.le_refl _) hl)
  have hdl := downF_len l i l.length hi (Nat.le_refl _)
  clear h
  go_enter Tryz.func140, Tryz.ntmps140
  go_wp2_with fail
  refine HL.out.mono ?_
  rintro en w1 ⟨rfl, rfl⟩
  clear HL
  by_cases hlt : i < (downF l i l.length).2
  · have hfin : fixF l i = (downF l i l.length).1 := by unfold fixF; rw [if_pos hlt]
    have HFI := Lib.hid hfin
    rw [decide_eq_true hlt] at HD
    clear hlt hfin hdl
    go_wp2_with fail
    refine HD.out.mono ?_
    rintro en w2 ⟨rfl, ht2, hf2⟩
    have HT2 := Lib.hid ht2
    have HF2 := Lib.hid hf2
    clear ht2 hf2
    go_wp2_with fail
    go_end0
    exact ⟨rfl, by rw [HFI.out]; exact HT2.out, HF2.out⟩
  · have hfin : fixF l i = upF (downF l i l.length).1 i := by unfold fixF; rw [if_neg hlt]
    have HFI := Lib.hid hfin
    rw [decide_eq_false hlt] at HD
    clear hlt hfin
    generalize (downF l i l.length).1 = l1 at *
    go_wp2_with fail
    refine HD.out.mono ?_
    rintro en w2 ⟨rfl, ht2, hf2⟩
    have HU := Lib.hid (up_any B T ab N v l1 i w2 ht2 (by omega) (by omega))
    have HF2 := Lib.hid hf2
    clear ht2 hf2
    go_wp2_with fail
    refine HU.out.mono ?_
    rintro en w3 ⟨rfl, ht3, hf3⟩
    have HT3 := Lib.hid ht3
    have HF3 := Lib.hid (HF2.out.trans hf3)
    clear ht3 hf3
    go_wp2_with fail
    go_end0
    exact ⟨rfl, by rw [HFI.out]; exact HT3.out, HF3.out⟩

theorem popF_last (l : List Ent) (h : 0 < l.length) : atE (downF (swapE l 0 (l.length - 1)) 0 (l.length - 1)).1 (l.length - 1) = atE l 0 := by
  have hs := swapE_len l 0 (l.length - 1)
  by_cases hz : l.length - 1 = 0
  · rw [downF_stop _ _ _ (by omega)]
    show atE (swapE l 0 (l.length - 1)) _ = _
    rw [swapE_at l 0 _ _ h (by omega), if_pos rfl]
  · rw [downF_high _ _ _ (by omega) (by omega) _ (Nat.le_refl _), swapE_at l 0 _ _ h (by omega), if_pos rfl]

theorem cpop_any (B T ab N : Nat) (v : Value) (l : List Ent) (w : World) (h : IsTree w B T ab v l N) (hl0 : 0 < l.length) (hl : l.length ≤ 16384) :
    Calls Tryz.prog 148 #[.iface 181 (.pointer (some ⟨T, 0, none⟩))] w fun en w' => en = .returned (.iface 187 (.agg #[.int .i64 (atE l 0).1, .int .u64 (atE l 0).2])) ∧ ∃ v', IsTree w' B T ab v' (popF l) N ∧ HTurn T ab v w w' v' := by
  have HL := Lib.hid (len_any B T ab N v l w h)
  obtain ⟨n, hn⟩ : ∃ n, n = l.length - 1 := ⟨_, rfl⟩
  have HS := Lib.hid (swap_go B T ab N v l 0 n w h hl0 (by omega) hl)
  have hw : IntKind.i64.wrap ((l.length : Int) - 1) = (n : Int) := by rw [IntWalk.i64_in _ (by omega)]; omega
  have hlast := popF_last l hl0
  have hpf : popF l = ((downF (swapE l 0 n) 0 n).1).take n := by unfold popF; rw [hn]
  have hsl := swapE_len l 0 n
  have hdl := downF_len (swapE l 0 n) 0 n (by omega) (by omega)
  rw [← hn] at hlast
  rw [hpf]
  clear hpf
  generalize swapE l 0 n = ls at *
  have HDA := Lib.hid (fun wx hx => down_any B T ab N v ls 0 n wx hx (by omega) (by omega) (by omega))
  generalize hdd : downF ls 0 n = dd at *
  clear hdd
  obtain ⟨ld, ix⟩ := dd
  simp only at hlast hdl HDA
  have hln : ld.length - 1 = n := by omega
  have hl1 : 0 < ld.length := by omega
  have hl2 : ld.length ≤ 16384 := by omega
  have HPA := Lib.hid (fun wx hx => tpop_any B T ab N v ld wx hx hl1 hl2)
  rw [hln, hlast] at HPA
  clear h hn hlast hsl hdl hln hl1 hl2
  go_enter Tryz.func148, Tryz.ntmps148
  go_wp2_with fail
  refine HL.out.mono ?_
  rintro en w1 ⟨rfl, rfl⟩
  clear HL
  go_wp2_with fail
  refine HS.out.mono ?_
  rintro en w2 ⟨rfl, ht2, hf2⟩
  have HD := Lib.hid (HDA.out w2 ht2)
  have HF2 := Lib.hid hf2
  clear ht2 hf2 HS hw
  go_wp2_with fail
  refine HD.out.mono ?_
  rintro en w3 ⟨rfl, ht3, hf3⟩
  have HP := Lib.hid (HPA.out w3 ht3)
  have HF3 := Lib.hid (HF2.out.trans hf3)
  clear ht3 hf3 HD HDA HPA
  go_wp2_with fail
  refine HP.out.mono ?_
  rintro en w4 ⟨v4, rfl, ht4, hf4⟩
  have HT4 := Lib.hid ht4
  have HF4 := Lib.hid (HF3.out.trans hf4)
  clear ht4 hf4
  go_wp2_with fail
  go_ret
  exact ⟨rfl, v4, HT4.out, HF4.out⟩

end Go.Proofs.YtjddimoeodecgaaGreat

/- heap.Heap: has, Len, Top, Pop, Lower. -/
namespace Go.Proofs.YtjddimoeodecgaaGreat
open Go.RowKit Go.Lib
set_option linter.unusedVariables false
set_option maxRecDepth 100000

/-- A heap in memory. -/
structure IsHeap (w : World) (B h T ab : Nat) (v : Value) (l : List Ent) (N : Nat) : Prop where
  box : w.heap[h]? = some (.cells #[.pointer (some ⟨T, 0, none⟩)] 189 (0, 0))
  tree : IsTree w B T ab v l N
  neT : h ≠ T
  neA : h ≠ ab
  neV : v.ownBlock ≠ some h
  bh : B ≤ h
section
variable {w w' : World} {B h T ab N : Nat} {v v' : Value} {l l' : List Ent}
theorem IsHeap.cell (hh : IsHeap w B h T ab v l N) : w.cell? ⟨h, 0, none⟩ = some (.pointer (some ⟨T, 0, none⟩)) := by simp [World.cell?, hh.box]
theorem IsHeap.lt (hh : IsHeap w B h T ab v l N) : h < w.heap.size := lt_of_block hh.box
theorem IsHeap.below (hh : IsHeap w B h T ab v l N) (hb : Below w.heap.size w w') : IsHeap w' B h T ab v l N := ⟨(hb.block h hh.lt).trans hh.box, hh.tree.below hb, hh.neT, hh.neA, hh.neV, hh.bh⟩
theorem IsHeap.turn (hh : IsHeap w B h T ab v l N) (ht : IsTree w' B T ab v' l' N) (hf : HTurn T ab v w w' v') : IsHeap w' B h T ab v' l' N := by
  refine ⟨(hf.block h hh.lt hh.neT hh.neA hh.neV).trans hh.box, ht, hh.neT, hh.neA, ?_, hh.bh⟩
  rcases hf.own with h1 | ⟨k, h1, h2⟩
  · rw [h1]; exact hh.neV
  · rw [h1]; intro e; cases e; exact absurd hh.lt (by omega)
theorem IsHeap.kept (hh : IsHeap w B h T ab v l N) (hb : w'.heap[h]? = w.heap[h]?) (hT : w'.heap[T]? = w.heap[T]?) (hA : w'.heap[ab]? = w.heap[ab]?) (hV : ∀ k, v.ownBlock = some k → w'.heap[k]? = w.heap[k]?) : IsHeap w' B h T ab v l N :=
  ⟨hb.trans hh.box, hh.tree.kept hT hA hV, hh.neT, hh.neA, hh.neV, hh.bh⟩
end

theorem has_any (B h T ab N : Nat) (v : Value) (l : List Ent) (i : Nat) (w : World) (hh : IsHeap w B h T ab v l N) (hi : i < N) :
    Calls Tryz.prog 138 #[.pointer (some ⟨h, 0, none⟩), .int .i64 i] w fun en w' => en = .returned (.bool true) ∧ w = w' := by
  have c0 := hh.cell
  have c1 := hh.tree.cell1
  have hz : (i : Int) < (N : Int) := by omega
  clear hh hi
  go_enter Tryz.func138, Tryz.ntmps138
  go_wp2_with fail
  go_ret
  exact ⟨rfl, rfl⟩

theorem hlen_any (B h T ab N : Nat) (v : Value) (l : List Ent) (w : World) (hh : IsHeap w B h T ab v l N) :
    Calls Tryz.prog 112 #[.pointer (some ⟨h, 0, none⟩)] w fun en w' => en = .returned (.int .i64 l.length) ∧ w = w' := by
  have c0 := hh.cell
  have c1 := hh.tree.cell0
  obtain ⟨A, cap, rfl⟩ := hh.tree.nilslice
  clear hh
  go_enter Tryz.func112, Tryz.ntmps112
  go_wp2_with fail
  go_ret
  exact ⟨rfl, rfl⟩

theorem top_none (B h T ab N : Nat) (v : Value) (w : World) (hh : IsHeap w B h T ab v [] N) :
    Calls Tryz.prog 147 #[.pointer (some ⟨h, 0, none⟩)] w fun en w' => en = .returned (.tuple #[.int .i64 0, .int .u64 0, .int .i64 5]) ∧ w = w' := by
  have c0 := hh.cell
  have c1 := hh.tree.cell0
  obtain ⟨A, cap, rfl⟩ := hh.tree.nilslice
  clear hh
  go_enter Tryz.func147, Tryz.ntmps147
  go_wp2_with fail
  go_ret3
  exact ⟨rfl, rfl⟩

theorem top_any (B h T ab N : Nat) (v : Value) (l : List Ent) (w : World) (hh : IsHeap w B h T ab v l N) (hl0 : 0 < l.length) (hl : l.length ≤ 16384) :
    Calls Tryz.prog 147 #[.pointer (some ⟨h, 0, none⟩)] w fun en w' => en = .returned (.tuple #[.int .i64 (atE l 0).1, .int .u64 (atE l 0).2, .int .i64 0]) ∧ Below w.heap.size w w' := by
  have c0 := hh.cell
  have c1 := hh.tree.cell0
  obtain ⟨lb, cap, rfl, hc1, hc2, hbl, hlb, hlT, hlA, hcell, hfr⟩ := hh.tree.slice hl0
  obtain ⟨x0, x1⟩ := hcell 0 hl0
  simp only [Nat.zero_mul, Nat.zero_add] at x0 x1
  have hlz : (0 : Int) < (l.length : Int) := by omega
  have hlnz : ¬ (l.length : Int) = 0 := by omega
  clear hh hcell hfr
  go_enter Tryz.func147, Tryz.ntmps147
  go_wp2_with fail
  go_quiet (fail)
  go_wp2_with fail
  go_ret3
  exact ⟨rfl, below_drewN (Below.refl _ w) _⟩

theorem hpop_none (B h T ab N : Nat) (v : Value) (w : World) (hh : IsHeap w B h T ab v [] N) :
    Calls Tryz.prog 113 #[.pointer (some ⟨h, 0, none⟩)] w fun en w' => en = .returned (.tuple #[.int .i64 0, .int .u64 0, .int .i64 5]) ∧ w = w' := by
  have HT := Lib.hid (top_none B h T ab N v w hh)
  clear hh
  go_enter Tryz.func113, Tryz.ntmps113
  go_wp2_with fail
  refine HT.out.mono ?_
  rintro en w1 ⟨rfl, rfl⟩
  go_wp2_with fail
  go_ret3
  exact ⟨rfl, rfl⟩

theorem hpop_any (B h T ab N : Nat) (v : Value) (l : List Ent) (w : World) (hh : IsHeap w B h T ab v l N) (hl0 : 0 < l.length) (hl : l.length ≤ 16384) :
    Calls Tryz.prog 113 #[.pointer (some ⟨h, 0, none⟩)] w fun en w' => en = .returned (.tuple #[.int .i64 (atE l 0).1, .int .u64 (atE l 0).2, .int .i64 0]) ∧ ∃ v', IsHeap w' B h T ab v' (popF l) N ∧ HTurn T ab v w w' v' := by
  have HT := Lib.hid (top_any B h T ab N v l w hh hl0 hl)
  have HH := Lib.hid hh
  clear hh
  go_enter Tryz.func113, Tryz.ntmps113
  go_wp2_with fail
  refine HT.out.mono ?_
  rintro en w1 ⟨rfl, hb1⟩
  have HH1 := Lib.hid (HH.out.below hb1)
  have HB1 := Lib.hid hb1
  have c0 := HH1.out.cell
  have HP := Lib.hid (cpop_any B T ab N v l w1 HH1.out.tree hl0 hl)
  clear hb1 HT
  go_wp2_with fail
  refine HP.out.mono ?_
  rintro en w2 ⟨rfl, v2, ht2, hf2⟩
  have HH2 := Lib.hid (HH1.out.turn ht2 hf2)
  have HF2 := Lib.hid ((HTurn.of_below T ab v HB1.out).trans hf2)
  clear ht2 hf2 c0 HP
  go_wp2_with fail
  go_ret3
  exact ⟨rfl, v2, HH2.out, HF2.out⟩

/-- Where a number stands. -/
def findE (l : List Ent) (id : Nat) : Option Nat := l.findIdx? fun e => e.1 == id
theorem findE_none {l : List Ent} {id : Nat} (h : findE l id = none) : ∀ i, i < l.length → (atE l i).1 ≠ id := by
  intro i hi e
  unfold findE at h
  rw [List.findIdx?_eq_none_iff] at h
  have := h l[i] (List.getElem_mem hi)
  have e2 : atE l i = l[i] := by unfold atE; rw [List.getD_eq_getElem?_getD, List.getElem?_eq_getElem hi]; rfl
  rw [e2] at e
  rw [e] at this
  simp at this
theorem findE_some {l : List Ent} {id i : Nat} (h : findE l id = some i) : i < l.length ∧ (atE l i).1 = id := by
  unfold findE at h
  obtain ⟨hi, h1, _⟩ := List.findIdx?_eq_some_iff_getElem.1 h
  refine ⟨hi, ?_⟩
  have e2 : atE l i = l[i] := by unfold atE; rw [List.getD_eq_getElem?_getD, List.getElem?_eq_getElem hi]; rfl
  rw [e2]
  simpa using h1
/-- A number that is put in, or lowered. -/
def lowF (l : List Ent) (id key : Nat) : List Ent := match findE l id with
  | none => pushF l (id, key)
  | some i => fixF (l.set i (id, key)) i

theorem set_key {w : World} {B T ab N : Nat} {lb cap : Nat} {l : List Ent} (h : IsTree w B T ab (.slice (some ⟨lb, 0, none⟩) l.length cap) l N) {i : Nat} (hi : i < l.length) (key : Nat) (hk : key < 18446744073709551616) :
    IsTree (w.setCell ⟨lb, i * 2 + 1, none⟩ (.int .u64 key)) B T ab (.slice (some ⟨lb, 0, none⟩) l.length cap) (l.set i ((atE l i).1, key)) N ∧ HTurn T ab (.slice (some ⟨lb, 0, none⟩) l.length cap) w (w.setCell ⟨lb, i * 2 + 1, none⟩ (.int .u64 key)) (.slice (some ⟨lb, 0, none⟩) l.length cap) := by
  have hlT : lb ≠ T := fun e => h.neT (by rw [← e]; rfl)
  have hlA : lb ≠ ab := fun e => h.neA (by rw [← e]; rfl)
  obtain ⟨zs, hz, hok⟩ := h.places
  have hlen : (l.set i ((atE l i).1, key)).length = l.length := by simp
  have hat : ∀ j, (atE (l.set i ((atE l i).1, key)) j).1 = (atE l j).1 := fun j => by
    by_cases e : i = j
    · subst e
      unfold atE
      simp [List.getD_eq_getElem?_getD, hi]
    · unfold atE
      rw [List.getD_eq_getElem?_getD, List.getElem?_set_ne e, List.getD_eq_getElem?_getD]
  have hat2 : ∀ j, j < l.length → (atE (l.set i ((atE l i).1, key)) j).2 < 18446744073709551616 := fun j hj => by
    by_cases e : i = j
    · subst e
      unfold atE
      simp [List.getD_eq_getElem?_getD, hi, hk]
    · have := (h.lt j hj).2
      unfold atE at this ⊢
      rwa [List.getD_eq_getElem?_getD, List.getElem?_set_ne e, ← List.getD_eq_getElem?_getD]
  have hrow : (w.setCell ⟨lb, i * 2 + 1, none⟩ (.int .u64 key)).ownsRow B 187 2 (.slice (some ⟨lb, 0, none⟩) l.length cap) l.length (encE (l.set i ((atE l i).1, key))) := by
    have h1 := (h.row.stored (i * 2 + 1) (.int .u64 key)).1
    have e1 := encE_set l i ((atE l i).1, key)
    rw [if_pos hi] at e1
    have e2 : (encE l).set (i * 2) (.int .i64 (atE l i).1) = encE l := by
      have h3 := (encE_at l i hi).1
      rw [show 2 * i = i * 2 by omega] at h3
      obtain ⟨h4, h5⟩ := List.getElem?_eq_some_iff.1 h3
      rw [← h5]
      exact List.set_getElem_self h4
    rw [e2] at e1
    rw [← e1]
    exact h1
  refine ⟨⟨(heap_setCell_other w ⟨lb, i * 2 + 1, none⟩ T _ (Ne.symm hlT)).trans h.cells, by rw [hlen]; exact hrow, ⟨zs, (heap_setCell_other w ⟨lb, i * 2 + 1, none⟩ ab _ (Ne.symm hlA)).trans hz, ⟨hok.len, fun j hj => by rw [hat]; exact hok.at_ j (by omega), fun j hj hall => hok.out j hj (fun m hm => by have := hall m (by omega); rwa [hat] at this)⟩⟩, fun a b ha hb hab => ?_, fun a ha => ⟨by rw [hat]; exact (h.lt a (by omega)).1, hat2 a (by omega)⟩, h.ne, h.neT, h.neA, h.bT, h.bA, h.small⟩, ?_⟩
  · rw [hat, hat] at hab
    exact h.ids a b (by omega) (by omega) hab
  · exact ⟨rfl, rfl, rfl, by simp [World.setCell], fun k _ _ _ a3 => heap_setCell_other w ⟨lb, i * 2 + 1, none⟩ k _ (fun e => a3 (by rw [e]; rfl)), Or.inl rfl⟩

set_option maxHeartbeats 1000000 in
theorem lower_any (B h T ab N : Nat) (v : Value) (l : List Ent) (id key : Nat) (w : World) (hh : IsHeap w B h T ab v l N) (hid : id < N) (hk : key < 18446744073709551616) (hl : l.length ≤ 16384) (hlow : ∀ i, i < l.length → (atE l i).1 = id → key < (atE l i).2) (hroom : findE l id = none → l.length ≤ 16383) :
    Calls Tryz.prog 105 #[.pointer (some ⟨h, 0, none⟩), .int .i64 id, .int .u64 key] w fun en w' => en = .returned (.tuple #[.bool true, .int .i64 0]) ∧ ∃ v', IsHeap w' B h T ab v' (lowF l id key) N ∧ HTurn T ab v w w' v' := by
  have HA := Lib.hid (has_any B h T ab N v l id w hh hid)
  have HH := Lib.hid hh
  have c0 := hh.cell
  have c1 := hh.tree.cell1
  obtain ⟨zs, hz, hok⟩ := hh.tree.places
  have hidz : (id : Int) < (N : Int) := by omega
  have hzc : w.cell? ⟨ab, id, none⟩ = some (.int .i64 (zs.getD id 0)) := by simp [World.cell?, hz, hok.len, hid]
  cases hf : findE l id with
  | none =>
    have hn := findE_none hf
    have e : lowF l id key = pushF l (id, key) := by unfold lowF; rw [hf]
    have hzz : zs.getD id 0 = -1 := by
      have := hok.out id hid hn
      rw [List.getD_eq_getElem?_getD, this]; rfl
    rw [hzz] at hzc
    have HP := Lib.hid (cpush_any B T ab N v l (id, key) w hh.tree hid hk hn (hroom hf))
    have HE := Lib.hid e
    clear hh hz hok hn e hzz hf hlow hroom hk
    go_enter Tryz.func105, Tryz.ntmps105
    go_wp2_with fail
    refine HA.out.mono ?_
    rintro en w1 ⟨rfl, rfl⟩
    clear HA
    go_wp2_with fail
    refine HP.out.mono ?_
    rintro en w2 ⟨rfl, v2, ht2, hf2⟩
    have HH2 := Lib.hid (HH.out.turn ht2 hf2)
    have HF2 := Lib.hid hf2
    clear ht2 hf2
    go_wp2_with fail
    go_ret2
    exact ⟨rfl, v2, by rw [HE.out]; exact HH2.out, HF2.out⟩
  | some i =>
    obtain ⟨hi, hie⟩ := findE_some hf
    have e : lowF l id key = fixF (l.set i (id, key)) i := by unfold lowF; rw [hf]
    have hzz : zs.getD id 0 = (i : Int) := by
      have := hok.at_ i hi
      rw [hie] at this
      rw [List.getD_eq_getElem?_getD, this]; rfl
    rw [hzz] at hzc
    have hlt := hlow i hi hie
    obtain ⟨lb, cap, rfl, hc1, hc2, hbl, hlb, hlT, hlA, hcell, hfr⟩ := hh.tree.slice (by omega)
    obtain ⟨x0, x1⟩ := hcell i hi
    have fx := hfr (i * 2 + 1)
    have d0 := hh.tree.cell0
    have hs := set_key hh.tree hi key hk
    rw [hie] at hs
    have hll : (l.set i (id, key)).length = l.length := by simp
    have HFI := Lib.hid (fun wx hx => fix_any B T ab N (.slice (some ⟨lb, 0, none⟩) l.length cap) (l.set i (id, key)) i wx hx (by omega) (by omega))
    have HS := Lib.hid hs
    have HE := Lib.hid e
    have hiz : (i : Int) < (l.length : Int) := by omega
    have hi0 : ¬ (i : Int) < 0 := by omega
    have hkz : ¬ ((atE l i).2 : Int) ≤ (key : Int) := by omega
    generalize (atE l i).2 = ok at *
    generalize (atE l i).1 = oi at *
    clear hh hz hok e hzz hf hlow hroom hk hcell hfr hlt hs hll
    go_enter Tryz.func105, Tryz.ntmps105
    go_wp2_with fail
    refine HA.out.mono ?_
    rintro en w1 ⟨rfl, rfl⟩
    clear HA
    go_wp2_with fail
    have HT1 := Lib.hid (HH.out.turn HS.out.1 HS.out.2)
    have HF1 := Lib.hid HS.out.2
    have HX := Lib.hid (HFI.out _ HS.out.1)
    have g0 := HT1.out.cell
    generalize (w.setCell ⟨lb, i * 2 + 1, none⟩ (.int .u64 key)) = w2 at *
    refine HX.out.mono ?_
    rintro en w3 ⟨rfl, ht3, hf3⟩
    have HH3 := Lib.hid (HT1.out.turn ht3 hf3)
    have HF3 := Lib.hid (HF1.out.trans hf3)
    clear ht3 hf3
    go_wp2_with fail
    go_ret2
    exact ⟨rfl, _, by rw [HE.out]; exact HH3.out, HF3.out⟩

end Go.Proofs.YtjddimoeodecgaaGreat

/- heap.New; what Lower and Pop make of the entries, as a whole. -/
namespace Go.Proofs.YtjddimoeodecgaaGreat
open Go.RowKit Go.Lib
set_option linter.unusedVariables false
set_option maxRecDepth 100000

/-- Behind Lower: the entry, and all others. -/
theorem lowF_perm (l : List Ent) (id key : Nat) (ids : ∀ i j, i < l.length → j < l.length → (atE l i).1 = (atE l j).1 → i = j) : (lowF l id key).Perm ((id, key) :: l.filter fun e => e.1 != id) := by
  unfold lowF
  cases hf : findE l id with
  | none =>
    have hn := findE_none hf
    have e : (l.filter fun e => e.1 != id) = l := by
      rw [List.filter_eq_self]
      intro a ha
      obtain ⟨i, hi, rfl⟩ := List.getElem_of_mem ha
      have := hn i hi
      unfold atE at this
      rw [List.getD_eq_getElem?_getD, List.getElem?_eq_getElem hi] at this
      simpa using this
    rw [e]
    exact pushF_perm l (id, key)
  | some i =>
    obtain ⟨hi, hie⟩ := findE_some hf
    refine (fixF_perm _ i (by simpa using hi)).trans ?_
    have hsplit := atE_take l i hi
    have hset : l.set i (id, key) = l.take i ++ (id, key) :: l.drop (i + 1) := by
      rw [List.set_eq_take_append_cons_drop, if_pos hi]
    rw [hset]
    have hfil : (l.filter fun e => e.1 != id) = l.take i ++ l.drop (i + 1) := by
      conv => lhs; rw [hsplit]
      rw [List.filter_append, List.filter_cons]
      have h0 : ((atE l i).1 != id) = false := by rw [hie]; simp
      rw [h0]
      simp only [Bool.false_eq_true, if_false]
      have ht : ∀ a ∈ l.take i, (a.1 != id) = true := by
        intro a ha
        obtain ⟨j, hj, rfl⟩ := List.getElem_of_mem ha
        rw [List.length_take] at hj
        have hji : j < i := by omega
        rw [List.getElem_take]
        have e1 : atE l j = l[j] := by unfold atE; rw [List.getD_eq_getElem?_getD, List.getElem?_eq_getElem (by omega)]; rfl
        have : (atE l j).1 ≠ id := fun e => by have := ids j i (by omega) hi (by rw [e, hie]); omega
        rw [e1] at this
        simpa using this
      have hd : ∀ a ∈ l.drop (i + 1), (a.1 != id) = true := by
        intro a ha
        obtain ⟨j, hj, rfl⟩ := List.getElem_of_mem ha
        rw [List.length_drop] at hj
        rw [List.getElem_drop]
        have e1 : atE l (i + 1 + j) = l[i + 1 + j] := by unfold atE; rw [List.getD_eq_getElem?_getD, List.getElem?_eq_getElem (by omega)]; rfl
        have : (atE l (i + 1 + j)).1 ≠ id := fun e => by have := ids (i + 1 + j) i (by omega) hi (by rw [e, hie]); omega
        rw [e1] at this
        simpa using this
      rw [List.filter_eq_self.2 ht, List.filter_eq_self.2 hd]
    rw [hfil]
    exact List.perm_middle

theorem cell_ints {w : World} {b : Nat} {zs : List Int} {t : TypeId} (h : w.heap[b]? = some (.cells (zs.map (Value.int .i64)).toArray t (0, 0))) {k : Nat} {z : Int} (hz : zs[k]? = some z) : w.cell? ⟨b, k, none⟩ = some (.int .i64 z) := by
  simp [World.cell?, h, hz]
theorem fill_at (k n : Nat) (h : k < n) : (List.replicate k (-1 : Int) ++ List.replicate (n - k) 0)[k]? = some 0 := by
  rw [List.getElem?_append_right (by simp), List.length_replicate, Nat.sub_self, List.getElem?_replicate, if_pos (by omega)]
theorem fill_step (k n : Nat) (h : k < n) : ((List.replicate k (-1 : Int) ++ List.replicate (n - k) 0).set k (-1)) = List.replicate (k + 1) (-1) ++ List.replicate (n - (k + 1)) 0 := by
  rw [List.set_append_right _ _ (by simp), List.length_replicate, Nat.sub_self, show n - k = (n - (k + 1)) + 1 by omega, List.replicate_succ, List.set_cons_zero, List.replicate_succ', List.append_assoc]
  rfl

theorem infoInt : (Tryz.prog.info? 3).map (fun i => (i.zero, i.size, i.bytes)) = some (some (.int .i64 0), 1, 8) := by kernel_rfl
theorem make_ints (n : Nat) (hn : n ≤ 1000000) (w : World) : (Instr.makeSlice 25 (.int .i64 n) (.int .i64 n)).run Tryz.prog w = .ok (.slice (some ⟨w.heap.size, 0, none⟩) n n) (w.alloc (.cells ((List.replicate n (0 : Int)).map (Value.int .i64)).toArray 3)) := by
  obtain ⟨i0, hi, hz0, hz1, hz2⟩ := info_parts infoInt
  have h := run_make (P := Tryz.prog) w 25 3 i0 (.int .i64 0) Tryz.underlying25 hi hz0 .i64 .i64 n n (by omega) (Int.le_refl _) (by rw [hz2]; omega) (by omega)
  rw [hz1, Int.toNat_natCast, Nat.mul_one] at h
  rw [h]
  congr 2
  have e : (madeCells (Value.int IntKind.i64 0).cells n) = ((List.replicate n (0 : Int)).map (Value.int .i64)).toArray := by
    apply Array.toList_inj.1
    rw [List.map_replicate]
    exact toList_madeCells_one _ n
  rw [e]

set_option maxHeartbeats 1000000 in
theorem new_any (n : Nat) (w : World) (h0 : 1 ≤ n) (hn : n ≤ 16384) :
    Calls Tryz.prog 104 #[.int .i64 n] w fun en w' => ∃ h T ab, en = .returned (.tuple #[.pointer (some ⟨h, 0, none⟩), .int .i64 0]) ∧ IsHeap w' w.heap.size h T ab (.slice none 0 0) [] n ∧ Below w.heap.size w w' := by
  have z0 : ¬ (n : Int) < 0 := by omega
  have z1 : ¬ (16384 : Int) < (n : Int) := by omega
  have hmk := make_ints n (by omega)
  go_enter Tryz.func104, Tryz.ntmps104
  go_upto_region 4 with fail
  clear hmk
  have hb1 : Below w.heap.size w ((w.alloc (.cells (Array.replicate n (Value.int .i64 0)) 3)).alloc (.cells #[.slice none 0 0, .slice (some ⟨w.heap.size, 0, none⟩) n n, .nilFunc] 185)) := ((Below.refl _ w).alloc (Nat.le_refl _) _).alloc (by rw [World.size_alloc]; omega) _
  have hA1 : ((w.alloc (.cells (Array.replicate n (Value.int .i64 0)) 3)).alloc (.cells #[.slice none 0 0, .slice (some ⟨w.heap.size, 0, none⟩) n n, .nilFunc] 185)).heap[w.heap.size]? = some (.cells ((List.replicate 0 (-1 : Int) ++ List.replicate (n - 0) 0).map (Value.int .i64)).toArray 3 (0, 0)) := by
    rw [heap_alloc2_old]
    simp
  have hT1 : ((w.alloc (.cells (Array.replicate n (Value.int .i64 0)) 3)).alloc (.cells #[.slice none 0 0, .slice (some ⟨w.heap.size, 0, none⟩) n n, .nilFunc] 185)).heap[w.heap.size + 1]? = some (.cells #[.slice none 0 0, .slice (some ⟨w.heap.size, 0, none⟩) n n, .nilFunc] 185 (0, 0)) := heap_alloc2_new _ _ _
  have hs1 : ((w.alloc (.cells (Array.replicate n (Value.int .i64 0)) 3)).alloc (.cells #[.slice none 0 0, .slice (some ⟨w.heap.size, 0, none⟩) n n, .nilFunc] 185)).heap.size = w.heap.size + 2 := by simp
  generalize ((w.alloc (.cells (Array.replicate n (Value.int .i64 0)) 3)).alloc (.cells #[.slice none 0 0, .slice (some ⟨w.heap.size, 0, none⟩) n n, .nilFunc] 185)) = w1 at *
  have HB1 := Lib.hid hb1
  have HA1 := Lib.hid hA1
  have HT1 := Lib.hid hT1
  have HS1 := Lib.hid hs1
  have c1 : w1.cell? ⟨w.heap.size + 1, 1, none⟩ = some (.slice (some ⟨w.heap.size, 0, none⟩) n n) := by simp [World.cell?, hT1]
  clear hb1 hA1 hT1 hs1
  generalize hab : w.heap.size = ab at *
  have HAB := Lib.hid hab
  clear hab
  go_wp2_with fail
  clear c1
  go_loopg [21] n (fun gg s21 wr => ∃ k : Nat, k ≤ n ∧ n - k ≤ gg ∧ s21 = .int .i64 k ∧ Hid (wr.heap[ab]? = some (.cells ((List.replicate k (-1 : Int) ++ List.replicate (n - k) 0).map (Value.int .i64)).toArray 3 (0, 0))) ∧ Hid (wr.heap[ab + 1]? = some (.cells #[.slice none 0 0, .slice (some ⟨ab, 0, none⟩) n n, .nilFunc] 185 (0, 0))) ∧ Hid (wr.heap.size = ab + 2) ∧ Hid (Below ab w wr))
  case atStart => exact ⟨0, Nat.zero_le _, by omega, rfl, HA1, HT1, HS1, HB1⟩
  case round =>
    obtain ⟨k, hk, hgg, rfl, HA, HT, HS, HB⟩ := hrel
    by_cases hlt : k < n
    · have hkz : (k : Int) < (n : Int) := by omega
      have c1 : wr.cell? ⟨ab + 1, 1, none⟩ = some (.slice (some ⟨ab, 0, none⟩) n n) := by simp [World.cell?, HT.out]
      have c2 : wr.cell? ⟨ab, k, none⟩ = some (.int .i64 0) := cell_ints HA.out (fill_at k n hlt)
      have f2 : wr.frozen? ⟨ab, k, none⟩ = false := by simp [World.frozen?, HA.out]
      have hA2 := heap_setCell_same wr ab k _ _ (.int .i64 (-1)) HA.out
      rw [ints_set, fill_step k n hlt] at hA2
      have hT2 := (heap_setCell_other wr ⟨ab, k, none⟩ (ab + 1) (.int .i64 (-1)) (by show ab + 1 ≠ ab; omega)).trans HT.out
      have hS2 : (wr.setCell ⟨ab, k, none⟩ (.int .i64 (-1))).heap.size = ab + 2 := by rw [← HS.out]; simp [World.setCell]
      have hB2 : Below ab w (wr.setCell ⟨ab, k, none⟩ (.int .i64 (-1))) := HB.out.setCell (p := ⟨ab, k, none⟩) (Nat.le_refl ab) _
      have HA2 := Lib.hid hA2
      have HT2 := Lib.hid hT2
      have HS2 := Lib.hid hS2
      have HB2 := Lib.hid hB2
      clear hA2 hT2 hS2 hB2
      go_wp2_with fail
      go_roundg (n - (k + 1))
      case measure => omega
      case rel => exact ⟨k + 1, by omega, by omega, by go_num, HA2, HT2, HS2, HB2⟩
    · have hkz : ¬ (k : Int) < (n : Int) := by omega
      have hk2 : k = n := by omega
      have hA := HA.out
      rw [hk2] at hA
      have HA3 := Lib.hid hA
      have c1 : wr.cell? ⟨ab + 1, 2, none⟩ = some .nilFunc := by simp [World.cell?, HT.out]
      have f1 : wr.frozen? ⟨ab + 1, 2, none⟩ = false := by simp [World.frozen?, HT.out]
      have hst : (store ⟨ab + 1, 2, none⟩ (.func (.func 137) #[] #[])).run Tryz.prog wr = .ok () (wr.setCell ⟨ab + 1, 2, none⟩ (.func (.func 137) #[] #[])) := by
        rw [run_store _ _ _ _ _ rfl]
        simp [c1, f1]
      clear hA HA hlt hk2
      go_wp2_with fail
      go_ret2
      have hT2 := heap_setCell_same wr (ab + 1) 2 _ _ (.func (.func 137) #[] #[]) HT.out
      have hA2 := (heap_setCell_other wr ⟨ab + 1, 2, none⟩ ab (.func (.func 137) #[] #[]) (by show ab ≠ ab + 1; omega)).trans HA3.out
      have hz5 : (wr.setCell ⟨ab + 1, 2, none⟩ (.func (.func 137) #[] #[])).heap.size = wr.heap.size := by simp [World.setCell]
      have hS2 : (wr.setCell ⟨ab + 1, 2, none⟩ (.func (.func 137) #[] #[])).heap.size = ab + 2 := by rw [← HS.out]; simp [World.setCell]
      have hB2 : Below ab w (wr.setCell ⟨ab + 1, 2, none⟩ (.func (.func 137) #[] #[])) := HB.out.setCell (p := ⟨ab + 1, 2, none⟩) (by show ab ≤ ab + 1; omega) _
      generalize (wr.setCell ⟨ab + 1, 2, none⟩ (.func (.func 137) #[] #[])) = w5 at *
      have hB5 : Below w5.heap.size w5 (w5.alloc (.cells #[.pointer (some ⟨ab + 1, 0, none⟩)] 189)) := (Below.refl _ w5).alloc (Nat.le_refl _) _
      rw [Nat.sub_self, List.replicate_zero, List.append_nil] at hA2
      refine ⟨wr.heap.size, rfl, ⟨ab + 1, ab, ⟨by rw [← hz5]; exact heap_alloc_new w5 _, ⟨(hB5.block (ab + 1) (by omega)).trans hT2, World.ownsRow_nil _ _ _ _, ⟨List.replicate n (-1), (hB5.block ab (by omega)).trans hA2, ⟨by simp, fun i hi => absurd hi (Nat.not_lt_zero _), fun j hj _ => by simp [hj]⟩⟩, fun i j hi => absurd hi (Nat.not_lt_zero _), fun i hi => absurd hi (Nat.not_lt_zero _), by omega, by simp [Value.ownBlock], by simp [Value.ownBlock], by have := HAB.out; omega, by have := HAB.out; omega, hn⟩, by omega, by omega, by simp [Value.ownBlock], by have := HAB.out; omega⟩⟩, ?_⟩
      have h6 := hB2.alloc (by omega) (.cells #[.pointer (some ⟨ab + 1, 0, none⟩)] 189)
      have e : w.heap.size = ab := HAB.out
      rw [e]
      exact h6

end Go.Proofs.YtjddimoeodecgaaGreat
