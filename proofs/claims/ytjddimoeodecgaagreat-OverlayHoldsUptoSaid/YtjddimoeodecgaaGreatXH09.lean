/- Rows of rows of numbers in memory, under way. -/
import Derived.Lib.BufferWrite
import Derived.Lib.SmallJoins
import Derived.Test.YtjddimoeodecgaaGreatXH08
namespace Go.Proofs.YtjddimoeodecgaaGreat
open Go.RowKit Go.Lib Go.Maps Go.Proofs.YtjddimoeodecgaaGreatW.PrintWords Go.Proofs.YtjddimoeodecgaaGreatW.PrintLast Go.Proofs.YtjddimoeodecgaaGreatW.PrintMore
set_option linter.unusedVariables false
set_option maxRecDepth 100000

theorem but_own {a w w2 : World} {g : Nat} {row : Option Nat} (h : a.grownBy w (some g)) (hg : w.grownBy w2 row) (hr : ∀ b, row = some b → a.heap.size ≤ b) : a.grownBy w2 (some g) :=
  ⟨hg.os.trans h.os, hg.tape.trans h.tape, hg.output.trans h.output, Nat.le_trans h.size hg.size, fun k hk hne => (hg.block k (by have := h.size; omega) (fun e => by have := hr k e.symm; omega)).trans (h.block k hk hne)⟩
theorem but_below {a w w2 : World} {g m : Nat} (h : a.grownBy w (some g)) (hb : Below m w w2) (hm : a.heap.size ≤ m) : a.grownBy w2 (some g) :=
  ⟨hb.os.trans h.os, hb.tape.trans h.tape, hb.output.trans h.output, Nat.le_trans h.size hb.size, fun k hk hne => (hb.block k (by omega)).trans (h.block k hk hne)⟩
theorem but_set {a w : World} {g : Nat} (h : a.grownBy w (some g)) (i : Nat) (v : Value) : a.grownBy (w.setCell ⟨g, i, none⟩ v) (some g) :=
  have h2 := grownBy_setCell w g i v
  ⟨h2.os.trans h.os, h2.tape.trans h.tape, h2.output.trans h.output, Nat.le_trans h.size h2.size, fun k hk hne => (h2.block k (by have := h.size; omega) hne).trans (h.block k hk hne)⟩
theorem but_refl (w : World) (g : Nat) : w.grownBy w (some g) := ⟨rfl, rfl, rfl, Nat.le_refl _, fun _ _ _ => rfl⟩

/-- A row of numbers to be read. -/
def IRow (w : World) (B g : Nat) (v : Value) (l : List Int) : Prop := (v = nilV ∧ l = []) ∨ ∃ b cap, v = .slice (some ⟨b, 0, none⟩) l.length cap ∧ l.length ≤ cap ∧ B ≤ b ∧ b ≠ g ∧ b < w.heap.size ∧ Kd.C (Kd.int .i64) w (some ⟨b, 0, none⟩) l.length l ∧ ∀ j, j < l.length → w.cell? ⟨b, j, none⟩ = some (.int .i64 (l.getD j 0))
theorem IRow.kept {w w' : World} {B g : Nat} {v : Value} {l : List Int} (h : IRow w B g v l) (hg : w.grownBy w' (some g)) (hl : l.length ≤ 1000000) : IRow w' B g v l := by
  rcases h with h | ⟨b, cap, h1, h2, h3, h4, h5, h6, h7⟩
  · exact Or.inl h
  · have hc : ∀ j, j < l.length → w'.cell? ⟨b, j, none⟩ = some (.int .i64 (l.getD j 0)) := fun j hj => hg.cell (h7 j hj) (fun e => h4 (by simpa using e))
    exact Or.inr ⟨b, cap, h1, h2, h3, h4, by have := hg.size; omega, Q.ints_C _ _ _ hc hl, hc⟩
theorem IRow.below {w w' : World} {B g : Nat} {v : Value} {l : List Int} (h : IRow w B g v l) (hb : Below w.heap.size w w') (hl : l.length ≤ 1000000) : IRow w' B g v l :=
  h.kept (but_below (but_refl w g) hb (Nat.le_refl _)) hl
/-- Rows of numbers, in block g. -/
structure IRows (w : World) (B g : Nat) (vs : List Value) (rows : List (List Int)) : Prop where
  len : vs.length = rows.length
  ge : B ≤ g
  box : w.heap[g]? = some (.cells vs.toArray 25 (0, 0))
  row : ∀ k, k < vs.length → IRow w B g (vs.getD k nilV) (rows.getD k [])
  small : ∀ l ∈ rows, l.length ≤ 1000000
theorem row_small {rows : List (List Int)} (h : ∀ l ∈ rows, l.length ≤ 1000000) (k : Nat) : (rows.getD k []).length ≤ 1000000 := by
  by_cases hk : k < rows.length
  · rw [List.getD_eq_getElem?_getD, List.getElem?_eq_getElem hk]
    exact h _ (List.getElem_mem hk)
  · rw [List.getD_eq_getElem?_getD, List.getElem?_eq_none (by omega)]
    simp
section
variable {w : World} {B g : Nat} {vs : List Value} {rows : List (List Int)}
theorem IRows.lt (h : IRows w B g vs rows) : g < w.heap.size := (Array.getElem?_eq_some_iff.1 h.box).1
theorem IRows.below {w' : World} (h : IRows w B g vs rows) (hb : Below w.heap.size w w') : IRows w' B g vs rows :=
  ⟨h.len, h.ge, (hb.block g h.lt).trans h.box, fun k hk => (h.row k hk).below hb (row_small h.small k), h.small⟩
theorem repI_get (K k : Nat) : (List.replicate K ([] : List Int)).getD k [] = [] := by
  rw [List.getD_eq_getElem?_getD, List.getElem?_replicate]
  split <;> rfl
theorem IRows.made (w : World) (K : Nat) {w' : World} (hbox : w'.heap[w.heap.size]? = some (.cells (List.replicate K nilV).toArray 25 (0, 0))) : IRows w' w.heap.size w.heap.size (List.replicate K nilV) (List.replicate K []) := by
  refine ⟨by simp, Nat.le_refl _, hbox, fun k hk => ?_, fun l hl => ?_⟩
  · rw [rep_get, repI_get]; exact Or.inl ⟨rfl, rfl⟩
  · rw [List.eq_of_mem_replicate hl]; simp
theorem IRows.lower {B' : Nat} (h : IRows w B g vs rows) (hB : B' ≤ B) : IRows w B' g vs rows :=
  ⟨h.len, by have := h.ge; omega, h.box, fun k hk => by
    rcases h.row k hk with q | ⟨b, cap, h1, h2, h3, h4, h5, h6, h7⟩
    · exact Or.inl q
    · exact Or.inr ⟨b, cap, h1, h2, by omega, h4, h5, h6, h7⟩, h.small⟩
theorem IRows.cell (h : IRows w B g vs rows) (k : Nat) (hk : k < vs.length) : w.cell? ⟨g, k, none⟩ = some (vs.getD k nilV) := by
  rw [cell_of_row w g k vs.toArray 25 (0, 0) h.box]
  simp [hk]
theorem setI_get (rows : List (List Int)) (k j : Nat) (l : List Int) (hk : k < rows.length) : (rows.set k l).getD j [] = if j = k then l else rows.getD j [] := by
  by_cases e : j = k
  · subst e
    rw [if_pos rfl, List.getD_eq_getElem?_getD, List.getElem?_set_self hk]
    rfl
  · rw [if_neg e, List.getD_eq_getElem?_getD, List.getElem?_set_ne (fun z => e z.symm), ← List.getD_eq_getElem?_getD]
/-- Row k is there. -/
theorem IRows.put {w' : World} (h : IRows w B g vs rows) (hf : w.grownBy w' (some g)) (k : Nat) (hk : k < vs.length) (v : Value) (l : List Int) (hbox : w'.heap[g]? = some (.cells (vs.set k v).toArray 25 (0, 0))) (hrow : IRow w' B g v l) (hl : l.length ≤ 1000000) : IRows w' B g (vs.set k v) (rows.set k l) := by
  have hkr : k < rows.length := by rw [← h.len]; exact hk
  refine ⟨by simp [h.len], h.ge, hbox, fun j hj => ?_, fun m hm => ?_⟩
  · rw [List.length_set] at hj
    rw [set_get _ _ _ _ hk, setI_get _ _ _ _ hkr]
    by_cases e : j = k
    · rw [if_pos e, if_pos e]
      exact hrow
    · rw [if_neg e, if_neg e]
      exact (h.row j hj).kept hf (row_small h.small j)
  · rcases List.mem_or_eq_of_mem_set hm with h1 | h1
    · exact h.small m h1
    · rw [h1]; exact hl
/-- A member of block g is put. -/
theorem box_set {w : World} {g : Nat} {vs : List Value} {t : TypeId} (h : w.heap[g]? = some (.cells vs.toArray t (0, 0))) (k : Nat) (v : Value) : (w.setCell ⟨g, k, none⟩ v).heap[g]? = some (.cells (vs.set k v).toArray t (0, 0)) := by
  rw [Go.Joins.block_setCell h]
  simp
end

/-- 'make' of slices. -/
theorem make_slices (st et : TypeId) (hu : Tryz.prog.underlying st = some (.slice et)) (hinfo : (Tryz.prog.info? et).map (fun i => (i.zero, i.size, i.bytes)) = some (some (.slice none 0 0), 1, 24)) (n : Nat) (hn : n ≤ 1000000) (w : World) : (Instr.makeSlice st (.int .i64 n) (.int .i64 n)).run Tryz.prog w = .ok (.slice (some ⟨w.heap.size, 0, none⟩) n n) (w.alloc (.cells (Array.replicate n nilV) et)) := by
  obtain ⟨i0, hi, hz0, hz1, hz2⟩ := info_parts hinfo
  have h := run_make (P := Tryz.prog) w st et i0 (.slice none 0 0) hu hi hz0 .i64 .i64 n n (by omega) (Int.le_refl _) (by rw [hz2]; omega) (by omega)
  rw [hz1, Int.toNat_natCast, Nat.mul_one] at h
  rw [h]
  congr 2
  have e : (madeCells (Value.slice none 0 0).cells n) = Array.replicate n nilV := by
    apply Array.toList_inj.1
    rw [Array.toList_replicate]
    exact toList_madeCells_one _ n
  rw [e]
theorem intsInfo : (Tryz.prog.info? 25).map (fun i => (i.zero, i.size, i.bytes)) = some (some (.slice none 0 0), 1, 24) := by kernel_rfl
theorem matsInfo : (Tryz.prog.info? 30).map (fun i => (i.zero, i.size, i.bytes)) = some (some (.slice none 0 0), 1, 24) := by kernel_rfl
theorem rep_box {w : World} {g K : Nat} {t : TypeId} (h : w.heap[g]? = some (.cells (Array.replicate K nilV) t (0, 0))) : w.heap[g]? = some (.cells (List.replicate K nilV).toArray t (0, 0)) := by
  rw [h]
  congr 2

end Go.Proofs.YtjddimoeodecgaaGreat

/- The stale cells' list is ascending (plain). -/
namespace Go.Proofs.YtjddimoeodecgaaGreat
open Go.RowKit Go.Lib Go.Maps Go.Proofs.YtjddimoeodecgaaGreatW.PrintWords Go.Proofs.YtjddimoeodecgaaGreatW.PrintLast Go.Proofs.YtjddimoeodecgaaGreatW.PrintMore
set_option linter.unusedVariables false
set_option maxRecDepth 100000

theorem compact_asc (d : Array Int) (hs : ∀ i j, i ≤ j → j < d.size → d[i]! ≤ d[j]!) : ∀ m, m ≤ d.size → (Lib.compactUpTo d m).Pairwise (· < ·) ∧ ∀ x ∈ Lib.compactUpTo d m, ∃ j, j < m ∧ x = d[j]!
  | 0, _ => by
    have e : Lib.compactUpTo d 0 = [] := rfl
    rw [e]
    exact ⟨List.Pairwise.nil, fun x hx => by cases hx⟩
  | m + 1, hm => by
    obtain ⟨h1, h2⟩ := compact_asc d hs m (by omega)
    rw [Lib.compactUpTo_succ]
    by_cases hk : Lib.keeps d m = true
    · rw [if_pos hk]
      refine ⟨List.pairwise_append.2 ⟨h1, List.pairwise_singleton _ _, fun x hx y hy => ?_⟩, fun x hx => ?_⟩
      · simp only [List.mem_singleton] at hy
        subst hy
        obtain ⟨j, hj, rfl⟩ := h2 x hx
        have a1 := hs j (m - 1) (by omega) (by omega)
        have a2 := hs (m - 1) m (by omega) (by omega)
        have a3 : d[m]! ≠ d[m - 1]! := by
          have hm0 : m ≠ 0 := by omega
          unfold Lib.keeps at hk
          simpa [hm0] using hk
        omega
      · rcases List.mem_append.1 hx with h | h
        · obtain ⟨j, hj, e⟩ := h2 x h
          exact ⟨j, by omega, e⟩
        · simp only [List.mem_singleton] at h
          exact ⟨m, by omega, h⟩
    · rw [if_neg hk, List.append_nil]
      exact ⟨h1, fun x hx => by obtain ⟨j, hj, e⟩ := h2 x hx; exact ⟨j, by omega, e⟩⟩
theorem sorted_asc (zs : List Int) : (Lib.compact (zs.mergeSort (fun x y => decide (x ≤ y)))).Pairwise (· < ·) := by
  have hp : (zs.mergeSort (fun x y => decide (x ≤ y))).Pairwise (fun a b => decide (a ≤ b) = true) := List.pairwise_mergeSort (le := fun x y : Int => decide (x ≤ y)) (fun a b c h1 h2 => by simp at *; omega) (fun a b => by simp; omega) zs
  generalize zs.mergeSort (fun x y => decide (x ≤ y)) = so at *
  unfold Lib.compact
  refine (compact_asc so.toArray (fun i j hij hj => ?_) so.length (by simp)).1
  have hj' : j < so.length := by simpa using hj
  rw [getElem!_pos so.toArray i (by simp; omega), getElem!_pos so.toArray j hj]
  simp only [List.getElem_toArray]
  by_cases e : i = j
  · subst e
    exact Int.le_refl _
  · have h := List.pairwise_iff_getElem.1 hp i j (by omega) hj' (by omega)
    simpa using h
theorem stale_asc (arcs : List Q.S95) (cs ids : List Int) : (Q.staleOf arcs cs ids).Pairwise (· < ·) := sorted_asc _
theorem stale_le (arcs : List Q.S95) (cs ids : List Int) : (Q.staleOf arcs cs ids).Pairwise (· ≤ ·) := (stale_asc arcs cs ids).imp (fun h => Int.le_of_lt h)
theorem touch_len (arcs : List Q.S95) (cs : List Int) : ∀ ids : List Int, (Q.touchOf arcs cs ids).length ≤ ids.length
  | [] => Nat.le_refl _
  | i :: r => by
    have ih := touch_len arcs cs r
    unfold Q.touchOf at ih ⊢
    rw [List.flatMap_cons, List.length_append, List.length_cons]
    have : (if Q.cellF cs (arcs.getD i.toNat Q.z95) = Q.cellT cs (arcs.getD i.toNat Q.z95) then [Q.cellF cs (arcs.getD i.toNat Q.z95)] else []).length ≤ 1 := by split <;> simp
    omega
/-- What the inner loop has put, up to one. -/
def touchTo (arcs : List Q.S95) (cs ids : List Int) (i : Nat) : List Int := Q.touchOf arcs cs (ids.take i)
theorem touchTo_step (arcs : List Q.S95) (cs ids : List Int) (i : Nat) (hi : i < ids.length) : touchTo arcs cs ids (i + 1) = touchTo arcs cs ids i ++ (if Q.cellF cs (arcs.getD (ids.getD i 0).toNat Q.z95) = Q.cellT cs (arcs.getD (ids.getD i 0).toNat Q.z95) then [Q.cellF cs (arcs.getD (ids.getD i 0).toNat Q.z95)] else []) := by
  unfold touchTo Q.touchOf
  have e : ids.getD i 0 = ids[i] := by rw [List.getD_eq_getElem?_getD, List.getElem?_eq_getElem hi]; rfl
  rw [e, List.take_add_one, List.flatMap_append, List.getElem?_eq_getElem hi]
  show _ ++ List.flatMap _ [ids[i]] = _
  rw [List.flatMap_cons, List.flatMap_nil, List.append_nil]
theorem touchTo_all (arcs : List Q.S95) (cs ids : List Int) : touchTo arcs cs ids ids.length = Q.touchOf arcs cs ids := by unfold touchTo; rw [List.take_length]
theorem touchTo_len (arcs : List Q.S95) (cs ids : List Int) (i : Nat) : (touchTo arcs cs ids i).length ≤ i := by
  have h := touch_len arcs cs (ids.take i)
  rw [List.length_take] at h
  unfold touchTo
  omega

end Go.Proofs.YtjddimoeodecgaaGreat

/- overlay.made: a cell of the level 1, and one that stays. -/
namespace Go.Proofs.YtjddimoeodecgaaGreat
open Go.RowKit Go.Lib Go.Maps Go.Proofs.YtjddimoeodecgaaGreatW.PrintWords Go.Proofs.YtjddimoeodecgaaGreatW.PrintLast Go.Proofs.YtjddimoeodecgaaGreatW.PrintMore
set_option linter.unusedVariables false
set_option maxRecDepth 100000

theorem cutV_split {w : World} {l : List Int} {A' : Option Addr} {n' c' : Nat} (h : CutV w l (.slice A' n' c')) : n' = l.length ∧ Kd.C (Kd.int .i64) w A' l.length l := by
  obtain ⟨P, hv, hC⟩ := h
  simp only [Value.slice.injEq] at hv
  obtain ⟨rfl, rfl, _⟩ := hv
  exact ⟨rfl, hC⟩

set_option maxHeartbeats 4000000 in
theorem madeLeaf_any (n : Nat) (arcs : List Q.S95) (A : Option Addr) (c : Nat) (BA : Option Addr) (bc : Nat) (bounds : List Int) (CA : Option Addr) (cc : Nat) (cells : List (List Int)) (w : World) (h : GN w n arcs A c BA bc bounds CA cc cells) (ov : Value) (x : Nat) (hx : x < Q.manyOf (cells.getD 0 [])) (epoch : Int) (hep : 0 ≤ epoch ∧ epoch ≤ 1073741824) :
    Calls Tryz.prog 114 #[.agg #[.int .i64 (n : Int), .slice A arcs.length c], .agg #[.slice BA bounds.length bc, .slice CA cells.length cc], ov, .int .i64 1, .int .i64 (x : Int), .int .i64 epoch, .int .i64 1] w fun e w' => ∃ P m cp, e = .returned (.tuple #[.agg #[.int .i64 1, .int .i64 (x : Int), .int .i64 epoch, .slice P m cp], .int .i64 0]) ∧ w'.ownsRow w.heap.size 43 1 (.slice P m cp) (Q.matOf n arcs (cells.getD 0 []) (x : Int)).length (u64s (Q.matOf n arcs (cells.getD 0 []) (x : Int))) ∧ Below w.heap.size w w' := by
  obtain ⟨c0, c1, n0, n1, r0, hsz, hb1⟩ := boxes224 w (.int .i64 (n : Int)) (.slice A arcs.length c) (.slice BA bounds.length bc) (.slice CA cells.length cc) (.int .i64 0) (.int .i64 0) (.int .i64 0) (.slice none 0 0) 24 28 37
  have h0 := h.cellE 0 x (by have := h.ok.b1; omega) hx
  have hlr : Q.levelRow cells 1 = cells.getD 0 [] := rfl
  have hlv : ((0 + 1 : Nat) : Int) = 1 := rfl
  rw [hlv] at h0
  have HIN : Hid (∀ wx : World, Below w.heap.size w wx → Calls Tryz.prog 28 #[.agg #[.int .i64 (n : Int), .slice A arcs.length c], .agg #[.slice BA bounds.length bc, .slice CA cells.length cc], .int .i64 1, .int .i64 (x : Int)] wx fun e w' => ∃ A' c', e = .returned (.tuple #[.slice A' (Q.innerOf arcs (cells.getD 0 []) (x : Int)).length c', .int .i64 0]) ∧ Kd.C (Kd.int .i64) w' A' (Q.innerOf arcs (cells.getD 0 []) (x : Int)).length (Q.innerOf arcs (cells.getD 0 []) (x : Int)) ∧ Below wx.heap.size wx w') := Lib.hid (fun wx hb => by
    refine (inner_any n arcs A c BA bc bounds CA cc cells 1 (x : Int) w wx hb h.g.fit h.r h.c h.nest).mono ?_
    rintro e w' ⟨A', n', c', h1, h2, h3⟩
    rw [h0] at h1
    obtain ⟨rfl, hC⟩ := cutV_split (h2 h0)
    exact ⟨A', c', h1, hC, h3⟩)
  have hin := inner_idx arcs (cells.getD 0 []) (x : Int)
  have hil : (Q.innerOf arcs (cells.getD 0 []) (x : Int)).length ≤ arcs.length := Q.inner_len arcs (cells.getD 0 []) (x : Int) arcs.length
  have hm := h.g.m
  have HWT := Lib.hid (fun (wx : World) (IA : Option Addr) (ic : Nat) (hb : Below w.heap.size w wx) (hi : Kd.C (Kd.int .i64) wx IA (Q.innerOf arcs (cells.getD 0 []) (x : Int)).length (Q.innerOf arcs (cells.getD 0 []) (x : Int))) => ownWeights_any n arcs A c BA bc bounds CA cc cells wx (h.below hb) IA ic (Q.innerOf arcs (cells.getD 0 []) (x : Int)) hi hin (by omega))
  have HLF := Lib.hid (fun (wx : World) (WP : Option Addr) (wcp : Nat) (hb : Below w.heap.size w wx) (hw : Kd.C (Kd.int .u32) wx WP ((Q.innerOf arcs (cells.getD 0 []) (x : Int)).map (fun i => (arcs.getD i.toNat Q.z95).f2)).length ((Q.innerOf arcs (cells.getD 0 []) (x : Int)).map (fun i => (arcs.getD i.toNat Q.z95).f2))) => ownLeaf_any n arcs A c BA bc bounds CA cc cells wx (h.below hb) x hx epoch hep WP wcp hw)
  clear hin hil hm h h0 hlr hlv hx hep
  generalize (Q.innerOf arcs (cells.getD 0 []) (x : Int)).map (fun i => (arcs.getD i.toNat Q.z95).f2) = ws at *
  generalize Q.innerOf arcs (cells.getD 0 []) (x : Int) = idx at *
  generalize Q.matOf n arcs (cells.getD 0 []) (x : Int) = D at *
  go_enter Tryz.func114, Tryz.ntmps114
  go_upto_region 1 with fail
  generalize (((w.alloc (.cells #[.int .i64 (n : Int), .slice A arcs.length c] 24)).alloc (.cells #[.slice BA bounds.length bc, .slice CA cells.length cc] 28)).alloc (.cells #[.int .i64 0, .int .i64 0, .int .i64 0, .slice none 0 0] 37)) = w1 at *
  have HB1 := Lib.hid hb1
  have hs1 : w.heap.size + 3 ≤ w1.heap.size := by omega
  have HIN1 := Lib.hid (HIN.out w1 hb1)
  generalize hgx : w.heap.size = gx at *
  have HGX := Lib.hid hgx
  have HBOX : Hid (∀ wx : World, Below w1.heap.size w1 wx → wx.cell? ⟨gx, 0, none⟩ = some (.int .i64 (n : Int)) ∧ wx.cell? ⟨gx, 1, none⟩ = some (.slice A arcs.length c) ∧ wx.cell? ⟨gx + 1, 0, none⟩ = some (.slice BA bounds.length bc) ∧ wx.cell? ⟨gx + 1, 1, none⟩ = some (.slice CA cells.length cc) ∧ wx.heap[gx + 2]? = some (.cells #[.int .i64 0, .int .i64 0, .int .i64 0, .slice none 0 0] 37 (0, 0)) ∧ Below gx w wx) := Lib.hid (fun wx hb =>
    ⟨(hb.cell (p := ⟨gx, 0, none⟩) (by show gx < w1.heap.size; omega)).trans c0, (hb.cell (p := ⟨gx, 1, none⟩) (by show gx < w1.heap.size; omega)).trans c1, (hb.cell (p := ⟨gx + 1, 0, none⟩) (by show gx + 1 < w1.heap.size; omega)).trans n0, (hb.cell (p := ⟨gx + 1, 1, none⟩) (by show gx + 1 < w1.heap.size; omega)).trans n1, (hb.block (gx + 2) (by omega)).trans r0, HB1.out.trans (hb.mono (by omega))⟩)
  clear hb1 hsz hgx HIN
  go_upto_region 4 with (go_at_call 28; (with_reducible refine HIN1.out.mono ?_); rintro e w2 ⟨IA, ic, rfl, hic, hb⟩; have HIC := Lib.hid hic; have HB2 := Lib.hid hb; clear hic hb)
  clear c0 c1 n0 n1 r0 HIN1
  obtain ⟨x0, x1, x2, x3, -, hbw2⟩ := HBOX.out w2 HB2.out
  have HW2 := Lib.hid (HWT.out w2 IA ic hbw2 HIC.out)
  clear hbw2
  go_upto_region 7 with (go_at_call 17; (with_reducible refine HW2.out.mono ?_); rintro e w3 ⟨WP, wcp, rfl, hwc, hb⟩; have HWC := Lib.hid hwc; have HB3 := Lib.hid hb; clear hwc hb)
  have HB13 : Hid (Below w1.heap.size w1 w3) := Lib.hid (HB2.out.trans (HB3.out.mono HB2.out.size))
  clear x0 x1 x2 x3 HW2
  obtain ⟨x0, x1, x2, x3, -, hbw3⟩ := HBOX.out w3 HB13.out
  have HL3 := Lib.hid (HLF.out w3 WP wcp hbw3 HWC.out)
  clear hbw3
  go_wp2_with (go_at_call 14; (with_reducible refine HL3.out.mono ?_); rintro e w4 ⟨P, m, cp, rfl, hown, hb⟩; have HO4 := Lib.hid hown; have HB4 : Hid (Below w1.heap.size w1 w4) := Lib.hid (HB13.out.trans (hb.mono HB13.out.size)); clear hown hb; obtain ⟨-, -, -, -, qI, -⟩ := HBOX.out w4 HB4.out; obtain ⟨z0, z1, z2, z3, zf⟩ := cells4 qI)
  ((try simp only [Exit.inBlock, Exit.then]); refine bodyPost_ret (results_ct rfl _ _ (gx + 2) 37 #[.int .i64 1, .int .i64 (x : Int), .int .i64 epoch, .slice P m cp] (0, 0) _ rfl (heap_set4 qI) Tryz.underlying37 rfl (by kernel_rfl)) rfl ?_)
  have hgx := HGX.out
  have hs3 := HB13.out.size
  obtain ⟨-, -, -, -, -, hbT⟩ := HBOX.out w4 HB4.out
  subst hgx
  refine ⟨P, m, cp, rfl, own_lower (row_stays HO4.out (fun j hj => ?_)) (show w.heap.size ≤ w3.heap.size by omega), below_set4 hbT (by omega)⟩
  have h6 := (HO4.out.lt j hj).1
  have h7 : ∀ (wx : World) (o : Nat) (u : Value), (wx.setCell ⟨w.heap.size + 2, o, none⟩ u).heap[j]? = wx.heap[j]? := fun wx o u => heap_setCell_other wx ⟨w.heap.size + 2, o, none⟩ j u (by show j ≠ w.heap.size + 2; omega)
  rw [h7, h7, h7, h7]

end Go.Proofs.YtjddimoeodecgaaGreat

/- overlay.made: a cell that stays. -/
namespace Go.Proofs.YtjddimoeodecgaaGreat
open Go.RowKit Go.Lib Go.Maps Go.Proofs.YtjddimoeodecgaaGreatW.PrintWords Go.Proofs.YtjddimoeodecgaaGreatW.PrintLast Go.Proofs.YtjddimoeodecgaaGreatW.PrintMore
set_option linter.unusedVariables false
set_option maxRecDepth 100000

/-- slices.Clone of distances. -/
theorem dclone_any (D : List Nat) (DP : Option Addr) (dc : Nat) (w : World) (hf : DP = none ∨ ∃ gd, DP = some ⟨gd, 0, none⟩) (hc : ∀ j, j < D.length → ∃ gd, DP = some ⟨gd, 0, none⟩ ∧ w.cell? ⟨gd, j, none⟩ = some (.int .u64 (D.getD j 0 : Nat))) (hl : D.length ≤ 268435456) :
    Calls Tryz.prog 149 #[.slice DP D.length dc] w fun e w' => ∃ P m cp, e = .returned (.slice P m cp) ∧ w'.ownsRow w.heap.size 43 1 (.slice P m cp) D.length (u64s D) ∧ Below w.heap.size w w' := by
  obtain ⟨i0, hi, hz0, hz1, hz2⟩ := info_parts distInfo
  rcases hf with rfl | ⟨gd, rfl⟩
  · have h0 : D.length = 0 := by
      rcases Nat.eq_zero_or_pos D.length with h | h
      · exact h
      · obtain ⟨gd, h1, _⟩ := hc 0 h
        cases h1
    refine (Tryz.slices_Clone_nil_f149 D.length dc w).mono ?_
    rintro e w' ⟨rfl, rfl⟩
    have hD : D = [] := List.length_eq_zero_iff.1 h0
    subst hD
    exact ⟨_, _, _, rfl, World.ownsRow_nil _ _ _ _, Below.refl _ _⟩
  · refine (Tryz.slices_Clone_f149 i0 _ 1 8 hi hz0 hz1 hz2 rfl (by decide) (fun w => Tryz.sizeOf43 w) gd 0 D.length dc (u64s D) w (by unfold u64s; simp) (by unfold maxLen; omega) (by omega) (fun j u hu => ?_) (fun u hu => ?_)).mono ?_
    · have hj : j < D.length := by
        rcases Nat.lt_or_ge j D.length with h' | h'
        · exact h'
        · rw [List.getElem?_eq_none (by unfold u64s; simpa using h')] at hu
          cases hu
      obtain ⟨gd', h1, h2⟩ := hc j hj
      cases h1
      rw [Nat.zero_add, h2]
      unfold u64s at hu
      simpa [hj] using hu
    · unfold u64s at hu
      obtain ⟨a, _, rfl⟩ := List.mem_map.1 hu
      rfl
    · rintro e w' ⟨v, rfl, ho, _, hb⟩
      obtain ⟨A, c, hv, _⟩ := own_cap ho
      subst hv
      exact ⟨_, _, _, rfl, ho, hb⟩

set_option maxHeartbeats 4000000 in
theorem madeStays_any (n : Nat) (arcs : List Q.S95) (A : Option Addr) (c : Nat) (BA : Option Addr) (bc : Nat) (bounds : List Int) (CA : Option Addr) (cc : Nat) (cells : List (List Int)) (w : World) (go oc : Nat) (os : List (List Mat)) (k x : Nat) (lw epoch : Int) (hlw : lw = (k : Int) + 1) (hO : OverIn w go os) (hk : k < os.length) (hK : os.length ≤ 5) (hx : x < (os.getD k []).length) (hxl : (os.getD k []).length ≤ 1024) (M : Mat) (hM : (os.getD k []).getD x zMat = M) (hD : M.D.length ≤ 268435456) :
    Calls Tryz.prog 114 #[.agg #[.int .i64 (n : Int), .slice A arcs.length c], .agg #[.slice BA bounds.length bc, .slice CA cells.length cc], .slice (some ⟨go, 0, none⟩) os.length oc, .int .i64 lw, .int .i64 (x : Int), .int .i64 epoch, .int .i64 0] w fun e w' => ∃ P m cp, e = .returned (.tuple #[.agg #[.int .i64 M.lv, .int .i64 M.c, .int .i64 M.ep, .slice P m cp], .int .i64 0]) ∧ w'.ownsRow w.heap.size 43 1 (.slice P m cp) M.D.length (u64s M.D) ∧ Below w.heap.size w w' := by
  obtain ⟨c0, c1, n0, n1, r0, hsz, hb1⟩ := boxes224 w (.int .i64 (n : Int)) (.slice A arcs.length c) (.slice BA bounds.length bc) (.slice CA cells.length cc) (.int .i64 0) (.int .i64 0) (.int .i64 0) (.slice none 0 0) 24 28 37
  obtain ⟨HA, hc, o1, o2, o3⟩ := hO k hk
  obtain ⟨g, DP, dc, hHA, y0, y1, y2, y3, y4, hf, y5, y6⟩ := o3 x hx
  subst hHA
  rw [hM] at y0 y1 y2 y3 y4 y5 y6
  obtain ⟨lv, mc, ep, D⟩ := M
  simp only at y0 y1 y2 y3 y4 y5 y6 hD ⊢
  have HCL : Hid (∀ wx : World, Below w.heap.size w wx → Calls Tryz.prog 149 #[.slice DP D.length dc] wx fun e w' => ∃ P m cp, e = .returned (.slice P m cp) ∧ w'.ownsRow wx.heap.size 43 1 (.slice P m cp) D.length (u64s D) ∧ Below wx.heap.size wx w') := Lib.hid (fun wx hb => dclone_any D DP dc wx hf (fun j hj => by
    obtain ⟨gd, h1, h2⟩ := y6 j hj
    exact ⟨gd, h1, (hb.cell (World.block_lt_of_cell? w _ h2)).trans h2⟩) hD)
  clear y5 y6 hf hO o3 hM
  generalize (os.getD k []).length = rl at *
  generalize os.length = ol at *
  have hkz : (k : Int) < (ol : Int) := by omega
  have hxz : (x : Int) < (rl : Int) := by omega
  have hwk : IntKind.i64.wrap (lw - 1) = (k : Int) := by rw [IntWalk.i64_in _ (by omega)]; omega
  clear hlw
  go_enter Tryz.func114, Tryz.ntmps114
  go_upto_region 1 with fail
  generalize (((w.alloc (.cells #[.int .i64 (n : Int), .slice A arcs.length c] 24)).alloc (.cells #[.slice BA bounds.length bc, .slice CA cells.length cc] 28)).alloc (.cells #[.int .i64 0, .int .i64 0, .int .i64 0, .slice none 0 0] 37)) = w1 at *
  have HB1 := Lib.hid hb1
  have hs1 : w.heap.size + 3 ≤ w1.heap.size := by omega
  have e1 := (hb1.cell (World.block_lt_of_cell? w _ o1)).trans o1
  have f0 := (hb1.cell (World.block_lt_of_cell? w _ y0)).trans y0
  have f1 := (hb1.cell (World.block_lt_of_cell? w _ y1)).trans y1
  have f2 := (hb1.cell (World.block_lt_of_cell? w _ y2)).trans y2
  have f3 := (hb1.cell (World.block_lt_of_cell? w _ y3)).trans y3
  have R0 := Lib.hid r0
  generalize hgx : w.heap.size = gx at *
  have HGX := Lib.hid hgx
  clear hb1 hsz hgx o1 y0 y1 y2 y3 c0 c1 n0 n1 r0
  go_upto_region 28 with fail
  have hq := heap_alloc_new w1 (.cells #[.int .i64 lv, .int .i64 mc, .int .i64 ep, .slice DP D.length dc] 37)
  have hb2 : Below w1.heap.size w1 (w1.alloc (.cells #[.int .i64 lv, .int .i64 mc, .int .i64 ep, .slice DP D.length dc] 37)) := (Below.refl _ w1).alloc (Nat.le_refl _) _
  generalize (w1.alloc (.cells #[.int .i64 lv, .int .i64 mc, .int .i64 ep, .slice DP D.length dc] 37)) = w2 at *
  have HQ := Lib.hid hq
  have HB2 := Lib.hid hb2
  have hgm := lt_of_block hq
  have R2 : Hid (w2.heap[gx + 2]? = some (.cells #[.int .i64 0, .int .i64 0, .int .i64 0, .slice none 0 0] 37 (0, 0))) := Lib.hid ((hb2.block (gx + 2) (by omega)).trans R0.out)
  generalize hgm2 : w1.heap.size = gm at *
  have hgm3 : gx + 3 ≤ gm := by omega
  have HBW2 : Hid (Below gx w w2) := Lib.hid (HB1.out.trans (HB2.out.mono (by omega)))
  have HC2 := Lib.hid (HCL.out w2 HBW2.out)
  obtain ⟨z0, z1, z2, z3, -⟩ := cells4 HQ.out
  clear hq hb2 e1 f0 f1 f2 f3 HCL
  go_wp2_with (go_at_call 149; (with_reducible refine HC2.out.mono ?_); rintro e w3 ⟨P, m, cp, rfl, hown, hb⟩; have HO3 := Lib.hid hown; have HB3 := Lib.hid hb; have q3 := (hb.block gm hgm).trans HQ.out; have r3 := (hb.block (gx + 2) (by omega)).trans R2.out; obtain ⟨s0, s1, s2, s3, sf⟩ := cells4 q3; obtain ⟨t0, t1, t2, t3, tf⟩ := cells4 r3; clear hown hb)
  have qI : (w3.setCell ⟨gm, 3, none⟩ (.slice P m cp)).heap[gx + 2]? = some (.cells #[.int .i64 0, .int .i64 0, .int .i64 0, .slice none 0 0] 37 (0, 0)) := (heap_setCell_other w3 ⟨gm, 3, none⟩ (gx + 2) _ (by show gx + 2 ≠ gm; omega)).trans r3
  ((try simp only [Exit.inBlock, Exit.then]); refine bodyPost_ret (results_ct rfl _ _ (gx + 2) 37 #[.int .i64 lv, .int .i64 mc, .int .i64 ep, .slice P m cp] (0, 0) _ rfl (heap_set4 qI) Tryz.underlying37 rfl (by kernel_rfl)) rfl ?_)
  have hgx := HGX.out
  have hs2 := HBW2.out.size
  have hbT : Below gx w (w3.setCell ⟨gm, 3, none⟩ (.slice P m cp)) := (HBW2.out.trans (HB3.out.mono (by omega))).setCell (by show gx ≤ gm; omega) _
  subst hgx
  refine ⟨P, m, cp, rfl, own_lower (row_stays HO3.out (fun j hj => ?_)) (show w.heap.size ≤ w2.heap.size by omega), below_set4 hbT (by omega)⟩
  have h6 := (HO3.out.lt j hj).1
  have h7 : ∀ (wx : World) (o : Nat) (u : Value), (wx.setCell ⟨w.heap.size + 2, o, none⟩ u).heap[j]? = wx.heap[j]? := fun wx o u => heap_setCell_other wx ⟨w.heap.size + 2, o, none⟩ j u (by show j ≠ w.heap.size + 2; omega)
  rw [h7, h7, h7, h7]
  exact heap_setCell_other w3 ⟨gm, 3, none⟩ j _ (by show j ≠ gm; omega)

end Go.Proofs.YtjddimoeodecgaaGreat

/- overlay.late. -/
namespace Go.Proofs.YtjddimoeodecgaaGreat
open Go.RowKit Go.Lib Go.Maps Go.Proofs.YtjddimoeodecgaaGreatW.PrintWords Go.Proofs.YtjddimoeodecgaaGreatW.PrintLast Go.Proofs.YtjddimoeodecgaaGreatW.PrintMore
set_option linter.unusedVariables false
set_option maxRecDepth 100000

set_option maxHeartbeats 4000000 in
theorem late_any (w : World) (go oc : Nat) (os : List (List Mat)) (hO : OverIn w go os) (hK : os.length ≤ 5) (hl : ∀ k, k < os.length → (os.getD k []).length ≤ 1024) :
    Calls Tryz.prog 88 #[.slice (some ⟨go, 0, none⟩) os.length oc] w fun e w' => ∃ L, e = .returned (.int .i64 L) ∧ IsLate os L ∧ Below w.heap.size w w' := by
  have HO := Lib.hid hO
  have HLN := Lib.hid hl
  clear hO hl
  generalize hol : os.length = ol at *
  have HOL := Lib.hid hol
  clear hol
  go_enter Tryz.func88, Tryz.ntmps88
  go_wp2_with fail
  go_loopg [3, 10] ol (fun gg s3 s10 wr => ∃ (k : Nat) (L : Int), k ≤ ol ∧ ol - k ≤ gg ∧ s10 = .int .i64 k ∧ s3 = .int .i64 L ∧ Hid (IsLate (os.take k) L) ∧ Hid (Below w.heap.size w wr))
  case atStart => exact ⟨0, 0, Nat.zero_le _, by omega, rfl, rfl, Lib.hid IsLate.nil, Lib.hid (Below.refl _ _)⟩
  case round =>
    obtain ⟨k, L, hk1, hgg, rfl, rfl, HL, HB⟩ := hrel
    obtain ⟨wm, rfl⟩ : ∃ x : World, x = wr := ⟨_, rfl⟩
    by_cases hlt : k < ol
    · have hltz : (k : Int) < (ol : Int) := by omega
      have hwk : IntKind.i64.wrap ((k : Int) + 1) = ((k + 1 : Nat) : Int) := by rw [IntWalk.i64_in _ (by omega)]; omega
      obtain ⟨HA, hc, o1, o2, o3⟩ := HO.out k (by rw [HOL.out]; exact hlt)
      have hrl := HLN.out k hlt
      have e1 := (HB.out.cell (World.block_lt_of_cell? w _ o1)).trans o1
      have HM := Lib.hid o3
      have HL0 : Hid (IsLate (os.take k ++ [(os.getD k []).take 0]) L) := Lib.hid (by rw [List.take_zero]; exact HL.out.start)
      have HNX : Hid (∀ L' : Int, IsLate (os.take k ++ [(os.getD k []).take (os.getD k []).length]) L' → IsLate (os.take (k + 1)) L') := Lib.hid (fun L' h => h.next (by rw [HOL.out]; exact hlt))
      clear o1 o3 HL
      generalize os.getD k [] = row at *
      generalize hrq : row.length = rl at *
      have HRQ := Lib.hid hrq
      clear hrq
      go_wp2_with fail
      go_loopg [3, 16] rl (fun gg s3 s16 wr => ∃ (j : Nat) (L : Int), j ≤ rl ∧ rl - j ≤ gg ∧ s16 = .int .i64 j ∧ s3 = .int .i64 L ∧ Hid (IsLate (os.take k ++ [row.take j]) L) ∧ Hid (Below w.heap.size w wr))
      case atStart => exact ⟨0, L, Nat.zero_le _, by omega, rfl, rfl, HL0, HB⟩
      case round =>
        obtain ⟨j, L2, hj1, hgg2, rfl, rfl, HL2, HBJ⟩ := hrel
        obtain ⟨wq, rfl⟩ : ∃ x : World, x = wr := ⟨_, rfl⟩
        by_cases hltj : j < rl
        · have hltjz : (j : Int) < (rl : Int) := by omega
          have hwj : IntKind.i64.wrap ((j : Int) + 1) = ((j + 1 : Nat) : Int) := by rw [IntWalk.i64_in _ (by omega)]; omega
          obtain ⟨g, DP, dc, hHA, y0, y1, y2, y3, -⟩ := (HM.out.below HBJ.out) j (by rw [HRQ.out]; exact hltj)
          subst hHA
          have HST := Lib.hid (HL2.out.step (by rw [HRQ.out]; exact hltj))
          generalize row.getD j zMat = M at *
          obtain ⟨lv, mc, ep, D⟩ := M
          simp only at y0 y1 y2 y3
          go_upto_region 8 with fail
          have hq := heap_alloc_new wq (.cells #[.int .i64 lv, .int .i64 mc, .int .i64 ep, .slice DP D.length dc] 37)
          have hb2 : Below w.heap.size w (wq.alloc (.cells #[.int .i64 lv, .int .i64 mc, .int .i64 ep, .slice DP D.length dc] 37)) := HBJ.out.alloc HBJ.out.size _
          generalize (wq.alloc (.cells #[.int .i64 lv, .int .i64 mc, .int .i64 ep, .slice DP D.length dc] 37)) = w2 at *
          have HB2 := Lib.hid hb2
          obtain ⟨z0, z1, z2, z3, -⟩ := cells4 hq
          clear hq hb2 y0 y1 y2 y3
          go_wp2_with fail
          have HWJ := Lib.hid hwj
          clear hwj
          go_roundg (rl - (j + 1))
          case measure => omega
          case rel => exact ⟨j + 1, _, by omega, Nat.le_refl _, rfl, rfl, HST, HB2⟩
        · have : j = rl := by omega
          subst this
          have hkz : ¬ (j : Int) < (j : Int) := by omega
          have HN2 := Lib.hid (HNX.out L2 HL2.out)
          go_wp2_with fail
          have HWK := Lib.hid hwk
          clear hwk
          go_roundg (ol - (k + 1))
          case measure => omega
          case rel => exact ⟨k + 1, L2, by omega, Nat.le_refl _, rfl, rfl, HN2, HBJ⟩
    · have : k = ol := by omega
      subst this
      have hkz : ¬ (k : Int) < (k : Int) := by omega
      go_wp2_with fail
      go_ret
      have h1 := HL.out
      rw [← HOL.out, List.take_length] at h1
      exact ⟨L, rfl, h1, HB.out⟩

end Go.Proofs.YtjddimoeodecgaaGreat

/- overlay.Check of an overlay that fits. -/
namespace Go.Proofs.YtjddimoeodecgaaGreat
open Go.RowKit Go.Lib Go.Maps Go.Proofs.YtjddimoeodecgaaGreatW.PrintWords Go.Proofs.YtjddimoeodecgaaGreatW.PrintLast Go.Proofs.YtjddimoeodecgaaGreatW.PrintMore
set_option linter.unusedVariables false
set_option maxRecDepth 100000

/-- An overlay that fits a graph and a nest. -/
structure OverOk (arcs : List Q.S95) (bounds : List Int) (cells : List (List Int)) (os : List (List Mat)) : Prop where
  len : os.length = bounds.length
  row : ∀ k, k < bounds.length → (os.getD k []).length = Q.manyOf (cells.getD k [])
  mat : ∀ k x, k < bounds.length → x < Q.manyOf (cells.getD k []) → ((os.getD k []).getD x zMat).lv = ((k + 1 : Nat) : Int) ∧ ((os.getD k []).getD x zMat).c = (x : Int) ∧ (0 ≤ ((os.getD k []).getD x zMat).ep ∧ ((os.getD k []).getD x zMat).ep ≤ 1073741824) ∧ ((os.getD k []).getD x zMat).D.length = (Q.bndOf arcs (cells.getD k []) (x : Int)).length * (Q.bndOf arcs (cells.getD k []) (x : Int)).length
theorem overO_ok {n : Nat} {a b : List Q.S95} (h : Shape a b) (bounds : List Int) (cells : List (List Int)) (ep : Nat → Nat → Int) (hep : ∀ k c, k < bounds.length → c < Q.manyOf (cells.getD k []) → 0 ≤ ep k c ∧ ep k c ≤ 1073741824) : OverOk b bounds cells (overO n a cells bounds.length ep) := by
  refine ⟨overO_len _, fun k hk => by rw [overO_get _ _ hk, overRow_len], fun k x hk hx => ?_⟩
  rw [overO_get _ _ hk, overRow_get _ _ hx]
  refine ⟨rfl, rfl, hep k x hk hx, ?_⟩
  show (Q.matOf n a (cells.getD k []) (x : Int)).length = _
  rw [matOf_len, bnd_shape h]

set_option maxHeartbeats 4000000 in
theorem overCheck_any (n : Nat) (arcs : List Q.S95) (A : Option Addr) (c : Nat) (BA : Option Addr) (bc : Nat) (bounds : List Int) (CA : Option Addr) (cc : Nat) (cells : List (List Int)) (w : World) (h : GN w n arcs A c BA bc bounds CA cc cells) (go oc : Nat) (os : List (List Mat)) (hO : OverIn w go os) (hok : OverOk arcs bounds cells os) :
    Calls Tryz.prog 87 #[.agg #[.int .i64 (n : Int), .slice A arcs.length c], .agg #[.slice BA bounds.length bc, .slice CA cells.length cc], .slice (some ⟨go, 0, none⟩) os.length oc] w fun e w' => e = .returned (.int .i64 0) ∧ Below w.heap.size w w' := by
  obtain ⟨c0, c1, n0, n1, hsz, hb1⟩ := two_boxes w (.int .i64 (n : Int)) (.slice A arcs.length c) (.slice BA bounds.length bc) (.slice CA cells.length cc) 24 28
  have HNC : Hid (∀ wx : World, Below w.heap.size w wx → Calls Tryz.prog 26 #[.agg #[.int .i64 (n : Int), .slice A arcs.length c], .agg #[.slice BA bounds.length bc, .slice CA cells.length cc]] wx fun e w' => e = .returned (.tuple #[.int .i64 (Q.checkR (n : Int) arcs bounds cells).1, .int .i64 0]) ∧ Below wx.heap.size wx w') :=
    Lib.hid (fun wx hb => by
      have h1 := nestCheck_any (n : Int) arcs A c BA bc bounds CA cc cells wx h.g.fit (Kd.C_below h.r hb) h.c (h.nest.below hb)
      rw [h.ck] at h1
      exact h1)
  have HMN : Hid (∀ (k : Nat) (wx : World), k < bounds.length → Below w.heap.size w wx → Calls Tryz.prog 72 #[.agg #[.int .i64 (n : Int), .slice A arcs.length c], .agg #[.slice BA bounds.length bc, .slice CA cells.length cc], .int .i64 ((k : Int) + 1)] wx fun e w' => e = .returned (.tuple #[.int .i64 (Q.manyOf (cells.getD k []) : Int), .int .i64 0]) ∧ Below wx.heap.size wx w') :=
    Lib.hid (fun k wx hk hb => by
      have h1 := nestMany_any (n : Int) arcs A c BA bc bounds CA cc cells ((k + 1 : Nat) : Int) w wx hb h.g.fit h.r h.c h.nest (h.look k hk)
      rw [lv1] at h1
      exact h1)
  have HCM : Hid (∀ (k x : Nat) (ep : Int) (DP : Option Addr) (dn dc : Nat) (wx : World), k < bounds.length → x < Q.manyOf (cells.getD k []) → (0 ≤ ep ∧ ep ≤ 1073741824) → dn = (Q.bndOf arcs (cells.getD k []) (x : Int)).length * (Q.bndOf arcs (cells.getD k []) (x : Int)).length → Below w.heap.size w wx → Calls Tryz.prog 33 #[.agg #[.int .i64 (n : Int), .slice A arcs.length c], .agg #[.slice BA bounds.length bc, .slice CA cells.length cc], .agg #[.int .i64 ((k : Int) + 1), .int .i64 (x : Int), .int .i64 ep, .slice DP dn dc]] wx fun e w' => e = .returned (.int .i64 0) ∧ Below wx.heap.size wx w') :=
    Lib.hid (fun k x ep DP dn dc wx hk hx hep hdn hb => by
      have hlen : dn ≤ 9000000000000000000 := by
        rw [hdn]
        have hm := h.g.m
        have h1 := Q.bnd_len arcs (cells.getD k []) (x : Int)
        have h2 : (Q.bndOf arcs (cells.getD k []) (x : Int)).length ≤ 16384 := by omega
        have h3 := Nat.mul_le_mul h2 h2
        omega
      have h1 := check_any (n : Int) arcs A c BA bc bounds CA cc cells ((k + 1 : Nat) : Int) (x : Int) ep DP dn dc wx hlen h.g.fit (Kd.C_below h.r hb) h.c (h.nest.below hb)
      have h0 : Q.matE (n : Int) arcs bounds cells ((k + 1 : Nat) : Int) (x : Int) ep dn = 0 := by
        unfold Q.matE Q.levelRow
        rw [if_pos h.ck, lv1, if_pos ⟨h.cellE k x hk hx, hep, hdn⟩]
      rw [h0] at h1
      exact h1)
  have hb5 := h.ok.b5
  have HROW : Hid (∀ k, k < bounds.length → (os.getD k []).length = Q.manyOf (cells.getD k []) ∧ Q.manyOf (cells.getD k []) ≤ 1024) := Lib.hid (fun k hk => ⟨hok.row k hk, (h.row k hk).2.2⟩)
  have HMAT := Lib.hid hok.mat
  have hol := hok.len
  rw [hol]
  have HOL := Lib.hid hol
  have HO := Lib.hid hO
  clear h hO hok hol
  generalize (Q.checkR (n : Int) arcs bounds cells).1 = k1 at *
  go_enter Tryz.func87, Tryz.ntmps87
  go_upto_region 1 with fail
  generalize ((w.alloc (.cells #[.int .i64 (n : Int), .slice A arcs.length c] 24)).alloc (.cells #[.slice BA bounds.length bc, .slice CA cells.length cc] 28)) = w1 at *
  have HB1 := Lib.hid hb1
  have hs1 : w.heap.size + 2 ≤ w1.heap.size := by omega
  have HNC1 := Lib.hid (HNC.out w1 hb1)
  generalize hgx : w.heap.size = gx at *
  have HGX := Lib.hid hgx
  have HBOX : Hid (∀ wx : World, Below w1.heap.size w1 wx → wx.cell? ⟨gx, 0, none⟩ = some (.int .i64 (n : Int)) ∧ wx.cell? ⟨gx, 1, none⟩ = some (.slice A arcs.length c) ∧ wx.cell? ⟨gx + 1, 0, none⟩ = some (.slice BA bounds.length bc) ∧ wx.cell? ⟨gx + 1, 1, none⟩ = some (.slice CA cells.length cc) ∧ Below gx w wx) := Lib.hid (fun wx hb =>
    ⟨(hb.cell (p := ⟨gx, 0, none⟩) (by show gx < w1.heap.size; omega)).trans c0, (hb.cell (p := ⟨gx, 1, none⟩) (by show gx < w1.heap.size; omega)).trans c1, (hb.cell (p := ⟨gx + 1, 0, none⟩) (by show gx + 1 < w1.heap.size; omega)).trans n0, (hb.cell (p := ⟨gx + 1, 1, none⟩) (by show gx + 1 < w1.heap.size; omega)).trans n1, HB1.out.trans (hb.mono (by omega))⟩)
  have HOX : Hid (∀ wx : World, Below w1.heap.size w1 wx → OverIn wx go os) := Lib.hid (fun wx hb => HO.out.below (by rw [HGX.out]; exact HB1.out.trans (hb.mono (by omega))))
  clear hb1 hsz hgx HNC
  go_upto_region 4 with (go_at_call 26; (with_reducible refine HNC1.out.mono ?_); rintro e w2 ⟨rfl, hb⟩; have HB2 := Lib.hid hb; clear hb)
  clear c0 c1 n0 n1 HNC1
  obtain ⟨x0, x1, x2, x3, -⟩ := HBOX.out w2 HB2.out
  go_wp2_with fail
  clear x0 x1 x2 x3
  go_loopg [32] bounds.length (fun gg s32 wr => ∃ k : Nat, k ≤ bounds.length ∧ bounds.length - k ≤ gg ∧ s32 = .int .i64 k ∧ Hid (Below w1.heap.size w1 wr))
  case atStart => exact ⟨0, Nat.zero_le _, by omega, rfl, HB2⟩
  case round =>
    obtain ⟨k, hk1, hgg, rfl, HB⟩ := hrel
    obtain ⟨wm, rfl⟩ : ∃ x : World, x = wr := ⟨_, rfl⟩
    obtain ⟨x0, x1, x2, x3, hbw⟩ := HBOX.out wm HB.out
    by_cases hlt : k < bounds.length
    · have hltz : (k : Int) < (bounds.length : Int) := by omega
      have hwk : IntKind.i64.wrap ((k : Int) + 1) = ((k + 1 : Nat) : Int) := by rw [IntWalk.i64_in _ (by omega)]; omega
      have HMK := Lib.hid (HMN.out k wm hlt hbw)
      obtain ⟨HA, hc, o1, o2, o3⟩ := HOX.out wm HB.out k (by rw [HOL.out]; exact hlt)
      obtain ⟨hrl, hrm⟩ := HROW.out k hlt
      have HMS := Lib.hid o3
      have HMT := Lib.hid (fun x => HMAT.out k x hlt)
      have HCX := Lib.hid (fun x ep DP dn dc wx => HCM.out k x ep DP dn dc wx hlt)
      clear o3 hbw
      rw [hrl] at o1
      have HRL := Lib.hid hrl
      clear hrl
      generalize os.getD k [] = row at *
      generalize Q.manyOf (cells.getD k []) = many at *
      go_wp2_with (go_at_call 72; go_loud ((with_reducible refine HMK.out.mono ?_); rintro e w3 ⟨rfl, hb⟩; have HB3 : Hid (Below w1.heap.size w1 w3) := Lib.hid (HB.out.trans (hb.mono HB.out.size)); have HBM3 := Lib.hid hb; clear hb))
      clear x0 x1 x2 x3 o1 HMK
      go_loopg [55] many (fun gg s55 wr => ∃ j : Nat, j ≤ many ∧ many - j ≤ gg ∧ s55 = .int .i64 j ∧ Hid (Below w3.heap.size w3 wr))
      case atStart => exact ⟨0, Nat.zero_le _, by omega, rfl, Lib.hid (Below.refl _ _)⟩
      case round =>
        obtain ⟨j, hj1, hgg2, rfl, HBJ⟩ := hrel
        obtain ⟨wq, rfl⟩ : ∃ x : World, x = wr := ⟨_, rfl⟩
        have HB1Q : Hid (Below w1.heap.size w1 wq) := Lib.hid (HB3.out.trans (HBJ.out.mono HB3.out.size))
        by_cases hltj : j < many
        · have hltjz : (j : Int) < (many : Int) := by omega
          have hwj : IntKind.i64.wrap ((j : Int) + 1) = ((j + 1 : Nat) : Int) := by rw [IntWalk.i64_in _ (by omega)]; omega
          obtain ⟨g, DP, dc, hHA, y0, y1, y2, y3, -⟩ := ((HMS.out.below HBM3.out).below HBJ.out) j (by rw [HRL.out]; exact hltj)
          subst hHA
          obtain ⟨m1, m2, m3, m4⟩ := HMT.out j hltj
          generalize row.getD j zMat = M at *
          obtain ⟨lv, mc, ep, D⟩ := M
          simp only at y0 y1 y2 y3 m1 m2 m3 m4
          have m1' : lv = (k : Int) + 1 := m1
          clear m1
          subst m1' m2
          have HCQ := Lib.hid (fun wx => HCX.out j ep DP D.length dc wx hltj m3 m4)
          clear m3 m4
          go_upto_region 15 with fail
          have hq := heap_alloc_new wq (.cells #[.int .i64 ((k : Int) + 1), .int .i64 (j : Int), .int .i64 ep, .slice DP D.length dc] 37)
          have hb2 : Below w3.heap.size w3 (wq.alloc (.cells #[.int .i64 ((k : Int) + 1), .int .i64 (j : Int), .int .i64 ep, .slice DP D.length dc] 37)) := HBJ.out.alloc HBJ.out.size _
          generalize (wq.alloc (.cells #[.int .i64 ((k : Int) + 1), .int .i64 (j : Int), .int .i64 ep, .slice DP D.length dc] 37)) = w4 at *
          have HB4 := Lib.hid hb2
          have HB14 : Hid (Below w1.heap.size w1 w4) := Lib.hid (HB3.out.trans (HB4.out.mono HB3.out.size))
          obtain ⟨z0, z1, z2, z3, -⟩ := cells4 hq
          obtain ⟨x0, x1, x2, x3, hbw4⟩ := HBOX.out w4 HB14.out
          have HCW := Lib.hid (HCQ.out w4 hbw4)
          clear hq hb2 y0 y1 y2 y3 hbw4
          go_wp2_with (go_at_call 33; (with_reducible refine HCW.out.mono ?_); rintro e w5 ⟨rfl, hb⟩; have HB5 := Lib.hid hb; clear hb)
          have HWJ := Lib.hid hwj
          clear hwj
          go_roundg (many - (j + 1))
          case measure => omega
          case rel => exact ⟨j + 1, by omega, Nat.le_refl _, rfl, Lib.hid (HB4.out.trans (HB5.out.mono HB4.out.size))⟩
        · have : j = many := by omega
          subst this
          have hkz : ¬ (j : Int) < (j : Int) := by omega
          go_wp2_with fail
          have HWK := Lib.hid hwk
          clear hwk
          go_roundg (bounds.length - (k + 1))
          case measure => omega
          case rel => exact ⟨k + 1, by omega, Nat.le_refl _, rfl, HB1Q⟩
    · have : k = bounds.length := by omega
      subst this
      have hkz : ¬ (bounds.length : Int) < (bounds.length : Int) := by omega
      go_wp2_with fail
      go_ret
      have hgx := HGX.out
      subst hgx
      exact ⟨rfl, hbw⟩

end Go.Proofs.YtjddimoeodecgaaGreat

/- overlay.fateOf and the closures of All and Renew. -/
namespace Go.Proofs.YtjddimoeodecgaaGreat
open Go.RowKit Go.Lib Go.Maps Go.Proofs.YtjddimoeodecgaaGreatW.PrintWords Go.Proofs.YtjddimoeodecgaaGreatW.PrintLast Go.Proofs.YtjddimoeodecgaaGreatW.PrintMore
set_option linter.unusedVariables false
set_option maxRecDepth 100000

theorem all1_any (k x : Nat) (hk : k < 5) (lw : Int) (hlw : lw = (k : Int) + 1) (w : World) : Calls Tryz.prog 83 #[.int .i64 lw, .int .i64 (x : Int)] w fun e w' => e = .returned (.int .i64 (Q.fateA k x : Nat)) ∧ Below w.heap.size w w' := by
  unfold Q.fateA
  by_cases h : k = 0
  · subst h
    obtain rfl : lw = 1 := by omega
    clear hlw
    go_enter Tryz.func83, Tryz.ntmps83
    go_wp2_with fail
    go_ret
    exact ⟨rfl, Below.refl _ _⟩
  · rw [if_neg h]
    have h1 : ¬ lw = 1 := by omega
    have h2 : (lw == 1) = false := by simp; omega
    clear hlw
    go_enter Tryz.func83, Tryz.ntmps83
    go_wp2_with fail
    go_ret
    exact ⟨rfl, Below.refl _ _⟩

set_option maxHeartbeats 4000000 in
theorem fateOf_any (arcs : List Q.S95) (cells : List (List Int)) (ids : List Int) (B g K sc : Nat) (vs : List Value) (rows : List (List Int)) (w : World) (hI : IRows w B g vs rows) (hK : vs.length = K) (hK5 : K ≤ 5) (hR : ∀ k, k < K → rows.getD k [] = Q.staleOf arcs (cells.getD k []) ids) (k x : Nat) (hk : k < K) (hx : x ≤ 1024) (lw : Int) (hlw : lw = (k : Int) + 1) :
    Calls Tryz.prog 90 #[.int .i64 lw, .int .i64 (x : Int), .slice (some ⟨g, 0, none⟩) K sc] w fun e w' => e = .returned (.int .i64 (Q.fateF arcs cells ids k x : Nat)) ∧ Below w.heap.size w w' := by
  have hcell := hI.cell k (by omega)
  have hrow := hI.row k (by omega)
  have hsm := row_small hI.small k
  rw [hR k hk] at hrow hsm
  have hasc := stale_le arcs (cells.getD k []) ids
  have hft : Q.fateF arcs cells ids k x = if (Q.staleOf arcs (cells.getD k []) ids).contains (x : Int) = true then (if k = 0 then 1 else 2) else 0 := by
    unfold Q.fateF Q.isStale
    simp only [List.contains_iff_mem, decide_eq_true_eq]
  rw [hft]
  clear hft hI hR
  generalize Q.staleOf arcs (cells.getD k []) ids = st at *
  generalize vs.getD k nilV = v at *
  have HBS : ∃ A m c, v = .slice A m c ∧ Hid (∀ wx : World, Below w.heap.size w wx → Calls Tryz.prog 121 #[v, .int .i64 (x : Int)] wx fun e w' => ∃ r : Int, e = .returned (.tuple #[.int .i64 r, .bool (st.contains (x : Int))]) ∧ Below wx.heap.size wx w') := by
    rcases hrow with ⟨rfl, rfl⟩ | ⟨b, cap, rfl, h2, h3, h4, h5, h6, h7⟩
    · refine ⟨none, 0, 0, rfl, Lib.hid (fun wx hb => ?_)⟩
      refine (Tryz.slices_BinarySearch_int_empty none 0 (x : Int) wx).mono ?_
      rintro e w' ⟨rfl, rfl⟩
      exact ⟨0, rfl, Below.refl _ _⟩
    · refine ⟨_, _, _, rfl, Lib.hid (fun wx hb => ?_)⟩
      refine (Tryz.slices_BinarySearch_int b 0 st.length cap st (x : Int) wx (Nat.le_refl _) (by omega) (fun j hj => ?_) (by rw [List.take_length]; exact hasc)).mono ?_
      · rw [Nat.zero_add]
        exact (hb.cell (World.block_lt_of_cell? w _ (h7 j hj))).trans (h7 j hj)
      · rintro e w' ⟨rfl, q, rfl⟩
        rw [List.take_length]
        exact ⟨_, rfl, Below.drewN_ (Below.refl _ _) q⟩
  obtain ⟨A, m, c, rfl, HBS⟩ := HBS
  have hkz : (k : Int) < (K : Int) := by omega
  have hwk : IntKind.i64.wrap (lw - 1) = (k : Int) := by rw [IntWalk.i64_in _ (by omega)]; omega
  clear hrow hasc hsm
  have HB1 := Lib.hid (HBS.out w (Below.refl _ _))
  clear HBS
  cases hct : st.contains (x : Int) with
  | false =>
    rw [hct] at HB1
    clear hct
    rw [if_neg (by decide)]
    clear hlw
    go_enter Tryz.func90, Tryz.ntmps90
    go_wp2_with (go_at_call 121; (with_reducible refine HB1.out.mono ?_); rintro e w3 ⟨r, rfl, hb3⟩; have HB3 := Lib.hid hb3; clear hb3)
    go_ret
    exact ⟨rfl, HB3.out⟩
  | true =>
    rw [hct] at HB1
    clear hct
    rw [if_pos rfl]
    by_cases h : k = 0
    · subst h
      obtain rfl : lw = 1 := by omega
      clear hlw
      go_enter Tryz.func90, Tryz.ntmps90
      go_wp2_with (go_at_call 121; (with_reducible refine HB1.out.mono ?_); rintro e w3 ⟨r, rfl, hb3⟩; have HB3 := Lib.hid hb3; clear hb3)
      go_ret
      exact ⟨rfl, HB3.out⟩
    · rw [if_neg h]
      have h1 : ¬ lw = 1 := by omega
      have h2 : (lw == 1) = false := by simp; omega
      clear hlw
      go_enter Tryz.func90, Tryz.ntmps90
      go_wp2_with (go_at_call 121; (with_reducible refine HB1.out.mono ?_); rintro e w3 ⟨r, rfl, hb3⟩; have HB3 := Lib.hid hb3; clear hb3)
      go_ret
      exact ⟨rfl, HB3.out⟩

theorem renew1_any (arcs : List Q.S95) (cells : List (List Int)) (ids : List Int) (B g K sc gs : Nat) (vs : List Value) (rows : List (List Int)) (w : World) (hI : IRows w B g vs rows) (hs : w.cell? ⟨gs, 0, none⟩ = some (.slice (some ⟨g, 0, none⟩) K sc)) (hK : vs.length = K) (hK5 : K ≤ 5) (hR : ∀ k, k < K → rows.getD k [] = Q.staleOf arcs (cells.getD k []) ids) (k x : Nat) (hk : k < K) (hx : x ≤ 1024) (lw : Int) (hlw : lw = (k : Int) + 1) :
    Calls Tryz.prog 89 #[.int .i64 lw, .int .i64 (x : Int), .pointer (some ⟨gs, 0, none⟩)] w fun e w' => e = .returned (.int .i64 (Q.fateF arcs cells ids k x : Nat)) ∧ Below w.heap.size w w' := by
  have HX := Lib.hid (fateOf_any arcs cells ids B g K sc vs rows w hI hK hK5 hR k x hk hx lw hlw)
  clear hI hR
  generalize Q.fateF arcs cells ids k x = f at *
  clear hlw
  go_enter Tryz.func89, Tryz.ntmps89
  go_wp2_with (go_at_call 90; (with_reducible refine HX.out.mono ?_); rintro e w3 ⟨rfl, hb3⟩; have HB3 := Lib.hid hb3; clear hb3)
  go_ret
  exact ⟨rfl, HB3.out⟩

end Go.Proofs.YtjddimoeodecgaaGreat

/- overlay.made: a cell of a level above the first, made of its children's matrices. -/
namespace Go.Proofs.YtjddimoeodecgaaGreat
open Go.RowKit Go.Lib Go.Maps Go.Proofs.YtjddimoeodecgaaGreatW.PrintWords Go.Proofs.YtjddimoeodecgaaGreatW.PrintLast Go.Proofs.YtjddimoeodecgaaGreatW.PrintMore
set_option linter.unusedVariables false
set_option maxRecDepth 100000

/-- A matrix's members are there to be read. -/
def DRead (w : World) (p : Mat × Value) : Prop := ∃ DP dc, p.2 = .slice DP p.1.D.length dc ∧ ∀ j, j < p.1.D.length → ∃ gd, DP = some ⟨gd, 0, none⟩ ∧ w.cell? ⟨gd, j, none⟩ = some (.int .u64 (p.1.D.getD j 0 : Nat))
theorem mats_of_row {w0 w : World} {B : Nat} {v : Value} {ps : List (Mat × Value)} (h : w.ownsRow B 37 4 v ps.length (encM ps)) (hd : ∀ p ∈ ps, DRead w0 p) (hb : Below w0.heap.size w0 w) : ∃ HA hc, v = .slice HA ps.length hc ∧ MatsIn w HA (ps.map (·.1)) := by
  obtain ⟨HA, hc, hv, hcap, -⟩ := own_cap h
  refine ⟨HA, hc, hv, fun i hi => ?_⟩
  rw [List.length_map] at hi
  have e : (ps.map (·.1)).getD i zMat = (ps.getD i zP).1 := by simp [hi]
  have hmem : ps.getD i zP ∈ ps := by rw [List.getD_eq_getElem?_getD, List.getElem?_eq_getElem hi]; exact List.getElem_mem hi
  obtain ⟨DP, dc, hs, h7⟩ := hd _ hmem
  obtain ⟨e0, e1, e2, e3⟩ := encM_at ps i hi
  obtain ⟨g, h8⟩ : ∃ g, HA = some ⟨g, 0, none⟩ := by
    rcases h.2 with ⟨_, h0⟩ | ⟨g', cap, cur, h9, _⟩
    · omega
    · rw [h9] at hv
      cases hv
      exact ⟨g', rfl⟩
  have hg : v.ownBlock = some g := by rw [hv, h8]; rfl
  have ea : ∀ k : Nat, (⟨g, 0, none⟩ : Addr).add k = ⟨g, k, none⟩ := fun k => by unfold Addr.add; split <;> simp_all
  have q0 := h.cells hg _ _ e0
  have q1 := h.cells hg _ _ e1
  have q2 := h.cells hg _ _ e2
  have q3 := h.cells hg _ _ e3
  rw [ea] at q0 q1 q2 q3
  rw [hs] at q3
  rw [e]
  refine ⟨g, DP, dc, h8, q0, q1, q2, q3, fun j hj => ?_⟩
  obtain ⟨gd, h1, h2⟩ := h7 j hj
  exact ⟨gd, h1, (hb.cell (World.block_lt_of_cell? w0 _ h2)).trans h2⟩

set_option maxHeartbeats 8000000 in
theorem madeHigher_any (n : Nat) (arcs : List Q.S95) (A : Option Addr) (c : Nat) (BA : Option Addr) (bc : Nat) (bounds : List Int) (CA : Option Addr) (cc : Nat) (cells : List (List Int)) (w : World) (h : GN w n arcs A c BA bc bounds CA cc cells) (go oc ol k x : Nat) (lw : Int) (hlw : lw = (k : Int) + 2) (hk : k + 1 < bounds.length) (hol : k < ol) (hol5 : ol ≤ 5) (hx : x < Q.manyOf (cells.getD (k + 1) [])) (ep : Nat → Nat → Int) (epoch : Int) (hep : 0 ≤ epoch ∧ epoch ≤ 1073741824) (hek : ∀ y, y < Q.manyOf (cells.getD k []) → 0 ≤ ep k y ∧ ep k y ≤ epoch)
    (hrow : ∃ HA hc, w.cell? ⟨go, k, none⟩ = some (.slice HA (overRow n arcs cells ep k).length hc) ∧ MatsC w HA (overRow n arcs cells ep k)) :
    Calls Tryz.prog 114 #[.agg #[.int .i64 (n : Int), .slice A arcs.length c], .agg #[.slice BA bounds.length bc, .slice CA cells.length cc], .slice (some ⟨go, 0, none⟩) ol oc, .int .i64 lw, .int .i64 (x : Int), .int .i64 epoch, .int .i64 2] w fun e w' => ∃ P m cp, e = .returned (.tuple #[.agg #[.int .i64 lw, .int .i64 (x : Int), .int .i64 epoch, .slice P m cp], .int .i64 0]) ∧ w'.ownsRow w.heap.size 43 1 (.slice P m cp) (Q.matOf n arcs (cells.getD (k + 1) []) (x : Int)).length (u64s (Q.matOf n arcs (cells.getD (k + 1) []) (x : Int))) ∧ Below w.heap.size w w' := by
  obtain ⟨i0, hi0, hz0, hz1, hz2⟩ := info_parts matInfo
  obtain ⟨c0, c1, n0, n1, r0, hsz, hb1⟩ := boxes224 w (.int .i64 (n : Int)) (.slice A arcs.length c) (.slice BA bounds.length bc) (.slice CA cells.length cc) (.int .i64 0) (.int .i64 0) (.int .i64 0) (.slice none 0 0) 24 28 37
  have hlq : lw = ((k + 2 : Nat) : Int) := by omega
  have e1 : (((k + 2 : Nat) : Int) - 1).toNat = k + 1 := by omega
  have e2 : (((k + 2 : Nat) : Int) - 2).toNat = k := by omega
  have h0 := h.cellE (k + 1) x hk hx
  have hue : Q.upE (n : Int) arcs bounds cells lw (x : Int) = 0 := by rw [hlq]; unfold Q.upE; rw [if_pos h0, if_neg (by omega)]
  have HBT : Hid (∀ wx : World, Below w.heap.size w wx → Calls Tryz.prog 29 #[.agg #[.int .i64 (n : Int), .slice A arcs.length c], .agg #[.slice BA bounds.length bc, .slice CA cells.length cc], .int .i64 lw, .int .i64 (x : Int)] wx fun e w' => ∃ A' c', e = .returned (.tuple #[.slice A' (Q.betweenOf arcs (cells.getD (k + 1) []) (cells.getD k []) (x : Int)).length c', .int .i64 0]) ∧ Kd.C (Kd.int .i64) w' A' (Q.betweenOf arcs (cells.getD (k + 1) []) (cells.getD k []) (x : Int)).length (Q.betweenOf arcs (cells.getD (k + 1) []) (cells.getD k []) (x : Int)) ∧ Below wx.heap.size wx w') := Lib.hid (fun wx hb => by
    refine (between_any n arcs A c BA bc bounds CA cc cells lw (x : Int) w wx hb h.g.fit h.r h.c h.nest).mono ?_
    rintro e w' ⟨A', n', c', h1, h2, h3⟩
    rw [hue] at h1
    have h4 := h2 hue
    rw [hlq, e1, e2] at h4
    obtain ⟨rfl, hC⟩ := cutV_split h4
    exact ⟨A', c', h1, hC, h3⟩)
  have HCHD : Hid (∀ wx : World, Below w.heap.size w wx → Calls Tryz.prog 30 #[.agg #[.int .i64 (n : Int), .slice A arcs.length c], .agg #[.slice BA bounds.length bc, .slice CA cells.length cc], .int .i64 lw, .int .i64 (x : Int)] wx fun e w' => ∃ A' c', e = .returned (.tuple #[.slice A' (Q.kidsOf (cells.getD (k + 1) []) (cells.getD k []) (x : Int)).length c', .int .i64 0]) ∧ Kd.C (Kd.int .i64) w' A' (Q.kidsOf (cells.getD (k + 1) []) (cells.getD k []) (x : Int)).length (Q.kidsOf (cells.getD (k + 1) []) (cells.getD k []) (x : Int)) ∧ Below wx.heap.size wx w') := Lib.hid (fun wx hb => by
    refine (children_any n arcs A c BA bc bounds CA cc cells lw (x : Int) w wx hb h.g.fit h.r h.c h.nest).mono ?_
    rintro e w' ⟨A', n', c', h1, h2, h3⟩
    rw [hue] at h1
    have h4 := h2 hue
    rw [hlq, e1, e2] at h4
    obtain ⟨rfl, hC⟩ := cutV_split h4
    exact ⟨A', c', h1, hC, h3⟩)
  have hin : ∀ i ∈ Q.betweenOf arcs (cells.getD (k + 1) []) (cells.getD k []) (x : Int), 0 ≤ i ∧ i < (arcs.length : Int) := fun i hi => by
    obtain ⟨j, hj, hjl⟩ := between_in hi
    omega
  have hil : (Q.betweenOf arcs (cells.getD (k + 1) []) (cells.getD k []) (x : Int)).length ≤ arcs.length := Q.pick_len _ arcs arcs.length
  have hm := h.g.m
  have HWT := Lib.hid (fun (wx : World) (IA : Option Addr) (ic : Nat) (hb : Below w.heap.size w wx) (hi : Kd.C (Kd.int .i64) wx IA (Q.betweenOf arcs (cells.getD (k + 1) []) (cells.getD k []) (x : Int)).length (Q.betweenOf arcs (cells.getD (k + 1) []) (cells.getD k []) (x : Int))) => ownWeights_any n arcs A c BA bc bounds CA cc cells wx (h.below hb) IA ic (Q.betweenOf arcs (cells.getD (k + 1) []) (cells.getD k []) (x : Int)) hi hin (by omega))
  have HUP := Lib.hid (fun (wx : World) (WP : Option Addr) (wcp : Nat) (HA : Option Addr) (hcp : Nat) (hb : Below w.heap.size w wx) (hw : Kd.C (Kd.int .u32) wx WP ((Q.betweenOf arcs (cells.getD (k + 1) []) (cells.getD k []) (x : Int)).map (fun i => (arcs.getD i.toNat Q.z95).f2)).length ((Q.betweenOf arcs (cells.getD (k + 1) []) (cells.getD k []) (x : Int)).map (fun i => (arcs.getD i.toNat Q.z95).f2))) (hmm : MatsIn wx HA (kidsM n arcs cells ep k (x : Int))) => ownUp_any n arcs A c BA bc bounds CA cc cells wx (h.below hb) k x lw hlw hk hx ep epoch hep hek WP wcp HA hcp hw hmm)
  have HKL : Hid ((kidsM n arcs cells ep k (x : Int)).length = (Q.kidsOf (cells.getD (k + 1) []) (cells.getD k []) (x : Int)).length) := Lib.hid (by unfold kidsM; rw [List.length_map])
  have HKID : Hid (∀ t, t < (Q.kidsOf (cells.getD (k + 1) []) (cells.getD k []) (x : Int)).length → ∃ y : Nat, (Q.kidsOf (cells.getD (k + 1) []) (cells.getD k []) (x : Int)).getD t 0 = (y : Int) ∧ y < (overRow n arcs cells ep k).length ∧ (kidsM n arcs cells ep k (x : Int)).getD t zMat = (overRow n arcs cells ep k).getD y zMat) := Lib.hid (fun t ht => by
    obtain ⟨y, h1, h2⟩ := Q.kid_many (h.row (k + 1) hk).1 (h.row k (by omega)).2.1 (get_mem ht)
    refine ⟨y, h1, by rw [overRow_len]; exact h2, ?_⟩
    rw [overRow_get k y h2]
    unfold kidsM
    rw [getD_map _ _ t 0 zMat ht, h1, Int.toNat_natCast])
  have HKL4 : Hid ((Q.kidsOf (cells.getD (k + 1) []) (cells.getD k []) (x : Int)).length ≤ 16384) := Lib.hid (by
    have h1 : (Q.kidsOf (cells.getD (k + 1) []) (cells.getD k []) (x : Int)).length ≤ (Q.rawOf (cells.getD (k + 1) []) (cells.getD k []) (x : Int)).length := by
      unfold Q.kidsOf
      have := Lib.compact_length_le ((Q.rawOf (cells.getD (k + 1) []) (cells.getD k []) (x : Int)).mergeSort (fun x y => decide (x ≤ y)))
      rw [List.length_mergeSort] at this
      exact this
    have h2 : (Q.rawOf (cells.getD (k + 1) []) (cells.getD k []) (x : Int)).length ≤ (cells.getD (k + 1) []).length := by
      unfold Q.rawOf
      rw [List.length_map]
      exact Q.mem_len _ _ _
    have := (h.row (k + 1) hk).1
    have := h.g.n2
    omega)
  obtain ⟨RA, rc, hrc, hrm⟩ := hrow
  have HRM := Lib.hid hrm
  have hrl : (overRow n arcs cells ep k).length ≤ 1024 := by rw [overRow_len]; exact (h.row k (by omega)).2.2
  have hwk : IntKind.i64.wrap (lw - 2) = (k : Int) := by rw [IntWalk.i64_in _ (by omega)]; omega
  have hkz : (k : Int) < (ol : Int) := by omega
  clear hin hil hm h h0 hx hep hek hrm hue hlq e1 e2 hlw hk
  generalize (Q.betweenOf arcs (cells.getD (k + 1) []) (cells.getD k []) (x : Int)).map (fun i => (arcs.getD i.toNat Q.z95).f2) = ws at *
  generalize Q.betweenOf arcs (cells.getD (k + 1) []) (cells.getD k []) (x : Int) = idx at *
  generalize kidsM n arcs cells ep k (x : Int) = ms at *
  generalize Q.kidsOf (cells.getD (k + 1) []) (cells.getD k []) (x : Int) = kids at *
  generalize Q.matOf n arcs (cells.getD (k + 1) []) (x : Int) = D at *
  generalize overRow n arcs cells ep k = R at *
  generalize hrlq : R.length = rl at *
  have HRL := Lib.hid hrlq
  clear hrlq
  go_enter Tryz.func114, Tryz.ntmps114
  go_upto_region 1 with fail
  generalize (((w.alloc (.cells #[.int .i64 (n : Int), .slice A arcs.length c] 24)).alloc (.cells #[.slice BA bounds.length bc, .slice CA cells.length cc] 28)).alloc (.cells #[.int .i64 0, .int .i64 0, .int .i64 0, .slice none 0 0] 37)) = w1 at *
  have HB1 := Lib.hid hb1
  have hs1 : w.heap.size + 3 ≤ w1.heap.size := by omega
  have HBT1 := Lib.hid (HBT.out w1 hb1)
  have HRC := Lib.hid hrc
  have HGO := Lib.hid (World.block_lt_of_cell? w _ hrc)
  generalize hgx : w.heap.size = gx at *
  have HGX := Lib.hid hgx
  have HBOX : Hid (∀ wx : World, Below w1.heap.size w1 wx → wx.cell? ⟨gx, 0, none⟩ = some (.int .i64 (n : Int)) ∧ wx.cell? ⟨gx, 1, none⟩ = some (.slice A arcs.length c) ∧ wx.cell? ⟨gx + 1, 0, none⟩ = some (.slice BA bounds.length bc) ∧ wx.cell? ⟨gx + 1, 1, none⟩ = some (.slice CA cells.length cc) ∧ wx.heap[gx + 2]? = some (.cells #[.int .i64 0, .int .i64 0, .int .i64 0, .slice none 0 0] 37 (0, 0)) ∧ Below gx w wx) := Lib.hid (fun wx hb =>
    ⟨(hb.cell (p := ⟨gx, 0, none⟩) (by show gx < w1.heap.size; omega)).trans c0, (hb.cell (p := ⟨gx, 1, none⟩) (by show gx < w1.heap.size; omega)).trans c1, (hb.cell (p := ⟨gx + 1, 0, none⟩) (by show gx + 1 < w1.heap.size; omega)).trans n0, (hb.cell (p := ⟨gx + 1, 1, none⟩) (by show gx + 1 < w1.heap.size; omega)).trans n1, (hb.block (gx + 2) (by omega)).trans r0, HB1.out.trans (hb.mono (by omega))⟩)
  clear hb1 hsz hgx HBT hrc
  go_upto_region 12 with (go_at_call 29; (with_reducible refine HBT1.out.mono ?_); rintro e w2 ⟨IA, ic, rfl, hic, hb⟩; have HIC := Lib.hid hic; have HB2 := Lib.hid hb; clear hic hb)
  clear c0 c1 n0 n1 r0 HBT1
  obtain ⟨x0, x1, x2, x3, -, hbw2⟩ := HBOX.out w2 HB2.out
  have HW2 := Lib.hid (HWT.out w2 IA ic hbw2 HIC.out)
  clear hbw2
  go_upto_region 15 with (go_at_call 17; (with_reducible refine HW2.out.mono ?_); rintro e w3 ⟨WP, wcp, rfl, hwc, hb⟩; have HWC := Lib.hid hwc; have HB3 := Lib.hid hb; clear hwc hb)
  have HB13 : Hid (Below w1.heap.size w1 w3) := Lib.hid (HB2.out.trans (HB3.out.mono HB2.out.size))
  clear x0 x1 x2 x3 HW2
  obtain ⟨x0, x1, x2, x3, -, hbw3⟩ := HBOX.out w3 HB13.out
  have HC3 := Lib.hid (HCHD.out w3 hbw3)
  clear hbw3
  go_wp2_with (go_at_call 30; (with_reducible refine HC3.out.mono ?_); rintro e w4 ⟨KA, kc, rfl, hkc, hb⟩; have HKC := Lib.hid hkc; have HB4 := Lib.hid hb; clear hkc hb)
  have HB14 : Hid (Below w1.heap.size w1 w4) := Lib.hid (HB13.out.trans (HB4.out.mono HB13.out.size))
  have HWC4 := Lib.hid (Kd.C_below HWC.out HB4.out)
  have hs4 : w1.heap.size ≤ w4.heap.size := HB14.out.size
  clear x0 x1 x2 x3 HC3
  go_loopg [23, 97] kids.length (fun gg s23 s97 wr => ∃ (t : Nat) (qs : List (Mat × Value)), t ≤ kids.length ∧ kids.length - t ≤ gg ∧ s97 = .int .i64 t ∧ Hid (wr.ownsRow w4.heap.size 37 4 s23 qs.length (encM qs)) ∧ Hid (∀ p ∈ qs, DRead w p) ∧ Hid (qs.map (·.1) = ms.take t) ∧ Hid (Below w4.heap.size w4 wr))
  case atStart => exact ⟨0, [], Nat.zero_le _, by omega, rfl, Lib.hid (World.ownsRow_nil _ _ _ _), Lib.hid (fun p hp => by cases hp), Lib.hid rfl, Lib.hid (Below.refl _ _)⟩
  case round =>
    obtain ⟨t, qs, ht1, hgg, rfl, HMS, HDR, HQS, HBL⟩ := hrel
    have hs9r : w4.heap.size ≤ wr.heap.size := HBL.out.size
    have HB1R : Hid (Below w1.heap.size w1 wr) := Lib.hid (HB14.out.trans (HBL.out.mono hs4))
    obtain ⟨x0, x1, x2, x3, -, hbwg⟩ := HBOX.out wr HB1R.out
    have hbwr : Below w.heap.size w wr := by rw [HGX.out]; exact hbwg
    by_cases hltt : t < kids.length
    · have httz : (t : Int) < (kids.length : Int) := by omega
      have hwt : IntKind.i64.wrap ((t : Int) + 1) = ((t + 1 : Nat) : Int) := by rw [IntWalk.i64_in _ (by have := HKL4.out; omega)]; omega
      obtain ⟨kad, hkad, u0⟩ := Q.int_cell (Kd.C_below HKC.out HBL.out) t hltt
      subst hkad
      obtain ⟨y, hy, hym, hyk⟩ := HKID.out t hltt
      rw [hy] at u0
      have hyz : (y : Int) < (rl : Int) := by omega
      have o1 := (hbwr.cell (World.block_lt_of_cell? w _ HRC.out)).trans HRC.out
      obtain ⟨gB, DB, db, hRA, y0, y1, y2, y3, -, -, -, y7⟩ := HRM.out y (by rw [HRL.out]; exact hym)
      subst hRA
      have z0 := (hbwr.cell (World.block_lt_of_cell? w _ y0)).trans y0
      have z1 := (hbwr.cell (World.block_lt_of_cell? w _ y1)).trans y1
      have z2 := (hbwr.cell (World.block_lt_of_cell? w _ y2)).trans y2
      have z3 := (hbwr.cell (World.block_lt_of_cell? w _ y3)).trans y3
      have HDB : Hid (DRead w (R.getD y zMat, .slice DB (R.getD y zMat).D.length db)) := Lib.hid ⟨DB, db, rfl, y7⟩
      have HP1 := Lib.hid hyk
      have hql4 : qs.length ≤ 16384 := by
        have h1 := congrArg List.length HQS.out
        rw [List.length_map, List.length_take] at h1
        have := HKL4.out
        omega
      have HTML : Hid (t < ms.length) := Lib.hid (by rw [HKL.out]; exact hltt)
      clear hy hyk y0 y1 y2 y3 y7 hbwg hbwr x0 x1 x2 x3
      generalize R.getD y zMat = pm at *
      obtain ⟨plv, pc2, pep, pD⟩ := pm
      simp only at z0 z1 z2 z3
      go_wp2_with (at_builtin; go_loud (refine wpList_append_own_at _ rfl _ _ 30 rfl w4.heap.size 37 i0 _ 4 48 Tryz.underlying30 hi0 hz0 hz1 hz2 rfl (by decide) _ _ _ rfl (HMS.out.alloc _) ⟨wr.heap.size, 0, none⟩ 1 1 [.int .i64 plv, .int .i64 pc2, .int .i64 pep, .slice DB pD.length db] rfl rfl (World.news_of_block (cs := #[.int .i64 plv, .int .i64 pc2, .int .i64 pep, .slice DB pD.length db]) (t := 37) (fr := (0, 0)) (heap_alloc_new wr _)) (by simp [Value.oneCell']) (by unfold maxLen; omega) (by omega) (by simp; omega) ?_); intro v' wv hown5 hg5 hnil5 hat5; go_frame)
      have HWT2 := Lib.hid hwt
      clear hwt
      go_roundg (kids.length - (t + 1))
      case measure => omega
      case rel =>
        have hg6 : wr.grownBy wv u23.ownBlock := ⟨hg5.os, hg5.tape, hg5.output, by have h := hg5.size; simp at h; omega, fun j hj hne => (hg5.block j (by simp; omega) hne).trans (heap_alloc_old wr _ hj)⟩
        refine ⟨t + 1, qs ++ [(⟨plv, pc2, pep, pD⟩, .slice DB pD.length db)], by omega, Nat.le_refl _, rfl, Lib.hid ?_, Lib.hid (fun p hp => ?_), Lib.hid ?_, Lib.hid (Below.grown HBL.out hg6 (fun j hj => (HMS.out.lt j hj).1) hs9r)⟩
        · rw [encM_app, List.length_append]
          exact hown5
        · rcases List.mem_append.1 hp with h1 | h1
          · exact HDR.out p h1
          · simp only [List.mem_singleton] at h1
            subst h1
            exact HDB.out
        · rw [List.map_append, HQS.out, List.take_add_one, List.getElem?_eq_getElem HTML.out]
          have e : ms[t]'(HTML.out) = ⟨plv, pc2, pep, pD⟩ := by
            have h1 := HP1.out
            rw [List.getD_eq_getElem?_getD, List.getElem?_eq_getElem HTML.out] at h1
            exact h1
          rw [e]
          rfl
    · have : t = kids.length := by omega
      subst this
      have htz : ¬ (kids.length : Int) < (kids.length : Int) := by omega
      obtain ⟨wz, rfl⟩ : ∃ x : World, x = wr := ⟨_, rfl⟩
      have hqs := HQS.out
      rw [← HKL.out, List.take_length] at hqs
      obtain ⟨HP, hcp, hus, hmi⟩ := mats_of_row HMS.out HDR.out hbwr
      have hqsl : qs.length = ms.length := by rw [← hqs, List.length_map]
      rw [hqs] at hmi
      rw [hqsl] at hus
      subst hus
      have HUPZ := Lib.hid (HUP.out wz WP wcp HP hcp hbwg (Kd.C_below HWC4.out HBL.out) hmi)
      clear hmi hqs hqsl hbwg hbwr
      go_wp2_with (go_at_call 31; (with_reducible refine HUPZ.out.mono ?_); rintro e w5 ⟨P, m, cp, rfl, hown, hb⟩; have HO5 := Lib.hid hown; have HB5 : Hid (Below w1.heap.size w1 w5) := Lib.hid (HB1R.out.trans (hb.mono HB1R.out.size)); clear hown hb; obtain ⟨-, -, -, -, qI, -⟩ := HBOX.out w5 HB5.out; obtain ⟨z0, z1, z2, z3, zf⟩ := cells4 qI)
      ((try simp only [Exit.inBlock, Exit.then]); refine bodyPost_ret (results_ct rfl _ _ (gx + 2) 37 #[.int .i64 lw, .int .i64 (x : Int), .int .i64 epoch, .slice P m cp] (0, 0) _ rfl (heap_set4 qI) Tryz.underlying37 rfl (by kernel_rfl)) rfl ?_)
      have hgx := HGX.out
      have hs3 := HB1R.out.size
      obtain ⟨-, -, -, -, -, hbT⟩ := HBOX.out w5 HB5.out
      subst hgx
      refine ⟨P, m, cp, rfl, own_lower (row_stays HO5.out (fun j hj => ?_)) (show w.heap.size ≤ wz.heap.size by omega), below_set4 hbT (by omega)⟩
      have h6 := (HO5.out.lt j hj).1
      have h7 : ∀ (wx : World) (o : Nat) (u : Value), (wx.setCell ⟨w.heap.size + 2, o, none⟩ u).heap[j]? = wx.heap[j]? := fun wx o u => heap_setCell_other wx ⟨w.heap.size + 2, o, none⟩ j u (by show j ≠ w.heap.size + 2; omega)
      rw [h7, h7, h7, h7]

end Go.Proofs.YtjddimoeodecgaaGreat
