/- The contracts of package code's writer: lists of texts. -/
import Derived.Test.YtmlmjchifelpkaaDoorCodeD
import Derived.Deep.RegionHeld3
import Derived.Deep.AppendLies
import Derived.Deep.DeepCutAuto
import Derived.Deep.RegionLaw
namespace Go.Proofs.YtmlmjchifelpkaaDoor
open Go.RowKit Go.Lib Go.Maps
set_option linter.unusedVariables false
set_option maxRecDepth 100000

section
variable {P : Program} {w : World} {ops : Array Oper} {o : Oper} {a : Act} {K : Act → World → Prop} {Q : Exit → Act → World → Prop} {E : Prop}
theorem step_append_str (w : World) (hgd : o.guard = none) (sl x : Operand) (t u : TypeId)
    (ho : o.op = .call { callee := .builtin .append, args := #[sl, x], argTypes := #[t, u] })
    (base : Nat) (e : TypeId) (i : TypeInfo) (ht : P.underlying t = some (.slice e)) (hu : P.underlying u = some .string) (hi : P.info? e = some i) (hz : i.zero = some (.int .u8 0))
    (hsize : i.size = 1) (hby : i.bytes = 1)
    (v : Value) (n : Nat) (xs : List Value) (hs : a.eval sl = v) (hown : w.ownsRow base e 1 v n xs) (s : ByteArray) (hx : a.eval x = .string s)
    (h63 : n + s.size ≤ maxLen) (hbytes : n + s.size ≤ 140737488355328) (hbase : base ≤ w.heap.size)
    (h : ∀ p c w', w'.ownsRow base e 1 (.slice p (n + s.size) c) (n + s.size) (xs ++ strCells s) → w.grownBy w' v.ownBlock → K (a.put o.dst (.slice p (n + s.size) c)) w') :
    if Region.wanted o (yielded ops a.tmps) = true then Oper.wp P o a w K Q else E := by
  have hw : Region.wanted o (yielded ops a.tmps) = true := by simp [Region.wanted, hgd]
  rw [if_pos hw]
  obtain ⟨v', w', hr, h2, h3, h4⟩ := run_append_own_string (P := P) w base t u o.type e i ht hu hi hz hsize hby v n xs hown s h63 hbytes hbase
  have hv : ∃ p c, v' = .slice p (n + s.size) c := by
    rcases h2.2 with ⟨rfl, hn⟩ | ⟨g, cap, cur, rfl, _⟩
    · exact ⟨none, 0, by rw [hn]⟩
    · exact ⟨_, _, rfl⟩
  obtain ⟨p, c, rfl⟩ := hv
  unfold Oper.wp execOp
  simp only [ho, resolve, invoke, builtin, Sem.run_bind, Sem.run_pure, Result.andThen_ok, List.map_toArray, List.map_cons, List.map_nil, hs, hx, hr]
  exact h p c w' h2 h3
end

/-- The writer's block. -/
def IsWriter (w : World) (W : Nat) (v : Value) : Prop := w.heap[W]? = some (.cells #[v] 94 (0, 0))

theorem IsWriter.cell {w : World} {W : Nat} {v : Value} (h : IsWriter w W v) : w.cell? ⟨W, 0, none⟩ = some v := by simp [World.cell?, show w.heap[W]? = _ from h]
theorem IsWriter.thaw {w : World} {W : Nat} {v : Value} (h : IsWriter w W v) : w.frozen? ⟨W, 0, none⟩ = false := by simp [World.frozen?, show w.heap[W]? = _ from h]
theorem full_no (W : Nat) (p : Option Addr) (n c : Nat) (w : World) (hW : IsWriter w W (.slice p n c)) (hn : n ≤ 262144) : Calls Tryd.prog 59 #[.pointer (some ⟨W, 0, none⟩)] w fun e w' => e = .returned (.bool false) ∧ w = w' := by
  have hc := hW.cell
  have hn' : (n : Int) ≤ 262144 := by omega
  go_enter Tryd.func59, Tryd.ntmps59
  go_wp2
  go_ret
  exact ⟨by simp; omega, rfl⟩

/-- Of what was there nothing turns but block W and rows of bytes from block B on. -/
structure Wts (W B : Nat) (w w' : World) : Prop where
  os : w'.os = w.os
  tape : w'.tape = w.tape
  output : w'.output = w.output
  size : w.heap.size ≤ w'.heap.size
  block : ∀ k, k < w.heap.size → k ≠ W → (k < B ∨ ¬ ByteBlk w k) → w'.heap[k]? = w.heap[k]?
section
variable {W B : Nat} {w w' w'' : World}
theorem Wts.refl (W B : Nat) (w : World) : Wts W B w w := ⟨rfl, rfl, rfl, Nat.le_refl _, fun _ _ _ _ => rfl⟩
theorem Wts.trans (h : Wts W B w w') (k : Wts W B w' w'') : Wts W B w w'' :=
  ⟨k.os.trans h.os, k.tape.trans h.tape, k.output.trans h.output, Nat.le_trans h.size k.size, fun i hi hn hb => by
    have e := h.block i hi hn hb
    rw [k.block i (Nat.lt_of_lt_of_le hi h.size) hn (hb.imp id fun hn hb2 => hn (by obtain ⟨c, f, hc⟩ := hb2; exact ⟨c, f, by rw [← e]; exact hc⟩)), e]⟩
theorem Wts.of_bts (h : Bts B w w') (W : Nat) : Wts W B w w' := ⟨h.os, h.tape, h.output, h.size, fun k hk _ hb => h.block k hk hb⟩
theorem Wts.set (W B : Nat) (w : World) (v : Value) : Wts W B w (w.setCell ⟨W, 0, none⟩ v) :=
  ⟨rfl, rfl, rfl, by simp [World.setCell], fun k _ hn _ => Below.heap_setCell _ _ _ _ hn⟩
theorem Wts.cells {k : Nat} {c : Array Value} {t : TypeId} {f : Nat × Nat} (h : Wts W B w w') (hc : w.heap[k]? = some (.cells c t f)) (hk : k ≠ W) (ht : t ≠ 5) : w'.heap[k]? = some (.cells c t f) := by
  have hk' : k < w.heap.size := (Array.getElem?_eq_some_iff.1 hc).1
  rw [h.block k hk' hk (.inr fun ⟨c', f', h'⟩ => ?_), hc]
  rw [hc] at h'
  cases h'
  exact ht rfl
end

theorem cell_of_heap {w : World} {X : Nat} {cx : Array Value} {t : TypeId} {f : Nat × Nat} (h : w.heap[X]? = some (.cells cx t f)) (j : Nat) (v : Value) (hj : cx[j]? = some v) : w.cell? ⟨X, j, none⟩ = some v := by simp [World.cell?, h, hj]

/-- The writer at W has written l; the item at X lies as it did. -/
structure WSt (W B X : Nat) (cx : Array Value) (w0 w : World) (p : Option Addr) (c : Nat) (l : List UInt8) : Prop where
  wr : IsWriter w W (.slice p l.length c)
  row : BRow w B (.slice p l.length c) l
  item : w.heap[X]? = some (.cells cx 80 (0, 0))
  turn : Wts W B w0 w
  size : B ≤ w.heap.size
  ltW : W < B

section
variable {W B X : Nat} {cx : Array Value} {w0 w w' : World} {p : Option Addr} {c : Nat} {l : List UInt8}
theorem WSt.alloc (h : WSt W B X cx w0 w p c l) (o : Obj) : WSt W B X cx w0 (w.alloc o) p c l :=
  ⟨(Below.heap_alloc _ _ _ (Array.getElem?_eq_some_iff.1 h.wr).1).trans h.wr, h.row.stays fun k hk => Below.heap_alloc _ _ _ (h.row.lt k hk).1, (Below.heap_alloc _ _ _ (Array.getElem?_eq_some_iff.1 h.item).1).trans h.item,
    h.turn.trans (Wts.of_bts ((Bts.refl B w).alloc o) W), by have := h.size; simp; omega, h.ltW⟩
theorem WSt.drew (h : WSt W B X cx w0 w p c l) : WSt W B X cx w0 w.drew p c l := ⟨h.wr, h.row, h.item, ⟨h.turn.os, h.turn.tape, h.turn.output, h.turn.size, h.turn.block⟩, h.size, h.ltW⟩
/-- What was appended is stored back. -/
theorem WSt.store (h : WSt W B X cx w0 w p c l) (hb : Bts B w w') {p' : Option Addr} {c' n : Nat} {l' : List UInt8} (hn : n = l'.length) (hr : BRow w' B (.slice p' n c') l') (hX : X ≠ W) :
    WSt W B X cx w0 (w'.setCell ⟨W, 0, none⟩ (.slice p' n c')) p' c' l' := by
  subst hn
  have e : (w'.heap[W]?) = some (.cells #[.slice p l.length c] 94 (0, 0)) := hb.cells h.wr (by decide)
  refine ⟨?_, ?_, ?_, (h.turn.trans (Wts.of_bts hb W)).trans (Wts.set W B w' _), ?_, h.ltW⟩
  · unfold IsWriter World.setCell
    simp only [Array.getElem?_modify, if_pos trivial, e, Option.map_some]
    rfl
  · refine hr.stays fun k hk => Below.heap_setCell _ _ _ _ (fun e2 => ?_)
    obtain ⟨_, hk2, _⟩ := hr.lt k hk
    have h3 := h.ltW
    have h4 : k = W := e2
    omega
  · rw [Below.heap_setCell _ _ _ _ hX]
    exact hb.cells h.item (by decide)
  · have := hb.size
    have := h.size
    simp [World.setCell]
    omega
theorem WSt.full (h : WSt W B X cx w0 w p c l) (hn : l.length ≤ 262144) : Calls Tryd.prog 59 #[.pointer (some ⟨W, 0, none⟩)] w fun e w' => e = .returned (.bool false) ∧ w = w' := full_no W p _ c w h.wr hn
theorem WSt.cell (h : WSt W B X cx w0 w p c l) (j : Nat) (v : Value) (hj : cx[j]? = some v) : w.cell? ⟨X, j, none⟩ = some v := cell_of_heap h.item j v hj
/-- A byte is appended. -/
theorem WSt.byte (h : WSt W B X cx w0 w p c l) (b : UInt8) {o : Obj} {v' : Value} (hr : w'.ownsRow B 5 1 v' (l.length + 1) (bytesV l ++ [.int .u8 (b.toNat : Int)])) (hg : (w.alloc o).drew.grownBy w' (Value.slice p l.length c).ownBlock) :
    BRow w' B v' (l ++ [b]) ∧ Bts B w w' := by
  refine ⟨BRow.of_cells hr (by simp) (by simp [bytesV]), ?_⟩
  have h1 : Bts B (w.alloc o).drew w' := Bts.of_grown hg (h.row.stays (w' := (w.alloc o).drew) fun k hk => Below.heap_alloc _ _ _ (h.row.lt k hk).1)
  exact ((Bts.refl B w).alloc o).drew.trans h1
end

def textI (s : ByteArray) : Array Value := #[.int .i64 2, .int .u64 0, .string s, .slice none 0 0]

set_option maxHeartbeats 4000000 in
theorem item_text (B W : Nat) (p : Option Addr) (c : Nat) (l : List UInt8) (s : ByteArray) (w : World) (hW : IsWriter w W (.slice p l.length c)) (hWB : W < B) (hB : B ≤ w.heap.size) (hr : BRow w B (.slice p l.length c) l) (hl : l.length + s.size ≤ 262000) :
    Calls Tryd.prog 58 #[.pointer (some ⟨W, 0, none⟩), .agg #[.int .i64 2, .int .u64 0, .string s, .slice none 0 0]] w fun e w' => e = .returned (.tuple #[]) ∧
      ∃ p' c', IsWriter w' W (.slice p' (l ++ 2 :: (grpB s.size ++ s.data.toList)).length c') ∧ BRow w' B (.slice p' (l ++ 2 :: (grpB s.size ++ s.data.toList)).length c') (l ++ 2 :: (grpB s.size ++ s.data.toList)) ∧ Wts W B w w' := by
  obtain ⟨i0, hi, hz0, hz1, hz2⟩ := info_parts infoU8
  have hs1 : WSt W B w.heap.size (textI s) w (w.alloc (.cells #[.int .i64 2, .int .u64 0, .string s, .slice none 0 0] 80)) p c l :=
    ⟨(Below.heap_alloc _ _ _ (by omega)).trans hW, hr.alloc _, heap_alloc_new w _, Wts.of_bts ((Bts.refl B w).alloc _) W, by simp; omega, hWB⟩
  have HS := Lib.hid hs1
  have hX : w.heap.size ≠ W := by omega
  clear hW hr hs1
  go_enter Tryd.func58, Tryd.ntmps58
  go_wp2_with fail
  refine (HS.out.full (by omega)).mono ?_
  rintro e w' ⟨rfl, rfl⟩
  generalize w.alloc (.cells #[.int .i64 2, .int .u64 0, .string s, .slice none 0 0] 80) = w1 at *
  have ew : IntKind.u8.wrap 2 = 2 := by decide
  go_upto_region 2 with fail
  go_cut [] (fun wx => ∃ p' c', Hid (WSt W B w.heap.size (textI s) w wx p' c' (l ++ [2])))
  case first =>
    have cW := HS.out.wr.cell
    have cX : w1.cell? ⟨w.heap.size, 0, none⟩ = some (.int .i64 2) := HS.out.cell 0 _ rfl
    have fW := HS.out.wr.thaw
    have hr1 := HS.out.row
    unfold BRow at hr1
    have hB1 := HS.out.size
    have eW := World.new_ne w1 _ cW
    have eX := World.new_ne w1 _ cX
    have lW := World.block_lt_of_cell? w1 _ cW
    have lX := World.block_lt_of_cell? w1 _ cX
    go_region_law (refine step_append_lies _ (by rfl) _ _ _ (by rfl) B 5 i0 _ 1 1 Tryd.underlying75 hi hz0 hz1 hz2 rfl (by omega) _ _ _ (by rfl) ((hr1.alloc _).drew) ⟨w1.heap.size, 0, none⟩ 1 1 [.int .u8 2] (by rfl) (by rfl) (World.news_of_block (cs := #[.int .u8 2]) (t := 5) (fr := (0, 0)) (heap_alloc_new w1 _)) (by simp [Value.oneCell']) (by omega) (by unfold maxLen; omega) (by omega) (by simp; omega) (w1.heap.size + 1) (by simp) ?_; intro gg cap w2 hown1 hgrow hat hlt; have hb2 := HS.out.byte 2 hown1 hgrow; have hW2 : IsWriter w2 W _ := hb2.2.cells HS.out.wr (by decide); have cW2 := hW2.cell; have fW2 := hW2.thaw; have HB2 := Lib.hid hb2; clear hb2 hW2 hown1 hgrow)
    all_goals (go_wp2_with fail; go_meet; exact ⟨_, _, Lib.hid (HS.out.store HB2.out.2 (l' := l ++ [2]) (by simp) HB2.out.1 hX)⟩)
  case rest =>
    obtain ⟨p1, c1, HS1⟩ := hcut
    obtain ⟨w1c, rfl⟩ : ∃ x : World, x = wc := ⟨_, rfl⟩
    clear HS ew
    have hl1 : (l ++ [2]).length = l.length + 1 := by simp
    have hq1 : (l ++ [2]).length + s.size ≤ 262001 := by omega
    have HL1 : Hid (l ++ [2] ++ grpB s.size ++ s.data.toList = l ++ 2 :: (grpB s.size ++ s.data.toList)) := by apply Lib.hid; simp
    clear hl1
    generalize l ++ [2] = l1 at *
    have cX0 : w1c.cell? ⟨w.heap.size, 0, none⟩ = some (.int .i64 2) := HS1.out.cell 0 _ rfl
    have ew2 : IntKind.u64.wrap (s.size : Int) = (s.size : Int) := by rw [IntKind.wrap_u64]; omega
    go_upto_region 13 with fail
    go_cut [] (fun wx => ∃ p' c', Hid (WSt W B w.heap.size (textI s) w wx p' c' (l1 ++ grpB s.size)))
    case first =>
      have cW := HS1.out.wr.cell
      have cX : w1c.cell? ⟨w.heap.size, 2, none⟩ = some (.string s) := HS1.out.cell 2 _ rfl
      have fW := HS1.out.wr.thaw
      have HD1 := Lib.hid HS1.out.drew
      have hsz : (s.size : Int) ≤ 262000 := by omega
      go_region_with (go_at_call 76; (with_reducible refine (groups_any B _ l1 s.size w1c.drew (by omega) HD1.out.row HD1.out.size (by omega)).mono ?_); rintro e w2 ⟨p2, c2, rfl, hr2, hb2⟩; have hW2 : IsWriter w2 W _ := hb2.cells HD1.out.wr (by decide); have cW2 := hW2.cell; have fW2 := hW2.thaw; have HR2 := Lib.hid hr2; have HB2 := Lib.hid hb2; clear hr2 hb2 hW2)
      all_goals (go_wp2_with fail; go_meet; exact ⟨_, _, Lib.hid (HD1.out.store HB2.out (l' := l1 ++ grpB s.size) (by simp) (by have := HR2.out; rw [List.length_append] at this; exact this) hX)⟩)
    case rest =>
      obtain ⟨p2, c2, HS2⟩ := hcut
      clear HS1 cX0
      have hg : (grpB s.size).length ≤ 3 := grpB_len s.size 2 (by omega)
      have hq2 : (l1 ++ grpB s.size).length + s.size ≤ 262004 := by rw [List.length_append]; omega
      generalize l1 ++ grpB s.size = l2 at *
      have cX : wc.cell? ⟨w.heap.size, 2, none⟩ = some (.string s) := HS2.out.cell 2 _ rfl
      have hsz : (s.size : Int) ≤ 262144 := by omega
      go_upto_region 16 with fail
      have cW := HS2.out.wr.cell
      have HD2 := Lib.hid HS2.out.drew
      have hr2 := HD2.out.row
      have hB2 := HD2.out.size
      unfold BRow at hr2
      go_region_law (refine step_append_str _ (by rfl) _ _ _ _ (by rfl) B 5 i0 Tryd.underlying75 Tryd.underlying9 hi hz0 hz1 hz2 _ _ _ (by rfl) hr2 s (by rfl) (by unfold maxLen; omega) (by omega) hB2 ?_; intro p3 c3 w3 hown3 hgrow3; have hr3 : BRow w3 B (.slice p3 (l2.length + s.size) c3) (l2 ++ s.data.toList) := BRow.of_cells hown3 (by rw [List.length_append, ← Lib.size_eq s]) (by rw [strCells_eq, ← bytesV_app]); have hb3 : Bts B wc.drew w3 := Bts.of_grown hgrow3 HD2.out.row; have hW3 : IsWriter w3 W _ := hb3.cells HD2.out.wr (by decide); have cW3 := hW3.cell; have fW3 := hW3.thaw; have HR3 := Lib.hid hr3; have HB3 := Lib.hid hb3; clear hr3 hb3 hW3 hown3 hgrow3)
      all_goals
        go_wp2_with fail
        have hst := HD2.out.store HB3.out (n := l2.length + s.size) (l' := l2 ++ s.data.toList) (by rw [List.length_append, ← Lib.size_eq s]) HR3.out hX
        rw [HL1.out] at hst
        have hlen : (l ++ 2 :: (grpB s.size ++ s.data.toList)).length = l2.length + s.size := by rw [← HL1.out, List.length_append, ← Lib.size_eq s]
        have HST := Lib.hid hst
        clear hst
        go_end0
        exact ⟨rfl, _, _, HST.out.wr, HST.out.row, HST.out.turn⟩

end Go.Proofs.YtmlmjchifelpkaaDoor
