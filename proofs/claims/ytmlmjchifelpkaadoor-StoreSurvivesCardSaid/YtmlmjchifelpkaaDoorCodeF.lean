/- The contracts of package code's writer at a list of texts; looked; Encode. -/
import Derived.Test.YtmlmjchifelpkaaDoorCodeE
import Derived.Deep.LoopGhost
namespace Go.Proofs.YtmlmjchifelpkaaDoor
open Go.RowKit Go.Lib Go.Maps
set_option linter.unusedVariables false
set_option maxRecDepth 100000

/-- A text as bytes; a list of texts. -/
def encT (t : ByteArray) : List UInt8 := 2 :: (grpB t.size ++ t.data.toList)
def encTs (ts : List ByteArray) : List UInt8 := ts.flatMap encT
def encL (ts : List ByteArray) : List UInt8 := 3 :: (grpB ts.length ++ encTs ts)

/-- Items that are texts lie at block b. -/
def TextsAt (w : World) (b : Nat) (ts : List ByteArray) : Prop := ∀ j, j < ts.length →
  w.cell? ⟨b, j * 4, none⟩ = some (.int .i64 2) ∧ w.cell? ⟨b, j * 4 + 1, none⟩ = some (.int .u64 0) ∧ w.cell? ⟨b, j * 4 + 2, none⟩ = some (.string (ts.getD j ⟨#[]⟩)) ∧ w.cell? ⟨b, j * 4 + 3, none⟩ = some (.slice none 0 0)

theorem TextsAt.stays {w w' : World} {b : Nat} {ts : List ByteArray} (h : TextsAt w b ts) (hb : w'.heap[b]? = w.heap[b]?) : TextsAt w' b ts := by
  have e : ∀ i, w'.cell? ⟨b, i, none⟩ = w.cell? ⟨b, i, none⟩ := fun i => World.cell?_of_block hb
  intro j hj
  simp only [e]
  exact h j hj

theorem WSt.after {W B X : Nat} {cx : Array Value} {w0 w w' : World} {p p' : Option Addr} {c c' : Nat} {l l' : List UInt8} (h : WSt W B X cx w0 w p c l) (h1 : IsWriter w' W (.slice p' l'.length c')) (h2 : BRow w' B (.slice p' l'.length c') l') (h3 : Wts W B w w') (hX : X ≠ W) : WSt W B X cx w0 w' p' c' l' :=
  ⟨h1, h2, h3.cells h.item hX (by decide), h.turn.trans h3, Nat.le_trans h.size h3.size, h.ltW⟩

def listI (b n c : Nat) : Array Value := #[.int .i64 3, .int .u64 0, .string ⟨#[]⟩, .slice (some ⟨b, 0, none⟩) n c]

theorem encTs_snoc (ts : List ByteArray) (k : Nat) (h : k < ts.length) : encTs (ts.take (k + 1)) = encTs (ts.take k) ++ encT (ts.getD k ⟨#[]⟩) := by
  unfold encTs
  rw [List.take_succ_eq_append_getElem h, List.getD_eq_getElem?_getD, List.getElem?_eq_getElem h, List.flatMap_append, Option.getD_some]
  simp only [List.flatMap_cons, List.flatMap_nil, List.append_nil]

theorem encTs_le (ts : List ByteArray) (k : Nat) (h : k < ts.length) : (encTs (ts.take k)).length + (ts.getD k ⟨#[]⟩).size + 1 ≤ (encTs ts).length := by
  have e : encTs ts = encTs (ts.take (k + 1)) ++ encTs (ts.drop (k + 1)) := by
    unfold encTs
    rw [← List.flatMap_append, List.take_append_drop]
  rw [e, encTs_snoc ts k h]
  have : (ts.getD k ⟨#[]⟩).size = (ts.getD k ⟨#[]⟩).data.toList.length := Lib.size_eq _
  simp only [List.length_append, encT, List.length_cons]
  omega

/-- What a call that writes an item leaves: all of l is written. -/
def Wrote (W B : Nat) (l : List UInt8) (w : World) (e : Ending) (w' : World) : Prop := e = .returned (.tuple #[]) ∧ ∃ p' c', IsWriter w' W (.slice p' l.length c') ∧ BRow w' B (.slice p' l.length c') l ∧ Wts W B w w'

set_option maxHeartbeats 4000000 in
theorem item_list (B W : Nat) (p : Option Addr) (c : Nat) (l : List UInt8) (ts : List ByteArray) (b cap : Nat) (w : World) (hW : IsWriter w W (.slice p l.length c)) (hWB : W < B) (hB : B ≤ w.heap.size) (hr : BRow w B (.slice p l.length c) l)
    (ht : TextsAt w b ts) (hb : b < B) (hbW : b ≠ W) (hn : ts.length ≤ 16384) (hl : l.length + (encTs ts).length ≤ 261000) :
    Calls Tryd.prog 58 #[.pointer (some ⟨W, 0, none⟩), .agg (listI b ts.length cap)] w (Wrote W B (l ++ encL ts) w) := by
  obtain ⟨i0, hi, hz0, hz1, hz2⟩ := info_parts infoU8
  have hs1 : WSt W B w.heap.size (listI b ts.length cap) w (w.alloc (.cells (listI b ts.length cap) 80)) p c l :=
    ⟨(Below.heap_alloc _ _ _ (by omega)).trans hW, hr.alloc _, heap_alloc_new w _, Wts.of_bts ((Bts.refl B w).alloc _) W, by simp; omega, hWB⟩
  have HS := Lib.hid hs1
  have hX : w.heap.size ≠ W := by omega
  have HT := Lib.hid ht
  clear hW hr hs1 ht
  unfold listI at HS ⊢
  go_enter Tryd.func58, Tryd.ntmps58
  go_wp2_with fail
  refine (HS.out.full (by omega)).mono ?_
  rintro e w' ⟨rfl, rfl⟩
  generalize w.alloc (.cells #[.int .i64 3, .int .u64 0, .string ⟨#[]⟩, .slice (some ⟨b, 0, none⟩) ts.length cap] 80) = w1 at *
  have ew : IntKind.u8.wrap 3 = 3 := by decide
  go_upto_region 2 with fail
  go_cut [] (fun wx => ∃ p' c', Hid (WSt W B w.heap.size (listI b ts.length cap) w wx p' c' (l ++ [3])))
  case first =>
    have cW := HS.out.wr.cell
    have cX : w1.cell? ⟨w.heap.size, 0, none⟩ = some (.int .i64 3) := HS.out.cell 0 _ rfl
    have fW := HS.out.wr.thaw
    have hr1 := HS.out.row
    unfold BRow at hr1
    have hB1 := HS.out.size
    have eW := World.new_ne w1 _ cW
    have eX := World.new_ne w1 _ cX
    have lW := World.block_lt_of_cell? w1 _ cW
    have lX := World.block_lt_of_cell? w1 _ cX
    go_region_law (refine step_append_lies _ (by rfl) _ _ _ (by rfl) B 5 i0 _ 1 1 Tryd.underlying75 hi hz0 hz1 hz2 rfl (by omega) _ _ _ (by rfl) ((hr1.alloc _).drew) ⟨w1.heap.size, 0, none⟩ 1 1 [.int .u8 3] (by rfl) (by rfl) (World.news_of_block (cs := #[.int .u8 3]) (t := 5) (fr := (0, 0)) (heap_alloc_new w1 _)) (by simp [Value.oneCell']) (by omega) (by unfold maxLen; omega) (by omega) (by simp; omega) (w1.heap.size + 1) (by simp) ?_; intro gg cap w2 hown1 hgrow hat hlt; have hb2 := HS.out.byte 3 hown1 hgrow; have hW2 : IsWriter w2 W _ := hb2.2.cells HS.out.wr (by decide); have cW2 := hW2.cell; have fW2 := hW2.thaw; have HB2 := Lib.hid hb2; clear hb2 hW2 hown1 hgrow)
    all_goals (go_wp2_with fail; go_meet; exact ⟨_, _, Lib.hid (HS.out.store HB2.out.2 (l' := l ++ [3]) (by simp) HB2.out.1 hX)⟩)
  case rest =>
    obtain ⟨p1, c1, HS1⟩ := hcut
    obtain ⟨w1c, rfl⟩ : ∃ x : World, x = wc := ⟨_, rfl⟩
    clear HS ew
    have hl1 : (l ++ [3]).length = l.length + 1 := by simp
    have hq1 : (l ++ [3]).length + (encTs ts).length ≤ 261001 := by omega
    have HL1 : Hid (l ++ [3] ++ grpB ts.length ++ encTs ts = l ++ encL ts) := by apply Lib.hid; simp [encL]
    clear hl1
    generalize l ++ [3] = l1 at *
    have cX0 : w1c.cell? ⟨w.heap.size, 0, none⟩ = some (.int .i64 3) := HS1.out.cell 0 _ rfl
    have ew2 : IntKind.u64.wrap (ts.length : Int) = (ts.length : Int) := by rw [IntKind.wrap_u64]; omega
    go_upto_region 4 with fail
    go_cut [] (fun wx => ∃ p' c', Hid (WSt W B w.heap.size (listI b ts.length cap) w wx p' c' (l1 ++ grpB ts.length)))
    case first =>
      have cW := HS1.out.wr.cell
      have cX : w1c.cell? ⟨w.heap.size, 3, none⟩ = some (.slice (some ⟨b, 0, none⟩) ts.length cap) := HS1.out.cell 3 _ rfl
      have fW := HS1.out.wr.thaw
      have HD1 := Lib.hid HS1.out.drew
      go_region_with (go_at_call 76; (with_reducible refine (groups_any B _ l1 ts.length w1c.drew (by omega) HD1.out.row HD1.out.size (by omega)).mono ?_); rintro e w2 ⟨p2, c2, rfl, hr2, hb2⟩; have hW2 : IsWriter w2 W _ := hb2.cells HD1.out.wr (by decide); have cW2 := hW2.cell; have fW2 := hW2.thaw; have HR2 := Lib.hid hr2; have HB2 := Lib.hid hb2; clear hr2 hb2 hW2)
      all_goals (go_wp2_with fail; go_meet; exact ⟨_, _, Lib.hid (HD1.out.store HB2.out (l' := l1 ++ grpB ts.length) (by simp) (by have := HR2.out; rw [List.length_append] at this; exact this) hX)⟩)
    case rest =>
      obtain ⟨p2, c2, HS2⟩ := hcut
      obtain ⟨w2c, rfl⟩ : ∃ x : World, x = wc := ⟨_, rfl⟩
      clear HS1 cX0 ew2
      have hg : (grpB ts.length).length ≤ 3 := grpB_len ts.length 2 (by omega)
      have hq2 : (l1 ++ grpB ts.length).length + (encTs ts).length ≤ 261004 := by rw [List.length_append]; omega
      generalize l1 ++ grpB ts.length = l2 at *
      have cX : w2c.cell? ⟨w.heap.size, 3, none⟩ = some (.slice (some ⟨b, 0, none⟩) ts.length cap) := HS2.out.cell 3 _ rfl
      go_wp2_with fail
      go_loopg [37] ts.length (fun gg s37 wr => ∃ (k : Nat) (p3 : Option Addr) (c3 : Nat), k ≤ ts.length ∧ ts.length - k ≤ gg ∧ s37 = .int .i64 k ∧ Hid (WSt W B w.heap.size (listI b ts.length cap) w wr p3 c3 (l2 ++ encTs (ts.take k))))
      case atStart => exact ⟨0, p2, c2, by omega, by omega, rfl, by simpa [encTs] using HS2⟩
      case round =>
        obtain ⟨k, p3, c3, hk, hgg, rfl, HS3⟩ := hrel
        by_cases hlt : k < ts.length
        · have hlt' : (k : Int) < (ts.length : Int) := by omega
          have htx := (HT.out.stays (w' := wr) (HS3.out.turn.block b (by omega) hbW (.inl hb))) k hlt
          obtain ⟨z0, z1, z2, z3⟩ := htx
          have HE := Lib.hid (encTs_snoc ts k hlt)
          have hle := encTs_le ts k hlt
          generalize ts.getD k ⟨#[]⟩ = t at *
          have hq3 : (l2 ++ encTs (ts.take k)).length + t.size + 1 ≤ 261004 := by rw [List.length_append]; omega
          have HA : Hid (l2 ++ encTs (ts.take (k + 1)) = l2 ++ encTs (ts.take k) ++ encT t) := by apply Lib.hid; rw [HE.out, List.append_assoc]
          generalize l2 ++ encTs (ts.take k) = l3 at *
          have hB3 := HS3.out.size
          go_wp2_with fail
          have HS4 := Lib.hid (HS3.out.alloc (.cells #[.int .i64 2, .int .u64 0, .string t, .slice none 0 0] 80))
          refine (item_text B W p3 c3 l3 t _ HS4.out.wr hWB HS4.out.size HS4.out.row (by omega)).mono ?_
          rintro e w5 ⟨rfl, p5, c5, h51, h52, h53⟩
          have HS5 := Lib.hid (HS4.out.after (l' := l3 ++ encT t) h51 h52 h53 hX)
          clear h51 h52 h53
          rw [← HA.out] at HS5
          go_wp2_with fail
          go_roundg (ts.length - (k + 1))
          case measure => omega
          case rel => exact ⟨k + 1, p5, c5, by omega, by omega, by go_num, HS5⟩
        · have hk2 : k = ts.length := by omega
          subst hk2
          have hlt' : ¬ (ts.length : Int) < (ts.length : Int) := by omega
          rw [List.take_length, HL1.out] at HS3
          go_wp2_with fail
          go_end0
          exact ⟨rfl, p3, c3, HS3.out.wr, HS3.out.row, HS3.out.turn⟩

end Go.Proofs.YtmlmjchifelpkaaDoor
