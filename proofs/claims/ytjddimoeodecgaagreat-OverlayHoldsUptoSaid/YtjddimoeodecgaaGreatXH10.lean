/- slices.IndexFunc and ContainsFunc of numbers; cell.Stale's closure. -/
import Derived.Test.YtjddimoeodecgaaGreatXH09
import Derived.Deep.RegionLaw
import Derived.BigQuiet
import Derived.BigRegion
namespace Go.Proofs.YtjddimoeodecgaaGreat
open Go.RowKit Go.Lib Go.Maps Go.Proofs.YtjddimoeodecgaaGreatW.PrintWords Go.Proofs.YtjddimoeodecgaaGreatW.PrintLast Go.Proofs.YtjddimoeodecgaaGreatW.PrintMore
set_option linter.unusedVariables false
set_option maxRecDepth 100000

set_option maxHeartbeats 4000000 in
theorem indexFunc_any (F : Nat) (caps : Array Value) (p : Int → Bool) (ids : List Int) (IA : Option Addr) (ic : Nat) (w : World) (hi : Kd.C (Kd.int .i64) w IA ids.length ids) (hl : ids.length ≤ 16384)
    (hrun : ∀ (args : Array Value) (w : World), (callFunc F args).run Tryz.prog w = .ok (.enter F args) w)
    (hp : ∀ (wx : World) (i : Nat), i < ids.length → Below w.heap.size w wx → Calls Tryz.prog F (#[.int .i64 (ids.getD i 0)] ++ caps) wx fun e w' => e = .returned (.bool (p (ids.getD i 0))) ∧ Below wx.heap.size wx w') :
    Calls Tryz.prog 123 #[.slice IA ids.length ic, .func (.func F) #[] caps] w fun e w' => ∃ r : Int, e = .returned (.int .i64 r) ∧ decide (0 ≤ r) = ids.any p ∧ (-1 ≤ r ∧ r ≤ 16384) ∧ Below w.heap.size w w' := by
  have HI := Lib.hid hi
  have HP := Lib.hid hp
  clear hi hp
  go_enter Tryz.func123, Tryz.ntmps123
  go_wp2_with fail
  go_loopg [8] ids.length (fun gg s8 wr => ∃ i : Nat, i ≤ ids.length ∧ ids.length - i ≤ gg ∧ s8 = .int .i64 i ∧ Hid (∀ j, j < i → p (ids.getD j 0) = false) ∧ Hid (Below w.heap.size w wr))
  case atStart => exact ⟨0, Nat.zero_le _, by omega, rfl, Lib.hid (fun j hj => absurd hj (by omega)), Lib.hid (Below.refl _ _)⟩
  case round =>
    obtain ⟨i, hi1, hgg, rfl, HF, HB⟩ := hrel
    obtain ⟨wm, rfl⟩ : ∃ x : World, x = wr := ⟨_, rfl⟩
    by_cases hlt : i < ids.length
    · have hltz : (i : Int) < (ids.length : Int) := by omega
      have hwk : IntKind.i64.wrap ((i : Int) + 1) = ((i + 1 : Nat) : Int) := by rw [IntWalk.i64_in _ (by omega)]; omega
      obtain ⟨ad, hIA, y0⟩ := Q.int_cell (Kd.C_below HI.out HB.out) i hlt
      subst hIA
      have HPI := Lib.hid (HP.out wm i hlt HB.out)
      have hmem : ids.getD i 0 ∈ ids := get_mem hlt
      cases hpi : p (ids.getD i 0) with
      | false =>
        rw [hpi] at HPI
        have HF2 : Hid (∀ j, j < i + 1 → p (ids.getD j 0) = false) := Lib.hid (fun j hj => by
          by_cases e : j = i
          · rw [e]; exact hpi
          · exact HF.out j (by omega))
        clear hpi hmem
        generalize ids.getD i 0 = x at *
        go_wp2_with ((with_reducible refine HPI.out.mono ?_); rintro e w3 ⟨rfl, hb3⟩; have HB3 := Lib.hid hb3; clear hb3)
        have HWK := Lib.hid hwk
        clear hwk
        go_roundg (ids.length - (i + 1))
        case measure => omega
        case rel => exact ⟨i + 1, by omega, Nat.le_refl _, rfl, HF2, Lib.hid (HB.out.trans (HB3.out.mono HB.out.size))⟩
      | true =>
        rw [hpi] at HPI
        have HAN : Hid (ids.any p = true) := Lib.hid (List.any_eq_true.2 ⟨_, hmem, hpi⟩)
        clear hpi hmem
        generalize ids.getD i 0 = x at *
        go_wp2_with ((with_reducible refine HPI.out.mono ?_); rintro e w3 ⟨rfl, hb3⟩; have HB3 := Lib.hid hb3; clear hb3)
        go_ret
        exact ⟨_, rfl, by rw [HAN.out]; simp, by omega, HB.out.trans (HB3.out.mono HB.out.size)⟩
    · have : i = ids.length := by omega
      subst this
      have hkz : ¬ (ids.length : Int) < (ids.length : Int) := by omega
      go_wp2_with fail
      go_ret
      refine ⟨_, rfl, ?_, by omega, HB.out⟩
      have : ids.any p = false := by
        rw [List.any_eq_false]
        intro x hx
        obtain ⟨j, hj, rfl⟩ := mem_get hx
        rw [HF.out j hj]
        decide
      rw [this]
      decide

theorem containsFunc_any (F : Nat) (caps : Array Value) (p : Int → Bool) (ids : List Int) (IA : Option Addr) (ic : Nat) (w : World) (hi : Kd.C (Kd.int .i64) w IA ids.length ids) (hl : ids.length ≤ 16384)
    (hrun : ∀ (args : Array Value) (w : World), (callFunc F args).run Tryz.prog w = .ok (.enter F args) w)
    (hp : ∀ (wx : World) (i : Nat), i < ids.length → Below w.heap.size w wx → Calls Tryz.prog F (#[.int .i64 (ids.getD i 0)] ++ caps) wx fun e w' => e = .returned (.bool (p (ids.getD i 0))) ∧ Below wx.heap.size wx w') :
    Calls Tryz.prog 94 #[.slice IA ids.length ic, .func (.func F) #[] caps] w fun e w' => e = .returned (.bool (ids.any p)) ∧ Below w.heap.size w w' := by
  have HX := Lib.hid (indexFunc_any F caps p ids IA ic w hi hl hrun hp)
  clear hp hi
  generalize ids.any p = b at *
  go_enter Tryz.func94, Tryz.ntmps94
  go_wp2_with (go_at_call 123; (with_reducible refine HX.out.mono ?_); rintro e w3 ⟨r, rfl, hr, hr2, hb3⟩; have HB3 := Lib.hid hb3; clear hb3)
  go_ret
  exact ⟨by rw [← hr]; rfl, HB3.out⟩

/-- A number is none of an arc. -/
def Q.badId (m : Nat) (i : Int) : Bool := decide (i < 0) || decide ((m : Int) ≤ i)
theorem any_bad (arcs : List Q.S95) (ids : List Int) : ids.any (Q.badId arcs.length) = !Q.idxOk arcs ids := by
  have e : ∀ i : Int, Q.badId arcs.length i = !(decide (0 ≤ i) && decide (i < (arcs.length : Int))) := fun i => by
    unfold Q.badId
    by_cases h1 : i < 0
    · have h2 : ¬ 0 ≤ i := by omega
      simp [h1, h2]
    · have h2 : 0 ≤ i := by omega
      by_cases h3 : (arcs.length : Int) ≤ i
      · have h4 : ¬ i < (arcs.length : Int) := by omega
        simp [h1, h2, h3, h4]
      · have h4 : i < (arcs.length : Int) := by omega
        simp [h1, h2, h3, h4]
  unfold Q.idxOk
  induction ids with
  | nil => rfl
  | cons a r ih => rw [List.any_cons, List.all_cons, Bool.not_and, ih, e]

theorem stale1_any (i : Int) (A : Option Addr) (m c gx : Nat) (w : World) (h0 : w.cell? ⟨gx, 1, none⟩ = some (.slice A m c)) (hm : m ≤ 8192) :
    Calls Tryz.prog 95 #[.int .i64 i, .pointer (some ⟨gx, 0, none⟩)] w fun e w' => e = .returned (.bool (Q.badId m i)) ∧ Below w.heap.size w w' := by
  unfold Q.badId
  by_cases h1 : i < 0
  · have h2 : decide (i < 0) = true := decide_eq_true h1
    rw [h2, Bool.true_or]
    go_enter Tryz.func95, Tryz.ntmps95
    go_wp2_with fail
    go_ret
    exact ⟨rfl, Below.refl _ _⟩
  · have h2 : decide (i < 0) = false := decide_eq_false h1
    rw [h2, Bool.false_or]
    by_cases h3 : (m : Int) ≤ i
    · have h4 : decide ((m : Int) ≤ i) = true := decide_eq_true h3
      rw [h4]
      go_enter Tryz.func95, Tryz.ntmps95
      go_wp2_with fail
      go_ret
      exact ⟨rfl, Below.refl _ _⟩
    · have h4 : decide ((m : Int) ≤ i) = false := decide_eq_false h3
      rw [h4]
      go_enter Tryz.func95, Tryz.ntmps95
      go_wp2_with fail
      go_ret
      exact ⟨rfl, Below.refl _ _⟩

end Go.Proofs.YtjddimoeodecgaaGreat

/- cell.Stale. -/
namespace Go.Proofs.YtjddimoeodecgaaGreat
open Go.RowKit Go.Lib Go.Sort Go.Proofs.YtjddimoeodecgaaGreatW.PrintWords Go.Proofs.YtjddimoeodecgaaGreatW.PrintLast Go.Proofs.YtjddimoeodecgaaGreatW.PrintMore
set_option linter.unusedVariables false
set_option maxRecDepth 100000

/-- What Stale answers. -/
def StaleV (w' : World) (B : Nat) (arcs : List Q.S95) (cells : List (List Int)) (ids : List Int) (e : Ending) : Prop :=
  (Q.staleE arcs ids = 0 ∧ ∃ g vs rows, e = .returned (.tuple #[.slice (some ⟨g, 0, none⟩) cells.length cells.length, .int .i64 0]) ∧ IRows w' B g vs rows ∧ vs.length = cells.length ∧ ∀ k, k < cells.length → rows.getD k [] = Q.staleOf arcs (cells.getD k []) ids) ∨
  (Q.staleE arcs ids ≠ 0 ∧ e = .returned (.tuple #[.slice none 0 0, .int .i64 (Q.staleE arcs ids)]))

set_option maxHeartbeats 8000000 in
theorem stale_any (n : Nat) (arcs : List Q.S95) (A : Option Addr) (c : Nat) (BA : Option Addr) (bc : Nat) (bounds : List Int) (CA : Option Addr) (cc : Nat) (cells : List (List Int)) (w : World) (h : GN w n arcs A c BA bc bounds CA cc cells) (IA : Option Addr) (ic : Nat) (ids : List Int) (hi : Kd.C (Kd.int .i64) w IA ids.length ids) :
    Calls Tryz.prog 47 #[.agg #[.int .i64 (n : Int), .slice A arcs.length c], .agg #[.slice BA bounds.length bc, .slice CA cells.length cc], .slice IA ids.length ic] w fun e w' => StaleV w' w.heap.size arcs cells ids e ∧ Below w.heap.size w w' := by
  obtain ⟨i0, hi0, hz0, hz1, hz2⟩ := info_parts intInfo
  obtain ⟨c0, c1, n0, n1, hsz, hb1⟩ := two_boxes w (.int .i64 (n : Int)) (.slice A arcs.length c) (.slice BA bounds.length bc) (.slice CA cells.length cc) 24 28
  have HNC : Hid (∀ wx : World, Below w.heap.size w wx → Calls Tryz.prog 26 #[.agg #[.int .i64 (n : Int), .slice A arcs.length c], .agg #[.slice BA bounds.length bc, .slice CA cells.length cc]] wx fun e w' => e = .returned (.tuple #[.int .i64 (Q.checkR (n : Int) arcs bounds cells).1, .int .i64 0]) ∧ Below wx.heap.size wx w') :=
    Lib.hid (fun wx hb => by
      have h1 := nestCheck_any (n : Int) arcs A c BA bc bounds CA cc cells wx h.g.fit (Kd.C_below h.r hb) h.c (h.nest.below hb)
      rw [h.ck] at h1
      exact h1)
  have HGN := Lib.hid h
  have HI := Lib.hid hi
  have hck5 : cells.length ≤ 5 := by have := h.ok.len; have := h.ok.b5; omega
  have hm := h.g.m
  have HROW : Hid (∀ k, k < cells.length → (cells.getD k []).length = n) := Lib.hid (fun k hk => (h.row k (by have := h.ok.len; omega)).1)
  clear h hi
  generalize (Q.checkR (n : Int) arcs bounds cells).1 = k1 at *
  go_enter Tryz.func47, Tryz.ntmps47
  go_upto_region 1 with fail
  generalize ((w.alloc (.cells #[.int .i64 (n : Int), .slice A arcs.length c] 24)).alloc (.cells #[.slice BA bounds.length bc, .slice CA cells.length cc] 28)) = w1 at *
  have HB1 := Lib.hid hb1
  have hs1 : w.heap.size + 2 ≤ w1.heap.size := by omega
  have HNC1 := Lib.hid (HNC.out w1 hb1)
  have HWX : Hid (∀ wx : World, Below w1.heap.size w1 wx → Below w.heap.size w wx) := Lib.hid (fun wx hb => HB1.out.trans (hb.mono (by omega)))
  generalize hgx : w.heap.size = gx at *
  have HGX := Lib.hid hgx
  have HBOX : Hid (∀ wx : World, Below w1.heap.size w1 wx → wx.cell? ⟨gx, 0, none⟩ = some (.int .i64 (n : Int)) ∧ wx.cell? ⟨gx, 1, none⟩ = some (.slice A arcs.length c) ∧ wx.cell? ⟨gx + 1, 0, none⟩ = some (.slice BA bounds.length bc) ∧ wx.cell? ⟨gx + 1, 1, none⟩ = some (.slice CA cells.length cc)) := Lib.hid (fun wx hb =>
    ⟨(hb.cell (p := ⟨gx, 0, none⟩) (by show gx < w1.heap.size; omega)).trans c0, (hb.cell (p := ⟨gx, 1, none⟩) (by show gx < w1.heap.size; omega)).trans c1, (hb.cell (p := ⟨gx + 1, 0, none⟩) (by show gx + 1 < w1.heap.size; omega)).trans n0, (hb.cell (p := ⟨gx + 1, 1, none⟩) (by show gx + 1 < w1.heap.size; omega)).trans n1⟩)
  clear hb1 hsz hgx HNC
  go_upto_region 4 with (go_at_call 26; (with_reducible refine HNC1.out.mono ?_); rintro e w2 ⟨rfl, hb⟩; have HB2 := Lib.hid hb; clear hb)
  clear c0 c1 n0 n1 HNC1
  obtain ⟨x0, x1, x2, x3⟩ := HBOX.out w2 HB2.out
  have hbw2 := HWX.out w2 HB2.out
  by_cases hl : 16384 < ids.length
  · have hlz : (16384 : Int) < (ids.length : Int) := by omega
    have HE : Hid (Q.staleE arcs ids = 2) := Lib.hid (by unfold Q.staleE; rw [if_pos hl])
    clear hbw2 HGN HI HROW
    go_wp2_with fail
    go_ret2
    have hgx := HGX.out
    subst hgx
    exact ⟨Or.inr ⟨by rw [HE.out]; decide, by rw [HE.out]; rfl⟩, HWX.out w2 HB2.out⟩
  · have hlz : ¬ (16384 : Int) < (ids.length : Int) := by omega
    have hl16 : ids.length ≤ 16384 := by omega
    have hcf := containsFunc_any 95 #[.pointer (some ⟨gx, 0, none⟩)] (Q.badId arcs.length) ids IA ic w2 (Kd.C_below HI.out (by rw [HGX.out]; exact hbw2)) hl16 (fun _ _ => rfl) (fun wx i hi hb => stale1_any (ids.getD i 0) A arcs.length c gx wx ((hb.cell (World.block_lt_of_cell? w2 _ x1)).trans x1) (by omega))
    rw [any_bad] at hcf
    have HCF := Lib.hid hcf
    clear hcf
    have HSE : Hid (Q.staleE arcs ids = if Q.idxOk arcs ids = true then 0 else 5) := Lib.hid (by unfold Q.staleE; rw [if_neg hl])
    have HIDX : Hid (Q.idxOk arcs ids = true → ∀ i ∈ ids, 0 ≤ i ∧ i < (arcs.length : Int)) := Lib.hid (fun h i hi => by
      unfold Q.idxOk at h
      have h1 := List.all_eq_true.1 h i hi
      simpa using h1)
    generalize hio : Q.idxOk arcs ids = io at *
    clear hio
    cases io with
    | false =>
      go_wp2_with (go_at_call 94; go_loud ((with_reducible refine HCF.out.mono ?_); rintro e w3 ⟨rfl, hb⟩; have HB3 := Lib.hid hb; clear hb))
      go_ret2
      have hse := HSE.out
      rw [if_neg (by decide)] at hse
      have hgx := HGX.out
      subst hgx
      exact ⟨Or.inr ⟨by rw [hse]; decide, by rw [hse]; rfl⟩, HWX.out w3 (HB2.out.trans (HB3.out.mono HB2.out.size))⟩
    | true =>
      have HSE0 : Hid (Q.staleE arcs ids = 0) := Lib.hid (by rw [HSE.out, if_pos rfl])
      have HIN := Lib.hid (HIDX.out rfl)
      clear HSE HIDX
      go_upto_region 8 with (go_at_call 94; go_loud ((with_reducible refine HCF.out.mono ?_); rintro e w3 ⟨rfl, hb⟩; have HB3 : Hid (Below w1.heap.size w1 w3) := Lib.hid (HB2.out.trans (hb.mono HB2.out.size)); clear hb))
      clear x0 x1 x2 x3 hbw2 HCF
      obtain ⟨x0, x1, x2, x3⟩ := HBOX.out w3 HB3.out
      have hmk := make_slices 26 25 Tryz.underlying26 intsInfo cells.length (by omega)
      go_upto_region 9 with fail
      clear hmk
      have hI4 := IRows.made w3 cells.length (rep_box (heap_alloc_new w3 (.cells (Array.replicate cells.length nilV) 25)))
      have hb4 : Below w1.heap.size w1 (w3.alloc (.cells (Array.replicate cells.length nilV) 25)) := HB3.out.alloc HB3.out.size _
      generalize (w3.alloc (.cells (Array.replicate cells.length nilV) 25)) = w4 at *
      have hg1 : w1.heap.size ≤ w3.heap.size := HB3.out.size
      generalize hgq : w3.heap.size = g at *
      have HI4 := Lib.hid (hI4.lower (B' := w1.heap.size) hg1)
      have HB4 := Lib.hid hb4
      clear x0 x1 x2 x3 hI4 hb4 HB3 hgq
      obtain ⟨x0, x1, x2, x3⟩ := HBOX.out w4 HB4.out
      go_wp2_with fail
      clear x0 x1 x2 x3
      go_loopg [38] cells.length (fun gg s38 wr => ∃ (k : Nat) (vs : List Value) (rows : List (List Int)), k ≤ cells.length ∧ cells.length - k ≤ gg ∧ s38 = .int .i64 k ∧ vs.length = cells.length ∧ Hid (IRows wr w1.heap.size g vs rows) ∧ Hid (∀ j, j < k → rows.getD j [] = Q.staleOf arcs (cells.getD j []) ids) ∧ Hid (∀ j, k ≤ j → vs.getD j nilV = nilV ∧ rows.getD j [] = []) ∧ Hid (Below w1.heap.size w1 wr))
      case atStart => exact ⟨0, _, _, Nat.zero_le _, by omega, rfl, by simp, HI4, Lib.hid (fun j hj => absurd hj (by omega)), Lib.hid (fun j _ => ⟨rep_get _ _, repI_get _ _⟩), HB4⟩
      case round =>
        obtain ⟨k, vs, rows, hk1, hgg, rfl, hvl, HIR, HOLD, HNEW, HB⟩ := hrel
        obtain ⟨wm, rfl⟩ : ∃ x : World, x = wr := ⟨_, rfl⟩
        obtain ⟨x0, x1, x2, x3⟩ := HBOX.out wm HB.out
        by_cases hlt : k < cells.length
        · have hltz : (k : Int) < (cells.length : Int) := by omega
          have hwk : IntKind.i64.wrap ((k : Int) + 1) = ((k + 1 : Nat) : Int) := by rw [IntWalk.i64_in _ (by omega)]; omega
          have hbwm : Below w.heap.size w wm := by rw [HGX.out]; exact HWX.out wm HB.out
          obtain ⟨cad, RA, rc, hCA, y00, hrc, hRow⟩ := HGN.out.nest.row k hlt
          have y0 := (hbwm.cell (World.block_lt_of_cell? w _ y00)).trans y00
          subst hCA
          have hrl := HROW.out k hlt
          have hbox : wm.heap[g]? = some (.cells (vs.set k nilV).toArray 25 (0, 0)) := by
            have h1 := (HNEW.out k (Nat.le_refl _)).1
            have h2 : vs.set k nilV = vs := by
              apply List.ext_getElem
              · simp
              · intro a b1 b2
                rw [List.getElem_set]
                split
                · rename_i e
                  subst e
                  rw [List.getD_eq_getElem?_getD, List.getElem?_eq_getElem b2] at h1
                  exact h1.symm
                · rfl
            rw [h2]
            exact HIR.out.box
          have hgm : g < wm.heap.size := HIR.out.lt
          have hgw : w1.heap.size ≤ g := HIR.out.ge
          have HBOXM := Lib.hid hbox
          have HROWM := Lib.hid hRow
          have HBM := Lib.hid hbwm
          rw [hrl] at y0
          clear hbox hRow hbwm hrc y00
          have HST : Hid (Q.staleOf arcs (cells.getD k []) ids = Lib.compact ((touchTo arcs (cells.getD k []) ids ids.length).mergeSort (fun x y => decide (x ≤ y)))) := Lib.hid (by rw [touchTo_all]; rfl)
          have HRL := Lib.hid hrl
          clear hrl
          have HRW0 : Hid (∃ row0, cells.getD k [] = row0) := Lib.hid ⟨_, rfl⟩
          generalize hrw : cells.getD k [] = row at *
          have HRW := Lib.hid hrw
          clear hrw HRW0
          go_wp2_with fail
          clear x0 x1 x2 x3 y0
          go_loopg [45] ids.length (fun gg s45 wr => ∃ (i : Nat) (v : Value), i ≤ ids.length ∧ ids.length - i ≤ gg ∧ s45 = .int .i64 i ∧ Hid (wr.heap[g]? = some (.cells (vs.set k v).toArray 25 (0, 0))) ∧ Hid (wr.ownsRow wm.heap.size 3 1 v (touchTo arcs row ids i).length ((touchTo arcs row ids i).map (Value.int .i64))) ∧ Hid (wm.grownBy wr (some g)))
          case atStart => exact ⟨0, nilV, Nat.zero_le _, by omega, rfl, HBOXM, Lib.hid (World.ownsRow_nil _ _ _ _), Lib.hid (but_refl _ _)⟩
          case round =>
            obtain ⟨i, v, hi1, hgg2, rfl, HBX, HOW, HBU⟩ := hrel
            obtain ⟨wq, rfl⟩ : ∃ x : World, x = wr := ⟨_, rfl⟩
            have HB1Q : Hid (Below w1.heap.size w1 wq) := Lib.hid (Below.grown HB.out HBU.out (fun j hj => by cases hj; exact hgw) HB.out.size)
            obtain ⟨x0, x1, x2, x3⟩ := HBOX.out wq HB1Q.out
            by_cases hlti : i < ids.length
            · have hltiz : (i : Int) < (ids.length : Int) := by omega
              have hwi : IntKind.i64.wrap ((i : Int) + 1) = ((i + 1 : Nat) : Int) := by rw [IntWalk.i64_in _ (by omega)]; omega
              have hbwq : Below w.heap.size w wq := by rw [HGX.out]; exact HWX.out wq HB1Q.out
              obtain ⟨iad, hIA, u0⟩ := Q.int_cell (Kd.C_below HI.out hbwq) i hlti
              subst hIA
              have hid := HIN.out _ (get_mem hlti)
              obtain ⟨a, ha⟩ : ∃ a : Nat, ids.getD i 0 = (a : Int) := ⟨(ids.getD i 0).toNat, (Int.toNat_of_nonneg hid.1).symm⟩
              rw [ha] at u0 hid
              have hal : a < arcs.length := by omega
              have halz : (a : Int) < (arcs.length : Int) := by omega
              obtain ⟨aad, hA, b0, b1, b2⟩ := arc_at (Kd.C_below HGN.out.r hbwq) a hal
              subst hA
              have HSTEP := Lib.hid (touchTo_step arcs row ids i hlti)
              rw [ha, Int.toNat_natCast] at HSTEP
              have hends := HGN.out.g.ends _ (mem_getD hal)
              generalize arcs.getD a Q.z95 = ar at *
              obtain ⟨f0, f1, f2⟩ := ar
              obtain ⟨⟨q0, q1⟩, ⟨q2, q3⟩⟩ := hends
              simp only at b0 b1 b2 q0 q1 q2 q3
              obtain ⟨u, rfl⟩ : ∃ u : Nat, f0 = (u : Int) := ⟨f0.toNat, (Int.toNat_of_nonneg q0).symm⟩
              obtain ⟨t, rfl⟩ : ∃ t : Nat, f1 = (t : Int) := ⟨f1.toNat, (Int.toNat_of_nonneg q2).symm⟩
              have hbmq : Kd.C (Kd.int .i64) wq RA row.length row := by
                exact Kd.C_below HROWM.out hbwq
              obtain ⟨lad, rfl, r0⟩ := Q.int_cell hbmq u (by rw [HRL.out]; omega)
              obtain ⟨lad', hlad, r1⟩ := Q.int_cell hbmq t (by rw [HRL.out]; omega)
              cases hlad
              have hcF : Q.cellF row ⟨(u : Int), (t : Int), f2⟩ = row.getD u 0 := by unfold Q.cellF; simp only [Int.toNat_natCast]
              have hcT : Q.cellT row ⟨(u : Int), (t : Int), f2⟩ = row.getD t 0 := by unfold Q.cellT; simp only [Int.toNat_natCast]
              rw [hcF, hcT] at HSTEP
              have huz : (u : Int) < (n : Int) := by omega
              have htz : (t : Int) < (n : Int) := by omega
              have htl := touchTo_len arcs row ids i
              generalize row.getD u 0 = fu at *
              generalize row.getD t 0 = ft at *
              clear hcF hcT q0 q1 q2 q3 hid ha hbmq hbwq
              go_upto_region 16 with fail
              have hb5 : Below wq.heap.size wq (wq.alloc (.cells #[.int .i64 (u : Int), .int .i64 (t : Int), .int .u32 f2] 95)) := (Below.refl _ wq).alloc (Nat.le_refl _) _
              have g0 : (wq.alloc (.cells #[.int .i64 (u : Int), .int .i64 (t : Int), .int .u32 f2] 95)).cell? ⟨wq.heap.size, 0, none⟩ = some (.int .i64 (u : Int)) := by simp
              have g1 : (wq.alloc (.cells #[.int .i64 (u : Int), .int .i64 (t : Int), .int .u32 f2] 95)).cell? ⟨wq.heap.size, 1, none⟩ = some (.int .i64 (t : Int)) := by simp
              have z0 := (hb5.cell (World.block_lt_of_cell? wq _ r0)).trans r0
              have z1 := (hb5.cell (World.block_lt_of_cell? wq _ r1)).trans r1
              have hgq : g < wq.heap.size := lt_of_block HBX.out
              have HBX5 := Lib.hid ((hb5.block g hgq).trans HBX.out)
              have HOW5 := Lib.hid (own_below HOW.out hb5)
              have HBU5 := Lib.hid (but_below HBU.out hb5 HBU.out.size)
              generalize (wq.alloc (.cells #[.int .i64 (u : Int), .int .i64 (t : Int), .int .u32 f2] 95)) = wA at *
              generalize wq.heap.size = ga at *
              clear x0 x1 x2 x3 b0 b1 b2 u0 r0 r1 hb5 HBX HOW HBU
              go_cut [64] (fun s64 wx => s64 = .bool (decide (fu = ft)) ∧ Hid (wx = wA.drew))
              case first =>
                have dg0 : wA.drew.cell? ⟨ga, 0, none⟩ = some (.int .i64 (u : Int)) := g0
                have dg1 : wA.drew.cell? ⟨ga, 1, none⟩ = some (.int .i64 (t : Int)) := g1
                have dz0 : wA.drew.cell? (lad.add u) = some (.int .i64 fu) := z0
                have dz1 : wA.drew.cell? (lad.add t) = some (.int .i64 ft) := z1
                go_region
                all_goals
                  go_wp2_with fail
                  go_meet
                  exact ⟨by first | rfl | (simp; done), Lib.hid rfl⟩
              case rest =>
                obtain ⟨rfl, HC⟩ := hcut
                have hwc := HC.out
                subst hwc
                have e0 : wA.drew.cell? ⟨ga, 0, none⟩ = some (.int .i64 (u : Int)) := g0
                have k0 : wA.drew.cell? (lad.add u) = some (.int .i64 fu) := z0
                have HBX6 : Hid (wA.drew.heap[g]? = some (.cells (vs.set k v).toArray 25 (0, 0))) := HBX5
                have HOW6 : Hid (wA.drew.ownsRow wm.heap.size 3 1 v (touchTo arcs row ids i).length ((touchTo arcs row ids i).map (Value.int .i64))) := Lib.hid HOW5.out
                have HBU6 : Hid (wm.grownBy wA.drew (some g)) := Lib.hid (but_below HBU5.out (Below.drew (Below.refl _ _)) HBU5.out.size)
                clear g0 g1 z0 z1 HC HBX5 HOW5 HBU5
                generalize wA.drew = wB at *
                by_cases hfv : fu = ft
                · have HE2 : Hid (touchTo arcs row ids (i + 1) = touchTo arcs row ids i ++ [fu]) := Lib.hid (by rw [HSTEP.out, if_pos hfv])
                  have hkv : k < vs.length := by omega
                  have c0 : wB.cell? ⟨g, k, none⟩ = some v := by
                    rw [cell_of_row _ _ k _ _ _ HBX6.out]
                    simp [hkv]
                  have hrd := HOW6.out
                  have hgB : g < wB.heap.size := lt_of_block HBX6.out
                  have hmB : wm.heap.size ≤ wB.heap.size := HBU6.out.size
                  clear HSTEP
                  generalize touchTo arcs row ids i = tl at *
                  have HVL := Lib.hid hvl
                  clear hvl
                  subst hfv
                  go_upto_region 17 with fail
                  go_region_law (refine step_append_lies _ (by rfl) _ _ _ (by rfl) wm.heap.size 3 i0 _ 1 8 Tryz.underlying25 hi0 hz0 hz1 hz2 rfl (by omega) _ _ _ (by rfl) ((hrd.alloc _).drew) ⟨wB.heap.size, 0, none⟩ 1 1 [.int .i64 fu] (by rfl) (by rfl) (World.news_of_block (cs := #[.int .i64 fu]) (t := 3) (fr := (0, 0)) (heap_alloc_new wB _)) (by simp [Value.oneCell']) (by omega) (by unfold maxLen; omega) (by omega) (by simp; omega) (wB.heap.size + 1) (by simp) ?_; intro gg cap3 w5 hown hgrow hat hlt5; have hT5 : w5.heap[g]? = some (.cells (vs.set k v).toArray 25 (0, 0)) := ((hgrow.block g (by simp; omega) (fun e => by have := (hrd.lt g e.symm).1; omega)).trans (heap_alloc_old wB _ hgB)).trans HBX6.out; have cT5 : w5.cell? ⟨g, k, none⟩ = some v := (by rw [cell_of_row _ _ k _ _ _ hT5]; simp [hkv]); have fT5 : w5.frozen? ⟨g, k, none⟩ = false := (by simp [World.frozen?, hT5]); have HT5 := Lib.hid hT5; have HO5 := Lib.hid hown; have HG5 := Lib.hid hgrow; clear hown hgrow hat hT5)
                  all_goals
                    go_wp2_with fail
                    have HWI := Lib.hid hwi
                    clear hwi
                    go_roundg (ids.length - (i + 1))
                    case measure => omega
                    case rel =>
                      have hT6 := box_set HT5.out k (.slice (some ⟨gg, 0, none⟩) (tl.length + 1) cap3)
                      rw [List.set_set] at hT6
                      have hab : Below wB.heap.size wB ((wB.alloc (.cells #[.int .i64 fu] 3)).drew) := ((Below.refl _ wB).alloc (Nat.le_refl _) _).drew
                      refine ⟨i + 1, _, by omega, Nat.le_refl _, rfl, Lib.hid hT6, Lib.hid ?_, Lib.hid (but_set (but_own (but_below HBU6.out hab hmB) HG5.out (fun b hb => (hrd.lt b hb).1)) k _)⟩
                      rw [HE2.out, List.length_append, List.map_append]
                      exact row_stays HO5.out (fun j hj => heap_setCell_other w5 ⟨g, k, none⟩ j _ (by have := (HO5.out.lt j hj).1; show j ≠ g; omega))
                · have HE2 : Hid (touchTo arcs row ids (i + 1) = touchTo arcs row ids i) := Lib.hid (by rw [HSTEP.out, if_neg hfv, List.append_nil])
                  go_wp2_with fail
                  have HWI := Lib.hid hwi
                  clear hwi
                  go_roundg (ids.length - (i + 1))
                  case measure => omega
                  case rel =>
                    refine ⟨i + 1, v, by omega, Nat.le_refl _, rfl, HBX6, Lib.hid ?_, HBU6⟩
                    rw [HE2.out]
                    exact HOW6.out
            · have : i = ids.length := by omega
              subst this
              have hkz : ¬ (ids.length : Int) < (ids.length : Int) := by omega
              have htl := touchTo_len arcs row ids ids.length
              have hkv : k < vs.length := by omega
              have hmq : wm.heap.size ≤ wq.heap.size := HBU.out.size
              have hgq : g < wq.heap.size := by omega
              have c0 : wq.cell? ⟨g, k, none⟩ = some v := by
                rw [cell_of_row _ _ k _ _ _ HBX.out]
                simp [hkv]
              have f0 : wq.frozen? ⟨g, k, none⟩ = false := by simp [World.frozen?, HBX.out]
              have HPUT : Hid (∀ (w' : World) (v' : Value) (l : List Int), wm.grownBy w' (some g) → w'.heap[g]? = some (.cells (vs.set k v').toArray 25 (0, 0)) → IRow w' w1.heap.size g v' l → l.length ≤ 1000000 → l = Q.staleOf arcs (cells.getD k []) ids → IRows w' w1.heap.size g (vs.set k v') (rows.set k l) ∧ (∀ j, j < k + 1 → (rows.set k l).getD j [] = Q.staleOf arcs (cells.getD j []) ids) ∧ (∀ j, k + 1 ≤ j → (vs.set k v').getD j nilV = nilV ∧ (rows.set k l).getD j [] = []) ∧ Below w1.heap.size w1 w') := Lib.hid (fun w' v' l h1 h2 h3 h4 h5 => by
                have hkr : k < rows.length := by rw [← HIR.out.len]; exact hkv
                refine ⟨HIR.out.put h1 k hkv v' l h2 h3 h4, fun j hj => ?_, fun j hj => ?_, Below.grown HB.out h1 (fun j hj => by cases hj; exact hgw) HB.out.size⟩
                · rw [setI_get _ _ _ _ hkr]
                  by_cases e : j = k
                  · rw [if_pos e, h5, e]
                  · rw [if_neg e]
                    exact HOLD.out j (by omega)
                · rw [set_get _ _ _ _ hkv, setI_get _ _ _ _ hkr, if_neg (by omega), if_neg (by omega)]
                  exact HNEW.out j (by omega))
              generalize touchTo arcs row ids ids.length = ed at *
              obtain ⟨hlen, ⟨rfl, hn0⟩ | ⟨b, cap, cur, rfl, hbase, hgb, h1, h2, h3, h4⟩⟩ := HOW.out
              · have he0 : ed = [] := List.length_eq_zero_iff.1 hn0
                have HSN : Hid ([] = Q.staleOf arcs (cells.getD k []) ids) := Lib.hid (by rw [HRW.out, HST.out, he0]; simp [Lib.compact, Lib.compactUpTo])
                clear hn0 he0 hlen
                have HBXQ := Lib.hid (show wq.heap[g]? = some (.cells (vs.set k (.slice none 0 0)).toArray 25 (0, 0)) from HBX.out)
                go_wp2_with (first
                  | (go_at_call 61; refine (Tryz.slices_Sort_int_none none 0 _).mono ?_; rintro e w' ⟨rfl, rfl⟩)
                  | (go_at_call 63; refine (Tryz.slices_Compact_int_empty none 0 _).mono ?_; rintro e w' ⟨rfl, rfl⟩)
                  | (go_at_call 62; refine (cut_nil _).mono ?_; rintro e w' ⟨rfl, rfl⟩))
                have HWK := Lib.hid hwk
                clear hwk
                go_roundg (cells.length - (k + 1))
                case measure => omega
                case rel =>
                  have hT := box_set HBXQ.out k (.slice none 0 0)
                  rw [List.set_set] at hT
                  obtain ⟨p1, p2, p3, p4⟩ := HPUT.out _ (.slice none 0 0) [] (but_set HBU.out k _) hT (Or.inl ⟨rfl, rfl⟩) (by simp) HSN.out
                  exact ⟨k + 1, _, _, by omega, Nat.le_refl _, rfl, by rw [List.length_set]; exact hvl, Lib.hid p1, Lib.hid p2, Lib.hid p3, Lib.hid p4⟩
              · have hbw : b < wq.heap.size := (Array.getElem?_eq_some_iff.1 hgb).1
                have hgb2 : g < b := by omega
                have hBQ := HBX.out
                have HH : Hid (Holds (Value.int .i64) wq b 0 ed.toArray) := Lib.hid (holds_of_blockI hgb (by simpa using h4))
                have HSL : Hid ((ed.mergeSort (fun x y => decide (x ≤ y))).length = ed.length) := Lib.hid (List.length_mergeSort _)
                have HS := Lib.hid (Tryz.slices_Sort_int b 0 cap ed wq HH.out hbw (by omega))
                have HSO : Hid (∀ (n : Nat) (os : Array Obj), Holds (Value.int .i64) (grow (putRow (Value.int .i64) (Sort.ahead wq n) b 0 (ed.mergeSort (fun x y => decide (x ≤ y))).toArray) os) b 0 (ed.mergeSort (fun x y => decide (x ≤ y))).toArray ∧ b < (grow (putRow (Value.int .i64) (Sort.ahead wq n) b 0 (ed.mergeSort (fun x y => decide (x ≤ y))).toArray) os).heap.size ∧ wq.grownBy (grow (putRow (Value.int .i64) (Sort.ahead wq n) b 0 (ed.mergeSort (fun x y => decide (x ≤ y))).toArray) os) (some b)) := Lib.hid (fun n os => by
                  have hs := heap_sortedI (n := n) (os := os) (ed.mergeSort (fun x y => decide (x ≤ y))).toArray hgb
                  exact ⟨holds_of_blockI hs (take_putCellsI cur _ (by rw [HSL.out]; omega)), (Array.getElem?_eq_some_iff.1 hs).1, grownBy_sortedI _⟩)
                have hsl := HSL.out
                have hel2 : ed.length ≤ cap := h1
                have hmb : wm.heap.size ≤ b := hbase
                clear hlen hgb h1 h2 h3 h4 HH HOW hbase f0
                generalize hso : ed.mergeSort (fun x y => decide (x ≤ y)) = so at *
                have HSOQ := Lib.hid hso
                clear hso hsl
                go_wp2_with (first
                  | (go_at_call 61; go_loud (refine HS.out.mono ?_; rintro e ws ⟨rfl, nn, os, hw3⟩; obtain ⟨k1', k2', k3'⟩ := HSO.out nn os; rw [← hw3] at k1' k2' k3'; have K1 := Lib.hid k1'; have K2 := Lib.hid k2'; have K3 := Lib.hid k3'; have hTs : ws.heap[g]? = some (.cells (vs.set k (.slice (some ⟨b, 0, none⟩) ed.length cap)).toArray 25 (0, 0)) := (k3'.block g hgq (fun e => by cases e; omega)).trans hBQ; have cTs : ws.cell? ⟨g, k, none⟩ = some (.slice (some ⟨b, 0, none⟩) ed.length cap) := (by rw [cell_of_row _ _ k _ _ _ hTs]; simp [hkv]); have HTs := Lib.hid hTs; clear k1' k2' k3' hw3 hTs))
                  | (go_at_call 63; go_loud ((rw [← HSL.out]); refine (compact_cut b cap so _ K1.out K2.out (by have := HSL.out; omega) (by have := HSL.out; omega)).mono ?_; rintro e w4 ⟨rfl, hc4, hk4, hb4⟩; have HK4 := Lib.hid hk4; have HB4 := Lib.hid hb4; have hTt : w4.heap[g]? = some (.cells (vs.set k (.slice (some ⟨b, 0, none⟩) ed.length cap)).toArray 25 (0, 0)) := (hb4.block g hgb2).trans HTs.out; have fTt : w4.frozen? ⟨g, k, none⟩ = false := (by simp [World.frozen?, hTt]); have cTt : w4.cell? ⟨g, k, none⟩ = some (.slice (some ⟨b, 0, none⟩) ed.length cap) := (by rw [cell_of_row _ _ k _ _ _ hTt]; simp [hkv]); have HTt := Lib.hid hTt; have HC4 := Lib.hid hc4; clear hk4 hb4 hTt))
                  | (go_at_call 62; go_loud (refine (cut_any b _ cap _ HC4.out).mono ?_; rintro e w5 ⟨rfl, rfl⟩)))
                have HWK := Lib.hid hwk
                clear hwk
                go_roundg (cells.length - (k + 1))
                case measure => omega
                case rel =>
                  have hT := box_set HTt.out k (.slice (some ⟨b, 0, none⟩) (Lib.compact so).length (Lib.compact so).length)
                  rw [List.set_set] at hT
                  have hbu1 : wm.grownBy ws (some g) := but_own HBU.out K3.out (fun j hj => by cases hj; exact hmb)
                  have hbu2 : wm.grownBy w4 (some g) := but_below hbu1 HB4.out hmb
                  have hcl : (Lib.compact so).length ≤ 1000000 := by have h5 := Lib.compact_length_le so; have := HSL.out; omega
                  have hb4s : b < w4.heap.size := by have := HB4.out.size; have := K2.out; omega
                  have hir : IRow w4 w1.heap.size g (.slice (some ⟨b, 0, none⟩) (Lib.compact so).length (Lib.compact so).length) (Lib.compact so) := Or.inr ⟨b, _, rfl, Nat.le_refl _, by omega, by omega, hb4s, HK4.out, fun j hj => by
                    obtain ⟨ad, had, h5⟩ := Q.int_cell HK4.out j hj
                    cases had
                    have e : (⟨b, 0, none⟩ : Addr).add j = ⟨b, j, none⟩ := by unfold Addr.add; split <;> simp_all
                    rw [e] at h5
                    exact h5⟩
                  obtain ⟨p1, p2, p3, p4⟩ := HPUT.out _ _ (Lib.compact so) (but_set hbu2 k _) hT (hir.kept (grownBy_setCell w4 g k _) hcl) hcl (by rw [HRW.out, HST.out])
                  exact ⟨k + 1, _, _, by omega, Nat.le_refl _, rfl, by rw [List.length_set]; exact hvl, Lib.hid p1, Lib.hid p2, Lib.hid p3, Lib.hid p4⟩
        · have : k = cells.length := by omega
          subst this
          have hkz : ¬ (cells.length : Int) < (cells.length : Int) := by omega
          go_wp2_with fail
          go_ret2
          have hgx := HGX.out
          subst hgx
          exact ⟨Or.inl ⟨HSE0.out, g, vs, rows, rfl, HIR.out.lower (by omega), hvl, HOLD.out⟩, HWX.out wm HB.out⟩

end Go.Proofs.YtjddimoeodecgaaGreat

/- overlay.build. -/
namespace Go.Proofs.YtjddimoeodecgaaGreat
open Go.RowKit Go.Lib Go.Maps Go.Proofs.YtjddimoeodecgaaGreatW.PrintWords Go.Proofs.YtjddimoeodecgaaGreatW.PrintLast Go.Proofs.YtjddimoeodecgaaGreatW.PrintMore
set_option linter.unusedVariables false
set_option maxRecDepth 100000

set_option maxHeartbeats 16000000 in
theorem build_any (n : Nat) (arcs : List Q.S95) (A : Option Addr) (c : Nat) (BA : Option Addr) (bc : Nat) (bounds : List Int) (CA : Option Addr) (cc : Nat) (cells : List (List Int)) (w : World) (h : GN w n arcs A c BA bc bounds CA cc cells) (OA : Option Addr) (ol oc : Nat) (epoch : Int) (F : Nat) (caps : Array Value) (f : Nat → Nat → Nat) (E : Nat → Nat → Int)
    (hrun : ∀ (args : Array Value) (w : World), (callFunc F args).run Tryz.prog w = .ok (.enter F args) w)
    (hwhat : ∀ (k x : Nat) (lw : Int) (wx : World), k < bounds.length → x < Q.manyOf (cells.getD k []) → lw = (k : Int) + 1 → Below w.heap.size w wx → Calls Tryz.prog F (#[.int .i64 lw, .int .i64 (x : Int)] ++ caps) wx fun e w' => e = .returned (.int .i64 (f k x : Nat)) ∧ Below wx.heap.size wx w')
    (hmade : ∀ (k x : Nat) (lw : Int) (wx : World) (g B c' : Nat) (vs : List Value) (pss : List (List (Mat × Value))), k < bounds.length → x < Q.manyOf (cells.getD k []) → lw = (k : Int) + 1 → Below w.heap.size w wx → Over wx B g vs pss → Part (overRow n arcs cells E) bounds.length k c' pss →
      Calls Tryz.prog 114 #[.agg #[.int .i64 (n : Int), .slice A arcs.length c], .agg #[.slice BA bounds.length bc, .slice CA cells.length cc], if f k x = 0 then .slice OA ol oc else .slice (some ⟨g, 0, none⟩) bounds.length bounds.length, .int .i64 lw, .int .i64 (x : Int), .int .i64 epoch, .int .i64 (f k x : Nat)] wx fun e w' => ∃ P m cp, e = .returned (.tuple #[.agg #[.int .i64 lw, .int .i64 (x : Int), .int .i64 (E k x), .slice P m cp], .int .i64 0]) ∧ w'.ownsRow wx.heap.size 43 1 (.slice P m cp) (Q.matOf n arcs (cells.getD k []) (x : Int)).length (u64s (Q.matOf n arcs (cells.getD k []) (x : Int))) ∧ Below wx.heap.size wx w') :
    Calls Tryz.prog 82 #[.agg #[.int .i64 (n : Int), .slice A arcs.length c], .agg #[.slice BA bounds.length bc, .slice CA cells.length cc], .slice OA ol oc, .int .i64 epoch, .func (.func F) #[] caps] w fun e w' => ∃ g vs pss, e = .returned (.tuple #[.slice (some ⟨g, 0, none⟩) bounds.length bounds.length, .int .i64 (anewT f (fun k => Q.manyOf (cells.getD k [])) bounds.length : Nat), .int .i64 0]) ∧ Over w' w.heap.size g vs pss ∧ pss.map (fun ps => ps.map (·.1)) = overO n arcs cells bounds.length E ∧ Below w.heap.size w w' := by
  obtain ⟨i0, hi0, hz0, hz1, hz2⟩ := info_parts matInfo
  obtain ⟨c0, c1, n0, n1, hsz, hb1⟩ := two_boxes w (.int .i64 (n : Int)) (.slice A arcs.length c) (.slice BA bounds.length bc) (.slice CA cells.length cc) 24 28
  have HMN : Hid (∀ (k : Nat) (lw : Int) (wx : World), lw = (k : Int) + 1 → k < bounds.length → Below w.heap.size w wx → Calls Tryz.prog 72 #[.agg #[.int .i64 (n : Int), .slice A arcs.length c], .agg #[.slice BA bounds.length bc, .slice CA cells.length cc], .int .i64 lw] wx fun e w' => e = .returned (.tuple #[.int .i64 (Q.manyOf (cells.getD k []) : Int), .int .i64 0]) ∧ Below wx.heap.size wx w') :=
    Lib.hid (fun k lw wx hlw hk hb => by
      have h1 := nestMany_any (n : Int) arcs A c BA bc bounds CA cc cells ((k + 1 : Nat) : Int) w wx hb h.g.fit h.r h.c h.nest (h.look k hk)
      rw [lv1] at h1
      obtain rfl : lw = ((k + 1 : Nat) : Int) := by omega
      exact h1)
  have HMD := Lib.hid hmade
  have HWT := Lib.hid hwhat
  have hb5 := h.ok.b5
  have HROW : Hid (∀ k, k < bounds.length → Q.manyOf (cells.getD k []) ≤ 1024) := Lib.hid (fun k hk => (h.row k hk).2.2)
  have HRL : Hid (∀ k, (overRow n arcs cells E k).length = Q.manyOf (cells.getD k [])) := Lib.hid (fun k => overRow_len k)
  have HRT : Hid (∀ k x, x < Q.manyOf (cells.getD k []) → (overRow n arcs cells E k).take (x + 1) = (overRow n arcs cells E k).take x ++ [⟨(k : Int) + 1, (x : Int), E k x, Q.matOf n arcs (cells.getD k []) (x : Int)⟩]) := Lib.hid (fun k x hx => overRow_take k x hx)
  have HRO : Hid (overO n arcs cells bounds.length E = (List.range bounds.length).map (overRow n arcs cells E)) := Lib.hid rfl
  clear h hmade hwhat
  generalize overO n arcs cells bounds.length E = OO at *
  generalize overRow n arcs cells E = R at *
  go_enter Tryz.func82, Tryz.ntmps82
  go_upto_region 1 with fail
  generalize ((w.alloc (.cells #[.int .i64 (n : Int), .slice A arcs.length c] 24)).alloc (.cells #[.slice BA bounds.length bc, .slice CA cells.length cc] 28)) = w1 at *
  have HB1 := Lib.hid hb1
  have hs1 : w.heap.size + 2 ≤ w1.heap.size := by omega
  generalize hgx : w.heap.size = gx at *
  have HGX := Lib.hid hgx
  have HBOX : Hid (∀ wx : World, Below w1.heap.size w1 wx → wx.cell? ⟨gx, 0, none⟩ = some (.int .i64 (n : Int)) ∧ wx.cell? ⟨gx, 1, none⟩ = some (.slice A arcs.length c) ∧ wx.cell? ⟨gx + 1, 0, none⟩ = some (.slice BA bounds.length bc) ∧ wx.cell? ⟨gx + 1, 1, none⟩ = some (.slice CA cells.length cc) ∧ Below gx w wx) := Lib.hid (fun wx hb =>
    ⟨(hb.cell (p := ⟨gx, 0, none⟩) (by show gx < w1.heap.size; omega)).trans c0, (hb.cell (p := ⟨gx, 1, none⟩) (by show gx < w1.heap.size; omega)).trans c1, (hb.cell (p := ⟨gx + 1, 0, none⟩) (by show gx + 1 < w1.heap.size; omega)).trans n0, (hb.cell (p := ⟨gx + 1, 1, none⟩) (by show gx + 1 < w1.heap.size; omega)).trans n1, HB1.out.trans (hb.mono (by omega))⟩)
  clear hb1 hsz hgx
  have hmk := make_slices 68 30 Tryz.underlying68 matsInfo bounds.length (by omega)
  go_upto_region 2 with fail
  clear hmk
  have hO2 := Over.made w1 bounds.length (rep_box (heap_alloc_new w1 (.cells (Array.replicate bounds.length nilV) 30)))
  have hb2 : Below w1.heap.size w1 (w1.alloc (.cells (Array.replicate bounds.length nilV) 30)) := (Below.refl _ w1).alloc (Nat.le_refl _) _
  generalize (w1.alloc (.cells (Array.replicate bounds.length nilV) 30)) = w2 at *
  obtain ⟨g, hg⟩ : ∃ g, g = w1.heap.size := ⟨_, rfl⟩
  rw [← hg]
  have hO2' : Over w2 w1.heap.size g (List.replicate bounds.length nilV) (List.replicate bounds.length []) := by rw [hg]; exact hO2
  have HO2 := Lib.hid hO2'
  have HB2 := Lib.hid hb2
  have HP2 : Hid (Part R bounds.length 0 0 (List.replicate bounds.length [])) := Lib.hid (Part.zero R bounds.length)
  clear hO2 hO2' hb2 hg c0 c1 n0 n1
  go_wp2_with fail
  go_loopg [14, 29] bounds.length (fun gg s14 s29 wr => ∃ (k a : Nat) (vs : List Value) (pss : List (List (Mat × Value))), k ≤ bounds.length ∧ bounds.length - k ≤ gg ∧ s29 = .int .i64 k ∧ s14 = .int .i64 a ∧ a ≤ k * 1024 ∧ Hid (a = anewT f (fun k => Q.manyOf (cells.getD k [])) k) ∧ Hid (Over wr w1.heap.size g vs pss) ∧ Hid (Part R bounds.length k 0 pss) ∧ Hid (Below w1.heap.size w1 wr))
  case atStart => exact ⟨0, 0, _, _, Nat.zero_le _, by omega, rfl, rfl, by omega, Lib.hid rfl, HO2, HP2, HB2⟩
  case round =>
    obtain ⟨k, a, vs, pss, hk1, hgg, rfl, rfl, ha1, HAT, HOV, HPT, HB⟩ := hrel
    obtain ⟨wm, rfl⟩ : ∃ x : World, x = wr := ⟨_, rfl⟩
    obtain ⟨x0, x1, x2, x3, hbw⟩ := HBOX.out wm HB.out
    by_cases hlt : k < bounds.length
    · have hltz : (k : Int) < (bounds.length : Int) := by omega
      have hwk : IntKind.i64.wrap ((k : Int) + 1) = ((k + 1 : Nat) : Int) := by rw [IntWalk.i64_in _ (by omega)]; omega
      have HMK := Lib.hid (HMN.out k ((k : Int) + 1) wm rfl hlt hbw)
      have hm4 := HROW.out k hlt
      have HWTK := Lib.hid (fun x wx hx hb => HWT.out k x ((k : Int) + 1) wx hlt hx rfl hb)
      have HMDK := Lib.hid (fun x wx B c' vs pss hx hb hO hP => HMD.out k x ((k : Int) + 1) wx g B c' vs pss hlt hx rfl hb hO hP)
      have HRLK := Lib.hid (HRL.out k)
      have HRTK := Lib.hid (HRT.out k)
      have HANK := Lib.hid (anewT_step f (fun k => Q.manyOf (cells.getD k [])) k)
      clear hbw
      generalize hmq : Q.manyOf (cells.getD k []) = many at *
      have HMQ := Lib.hid hmq
      clear hmq
      go_wp2_with (go_at_call 72; go_loud ((with_reducible refine HMK.out.mono ?_); rintro e w3 ⟨rfl, hb⟩; have HB3 : Hid (Below w1.heap.size w1 w3) := Lib.hid (HB.out.trans (hb.mono HB.out.size)); have HOV3 := Lib.hid (HOV.out.below hb); clear hb))
      clear x0 x1 x2 x3 HMK
      go_loopg [14, 44] many (fun gg s14 s44 wr => ∃ (x b : Nat) (vs : List Value) (pss : List (List (Mat × Value))), x ≤ many ∧ many - x ≤ gg ∧ s44 = .int .i64 x ∧ s14 = .int .i64 b ∧ b ≤ k * 1024 + x ∧ Hid (b = a + anewK f k x) ∧ Hid (Over wr w1.heap.size g vs pss) ∧ Hid (Part R bounds.length k x pss) ∧ Hid (Below w1.heap.size w1 wr))
      case atStart => exact ⟨0, a, vs, pss, Nat.zero_le _, by omega, rfl, rfl, by omega, Lib.hid rfl, HOV3, HPT, HB3⟩
      case round =>
        obtain ⟨x, b, vs, pss, hx1, hgg2, rfl, rfl, hb1, HAB, HOX, HPX, HBX⟩ := hrel
        obtain ⟨wq, rfl⟩ : ∃ x : World, x = wr := ⟨_, rfl⟩
        by_cases hltx : x < many
        · have hltxz : (x : Int) < (many : Int) := by omega
          have hwx : IntKind.i64.wrap ((x : Int) + 1) = ((x + 1 : Nat) : Int) := by rw [IntWalk.i64_in _ (by omega)]; omega
          have hwb : IntKind.i64.wrap ((b : Int) + 1) = ((b + 1 : Nat) : Int) := by rw [IntWalk.i64_in _ (by omega)]; omega
          obtain ⟨x0, x1, x2, x3, hbwq⟩ := HBOX.out wq HBX.out
          have HWQ := Lib.hid (HWTK.out x wq hltx hbwq)
          have HST := Lib.hid (anewK_step f k x)
          have HMX := Lib.hid (fun wx (hb : Below gx w wx) vs pss hO hP => HMDK.out x wx w1.heap.size x vs pss hltx hb hO hP)
          have HRX := Lib.hid (HRTK.out x hltx)
          have hxl : (pss.getD k []).length = x := by
            have h1 := congrArg List.length HPX.out.now
            rw [List.length_map, List.length_take, HRLK.out] at h1
            omega
          have HXL := Lib.hid hxl
          have hkv : k < vs.length := by rw [HOX.out.len, HPX.out.len]; exact hlt
          clear hbwq hxl
          generalize Q.matOf n arcs (cells.getD k []) (x : Int) = D at *
          generalize hEq : E k x = Ex at *
          generalize f k x = fv at *
          have hps := HOX.out.cell k hkv
          have hgq : g < wq.heap.size := HOX.out.lt
          have hs1q : w1.heap.size ≤ wq.heap.size := HBX.out.size
          by_cases hfz : fv = 0
          · subst hfz
            rw [if_pos rfl] at HST
            go_upto_region 17 with ((with_reducible refine HWQ.out.mono ?_); rintro e w3 ⟨rfl, hb⟩; have HB3q := Lib.hid hb; clear hb)
            have HB13 : Hid (Below w1.heap.size w1 w3) := Lib.hid (HBX.out.trans (HB3q.out.mono hs1q))
            have hs13 : w1.heap.size ≤ w3.heap.size := HB13.out.size
            clear x0 x1 x2 x3 hps
            obtain ⟨x0, x1, x2, x3, hbw3⟩ := HBOX.out w3 HB13.out
            have HO3 := Lib.hid (HOX.out.below HB3q.out)
            have hmd := HMX.out w3 hbw3 vs pss HO3.out HPX.out
            have e0 : ((0 : Nat) : Int) = 0 := rfl
            rw [if_pos trivial, e0] at hmd
            have HMD3 := Lib.hid hmd
            clear hbw3 hmd HMX
            go_upto_region 20 with (go_at_call 114; (with_reducible refine HMD3.out.mono ?_); rintro e w4 ⟨P, m, cp, rfl, hown, hb⟩; have HDO := Lib.hid hown; have HB34 := Lib.hid hb; clear hown hb)
            have hq5 := heap_alloc_new w4 (.cells #[.int .i64 ((k : Int) + 1), .int .i64 (x : Int), .int .i64 Ex, .slice P m cp] 37)
            have hb5 : Below w4.heap.size w4 (w4.alloc (.cells #[.int .i64 ((k : Int) + 1), .int .i64 (x : Int), .int .i64 Ex, .slice P m cp] 37)) := (Below.refl _ w4).alloc (Nat.le_refl _) _
            have HO5 := Lib.hid ((HO3.out.below HB34.out).below hb5)
            have HD5 := Lib.hid (own_below HDO.out hb5)
            have HB35 : Hid (Below w3.heap.size w3 (w4.alloc (.cells #[.int .i64 ((k : Int) + 1), .int .i64 (x : Int), .int .i64 Ex, .slice P m cp] 37))) := Lib.hid (HB34.out.trans (hb5.mono HB34.out.size))
            generalize (w4.alloc (.cells #[.int .i64 ((k : Int) + 1), .int .i64 (x : Int), .int .i64 Ex, .slice P m cp] 37)) = w5 at *
            generalize w4.heap.size = gm at *
            obtain ⟨m0, m1, m2, m3, -⟩ := cells4 hq5
            have HB15 : Hid (Below w1.heap.size w1 w5) := Lib.hid (HB13.out.trans (HB35.out.mono hs13))
            have hw5 : w1.heap.size ≤ w5.heap.size := HB15.out.size
            have hg5 : g < w5.heap.size := HO5.out.lt
            have hrow5 := (HO5.out.rows k hkv).row
            rw [HXL.out] at hrow5
            have hc5 := HO5.out.cell k hkv
            have hT5 := Lib.hid HO5.out.box
            have HAPG := Lib.hid (HO5.out.apG k hkv)
            obtain ⟨v, hv⟩ : ∃ v, vs.getD k nilV = v := ⟨_, rfl⟩
            have HVK := Lib.hid hv
            rw [hv] at hrow5 hc5 HAPG
            have hrd := hrow5
            have HKV := Lib.hid hkv
            clear x0 x1 x2 x3 hq5 hb5 hrow5 hv HMD3
            go_region_law (refine step_append_lies _ (by rfl) _ _ _ (by rfl) w1.heap.size 37 i0 _ 4 48 Tryz.underlying30 hi0 hz0 hz1 hz2 rfl (by omega) _ _ _ (by rfl) ((hrd.alloc _).drew) ⟨w5.heap.size, 0, none⟩ 1 1 [.int .i64 ((k : Int) + 1), .int .i64 (x : Int), .int .i64 Ex, .slice P m cp] (by rfl) (by rfl) (World.news_of_block (cs := #[.int .i64 ((k : Int) + 1), .int .i64 (x : Int), .int .i64 Ex, .slice P m cp]) (t := 37) (fr := (0, 0)) (heap_alloc_new w5 _)) (by simp [Value.oneCell']) (by omega) (by unfold maxLen; omega) (by omega) (by simp; omega) (w5.heap.size + 1) (by simp) ?_; intro gg cap3 w6 hown hgrow hat hlt5; have hT6 : w6.heap[g]? = some (.cells vs.toArray 30 (0, 0)) := ((hgrow.block g (by simp; omega) (fun e => HAPG.out e.symm)).trans (heap_alloc_old w5 _ hg5)).trans hT5.out; have cT6 : w6.cell? ⟨g, k, none⟩ = some v := (by rw [← HVK.out, cell_of_row _ _ k _ _ _ hT6]; simp [hkv]); have fT6 : w6.frozen? ⟨g, k, none⟩ = false := (by simp [World.frozen?, hT6]); have HO6 := Lib.hid hown; have HG6 := Lib.hid hgrow; have HAT6 := Lib.hid hat; clear hown hgrow hat hT6)
            all_goals
              go_wp2_with fail
              have HWX := Lib.hid hwx
              clear hwx
              go_roundg (many - (x + 1))
              case measure => omega
              case rel =>
                have hg6 : w5.grownBy w6 v.ownBlock := ⟨HG6.out.os, HG6.out.tape, HG6.out.output, by have h := HG6.out.size; simp at h; omega, fun j hj hne => (HG6.out.block j (by simp; omega) hne).trans (heap_alloc_old w5 _ hj)⟩
                have hat6 : (Value.slice (some ⟨gg, 0, none⟩) (x + 1) cap3).ownBlock = v.ownBlock ∨ ∃ b', (Value.slice (some ⟨gg, 0, none⟩) (x + 1) cap3).ownBlock = some b' ∧ w5.heap.size ≤ b' := by
                  rcases HAT6.out with h | h
                  · exact Or.inl h.symm
                  · exact Or.inr ⟨gg, rfl, by omega⟩
                have hpush := HO5.out.push k HKV.out (⟨(k : Int) + 1, (x : Int), Ex, D⟩, .slice P m cp) (.slice (some ⟨gg, 0, none⟩) (x + 1) cap3) ((DV.of HD5.out).lower hs13) (fun hd b' hb' => HO3.out.fresh ((HD5.out.lt b' hb').1)) (by rw [HXL.out]; exact HO6.out) (by rw [HVK.out]; exact hg6) (by rw [HVK.out]; exact hat6)
                refine ⟨x + 1, b, _, _, by omega, Nat.le_refl _, rfl, rfl, by omega, Lib.hid ?_, Lib.hid hpush, Lib.hid (HPX.out.push hlt _ HRX.out), Lib.hid ((Below.grown HB15.out hg6 (fun j hj => (hrd.lt j hj).1) hw5).setCell (by show w1.heap.size ≤ g; exact HO5.out.ge) _)⟩
                rw [HST.out, HAB.out]
                rfl
          · have hfi : ¬ (fv : Int) = 0 := by omega
            rw [if_neg hfz] at HST
            go_upto_region 17 with ((with_reducible refine HWQ.out.mono ?_); rintro e w3 ⟨rfl, hb⟩; have HB3q := Lib.hid hb; clear hb)
            have HB13 : Hid (Below w1.heap.size w1 w3) := Lib.hid (HBX.out.trans (HB3q.out.mono hs1q))
            have hs13 : w1.heap.size ≤ w3.heap.size := HB13.out.size
            clear x0 x1 x2 x3 hps
            obtain ⟨x0, x1, x2, x3, hbw3⟩ := HBOX.out w3 HB13.out
            have HO3 := Lib.hid (HOX.out.below HB3q.out)
            have hmd := HMX.out w3 hbw3 vs pss HO3.out HPX.out
            rw [if_neg hfz] at hmd
            have HMD3 := Lib.hid hmd
            clear hbw3 hmd HMX
            go_upto_region 20 with (go_at_call 114; (with_reducible refine HMD3.out.mono ?_); rintro e w4 ⟨P, m, cp, rfl, hown, hb⟩; have HDO := Lib.hid hown; have HB34 := Lib.hid hb; clear hown hb)
            have hq5 := heap_alloc_new w4 (.cells #[.int .i64 ((k : Int) + 1), .int .i64 (x : Int), .int .i64 Ex, .slice P m cp] 37)
            have hb5 : Below w4.heap.size w4 (w4.alloc (.cells #[.int .i64 ((k : Int) + 1), .int .i64 (x : Int), .int .i64 Ex, .slice P m cp] 37)) := (Below.refl _ w4).alloc (Nat.le_refl _) _
            have HO5 := Lib.hid ((HO3.out.below HB34.out).below hb5)
            have HD5 := Lib.hid (own_below HDO.out hb5)
            have HB35 : Hid (Below w3.heap.size w3 (w4.alloc (.cells #[.int .i64 ((k : Int) + 1), .int .i64 (x : Int), .int .i64 Ex, .slice P m cp] 37))) := Lib.hid (HB34.out.trans (hb5.mono HB34.out.size))
            generalize (w4.alloc (.cells #[.int .i64 ((k : Int) + 1), .int .i64 (x : Int), .int .i64 Ex, .slice P m cp] 37)) = w5 at *
            generalize w4.heap.size = gm at *
            obtain ⟨m0, m1, m2, m3, -⟩ := cells4 hq5
            have HB15 : Hid (Below w1.heap.size w1 w5) := Lib.hid (HB13.out.trans (HB35.out.mono hs13))
            have hw5 : w1.heap.size ≤ w5.heap.size := HB15.out.size
            have hg5 : g < w5.heap.size := HO5.out.lt
            have hrow5 := (HO5.out.rows k hkv).row
            rw [HXL.out] at hrow5
            have hc5 := HO5.out.cell k hkv
            have hT5 := Lib.hid HO5.out.box
            have HAPG := Lib.hid (HO5.out.apG k hkv)
            obtain ⟨v, hv⟩ : ∃ v, vs.getD k nilV = v := ⟨_, rfl⟩
            have HVK := Lib.hid hv
            rw [hv] at hrow5 hc5 HAPG
            have hrd := hrow5
            have HKV := Lib.hid hkv
            clear x0 x1 x2 x3 hq5 hb5 hrow5 hv HMD3
            go_region_law (refine step_append_lies _ (by rfl) _ _ _ (by rfl) w1.heap.size 37 i0 _ 4 48 Tryz.underlying30 hi0 hz0 hz1 hz2 rfl (by omega) _ _ _ (by rfl) ((hrd.alloc _).drew) ⟨w5.heap.size, 0, none⟩ 1 1 [.int .i64 ((k : Int) + 1), .int .i64 (x : Int), .int .i64 Ex, .slice P m cp] (by rfl) (by rfl) (World.news_of_block (cs := #[.int .i64 ((k : Int) + 1), .int .i64 (x : Int), .int .i64 Ex, .slice P m cp]) (t := 37) (fr := (0, 0)) (heap_alloc_new w5 _)) (by simp [Value.oneCell']) (by omega) (by unfold maxLen; omega) (by omega) (by simp; omega) (w5.heap.size + 1) (by simp) ?_; intro gg cap3 w6 hown hgrow hat hlt5; have hT6 : w6.heap[g]? = some (.cells vs.toArray 30 (0, 0)) := ((hgrow.block g (by simp; omega) (fun e => HAPG.out e.symm)).trans (heap_alloc_old w5 _ hg5)).trans hT5.out; have cT6 : w6.cell? ⟨g, k, none⟩ = some v := (by rw [← HVK.out, cell_of_row _ _ k _ _ _ hT6]; simp [hkv]); have fT6 : w6.frozen? ⟨g, k, none⟩ = false := (by simp [World.frozen?, hT6]); have HO6 := Lib.hid hown; have HG6 := Lib.hid hgrow; have HAT6 := Lib.hid hat; clear hown hgrow hat hT6)
            all_goals
              go_wp2_with fail
              have HWX := Lib.hid hwx
              clear hwx
              go_roundg (many - (x + 1))
              case measure => omega
              case rel =>
                have hg6 : w5.grownBy w6 v.ownBlock := ⟨HG6.out.os, HG6.out.tape, HG6.out.output, by have h := HG6.out.size; simp at h; omega, fun j hj hne => (HG6.out.block j (by simp; omega) hne).trans (heap_alloc_old w5 _ hj)⟩
                have hat6 : (Value.slice (some ⟨gg, 0, none⟩) (x + 1) cap3).ownBlock = v.ownBlock ∨ ∃ b', (Value.slice (some ⟨gg, 0, none⟩) (x + 1) cap3).ownBlock = some b' ∧ w5.heap.size ≤ b' := by
                  rcases HAT6.out with h | h
                  · exact Or.inl h.symm
                  · exact Or.inr ⟨gg, rfl, by omega⟩
                have hpush := HO5.out.push k HKV.out (⟨(k : Int) + 1, (x : Int), Ex, D⟩, .slice P m cp) (.slice (some ⟨gg, 0, none⟩) (x + 1) cap3) ((DV.of HD5.out).lower hs13) (fun hd b' hb' => HO3.out.fresh ((HD5.out.lt b' hb').1)) (by rw [HXL.out]; exact HO6.out) (by rw [HVK.out]; exact hg6) (by rw [HVK.out]; exact hat6)
                refine ⟨x + 1, b + 1, _, _, by omega, Nat.le_refl _, rfl, rfl, by omega, Lib.hid ?_, Lib.hid hpush, Lib.hid (HPX.out.push hlt _ HRX.out), Lib.hid ((Below.grown HB15.out hg6 (fun j hj => (hrd.lt j hj).1) hw5).setCell (by show w1.heap.size ≤ g; exact HO5.out.ge) _)⟩
                rw [HST.out, HAB.out]
                omega
        · have : x = many := by omega
          subst this
          have hkz : ¬ (x : Int) < (x : Int) := by omega
          go_wp2_with fail
          have HWK := Lib.hid hwk
          clear hwk
          go_roundg (bounds.length - (k + 1))
          case measure => omega
          case rel =>
            refine ⟨k + 1, b, vs, pss, by omega, Nat.le_refl _, rfl, rfl, by omega, Lib.hid ?_, HOX, Lib.hid (HPX.out.next HRLK.out), HBX⟩
            have h1 := HANK.out
            rw [h1, HAB.out, HAT.out]
    · have : k = bounds.length := by omega
      subst this
      have hkz : ¬ (bounds.length : Int) < (bounds.length : Int) := by omega
      go_wp2_with fail
      go_ret3
      have hat := HAT.out
      subst hat
      have h1 := HPT.out.all
      rw [HRO.out]
      have hgx := HGX.out
      subst hgx
      exact ⟨g, rfl, vs, pss, HOV.out.lower (by omega), h1, hbw⟩

end Go.Proofs.YtjddimoeodecgaaGreat

/- overlay.build, for what stays and what is made anew. -/
namespace Go.Proofs.YtjddimoeodecgaaGreat
open Go.RowKit Go.Lib Go.Maps Go.Proofs.YtjddimoeodecgaaGreatW.PrintWords Go.Proofs.YtjddimoeodecgaaGreatW.PrintLast Go.Proofs.YtjddimoeodecgaaGreatW.PrintMore
set_option linter.unusedVariables false
set_option maxRecDepth 100000

theorem fateA_z (k c : Nat) : ¬ Q.fateA k c = 0 := by unfold Q.fateA; split <;> omega
/-- A cell's matrix made anew, of an overlay under way. -/
theorem madeAnew_any (n : Nat) (arcs : List Q.S95) (A : Option Addr) (c : Nat) (BA : Option Addr) (bc : Nat) (bounds : List Int) (CA : Option Addr) (cc : Nat) (cells : List (List Int)) (w : World) (h : GN w n arcs A c BA bc bounds CA cc cells) (g k x : Nat) (lw : Int) (hlw : lw = (k : Int) + 1) (hk : k < bounds.length) (hx : x < Q.manyOf (cells.getD k [])) (E : Nat → Nat → Int) (epoch : Int) (hep : 0 ≤ epoch ∧ epoch ≤ 1073741824) (hE : ∀ k y, k < bounds.length → y < Q.manyOf (cells.getD k []) → 0 ≤ E k y ∧ E k y ≤ epoch)
    (B c' : Nat) (vs : List Value) (pss : List (List (Mat × Value))) (hO : Over w B g vs pss) (hP : Part (overRow n arcs cells E) bounds.length k c' pss) :
    Calls Tryz.prog 114 #[.agg #[.int .i64 (n : Int), .slice A arcs.length c], .agg #[.slice BA bounds.length bc, .slice CA cells.length cc], .slice (some ⟨g, 0, none⟩) bounds.length bounds.length, .int .i64 lw, .int .i64 (x : Int), .int .i64 epoch, .int .i64 (Q.fateA k x : Nat)] w fun e w' => ∃ P m cp, e = .returned (.tuple #[.agg #[.int .i64 lw, .int .i64 (x : Int), .int .i64 epoch, .slice P m cp], .int .i64 0]) ∧ w'.ownsRow w.heap.size 43 1 (.slice P m cp) (Q.matOf n arcs (cells.getD k []) (x : Int)).length (u64s (Q.matOf n arcs (cells.getD k []) (x : Int))) ∧ Below w.heap.size w w' := by
  cases k with
  | zero =>
    obtain rfl : lw = 1 := by omega
    exact madeLeaf_any n arcs A c BA bc bounds CA cc cells w h _ x hx epoch hep
  | succ k =>
    have h1 := hP.old k (by omega)
    have hkv : k < vs.length := by rw [hO.len, hP.len]; omega
    obtain ⟨HA, hc, e1, e2, e3⟩ := (hO.rows k hkv).shapeC
    have e4 := hO.cell k hkv
    rw [h1] at e3
    have e5 : (pss.getD k []).length = (overRow n arcs cells E k).length := by rw [← h1, List.length_map]
    rw [e1, e5] at e4
    exact madeHigher_any n arcs A c BA bc bounds CA cc cells w h g bounds.length bounds.length k x lw (by omega) hk (by omega) h.ok.b5 hx E epoch hep (fun y hy => hE k y (by omega) hy) ⟨HA, hc, e4, e3⟩

theorem built_any (n : Nat) (arcs : List Q.S95) (A : Option Addr) (c : Nat) (BA : Option Addr) (bc : Nat) (bounds : List Int) (CA : Option Addr) (cc : Nat) (cells : List (List Int)) (w : World) (h : GN w n arcs A c BA bc bounds CA cc cells) (OA : Option Addr) (ol oc : Nat) (epoch : Int) (hep : 0 ≤ epoch ∧ epoch ≤ 1073741824) (F : Nat) (caps : Array Value) (f : Nat → Nat → Nat) (ep : Nat → Nat → Int)
    (hrun : ∀ (args : Array Value) (w : World), (callFunc F args).run Tryz.prog w = .ok (.enter F args) w)
    (hwhat : ∀ (k x : Nat) (lw : Int) (wx : World), k < bounds.length → x < Q.manyOf (cells.getD k []) → lw = (k : Int) + 1 → Below w.heap.size w wx → Calls Tryz.prog F (#[.int .i64 lw, .int .i64 (x : Int)] ++ caps) wx fun e w' => e = .returned (.int .i64 (f k x : Nat)) ∧ Below wx.heap.size wx w')
    (hf : ∀ k x, f k x = 0 ∨ f k x = Q.fateA k x)
    (hek : ∀ k x, k < bounds.length → x < Q.manyOf (cells.getD k []) → f k x = 0 → 0 ≤ ep k x ∧ ep k x ≤ epoch)
    (hstay : ∀ (k x : Nat) (lw : Int) (wx : World), k < bounds.length → x < Q.manyOf (cells.getD k []) → lw = (k : Int) + 1 → f k x = 0 → Below w.heap.size w wx → Calls Tryz.prog 114 #[.agg #[.int .i64 (n : Int), .slice A arcs.length c], .agg #[.slice BA bounds.length bc, .slice CA cells.length cc], .slice OA ol oc, .int .i64 lw, .int .i64 (x : Int), .int .i64 epoch, .int .i64 0] wx fun e w' => ∃ P m cp, e = .returned (.tuple #[.agg #[.int .i64 lw, .int .i64 (x : Int), .int .i64 (ep k x), .slice P m cp], .int .i64 0]) ∧ w'.ownsRow wx.heap.size 43 1 (.slice P m cp) (Q.matOf n arcs (cells.getD k []) (x : Int)).length (u64s (Q.matOf n arcs (cells.getD k []) (x : Int))) ∧ Below wx.heap.size wx w') :
    Calls Tryz.prog 82 #[.agg #[.int .i64 (n : Int), .slice A arcs.length c], .agg #[.slice BA bounds.length bc, .slice CA cells.length cc], .slice OA ol oc, .int .i64 epoch, .func (.func F) #[] caps] w fun e w' => ∃ g vs pss, e = .returned (.tuple #[.slice (some ⟨g, 0, none⟩) bounds.length bounds.length, .int .i64 (anewT f (fun k => Q.manyOf (cells.getD k [])) bounds.length : Nat), .int .i64 0]) ∧ Over w' w.heap.size g vs pss ∧ pss.map (fun ps => ps.map (·.1)) = overO n arcs cells bounds.length (epF f ep epoch) ∧ Below w.heap.size w w' := by
  have hE : ∀ k y, k < bounds.length → y < Q.manyOf (cells.getD k []) → 0 ≤ epF f ep epoch k y ∧ epF f ep epoch k y ≤ epoch := fun k y hk hy => by
    unfold epF
    split
    · rename_i e
      exact hek k y hk hy e
    · exact ⟨hep.1, Int.le_refl _⟩
  refine build_any n arcs A c BA bc bounds CA cc cells w h OA ol oc epoch F caps f (epF f ep epoch) hrun hwhat (fun k x lw wx g B c' vs pss hk hx hlw hb hO hP => ?_)
  rcases hf k x with h0 | h0
  · rw [if_pos h0, h0, epF_stays h0]
    exact hstay k x lw wx hk hx hlw h0 hb
  · have hz : ¬ f k x = 0 := by rw [h0]; exact fateA_z k x
    rw [if_neg hz, epF_anew hz, h0]
    exact madeAnew_any n arcs A c BA bc bounds CA cc cells wx (h.below hb) g k x lw hlw hk hx (epF f ep epoch) epoch hep hE B c' vs pss hO hP

end Go.Proofs.YtjddimoeodecgaaGreat

/- overlay.All and overlay.Renew. -/
namespace Go.Proofs.YtjddimoeodecgaaGreat
open Go.RowKit Go.Lib Go.Maps Go.Proofs.YtjddimoeodecgaaGreatW.PrintWords Go.Proofs.YtjddimoeodecgaaGreatW.PrintLast Go.Proofs.YtjddimoeodecgaaGreatW.PrintMore
set_option linter.unusedVariables false
set_option maxRecDepth 100000

theorem epochs_any (e : Int) (w : World) : Calls Tryz.prog 81 #[.int .i64 e] w fun x w' => x = .returned (.bool (decide (0 ≤ e ∧ e ≤ 1073741824))) ∧ Below w.heap.size w w' := by
  refine (Q.overlay_epochs.calls e (decide (0 ≤ e ∧ e ≤ 1073741824)) w ?_).mono ?_
  · unfold Q.overlay_epochs.f
    by_cases h : 0 ≤ e
    · rw [if_pos h]; simp [h]
    · rw [if_neg h]; simp [h]
  · rintro x w' ⟨h1, h2⟩
    exact ⟨h1, h2.below⟩

set_option maxHeartbeats 4000000 in
theorem overAll_any (n : Nat) (arcs : List Q.S95) (A : Option Addr) (c : Nat) (BA : Option Addr) (bc : Nat) (bounds : List Int) (CA : Option Addr) (cc : Nat) (cells : List (List Int)) (w : World) (h : GN w n arcs A c BA bc bounds CA cc cells) (epoch : Int) (hep : 0 ≤ epoch ∧ epoch ≤ 1073741824) :
    Calls Tryz.prog 37 #[.agg #[.int .i64 (n : Int), .slice A arcs.length c], .agg #[.slice BA bounds.length bc, .slice CA cells.length cc], .int .i64 epoch] w fun e w' => ∃ g vs pss, e = .returned (.tuple #[.slice (some ⟨g, 0, none⟩) bounds.length bounds.length, .int .i64 0]) ∧ Over w' w.heap.size g vs pss ∧ pss.map (fun ps => ps.map (·.1)) = overO n arcs cells bounds.length (fun _ _ => epoch) ∧ Below w.heap.size w w' := by
  obtain ⟨c0, c1, n0, n1, hsz, hb1⟩ := two_boxes w (.int .i64 (n : Int)) (.slice A arcs.length c) (.slice BA bounds.length bc) (.slice CA cells.length cc) 24 28
  have HNC : Hid (∀ wx : World, Below w.heap.size w wx → Calls Tryz.prog 26 #[.agg #[.int .i64 (n : Int), .slice A arcs.length c], .agg #[.slice BA bounds.length bc, .slice CA cells.length cc]] wx fun e w' => e = .returned (.tuple #[.int .i64 (Q.checkR (n : Int) arcs bounds cells).1, .int .i64 0]) ∧ Below wx.heap.size wx w') :=
    Lib.hid (fun wx hb => by
      have h1 := nestCheck_any (n : Int) arcs A c BA bc bounds CA cc cells wx h.g.fit (Kd.C_below h.r hb) h.c (h.nest.below hb)
      rw [h.ck] at h1
      exact h1)
  have HEP : Hid (∀ wx : World, Calls Tryz.prog 81 #[.int .i64 epoch] wx fun x w' => x = .returned (.bool true) ∧ Below wx.heap.size wx w') := Lib.hid (fun wx => by
    have h1 := epochs_any epoch wx
    rw [decide_eq_true hep] at h1
    exact h1)
  have HBD := Lib.hid (fun (wx : World) (hb : Below w.heap.size w wx) => built_any n arcs A c BA bc bounds CA cc cells wx (h.below hb) none 0 0 epoch hep 83 #[] Q.fateA (fun _ _ => epoch) (fun _ _ => rfl)
    (fun k x lw wy hk hx hlw _ => all1_any k x (by have := h.ok.b5; omega) lw hlw wy) (fun k x => Or.inr rfl) (fun k x _ _ h0 => absurd h0 (fateA_z k x)) (fun k x lw wy _ _ _ h0 _ => absurd h0 (fateA_z k x)))
  have he : epF Q.fateA (fun _ _ => epoch) epoch = fun _ _ => epoch := by
    funext k x
    unfold epF
    split <;> rfl
  rw [he] at HBD
  clear h hep he
  generalize (Q.checkR (n : Int) arcs bounds cells).1 = k1 at *
  generalize overO n arcs cells bounds.length (fun _ _ => epoch) = OO at *
  generalize anewT Q.fateA (fun k => Q.manyOf (cells.getD k [])) bounds.length = an at *
  go_enter Tryz.func37, Tryz.ntmps37
  go_upto_region 1 with fail
  generalize ((w.alloc (.cells #[.int .i64 (n : Int), .slice A arcs.length c] 24)).alloc (.cells #[.slice BA bounds.length bc, .slice CA cells.length cc] 28)) = w1 at *
  have HB1 := Lib.hid hb1
  have hs1 : w.heap.size + 2 ≤ w1.heap.size := by omega
  have HNC1 := Lib.hid (HNC.out w1 hb1)
  generalize hgx : w.heap.size = gx at *
  have HGX := Lib.hid hgx
  have HBOX : Hid (∀ wx : World, Below w1.heap.size w1 wx → wx.cell? ⟨gx, 0, none⟩ = some (.int .i64 (n : Int)) ∧ wx.cell? ⟨gx, 1, none⟩ = some (.slice A arcs.length c) ∧ wx.cell? ⟨gx + 1, 0, none⟩ = some (.slice BA bounds.length bc) ∧ wx.cell? ⟨gx + 1, 1, none⟩ = some (.slice CA cells.length cc) ∧ Below gx w wx) := Lib.hid (fun wx hb =>
    ⟨(hb.cell (p := ⟨gx, 0, none⟩) (by show gx < w1.heap.size; omega)).trans c0, (hb.cell (p := ⟨gx, 1, none⟩) (by show gx < w1.heap.size; omega)).trans c1, (hb.cell (p := ⟨gx + 1, 0, none⟩) (by show gx + 1 < w1.heap.size; omega)).trans n0, (hb.cell (p := ⟨gx + 1, 1, none⟩) (by show gx + 1 < w1.heap.size; omega)).trans n1, HB1.out.trans (hb.mono (by omega))⟩)
  clear hb1 hsz hgx HNC
  go_upto_region 4 with (go_at_call 26; (with_reducible refine HNC1.out.mono ?_); rintro e w2 ⟨rfl, hb⟩; have HB2 := Lib.hid hb; clear hb)
  clear c0 c1 n0 n1 HNC1
  go_upto_region 6 with (go_at_call 81; (with_reducible refine (HEP.out w2).mono ?_); rintro e w3 ⟨rfl, hb⟩; have HB3 : Hid (Below w1.heap.size w1 w3) := Lib.hid (HB2.out.trans (hb.mono HB2.out.size)); clear hb)
  obtain ⟨x0, x1, x2, x3, hbw⟩ := HBOX.out w3 HB3.out
  have HBD3 := Lib.hid (HBD.out w3 hbw)
  clear hbw HBD
  go_wp2_with (go_at_call 82; (with_reducible refine HBD3.out.mono ?_); rintro e w4 ⟨g, vs, pss, rfl, hov, hps, hb⟩; have HOV := Lib.hid hov; have HPS := Lib.hid hps; have HB4 : Hid (Below w1.heap.size w1 w4) := Lib.hid (HB3.out.trans (hb.mono HB3.out.size)); clear hov hps hb)
  go_ret2
  have hgx := HGX.out
  have hs3 := HB3.out.size
  obtain ⟨-, -, -, -, hbT⟩ := HBOX.out w4 HB4.out
  subst hgx
  exact ⟨g, vs, pss, rfl, HOV.out.lower (by omega), HPS.out, hbT⟩

set_option maxHeartbeats 4000000 in
theorem allBad_any (N : Int) (arcs : List Q.S95) (A : Option Addr) (c : Nat) (BA : Option Addr) (bc : Nat) (bounds : List Int) (CA : Option Addr) (cc : Nat) (cells : List (List Int)) (w : World) (epoch : Int)
    (hf : Q.ArcsFit arcs) (hr : Kd.C Q.k95 w A arcs.length arcs) (hc : arcs.length ≤ c) (hn : NestIn w BA bc bounds CA cc cells) (hck : ¬ (Q.checkR N arcs bounds cells).2 = 0) :
    Calls Tryz.prog 37 #[.agg #[.int .i64 N, .slice A arcs.length c], .agg #[.slice BA bounds.length bc, .slice CA cells.length cc], .int .i64 epoch] w fun e w' => (∃ E : Int, ¬ E = 0 ∧ e = .returned (.tuple #[.slice none 0 0, .int .i64 E])) ∧ Below w.heap.size w w' := by
  obtain ⟨c0, c1, n0, n1, hsz, hb1⟩ := two_boxes w (.int .i64 N) (.slice A arcs.length c) (.slice BA bounds.length bc) (.slice CA cells.length cc) 24 28
  have HNC : Hid (∀ wx : World, Below w.heap.size w wx → Calls Tryz.prog 26 #[.agg #[.int .i64 N, .slice A arcs.length c], .agg #[.slice BA bounds.length bc, .slice CA cells.length cc]] wx fun e w' => e = .returned (.tuple #[.int .i64 (Q.checkR N arcs bounds cells).1, .int .i64 (Q.checkR N arcs bounds cells).2]) ∧ Below wx.heap.size wx w') :=
    Lib.hid (fun wx hb => nestCheck_any N arcs A c BA bc bounds CA cc cells wx hf (Kd.C_below hr hb) hc (hn.below hb))
  have HNC1 := Lib.hid (HNC.out _ hb1)
  have HB1 := Lib.hid hb1
  clear hf hr hc hn HNC hb1
  generalize (Q.checkR N arcs bounds cells).1 = k1 at *
  generalize (Q.checkR N arcs bounds cells).2 = k2 at *
  go_enter Tryz.func37, Tryz.ntmps37
  go_upto_region 1 with fail
  generalize ((w.alloc (.cells #[.int .i64 N, .slice A arcs.length c] 24)).alloc (.cells #[.slice BA bounds.length bc, .slice CA cells.length cc] 28)) = w1 at *
  have hs1 : w.heap.size + 2 ≤ w1.heap.size := by omega
  generalize hgx : w.heap.size = gx at *
  have HGX := Lib.hid hgx
  clear hgx hsz
  go_wp2_with (go_at_call 26; (with_reducible refine HNC1.out.mono ?_); rintro e w2 ⟨rfl, hb⟩; have HB2 := Lib.hid hb; clear hb)
  go_ret2
  have hgx := HGX.out
  subst hgx
  exact ⟨⟨k2, hck, rfl⟩, HB1.out.trans (HB2.out.mono (by omega))⟩

/-- What renew calls, in any later world. -/
theorem renewStay_any (n : Nat) (arcs : List Q.S95) (A : Option Addr) (c : Nat) (BA : Option Addr) (bc : Nat) (bounds : List Int) (CA : Option Addr) (cc : Nat) (cells : List (List Int)) (w : World) (h : GN w n arcs A c BA bc bounds CA cc cells) (go oc : Nat) (os : List (List Mat)) (hO : OverIn w go os) (hok : OverOk arcs bounds cells os) (k x : Nat) (lw epoch : Int) (ep : Nat → Nat → Int) (hk : k < bounds.length) (hx : x < Q.manyOf (cells.getD k [])) (hlw : lw = (k : Int) + 1) (hm : (os.getD k []).getD x zMat = overM n arcs cells ep k x) :
    Calls Tryz.prog 114 #[.agg #[.int .i64 (n : Int), .slice A arcs.length c], .agg #[.slice BA bounds.length bc, .slice CA cells.length cc], .slice (some ⟨go, 0, none⟩) os.length oc, .int .i64 lw, .int .i64 (x : Int), .int .i64 epoch, .int .i64 0] w fun e w' => ∃ P m cp, e = .returned (.tuple #[.agg #[.int .i64 lw, .int .i64 (x : Int), .int .i64 (ep k x), .slice P m cp], .int .i64 0]) ∧ w'.ownsRow w.heap.size 43 1 (.slice P m cp) (Q.matOf n arcs (cells.getD k []) (x : Int)).length (u64s (Q.matOf n arcs (cells.getD k []) (x : Int))) ∧ Below w.heap.size w w' := by
  have hD : (Q.matOf n arcs (cells.getD k []) (x : Int)).length ≤ 268435456 := by
    rw [matOf_len]
    have hm := h.g.m
    have h1 := Q.bnd_len arcs (cells.getD k []) (x : Int)
    have h2 : (Q.bndOf arcs (cells.getD k []) (x : Int)).length ≤ 16384 := by omega
    have h3 := Nat.mul_le_mul h2 h2
    omega
  have h1 := madeStays_any n arcs A c BA bc bounds CA cc cells w go oc os k x lw epoch hlw hO (by rw [hok.len]; exact hk) (by rw [hok.len]; exact h.ok.b5) (by rw [hok.row k hk]; exact hx) (by rw [hok.row k hk]; exact (h.row k hk).2.2) _ hm hD
  have e1 : (overM n arcs cells ep k x).lv = lw := by
    show ((k + 1 : Nat) : Int) = lw
    omega
  rw [e1] at h1
  exact h1

set_option maxHeartbeats 4000000 in
theorem renew_any (n : Nat) (arcs : List Q.S95) (A : Option Addr) (c : Nat) (BA : Option Addr) (bc : Nat) (bounds : List Int) (CA : Option Addr) (cc : Nat) (cells : List (List Int)) (w : World) (h : GN w n arcs A c BA bc bounds CA cc cells) (go oc : Nat) (os : List (List Mat)) (hO : OverIn w go os) (hok : OverOk arcs bounds cells os) (IA : Option Addr) (ic : Nat) (ids : List Int) (hi : Kd.C (Kd.int .i64) w IA ids.length ids) (hse : Q.staleE arcs ids = 0) (epoch : Int) (hep : 0 ≤ epoch ∧ epoch ≤ 1073741824) (hlate : ∀ l ∈ os, ∀ m ∈ l, m.ep ≤ epoch) (ep : Nat → Nat → Int)
    (hkeep : ∀ k x, k < bounds.length → x < Q.manyOf (cells.getD k []) → Q.fateF arcs cells ids k x = 0 → (os.getD k []).getD x zMat = overM n arcs cells ep k x) :
    Calls Tryz.prog 42 #[.agg #[.int .i64 (n : Int), .slice A arcs.length c], .agg #[.slice BA bounds.length bc, .slice CA cells.length cc], .slice (some ⟨go, 0, none⟩) os.length oc, .slice IA ids.length ic, .int .i64 epoch] w fun e w' => ∃ g vs pss, e = .returned (.tuple #[.slice (some ⟨g, 0, none⟩) bounds.length bounds.length, .int .i64 (anewT (Q.fateF arcs cells ids) (fun k => Q.manyOf (cells.getD k [])) bounds.length : Nat), .int .i64 0]) ∧ Over w' w.heap.size g vs pss ∧ pss.map (fun ps => ps.map (·.1)) = overO n arcs cells bounds.length (epF (Q.fateF arcs cells ids) ep epoch) ∧ Below w.heap.size w w' := by
  obtain ⟨c0, c1, n0, n1, hsz, hb1⟩ := two_boxes w (.int .i64 (n : Int)) (.slice A arcs.length c) (.slice BA bounds.length bc) (.slice CA cells.length cc) 24 28
  have HCK := Lib.hid (fun (wx : World) (hb : Below w.heap.size w wx) => overCheck_any n arcs A c BA bc bounds CA cc cells wx (h.below hb) go oc os (hO.below hb) hok)
  have HST := Lib.hid (fun (wx : World) (hb : Below w.heap.size w wx) => stale_any n arcs A c BA bc bounds CA cc cells wx (h.below hb) IA ic ids (Kd.C_below hi hb))
  have HEP : Hid (∀ wx : World, Calls Tryz.prog 81 #[.int .i64 epoch] wx fun x w' => x = .returned (.bool true) ∧ Below wx.heap.size wx w') := Lib.hid (fun wx => by
    have h1 := epochs_any epoch wx
    rw [decide_eq_true hep] at h1
    exact h1)
  have HLT : Hid (∀ wx : World, Below w.heap.size w wx → Calls Tryz.prog 88 #[.slice (some ⟨go, 0, none⟩) os.length oc] wx fun e w' => ∃ L : Int, e = .returned (.int .i64 L) ∧ L ≤ epoch ∧ Below wx.heap.size wx w') := Lib.hid (fun wx hb => by
    refine (late_any wx go oc os (hO.below hb) (by rw [hok.len]; exact h.ok.b5) (fun k hk => by rw [hok.row k (by rw [← hok.len]; exact hk)]; exact (h.row k (by rw [← hok.len]; exact hk)).2.2)).mono ?_
    rintro e w' ⟨L, h1, h2, h3⟩
    refine ⟨L, h1, ?_, h3⟩
    rcases h2.at' with h4 | ⟨l, hl, m, hm, h4⟩
    · omega
    · have := hlate l hl m hm
      omega)
  have hcl := h.ok.len
  have HBD : Hid (∀ (wx : World) (gs g B : Nat) (vs : List Value) (rows : List (List Int)), Below w.heap.size w wx → IRows wx B g vs rows → vs.length = cells.length → (∀ k, k < cells.length → rows.getD k [] = Q.staleOf arcs (cells.getD k []) ids) → wx.cell? ⟨gs, 0, none⟩ = some (.slice (some ⟨g, 0, none⟩) cells.length cells.length) →
      Calls Tryz.prog 82 #[.agg #[.int .i64 (n : Int), .slice A arcs.length c], .agg #[.slice BA bounds.length bc, .slice CA cells.length cc], .slice (some ⟨go, 0, none⟩) os.length oc, .int .i64 epoch, .func (.func 89) #[] #[.pointer (some ⟨gs, 0, none⟩)]] wx fun e w' => ∃ g vs pss, e = .returned (.tuple #[.slice (some ⟨g, 0, none⟩) bounds.length bounds.length, .int .i64 (anewT (Q.fateF arcs cells ids) (fun k => Q.manyOf (cells.getD k [])) bounds.length : Nat), .int .i64 0]) ∧ Over w' wx.heap.size g vs pss ∧ pss.map (fun ps => ps.map (·.1)) = overO n arcs cells bounds.length (epF (Q.fateF arcs cells ids) ep epoch) ∧ Below wx.heap.size wx w') := Lib.hid (fun wx gs g B vs rows hb hI hvl hR hgs => by
    refine built_any n arcs A c BA bc bounds CA cc cells wx (h.below hb) _ _ _ epoch hep 89 #[.pointer (some ⟨gs, 0, none⟩)] (Q.fateF arcs cells ids) ep (fun _ _ => rfl) (fun k x lw wy hk hx hlw hb2 => ?_) (fun k x => ?_) (fun k x hk hx h0 => ?_) (fun k x lw wy hk hx hlw h0 hb2 => ?_)
    · exact renew1_any arcs cells ids B g cells.length cells.length gs vs rows wy (hI.below hb2) ((hb2.cell (World.block_lt_of_cell? wx _ hgs)).trans hgs) hvl (by have := h.ok.b5; omega) hR k x (by omega) (by have := (h.row k hk).2.2; omega) lw hlw
    · unfold Q.fateF Q.fateA
      split
      · exact Or.inr rfl
      · exact Or.inl rfl
    · have h1 := hkeep k x hk hx h0
      have h2 := (hok.mat k x hk hx).2.2.1
      have hmem : (os.getD k []).getD x zMat ∈ os.getD k [] := by
        have hxl : x < (os.getD k []).length := by rw [hok.row k hk]; exact hx
        generalize os.getD k [] = row at *
        rw [List.getD_eq_getElem?_getD, List.getElem?_eq_getElem hxl]
        exact List.getElem_mem hxl
      have hmo : os.getD k [] ∈ os := by
        rw [List.getD_eq_getElem?_getD, List.getElem?_eq_getElem (by rw [hok.len]; exact hk)]
        exact List.getElem_mem _
      have h3 := hlate _ hmo _ hmem
      rw [h1] at h2 h3
      exact ⟨h2.1, h3⟩
    · exact renewStay_any n arcs A c BA bc bounds CA cc cells wy ((h.below hb).below hb2) go oc os ((hO.below hb).below hb2) hok k x lw epoch ep hk hx hlw (hkeep k x hk hx h0))
  clear h hO hok hi hep hlate hkeep
  generalize overO n arcs cells bounds.length (epF (Q.fateF arcs cells ids) ep epoch) = OO at *
  generalize anewT (Q.fateF arcs cells ids) (fun k => Q.manyOf (cells.getD k [])) bounds.length = an at *
  generalize os.length = ol at *
  have HCL := Lib.hid hcl
  clear hcl
  go_enter Tryz.func42, Tryz.ntmps42
  go_upto_region 1 with fail
  generalize ((w.alloc (.cells #[.int .i64 (n : Int), .slice A arcs.length c] 24)).alloc (.cells #[.slice BA bounds.length bc, .slice CA cells.length cc] 28)) = w1 at *
  have HB1 := Lib.hid hb1
  have hs1 : w.heap.size + 2 ≤ w1.heap.size := by omega
  have HCK1 := Lib.hid (HCK.out w1 hb1)
  generalize hgx : w.heap.size = gx at *
  have HGX := Lib.hid hgx
  have HBOX : Hid (∀ wx : World, Below w1.heap.size w1 wx → wx.cell? ⟨gx, 0, none⟩ = some (.int .i64 (n : Int)) ∧ wx.cell? ⟨gx, 1, none⟩ = some (.slice A arcs.length c) ∧ wx.cell? ⟨gx + 1, 0, none⟩ = some (.slice BA bounds.length bc) ∧ wx.cell? ⟨gx + 1, 1, none⟩ = some (.slice CA cells.length cc) ∧ Below gx w wx) := Lib.hid (fun wx hb =>
    ⟨(hb.cell (p := ⟨gx, 0, none⟩) (by show gx < w1.heap.size; omega)).trans c0, (hb.cell (p := ⟨gx, 1, none⟩) (by show gx < w1.heap.size; omega)).trans c1, (hb.cell (p := ⟨gx + 1, 0, none⟩) (by show gx + 1 < w1.heap.size; omega)).trans n0, (hb.cell (p := ⟨gx + 1, 1, none⟩) (by show gx + 1 < w1.heap.size; omega)).trans n1, HB1.out.trans (hb.mono (by omega))⟩)
  clear hb1 hsz hgx HCK
  go_upto_region 4 with (go_at_call 87; (with_reducible refine HCK1.out.mono ?_); rintro e w2 ⟨rfl, hb⟩; have HB2 := Lib.hid hb; clear hb)
  clear c0 c1 n0 n1 HCK1
  obtain ⟨x0, x1, x2, x3, hbw⟩ := HBOX.out w2 HB2.out
  have HS2 := Lib.hid (HST.out w2 hbw)
  clear hbw HST
  go_upto_region 7 with (go_at_call 47; (with_reducible refine HS2.out.mono ?_); rintro e w3 ⟨hsv, hb⟩; have HB3 : Hid (Below w1.heap.size w1 w3) := Lib.hid (HB2.out.trans (hb.mono HB2.out.size)); clear hb; rcases hsv with ⟨-, g, vs, rows, rfl, hI, hvl, hR⟩ | ⟨hne, -⟩; rotate_left; (exact absurd hse hne); have HI3 := Lib.hid hI; have HVL := Lib.hid hvl; have HR := Lib.hid hR; clear hI hvl hR)
  have hq4 := heap_alloc_new w3 (.cells #[.slice (some ⟨g, 0, none⟩) cells.length cells.length] 26)
  have hb4 : Below w3.heap.size w3 (w3.alloc (.cells #[.slice (some ⟨g, 0, none⟩) cells.length cells.length] 26)) := (Below.refl _ w3).alloc (Nat.le_refl _) _
  have HI4 := Lib.hid (HI3.out.below hb4)
  have HB4 : Hid (Below w1.heap.size w1 (w3.alloc (.cells #[.slice (some ⟨g, 0, none⟩) cells.length cells.length] 26))) := Lib.hid (HB3.out.alloc HB3.out.size _)
  generalize (w3.alloc (.cells #[.slice (some ⟨g, 0, none⟩) cells.length cells.length] 26)) = w4 at *
  obtain ⟨gs, hgs⟩ : ∃ gs, w3.heap.size = gs := ⟨_, rfl⟩
  rw [hgs] at hq4
  rw [hgs]
  have hcs : w4.cell? ⟨gs, 0, none⟩ = some (.slice (some ⟨g, 0, none⟩) cells.length cells.length) := by rw [cell_of_row _ _ 0 _ _ _ hq4]; rfl
  have HCS := Lib.hid hcs
  have HLT2 : Hid (∀ wx : World, Below w1.heap.size w1 wx → Calls Tryz.prog 88 #[.slice (some ⟨go, 0, none⟩) ol oc] wx fun e w' => ∃ L : Int, e = .returned (.int .i64 L) ∧ L ≤ epoch ∧ Below wx.heap.size wx w') := Lib.hid (fun wx hb => HLT.out wx (HBOX.out wx hb).2.2.2.2)
  clear hq4 hb4 hgs x0 x1 x2 x3 HS2 HI3 hcs HLT
  go_upto_region 9 with (first
    | (go_at_call 81; (with_reducible refine (HEP.out w4).mono ?_); rintro e w5 ⟨rfl, hb⟩; have HB45 := Lib.hid hb; have HB5 : Hid (Below w1.heap.size w1 w5) := Lib.hid (HB4.out.trans (hb.mono HB4.out.size)); clear hb)
    | (go_at_call 88; go_loud ((with_reducible refine (HLT2.out w5 HB5.out).mono ?_); rintro e w6 ⟨L, rfl, hL, hb⟩; have HB46 := Lib.hid (HB45.out.trans (hb.mono HB45.out.size)); have HB6 : Hid (Below w1.heap.size w1 w6) := Lib.hid (HB5.out.trans (hb.mono HB5.out.size)); have hLz : ¬ epoch < L := (by omega); clear hb)))
  obtain ⟨x0, x1, x2, x3, hbw⟩ := HBOX.out w6 HB6.out
  have HBD6 := Lib.hid (HBD.out w6 gs g _ vs rows hbw (HI4.out.below HB46.out) HVL.out HR.out ((HB46.out.cell (World.block_lt_of_cell? w4 _ HCS.out)).trans HCS.out))
  clear hbw HBD
  go_wp2_with (go_at_call 82; (with_reducible refine HBD6.out.mono ?_); rintro e w7 ⟨g2, vs2, pss, rfl, hov, hps, hb⟩; have HOV := Lib.hid hov; have HPS := Lib.hid hps; have HB7 : Hid (Below w1.heap.size w1 w7) := Lib.hid (HB6.out.trans (hb.mono HB6.out.size)); clear hov hps hb)
  go_ret3
  have hgx := HGX.out
  have hs6 := HB6.out.size
  obtain ⟨-, -, -, -, hbT⟩ := HBOX.out w7 HB7.out
  subst hgx
  exact ⟨g2, vs2, pss, rfl, HOV.out.lower (by omega), HPS.out, hbT⟩

set_option maxHeartbeats 4000000 in
theorem renewBad_any (n : Nat) (arcs : List Q.S95) (A : Option Addr) (c : Nat) (BA : Option Addr) (bc : Nat) (bounds : List Int) (CA : Option Addr) (cc : Nat) (cells : List (List Int)) (w : World) (h : GN w n arcs A c BA bc bounds CA cc cells) (go oc : Nat) (os : List (List Mat)) (hO : OverIn w go os) (hok : OverOk arcs bounds cells os) (IA : Option Addr) (ic : Nat) (ids : List Int) (hi : Kd.C (Kd.int .i64) w IA ids.length ids) (hse : ¬ Q.staleE arcs ids = 0) (epoch : Int) :
    Calls Tryz.prog 42 #[.agg #[.int .i64 (n : Int), .slice A arcs.length c], .agg #[.slice BA bounds.length bc, .slice CA cells.length cc], .slice (some ⟨go, 0, none⟩) os.length oc, .slice IA ids.length ic, .int .i64 epoch] w fun e w' => (∃ E : Int, ¬ E = 0 ∧ e = .returned (.tuple #[.slice none 0 0, .int .i64 0, .int .i64 E])) ∧ Below w.heap.size w w' := by
  obtain ⟨c0, c1, n0, n1, hsz, hb1⟩ := two_boxes w (.int .i64 (n : Int)) (.slice A arcs.length c) (.slice BA bounds.length bc) (.slice CA cells.length cc) 24 28
  have HCK := Lib.hid (fun (wx : World) (hb : Below w.heap.size w wx) => overCheck_any n arcs A c BA bc bounds CA cc cells wx (h.below hb) go oc os (hO.below hb) hok)
  have HST := Lib.hid (fun (wx : World) (hb : Below w.heap.size w wx) => stale_any n arcs A c BA bc bounds CA cc cells wx (h.below hb) IA ic ids (Kd.C_below hi hb))
  clear h hO hok hi
  generalize hq : Q.staleE arcs ids = E at *
  have HQ := Lib.hid hq
  clear hq
  generalize os.length = ol at *
  go_enter Tryz.func42, Tryz.ntmps42
  go_upto_region 1 with fail
  generalize ((w.alloc (.cells #[.int .i64 (n : Int), .slice A arcs.length c] 24)).alloc (.cells #[.slice BA bounds.length bc, .slice CA cells.length cc] 28)) = w1 at *
  have HB1 := Lib.hid hb1
  have hs1 : w.heap.size + 2 ≤ w1.heap.size := by omega
  have HCK1 := Lib.hid (HCK.out w1 hb1)
  generalize hgx : w.heap.size = gx at *
  have HGX := Lib.hid hgx
  have HBOX : Hid (∀ wx : World, Below w1.heap.size w1 wx → wx.cell? ⟨gx, 0, none⟩ = some (.int .i64 (n : Int)) ∧ wx.cell? ⟨gx, 1, none⟩ = some (.slice A arcs.length c) ∧ wx.cell? ⟨gx + 1, 0, none⟩ = some (.slice BA bounds.length bc) ∧ wx.cell? ⟨gx + 1, 1, none⟩ = some (.slice CA cells.length cc) ∧ Below gx w wx) := Lib.hid (fun wx hb =>
    ⟨(hb.cell (p := ⟨gx, 0, none⟩) (by show gx < w1.heap.size; omega)).trans c0, (hb.cell (p := ⟨gx, 1, none⟩) (by show gx < w1.heap.size; omega)).trans c1, (hb.cell (p := ⟨gx + 1, 0, none⟩) (by show gx + 1 < w1.heap.size; omega)).trans n0, (hb.cell (p := ⟨gx + 1, 1, none⟩) (by show gx + 1 < w1.heap.size; omega)).trans n1, HB1.out.trans (hb.mono (by omega))⟩)
  clear hb1 hsz hgx HCK
  go_upto_region 4 with (go_at_call 87; (with_reducible refine HCK1.out.mono ?_); rintro e w2 ⟨rfl, hb⟩; have HB2 := Lib.hid hb; clear hb)
  clear c0 c1 n0 n1 HCK1
  obtain ⟨x0, x1, x2, x3, hbw⟩ := HBOX.out w2 HB2.out
  have HS2 : Hid (Calls Tryz.prog 47 #[.agg #[.int .i64 (n : Int), .slice A arcs.length c], .agg #[.slice BA bounds.length bc, .slice CA cells.length cc], .slice IA ids.length ic] w2 fun e w' => e = .returned (.tuple #[.slice none 0 0, .int .i64 E]) ∧ Below w2.heap.size w2 w') := Lib.hid (by
    refine (HST.out w2 hbw).mono ?_
    rintro e w3 ⟨⟨h0, -⟩ | ⟨-, he⟩, hb⟩
    · rw [HQ.out] at h0
      exact absurd h0 hse
    · rw [HQ.out] at he
      exact ⟨he, hb⟩)
  clear hbw HST
  go_wp2_with (go_at_call 47; (with_reducible refine HS2.out.mono ?_); rintro e w3 ⟨rfl, hb⟩; have HB3 : Hid (Below w1.heap.size w1 w3) := Lib.hid (HB2.out.trans (hb.mono HB2.out.size)); clear hb)
  go_ret3
  have hgx := HGX.out
  obtain ⟨-, -, -, -, hbT⟩ := HBOX.out w3 HB3.out
  subst hgx
  exact ⟨⟨E, hse, rfl⟩, hbT.alloc hbT.size _⟩

end Go.Proofs.YtjddimoeodecgaaGreat
