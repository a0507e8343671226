/- clique.Up. -/
import Derived.BigQuiet
import Derived.BigRegion
import Derived.StillTailTactics
import Derived.Test.YtjddimoeodecgaaGreatXH05
namespace Go.Proofs.YtjddimoeodecgaaGreat
open Go.RowKit Go.Lib Go.Maps Go.Proofs.YtjddimoeodecgaaGreatW.PrintWords Go.Proofs.YtjddimoeodecgaaGreatW.PrintLast Go.Proofs.YtjddimoeodecgaaGreatW.PrintMore
set_option linter.unusedVariables false
set_option maxRecDepth 100000

/-- The rows of Up's matrix, up to one. -/
noncomputable def upTo (n : Nat) (its : List (Nat × Nat × Nat)) (l : List Int) (k : Nat) : List Nat := (l.take k).flatMap (fun v => rowOf (lOf n (linkF its) v.toNat) l)
theorem upTo_all (n : Nat) (its : List (Nat × Nat × Nat)) (l : List Int) : upTo n its l l.length = l.flatMap (fun v => rowOf (lOf n (linkF its) v.toNat) l) := by unfold upTo; rw [List.take_length]
theorem upTo_step (n : Nat) (its : List (Nat × Nat × Nat)) (l : List Int) (k : Nat) (hk : k < l.length) : upTo n its l (k + 1) = upTo n its l k ++ rowOf (lOf n (linkF its) (l.getD k 0).toNat) l := by
  unfold upTo
  rw [List.take_add_one, List.flatMap_append]
  congr 1
  rw [List.getD_eq_getElem?_getD, List.getElem?_eq_getElem hk]
  simp
theorem upTo_len (n : Nat) (its : List (Nat × Nat × Nat)) (l : List Int) (k : Nat) : (upTo n its l k).length ≤ k * l.length := by
  unfold upTo
  rw [flat_len _ _ (fun v => rowOf_len _ _), List.length_take]
  exact Nat.mul_le_mul_right _ (by omega)
theorem u32_at {w : World} {A : Option Addr} {l : List Int} (h : Kd.C (Kd.int .u32) w A l.length l) (i : Nat) (hi : i < l.length) : ∃ ad, A = some ad ∧ w.cell? (ad.add i) = some (.int .u32 (l.getD i 0)) := by
  obtain ⟨ad, c, h0, h1, h2, h3⟩ := Kd.C_get h 0 (i : Int) (by omega) (by omega)
  rw [Int.toNat_natCast] at h2 h3
  have e : c = [Value.int .u32 (l.getD i 0)] := h2
  subst e
  have h4 := h3 0 _ rfl
  rw [Nat.add_zero, show (Kd.int .u32).sz = 1 from rfl, Nat.mul_one] at h4
  exact ⟨ad, h0, h4⟩
theorem spot_block (lg lo : Nat) (lz : Option Nat) (j : Nat) : ((⟨lg, lo, lz⟩ : Addr).add j).block = lg := by unfold Addr.add; split <;> rfl
theorem wpStill_want {P : Program} {ops : Array Oper} {w : World} {Q : Act → Prop} {a : Act} {o : Oper} {rest : List Oper} (hw : Region.wanted o (yielded ops a.tmps) = true) (h : ∀ K : Act → Prop, (∀ a, wpStill P ops w Q rest a → K a) → o.still P a w K) : wpStill P ops w Q (o :: rest) a :=
  wpStill_step fun K hK => by rw [if_pos hw]; exact h K hK

set_option maxHeartbeats 16000000 in
theorem cliqueUp_any (N : Int) (arcs : List Q.S95) (A : Option Addr) (c : Nat) (BA : Option Addr) (bc : Nat) (bounds : List Int) (CA : Option Addr) (cc : Nat) (cells : List (List Int)) (level cell epoch : Int) (WA : Option Addr) (wcp : Nat) (ws : List Int) (HA : Option Addr) (hcp : Nat) (ms : List Mat) (w : World)
    (hf : Q.ArcsFit arcs) (hr : Kd.C Q.k95 w A arcs.length arcs) (hc : arcs.length ≤ c) (hn : NestIn w BA bc bounds CA cc cells) (hw : Kd.C (Kd.int .u32) w WA ws.length ws) (hws : ∀ x ∈ ws, 0 ≤ x ∧ x < 4294967296) (hms : MatsIn w HA ms)
    (hE : Q.upE N arcs bounds cells level cell = 0) (hep : 0 ≤ epoch ∧ epoch ≤ 1073741824)
    (hwl : ws.length = (Q.betweenOf arcs (cells.getD (level - 1).toNat []) (cells.getD (level - 2).toNat []) cell).length)
    (hml : ms.length = (Q.kidsOf (cells.getD (level - 1).toNat []) (cells.getD (level - 2).toNat []) cell).length)
    (hmk : ∀ i, i < ms.length → KidOk N arcs bounds cells level epoch ((Q.kidsOf (cells.getD (level - 1).toNat []) (cells.getD (level - 2).toNat []) cell).getD i 0) (ms.getD i zMat)) :
    Calls Tryz.prog 31 #[.agg #[.int .i64 N, .slice A arcs.length c], .agg #[.slice BA bounds.length bc, .slice CA cells.length cc], .int .i64 level, .int .i64 cell, .int .i64 epoch, .slice WA ws.length wcp, .slice HA ms.length hcp] w fun e w' => ∃ v, e = .returned (.tuple #[v, .int .i64 0]) ∧ LeafV w.heap.size w' level cell epoch (Q.natsI (upD N.toNat arcs (cells.getD (level - 1).toNat []) (cells.getD (level - 2).toNat []) cell ws (ms.map (·.D)))) v ∧ Below w.heap.size w w' := by
  obtain ⟨i0, hi0, hz0, hz1, hz2⟩ := info_parts linkInfo
  obtain ⟨j0, hj0, hy0, hy1, hy2⟩ := info_parts distInfo
  obtain ⟨hce, hl1⟩ := upE_ok hE
  obtain ⟨⟨hN1, hG⟩, hNest, ⟨hlv1, hlv2⟩, _⟩ := Q.cellE_ok hf hce
  obtain ⟨n, rfl⟩ : ∃ n : Nat, N = (n : Int) := ⟨N.toNat, (Int.toNat_of_nonneg (by omega)).symm⟩
  rw [Int.toNat_natCast] at hG hNest ⊢
  obtain ⟨c0, c1, n0, n1, r0, hsz, hb1⟩ := boxes224 w (.int .i64 (n : Int)) (.slice A arcs.length c) (.slice BA bounds.length bc) (.slice CA cells.length cc) (.int .i64 0) (.int .i64 0) (.int .i64 0) (.slice none 0 0) 24 28 37
  have HBT : Hid (∀ wx : World, Below w.heap.size w wx → Calls Tryz.prog 29 #[.agg #[.int .i64 (n : Int), .slice A arcs.length c], .agg #[.slice BA bounds.length bc, .slice CA cells.length cc], .int .i64 level, .int .i64 cell] wx fun e w' => ∃ A' n' c', e = .returned (.tuple #[.slice A' n' c', .int .i64 0]) ∧ CutV w' (Q.betweenOf arcs (cells.getD (level - 1).toNat []) (cells.getD (level - 2).toNat []) cell) (.slice A' n' c') ∧ Below wx.heap.size wx w') :=
    Lib.hid (fun wx hb => (between_any n arcs A c BA bc bounds CA cc cells level cell w wx hb hf hr hc hn).mono (fun e w' ⟨A', n', c', h1, h2, h3⟩ => ⟨A', n', c', by rw [hE] at h1; exact h1, h2 hE, h3⟩))
  have HCH : Hid (∀ wx : World, Below w.heap.size w wx → Calls Tryz.prog 30 #[.agg #[.int .i64 (n : Int), .slice A arcs.length c], .agg #[.slice BA bounds.length bc, .slice CA cells.length cc], .int .i64 level, .int .i64 cell] wx fun e w' => ∃ A' n' c', e = .returned (.tuple #[.slice A' n' c', .int .i64 0]) ∧ CutV w' (Q.kidsOf (cells.getD (level - 1).toNat []) (cells.getD (level - 2).toNat []) cell) (.slice A' n' c') ∧ Below wx.heap.size wx w') :=
    Lib.hid (fun wx hb => (children_any n arcs A c BA bc bounds CA cc cells level cell w wx hb hf hr hc hn).mono (fun e w' ⟨A', n', c', h1, h2, h3⟩ => ⟨A', n', c', by rw [hE] at h1; exact h1, h2 hE, h3⟩))
  have HEP : Hid (∀ wx : World, Calls Tryz.prog 52 #[.int .i64 epoch] wx fun e w' => e = .returned (.bool true) ∧ Drawn0 wx w') := Lib.hid (fun wx => Q.clique_epochs.calls epoch true wx (by unfold Q.clique_epochs.f; rw [if_pos hep.1, decide_eq_true hep.2]))
  have HBN : Hid (∀ wx : World, Below w.heap.size w wx → Calls Tryz.prog 23 #[.agg #[.int .i64 (n : Int), .slice A arcs.length c], .agg #[.slice BA bounds.length bc, .slice CA cells.length cc], .int .i64 level, .int .i64 cell] wx fun e w' => ∃ A' n' c', e = .returned (.tuple #[.slice A' n' c', .int .i64 0]) ∧ CutV w' (Q.bndOf arcs (cells.getD (level - 1).toNat []) cell) (.slice A' n' c') ∧ Below wx.heap.size wx w') :=
    Lib.hid (fun wx hb => (boundary_any n arcs A c BA bc bounds CA cc cells level cell w wx hb hf hr hc hn).mono (fun e w' ⟨A', n', c', h1, h2, h3⟩ => ⟨A', n', c', by rw [hce] at h1; exact h1, h2 hce, h3⟩))
  have hbel : cells.getD (level - 1 - 1).toNat [] = cells.getD (level - 2).toNat [] := by rw [show level - 1 - 1 = level - 2 by omega]
  have hrl := (Q.rightP_in (hNest.right (j := (level - 1).toNat) (by omega))).1
  have hsl := (Q.rightP_in (hNest.right (j := (level - 2).toNat) (by omega))).1
  have hb5 := hNest.b5
  generalize hlv : level - 1 = lv1 at *
  have hwlv : IntKind.i64.wrap (level - 1) = lv1 := by rw [IntWalk.i64_in _ (by omega)]; exact hlv
  have HBK : Hid (∀ (i : Nat) (wx : World), i < ms.length → Below w.heap.size w wx → Calls Tryz.prog 23 #[.agg #[.int .i64 (n : Int), .slice A arcs.length c], .agg #[.slice BA bounds.length bc, .slice CA cells.length cc], .int .i64 lv1, .int .i64 ((Q.kidsOf (cells.getD lv1.toNat []) (cells.getD (level - 2).toNat []) cell).getD i 0)] wx fun e w' => ∃ A' n' c', e = .returned (.tuple #[.slice A' n' c', .int .i64 0]) ∧ (∃ P, Value.slice A' n' c' = .slice P (Q.bndOf arcs (cells.getD (level - 2).toNat []) ((Q.kidsOf (cells.getD lv1.toNat []) (cells.getD (level - 2).toNat []) cell).getD i 0)).length (Q.bndOf arcs (cells.getD (level - 2).toNat []) ((Q.kidsOf (cells.getD lv1.toNat []) (cells.getD (level - 2).toNat []) cell).getD i 0)).length ∧ Kd.C (Kd.int .i64) w' P (Q.bndOf arcs (cells.getD (level - 2).toNat []) ((Q.kidsOf (cells.getD lv1.toNat []) (cells.getD (level - 2).toNat []) cell).getD i 0)).length (Q.bndOf arcs (cells.getD (level - 2).toNat []) ((Q.kidsOf (cells.getD lv1.toNat []) (cells.getD (level - 2).toNat []) cell).getD i 0)) ∧ ∀ g o z, P = some ⟨g, o, z⟩ → wx.heap.size ≤ g) ∧ Below wx.heap.size wx w') :=
    Lib.hid (fun i wx hi hb => (boundary_fresh n arcs A c BA bc bounds CA cc cells lv1 _ w wx hb hf hr hc hn).mono (fun e w' ⟨A', n', c', h1, h2, h3⟩ => by
      have h0 := (hmk i hi).cell
      rw [hlv] at h0
      rw [h0] at h1
      have h4 := h2 h0
      rw [hbel] at h4
      exact ⟨A', n', c', h1, h4, h3⟩))
  have HCK : Hid (∀ (i : Nat) (DP : Option Addr) (dc : Nat) (wx : World), i < ms.length → (ms.getD i zMat).D.length ≤ 268435456 → Below w.heap.size w wx → Calls Tryz.prog 33 #[.agg #[.int .i64 (n : Int), .slice A arcs.length c], .agg #[.slice BA bounds.length bc, .slice CA cells.length cc], .agg #[.int .i64 lv1, .int .i64 ((Q.kidsOf (cells.getD lv1.toNat []) (cells.getD (level - 2).toNat []) cell).getD i 0), .int .i64 (ms.getD i zMat).ep, .slice DP (ms.getD i zMat).D.length dc]] wx fun e w' => e = .returned (.int .i64 0) ∧ Below wx.heap.size wx w') :=
    Lib.hid (fun i DP dc wx hi hdl hb => by
      have h := check_any n arcs A c BA bc bounds CA cc cells (ms.getD i zMat).lv (ms.getD i zMat).c (ms.getD i zMat).ep DP (ms.getD i zMat).D.length dc wx (by omega) hf (Kd.C_below hr hb) hc (hn.below hb)
      rw [(hmk i hi).matE, (hmk i hi).lv, (hmk i hi).c, hlv] at h
      exact h)
  have hm := hG.m
  have hn2 := hG.n2
  have hmk' : ∀ i, i < ms.length → (ms.getD i zMat).lv = lv1 ∧ (ms.getD i zMat).c = (Q.kidsOf (cells.getD lv1.toNat []) (cells.getD (level - 2).toNat []) cell).getD i 0 ∧ (ms.getD i zMat).ep ≤ epoch ∧ (ms.getD i zMat).D.length = (Q.bndOf arcs (cells.getD (level - 2).toNat []) ((Q.kidsOf (cells.getD lv1.toNat []) (cells.getD (level - 2).toNat []) cell).getD i 0)).length * (Q.bndOf arcs (cells.getD (level - 2).toNat []) ((Q.kidsOf (cells.getD lv1.toNat []) (cells.getD (level - 2).toNat []) cell).getD i 0)).length ∧ ∀ j, (ms.getD i zMat).D.getD j 0 < 18446744073709551616 := fun i hi => by
    have h := hmk i hi
    have h1 := h.lv
    rw [hlv] at h1
    exact ⟨h1, h.c, h.ep, h.len, h.lt⟩
  have HMK := Lib.hid hmk'
  have HIN := Lib.hid (fun (k : Int) => bnd_in hG (cells.getD (level - 2).toNat []) k)
  have HLIN := Lib.hid (bnd_in hG (cells.getD lv1.toNat []) cell)
  have HBL := Lib.hid (fun (cs : List Int) (k : Int) => Q.bnd_len arcs cs k)
  have hbl : (Q.betweenOf arcs (cells.getD lv1.toNat []) (cells.getD (level - 2).toNat []) cell).length ≤ arcs.length := Q.pick_len _ arcs arcs.length
  have hkl : (Q.kidsOf (cells.getD lv1.toNat []) (cells.getD (level - 2).toNat []) cell).length ≤ 1024 := by
    have h1 : (Q.kidsOf (cells.getD lv1.toNat []) (cells.getD (level - 2).toNat []) cell).length ≤ (Q.rawOf (cells.getD lv1.toNat []) (cells.getD (level - 2).toNat []) cell).length := by
      unfold Q.kidsOf
      have := Lib.compact_length_le ((Q.rawOf (cells.getD lv1.toNat []) (cells.getD (level - 2).toNat []) cell).mergeSort (fun x y => decide (x ≤ y)))
      rw [List.length_mergeSort] at this
      exact this
    have h2 : (Q.rawOf (cells.getD lv1.toNat []) (cells.getD (level - 2).toNat []) cell).length ≤ (cells.getD lv1.toNat []).length := by
      unfold Q.rawOf
      rw [List.length_map]
      exact Q.mem_len _ _ _
    omega
  have HBIN : Hid (∀ t, t < (Q.betweenOf arcs (cells.getD lv1.toNat []) (cells.getD (level - 2).toNat []) cell).length → ∃ i : Nat, (Q.betweenOf arcs (cells.getD lv1.toNat []) (cells.getD (level - 2).toNat []) cell).getD t 0 = (i : Int) ∧ i < arcs.length) := Lib.hid (fun t ht => between_in (get_mem ht))
  have HUP : Hid (upIts arcs (cells.getD lv1.toNat []) (cells.getD (level - 2).toNat []) cell ws (ms.map (·.D)) = klTo arcs (cells.getD (level - 2).toNat []) (Q.kidsOf (cells.getD lv1.toNat []) (cells.getD (level - 2).toNat []) cell) (ms.map (·.D)) ms.length ++ alTo arcs (Q.betweenOf arcs (cells.getD lv1.toNat []) (cells.getD (level - 2).toNat []) cell) ws ws.length) := Lib.hid (by unfold upIts; rw [hml, hwl])
  have HDS : Hid (∀ i, (ms.map (·.D)).getD i [] = (ms.getD i zMat).D) := Lib.hid (fun i => by
    by_cases h : i < ms.length
    · simp [h]
    · rw [List.getD_eq_getElem?_getD, List.getElem?_eq_none (by rw [List.length_map]; omega), List.getD_eq_getElem?_getD (l := ms), List.getElem?_eq_none (by omega)]
      rfl)
  have HUD : Hid (upD n arcs (cells.getD lv1.toNat []) (cells.getD (level - 2).toNat []) cell ws (ms.map (·.D)) = (Q.bndOf arcs (cells.getD lv1.toNat []) cell).flatMap (fun v => rowOf (lOf n (linkF (upIts arcs (cells.getD lv1.toNat []) (cells.getD (level - 2).toNat []) cell ws (ms.map (·.D)))) v.toNat) (Q.bndOf arcs (cells.getD lv1.toNat []) cell))) := Lib.hid rfl
  have HOK : Hid (LinkOk n (linkF (upIts arcs (cells.getD lv1.toNat []) (cells.getD (level - 2).toNat []) cell ws (ms.map (·.D))))) := Lib.hid (by
    have hlen : ∀ i, i < (Q.kidsOf (cells.getD lv1.toNat []) (cells.getD (level - 2).toNat []) cell).length → ((ms.map (·.D)).getD i []).length = (Q.bndOf arcs (cells.getD (level - 2).toNat []) ((Q.kidsOf (cells.getD lv1.toNat []) (cells.getD (level - 2).toNat []) cell).getD i 0)).length * (Q.bndOf arcs (cells.getD (level - 2).toNat []) ((Q.kidsOf (cells.getD lv1.toNat []) (cells.getD (level - 2).toNat []) cell).getD i 0)).length := fun i hi => by
      rw [HDS.out]
      exact (hmk' i (by omega)).2.2.2.1
    exact ⟨fun v e he => (upIts_ok hG hws hlen v e (mem_linkF.1 he)).1, fun v e he => (upIts_ok hG hws hlen v e (mem_linkF.1 he)).2⟩)
  have HWL := Lib.hid hwl
  have HML := Lib.hid hml
  have HWS := Lib.hid hws
  have HW := Lib.hid hw
  have HMS := Lib.hid hms
  have HR := Lib.hid hr
  have HG := Lib.hid hG
  clear hf hr hc hn hw hws hms hE hmk hmk' hce hN1 hNest hG hbel hrl hsl hep hwl hml hlv
  generalize hrow : cells.getD lv1.toNat [] = row at *
  generalize hbelq : cells.getD (level - 2).toNat [] = bel at *
  generalize Q.betweenOf arcs row bel cell = bet at *
  generalize Q.kidsOf row bel cell = kids at *
  generalize hDs : ms.map (·.D) = Ds at *
  generalize upIts arcs row bel cell ws Ds = its at *
  generalize hup : upD n arcs row bel cell ws Ds = UD at *
  have HLL : Hid ((Q.bndOf arcs row cell).length ≤ 2 * arcs.length) := Lib.hid (HBL.out row cell)
  generalize Q.bndOf arcs row cell = l at *
  clear hrow hbelq hDs hup
  go_enter Tryz.func31, Tryz.ntmps31
  go_upto_region 1 with fail
  generalize (((w.alloc (.cells #[.int .i64 (n : Int), .slice A arcs.length c] 24)).alloc (.cells #[.slice BA bounds.length bc, .slice CA cells.length cc] 28)).alloc (.cells #[.int .i64 0, .int .i64 0, .int .i64 0, .slice none 0 0] 37)) = w1 at *
  have HB1 := Lib.hid hb1
  have HBT1 := Lib.hid (HBT.out w1 hb1)
  have hs1 : w.heap.size + 3 ≤ w1.heap.size := by omega
  generalize hgx : w.heap.size = gx at *
  have HGX := Lib.hid hgx
  have r0' : w1.heap[gx + 1 + 1]? = some (.cells #[.int .i64 0, .int .i64 0, .int .i64 0, .slice none 0 0] 37 (0, 0)) := r0
  -- the boxes in any later world
  have HBOX : Hid (∀ wx : World, Below w1.heap.size w1 wx → wx.cell? ⟨gx, 0, none⟩ = some (.int .i64 (n : Int)) ∧ wx.cell? ⟨gx, 1, none⟩ = some (.slice A arcs.length c) ∧ wx.cell? ⟨gx + 1, 0, none⟩ = some (.slice BA bounds.length bc) ∧ wx.cell? ⟨gx + 1, 1, none⟩ = some (.slice CA cells.length cc) ∧ wx.heap[gx + 1 + 1]? = some (.cells #[.int .i64 0, .int .i64 0, .int .i64 0, .slice none 0 0] 37 (0, 0))) := Lib.hid (fun wx hb =>
    ⟨(hb.cell (p := ⟨gx, 0, none⟩) (by show gx < w1.heap.size; omega)).trans c0, (hb.cell (p := ⟨gx, 1, none⟩) (by show gx < w1.heap.size; omega)).trans c1, (hb.cell (p := ⟨gx + 1, 0, none⟩) (by show gx + 1 < w1.heap.size; omega)).trans n0, (hb.cell (p := ⟨gx + 1, 1, none⟩) (by show gx + 1 < w1.heap.size; omega)).trans n1, (hb.block (gx + 1 + 1) (by omega)).trans r0'⟩)
  clear hb1 hsz HBT hgx r0 r0'
  go_upto_region 2 with (go_at_call 29; (with_reducible refine HBT1.out.mono ?_); rintro e w2 ⟨A', n', c', rfl, hcv, hb⟩; have HB := Lib.hid hb; have HCV := Lib.hid hcv; clear hb hcv)
  have HB2 : Hid (Below gx w w2) := Lib.hid (HB1.out.trans (HB.out.mono (by omega)))
  have HBW2 : Hid (Below w1.heap.size w1 w2) := HB
  obtain ⟨PB, hvb, hbetC⟩ := HCV.out
  simp only [Value.slice.injEq] at hvb
  obtain ⟨hvb1, hvb2, hvb3⟩ := hvb
  subst hvb1
  have HBET := Lib.hid hbetC
  have hwln : ws.length = n' := by have := HWL.out; omega
  have HNB := Lib.hid hvb2
  clear c0 c1 n0 n1 HBT1 hvb2 hvb3 hbetC HCV
  subst hwln
  obtain ⟨x0, x1, x2, x3, -⟩ := HBOX.out w2 HBW2.out
  go_upto_region 8 with (go_at_call 52; (with_reducible refine (HEP.out _).mono ?_); rintro e w3 ⟨rfl, nd, rfl⟩)
  have HB3 : Hid (Below gx w (w2.drewN nd)) := Lib.hid (Below.drewN_ HB2.out nd)
  have HBW3 : Hid (Below w1.heap.size w1 (w2.drewN nd)) := Lib.hid (Below.drewN_ HBW2.out nd)
  have HBET3 : Hid (Kd.C (Kd.int .i64) (w2.drewN nd) A' bet.length bet) := HBET
  clear x0 x1 x2 x3
  generalize (w2.drewN nd) = w3 at *
  obtain ⟨x0, x1, x2, x3, -⟩ := HBOX.out w3 HBW3.out
  have HCH3 := Lib.hid (HCH.out w3 HB3.out)
  go_upto_region 9 with (go_at_call 30; (with_reducible refine HCH3.out.mono ?_); rintro e w4 ⟨K', nk, ck, rfl, hcv, hb⟩; have HB4 := Lib.hid hb; have HCV := Lib.hid hcv; clear hb hcv)
  have hs3 : w1.heap.size ≤ w3.heap.size := HBW3.out.size
  have HBW4 : Hid (Below w1.heap.size w1 w4) := Lib.hid (HBW3.out.trans (HB4.out.mono hs3))
  obtain ⟨PK, hvk, hkC⟩ := HCV.out
  simp only [Value.slice.injEq] at hvk
  obtain ⟨hvk1, hvk2, hvk3⟩ := hvk
  subst hvk1
  have HKC := Lib.hid hkC
  have HBET4 := Lib.hid (Kd.C_below HBET3.out HB4.out)
  have hmln : ms.length = nk := by have := HML.out; omega
  have HNK := Lib.hid hvk2
  clear x0 x1 x2 x3 HCH3 HCH hvk2 hvk3 hkC HCV HBET HBET3
  subst hmln
  have hL0 := LinkAt.made w4
  have hb5 : Below w4.heap.size w4 (w4.alloc (.map #[] 0)) := (Below.refl _ w4).alloc (Nat.le_refl _) _
  have hs4 : w1.heap.size ≤ w4.heap.size := HBW4.out.size
  have hs5 : w4.heap.size < (w4.alloc (.map #[] 0)).heap.size := by simp
  have HB4G : Hid (Below gx w w4) := Lib.hid (HB1.out.trans (HBW4.out.mono (by omega)))
  have HL0 := Lib.hid hL0
  have HB5 := Lib.hid hb5
  clear hL0 hb5
  have hmm := @run_makeMap Tryz.prog
  go_upto_region 14 with fail
  clear hmm
  generalize (w4.alloc (.map #[] 0)) = w5 at *
  generalize hbq : w4.heap.size = b at *
  have HBQ := Lib.hid hbq
  clear hbq
  go_wp2_with fail
  have hms28 : ms.length ≤ 1024 := by have := HML.out; omega
  have HDL : Hid (∀ i, i < ms.length → (ms.getD i zMat).D.length ≤ 268435456) := Lib.hid (fun i hi => by
    have h1 := (HMK.out i hi).2.2.2.1
    have h2 := HBL.out bel (kids.getD i 0)
    rw [h1]
    have h3 : (Q.bndOf arcs bel (kids.getD i 0)).length ≤ 16384 := by omega
    exact Nat.mul_le_mul h3 h3)
  go_loopg [83] ms.length (fun gg s83 wr => ∃ (i : Nat) (m : Int → Option Hdr), i ≤ ms.length ∧ ms.length - i ≤ gg ∧ s83 = .int .i64 i ∧ Hid (LinkAt wr (b + 1) b (klTo arcs bel kids Ds i).length m (linkF (klTo arcs bel kids Ds i))) ∧ Hid (Below b w4 wr))
  case atStart => exact ⟨0, _, Nat.zero_le _, by omega, rfl, HL0, HB5⟩
  case round =>
    obtain ⟨i, m, hi1, hgg, rfl, HLA, HBL4⟩ := hrel
    obtain ⟨wm, rfl⟩ : ∃ x : World, x = wr := ⟨_, rfl⟩
    have hsm : b ≤ wm.heap.size := by have h1 := HBL4.out.size; have h2 := HBQ.out; omega
    have HBGM : Hid (Below gx w wm) := Lib.hid (HB4G.out.trans (HBL4.out.mono (by omega)))
    have HBWM : Hid (Below w1.heap.size w1 wm) := Lib.hid (HBW4.out.trans (HBL4.out.mono (by omega)))
    by_cases hlt : i < ms.length
    · have hltz : (i : Int) < (ms.length : Int) := by omega
      have hwk : IntKind.i64.wrap ((i : Int) + 1) = ((i + 1 : Nat) : Int) := by rw [IntWalk.i64_in _ (by omega)]; omega
      obtain ⟨g, DP, dc, hHA, y0, y1, y2, y3, y4⟩ := HMS.out i hlt
      obtain ⟨k1, k2, k3, k4, k5⟩ := HMK.out i hlt
      have hbw : Below w.heap.size w wm := by rw [HGX.out]; exact HBGM.out
      rw [k1] at y0
      rw [k2] at y1
      subst hHA
      have z0 := (hbw.cell (World.block_lt_of_cell? w _ y0)).trans y0
      have z1 := (hbw.cell (World.block_lt_of_cell? w _ y1)).trans y1
      have z2 := (hbw.cell (World.block_lt_of_cell? w _ y2)).trans y2
      have z3 := (hbw.cell (World.block_lt_of_cell? w _ y3)).trans y3
      have HY4 := Lib.hid y4
      have hkb : Below w4.heap.size w4 wm := by rw [HBQ.out]; exact HBL4.out
      obtain ⟨kad, hkad, u0⟩ := Q.int_cell (Kd.C_below HKC.out hkb) i (by rw [← HNK.out]; exact hlt)
      subst hkad
      have hdl := HDL.out i hlt
      have HCKI := Lib.hid (fun wx => HCK.out i DP dc wx hlt hdl)
      have HBKI := Lib.hid (fun wx => HBK.out i wx hlt)
      have HSTEP : Hid (klTo arcs bel kids Ds (i + 1) = klTo arcs bel kids Ds i ++ mlTo (Q.bndOf arcs bel (kids.getD i 0)) (ms.getD i zMat).D (ms.getD i zMat).D.length) := Lib.hid (by rw [klTo_step, HDS.out])
      have hbl1 := HBL.out bel (kids.getD i 0)
      have HLKIN := Lib.hid (HIN.out (kids.getD i 0))
      generalize kids.getD i 0 = ki at *
      generalize (ms.getD i zMat).D = Dm at *
      generalize (ms.getD i zMat).ep = epi at *
      generalize Q.bndOf arcs bel ki = lk at *
      have HK4 := Lib.hid k4
      have HK5 := Lib.hid k5
      have hepn : ¬ epoch < epi := by omega
      have hepd : decide (epoch < epi) = false := decide_eq_false hepn
      have HKL : Hid ((klTo arcs bel kids Ds i).length ≤ 274877906944) := Lib.hid (by
        have h := klTo_len hm bel kids (Ds := Ds) (n := ms.length) (fun j hj => by rw [HDS.out]; exact HDL.out j hj) i hi1
        have h2 : i * 268435456 ≤ 1024 * 268435456 := Nat.mul_le_mul_right _ (by omega)
        omega)
      generalize klTo arcs bel kids Ds i = kl at *
      clear y0 y1 y2 y3 y4 hkb hbw k1 k2 k3 k4 k5
      go_upto_region 17 with fail
      have hb6 : Below wm.heap.size wm (wm.alloc (.cells #[.int .i64 lv1, .int .i64 ki, .int .i64 epi, .slice DP Dm.length dc] 37)) := (Below.refl _ wm).alloc (Nat.le_refl _) _
      have hq6 := heap_alloc_new wm (.cells #[.int .i64 lv1, .int .i64 ki, .int .i64 epi, .slice DP Dm.length dc] 37)
      have v0 := (hb6.cell (World.block_lt_of_cell? wm _ u0)).trans u0
      have hs6 : wm.heap.size < (wm.alloc (.cells #[.int .i64 lv1, .int .i64 ki, .int .i64 epi, .slice DP Dm.length dc] 37)).heap.size := by simp
      generalize (wm.alloc (.cells #[.int .i64 lv1, .int .i64 ki, .int .i64 epi, .slice DP Dm.length dc] 37)) = w6 at *
      generalize hgq : wm.heap.size = gq at *
      have HGQ := Lib.hid hgq
      have HB6 := Lib.hid hb6
      have HQ6 := Lib.hid hq6
      have HBGM6 : Hid (Below gx w w6) := Lib.hid (HBGM.out.trans (hb6.mono (by have := HBGM.out.size; omega)))
      have HBWM6 : Hid (Below w1.heap.size w1 w6) := Lib.hid (HBWM.out.trans (hb6.mono (by omega)))
      clear z0 z1 z2 z3 u0 hgq hb6 hq6
      obtain ⟨f0, f1, f2, f3, -⟩ := HBOX.out w6 HBWM6.out
      obtain ⟨p0, p1, p2, p3, -⟩ := cells4 HQ6.out
      go_cut [114] (fun s114 wx => s114 = .bool false ∧ Hid (Below w6.heap.size w6 wx))
      case first =>
        go_still_tail 24, (by kernel_rfl)
        repeat (refine wpStill_want (by rfl) (fun K hK => ?_); go_simp; refine hK _ ?_; clear hK K)
        (try refine wpStill_nil ?_)
        change wpList _ _ _ _ _ w6.drew
        go_wp2_with (go_at_call 33; (with_reducible refine (HCKI.out _ HBGM6.out.drew).mono ?_); rintro e wF ⟨rfl, hbF⟩; have HBF := Lib.hid hbF; clear hbF)
        go_meet
        exact ⟨by first | rfl | (simp; done), Lib.hid ((Below.refl _ _).drew.trans HBF.out)⟩
      case rest =>
        obtain ⟨rfl, HBC⟩ := hcut
        have HBWC : Hid (Below w1.heap.size w1 wc) := Lib.hid (HBWM6.out.trans (HBC.out.mono (by omega)))
        have HBGC : Hid (Below gx w wc) := Lib.hid (HBGM6.out.trans (HBC.out.mono (by omega)))
        have HQC : Hid (wc.heap[gq]? = some (.cells #[.int .i64 lv1, .int .i64 ki, .int .i64 epi, .slice DP Dm.length dc] 37 (0, 0))) := Lib.hid ((HBC.out.block gq hs6).trans HQ6.out)
        have hs6c : w6.heap.size ≤ wc.heap.size := HBC.out.size
        clear f0 f1 f2 f3 p0 p1 p2 p3 v0 hepn hepd
        obtain ⟨f0, f1, f2, f3, -⟩ := HBOX.out wc HBWC.out
        obtain ⟨p0, p1, p2, p3, -⟩ := cells4 HQC.out
        have HBKC := Lib.hid (HBKI.out wc HBGC.out)
        go_upto_region 20 with (go_at_call 23; go_loud ((with_reducible refine HBKC.out.mono ?_); rintro e w9 ⟨L', nl, cl, rfl, ⟨P9, hv9, hC9, hfr⟩, hb9⟩; have HB9 := Lib.hid hb9; have HV9 := Lib.hid hv9; have HC9 := Lib.hid hC9; have HFR := Lib.hid hfr; clear hb9 hv9 hC9 hfr))
        have hv9 := HV9.out
        simp only [Value.slice.injEq] at hv9
        obtain ⟨h91, h92, h93⟩ := hv9
        subst h91
        have HNL := Lib.hid h92
        have hs9 : wc.heap.size ≤ w9.heap.size := HB9.out.size
        have HBG9 : Hid (Below gx w w9) := Lib.hid (HBGC.out.trans (HB9.out.mono (by have := HBGC.out.size; omega)))
        have HB69 : Hid (Below gq wm w9) := Lib.hid ((HB6.out.trans (HBC.out.mono (by omega))).trans (HB9.out.mono (by omega)))
        have q9 := (HB9.out.block gq (by omega)).trans HQC.out
        clear f0 f1 f2 f3 p0 p1 p2 p3 h92 h93
        obtain ⟨p0, p1, p2, p3, -⟩ := cells4 q9
        clear q9
        have HLA9 := Lib.hid (HLA.out.below (by rw [HGQ.out]; exact HB69.out))
        have hnl16 : nl ≤ 16384 := by rw [HNL.out]; omega
        have HDN : Hid (Dm.length = nl * nl) := Lib.hid (by rw [HK4.out, HNL.out])
        -- the boundary's cells
        have HLK9 : Hid (∀ j, j < nl → ∃ lg lo lz, L' = some ⟨lg, lo, lz⟩ ∧ wc.heap.size ≤ lg ∧ lg < w9.heap.size ∧ w9.cell? ((⟨lg, lo, lz⟩ : Addr).add j) = some (.int .i64 ((lk.getD j 0).toNat : Nat)) ∧ (lk.getD j 0).toNat < n) := Lib.hid (fun j hj => by
          have hjl : j < lk.length := by rw [← HNL.out]; exact hj
          obtain ⟨lad, h1, h2⟩ := Q.int_cell HC9.out j hjl
          obtain ⟨lg, lo, lz⟩ := lad
          have h3 := HLKIN.out (lk.getD j 0) (get_mem hjl)
          have h4 := World.block_lt_of_cell? w9 _ h2
          rw [show lk.getD j 0 = ((lk.getD j 0).toNat : Int) from (Int.toNat_of_nonneg h3.1).symm] at h2
          exact ⟨lg, lo, lz, h1, HFR.out lg lo lz h1, by rw [spot_block] at h4; exact h4, h2, by omega⟩)
        have hb49 : Below b w4 w9 := HBL4.out.trans (HB69.out.mono hsm)
        have HB49 := Lib.hid hb49
        clear hb49
        go_wp2_with fail
        clear p0 p1 p2 p3
        have hdl9 : w9.heap.size ≤ w9.heap.size := Nat.le_refl _
        go_loopg [133] Dm.length (fun gg s133 wr => ∃ (t : Nat) (m2 : Int → Option Hdr), t ≤ Dm.length ∧ Dm.length - t ≤ gg ∧ s133 = .int .i64 t ∧ Hid (LinkAt wr (b + 1) b (kl ++ mlTo lk Dm t).length m2 (linkF (kl ++ mlTo lk Dm t))) ∧ Hid (∀ (u : Nat) y, m2 (u : Int) = some y → y.1 < gq ∨ w9.heap.size ≤ y.1) ∧ Hid (Below b w4 wr) ∧ Hid (w9.heap.size ≤ wr.heap.size) ∧ Hid (∀ k, gq ≤ k → k < w9.heap.size → wr.heap[k]? = w9.heap[k]?))
        case atStart =>
          refine ⟨0, m, Nat.zero_le _, by omega, rfl, ?_, Lib.hid (fun u y hy => Or.inl ?_), HB49, Lib.hid (Nat.le_refl _), Lib.hid (fun _ _ _ => rfl)⟩
          · rw [show mlTo lk Dm 0 = [] from rfl, List.append_nil]
            exact HLA9
          · have h1 := ((HLA.out.row u).lt y.1 (by rw [hy]; rfl)).2
            rw [HGQ.out] at h1
            exact h1
        case round =>
          obtain ⟨t, m2, ht1, hgg2, rfl, HLT, HFREE, HBT4, HST, HSAME⟩ := hrel
          by_cases hlt2 : t < Dm.length
          · have hltz2 : (t : Int) < (Dm.length : Int) := by omega
            have hwt : IntKind.i64.wrap ((t : Int) + 1) = ((t + 1 : Nat) : Int) := by rw [IntWalk.i64_in _ (by omega)]; omega
            obtain ⟨gd, hDP, d0⟩ := HY4.out t hlt2
            subst hDP
            have hbwr : Below w.heap.size w wr := by rw [HGX.out]; exact HB4G.out.trans (HBT4.out.mono (by have := HB4G.out.size; have := HBQ.out; omega))
            have d1 := (hbwr.cell (World.block_lt_of_cell? w _ d0)).trans d0
            have HMS2 := Lib.hid (mlTo_step lk Dm t)
            have hdv := HK5.out t
            generalize hdvq : Dm.getD t 0 = dv at *
            clear hbwr d0 hdvq
            by_cases hfin : dv < infN
            · have hfz : (dv : Int) < 18446744073709551615 := by unfold infN at hfin; omega
              have hnl0 : 0 < nl := by
                rcases Nat.eq_zero_or_pos nl with q | q
                · have := HDN.out; rw [q] at this; omega
                · exact q
              have hq : t / nl < nl := Nat.div_lt_of_lt_mul (by rw [← HDN.out]; exact hlt2)
              have hr : t % nl < nl := Nat.mod_lt _ hnl0
              obtain ⟨lg, lo, lz, hL', hlg1, hlg2, c1, hvn⟩ := HLK9.out _ hq
              obtain ⟨lg', lo', lz', hL2, -, -, c2, hun⟩ := HLK9.out _ hr
              rw [hL'] at hL2
              cases hL2
              subst hL'
              have a1 := (World.cell?_of_block (w := w9) (w' := wr) (a := (⟨lg, lo, lz⟩ : Addr).add (t / nl)) (by rw [spot_block]; exact HSAME.out lg (by omega) hlg2)).trans c1
              have a2 := (World.cell?_of_block (w := w9) (w' := wr) (a := (⟨lg, lo, lz⟩ : Addr).add (t % nl)) (by rw [spot_block]; exact HSAME.out lg (by omega) hlg2)).trans c2
              have HLEN : Hid (nl = lk.length) := HNL
              have HMS3 : Hid (mlTo lk Dm (t + 1) = mlTo lk Dm t ++ [((lk.getD (t / nl) 0).toNat, (lk.getD (t % nl) 0).toNat, dv)]) := Lib.hid (by rw [HMS2.out, if_pos hfin, ← HNL.out])
              generalize (lk.getD (t / nl) 0).toNat = vq at *
              generalize (lk.getD (t % nl) 0).toNat = uq at *
              generalize hqq : t / nl = q at *
              generalize hrr : t % nl = r at *
              have hqz : (q : Int) < (nl : Int) := by omega
              have hrz : (r : Int) < (nl : Int) := by omega
              have hnz : ¬ (nl : Int) = 0 := by omega
              have hnz2 : ¬ nl = 0 := by omega
              have hquo : Int.tdiv (t : Int) (nl : Int) = (q : Int) := by rw [← hqq]; exact (Int.ofNat_tdiv t nl).symm
              have hrem : Int.tmod (t : Int) (nl : Int) = (r : Int) := by rw [← hrr]; exact (Int.ofNat_tmod t nl).symm
              clear c1 c2 HMS2
              go_wp2_with fail
              have hrow := HLT.out.row vq
              have hlk1 : (Instr.lookup 120 (.map (some b)) (.int .i64 (vq : Int)) false).run Tryz.prog wr.drew = .ok (hV (m2 (vq : Int))) wr.drew := (HLT.out.below (Below.refl _ wr).drew).look vq (by omega)
              have hlk2 : (Instr.lookup 120 (.map (some b)) (.int .i64 (vq : Int)) false).run Tryz.prog (wr.alloc (.cells #[.int .i64 (uq : Int), .int .u64 (dv : Int)] 123)).drew = .ok (hV (m2 (vq : Int))) (wr.alloc (.cells #[.int .i64 (uq : Int), .int .u64 (dv : Int)] 123)).drew := (HLT.out.below (((Below.refl _ wr).alloc (Nat.le_refl _) _).drew)).look vq (by omega)
              have hfl : (linkF (kl ++ mlTo lk Dm t) vq).length ≤ 1000000000000 := by
                have h1 := linkF_len (kl ++ mlTo lk Dm t) vq
                rw [List.length_append] at h1
                have h2 := mlTo_len lk Dm t
                have h3 := HKL.out
                omega
              have hits : (kl ++ mlTo lk Dm t).length ≤ 1000000000000 := by
                rw [List.length_append]
                have h2 := mlTo_len lk Dm t
                have h3 := HKL.out
                omega
              have hbs : b + 1 ≤ wr.heap.size := by have := HLT.out.map.lt; omega
              have HPUT : Hid (∀ (w2 : World) (s' : Value), wr.grownBy w2 (hV (m2 (vq : Int))).ownBlock → w2.ownsRow (b + 1) 123 2 s' ((linkF (kl ++ mlTo lk Dm t) vq).length + 1) (encE (linkF (kl ++ mlTo lk Dm t) vq) ++ [.int .i64 (uq : Int), .int .u64 (dv : Int)]) → (s'.ownBlock = (hV (m2 (vq : Int))).ownBlock ∨ ∃ g, s'.ownBlock = some g ∧ wr.heap.size ≤ g) →
                  ∃ x w3, s' = hV (some x) ∧ (∀ (u : Nat) y, putM m2 vq x (u : Int) = some y → y.1 < gq ∨ w9.heap.size ≤ y.1) ∧ (Instr.mapUpdate 120 (.map (some b)) (.int .i64 (vq : Int)) s').run Tryz.prog w2 = .ok () w3 ∧ LinkAt w3 (b + 1) b ((kl ++ mlTo lk Dm t).length + 1) (putM m2 vq x) (putF (linkF (kl ++ mlTo lk Dm t)) vq (uq, dv)) ∧ w2.grownBy w3 (some b)) := Lib.hid (fun w2 s' h1 h2 h3 => by
                obtain ⟨x, w3, g1, g2, g3, g4, g5⟩ := HLT.out.put hbs (by omega) vq (by omega) (uq, dv) s' h1 h2 h3
                exact ⟨x, w3, g1, g2 (fun g => g < gq ∨ w9.heap.size ≤ g) HFREE.out (fun g hg => Or.inr (by have := HST.out; omega)), g3, g4, g5⟩)
              have HSVB : Hid (∀ k, (hV (m2 (vq : Int))).ownBlock = some k → k < gq ∨ w9.heap.size ≤ k) := Lib.hid (fun k hk => by
                cases hmv : m2 (vq : Int) with
                | none => rw [hmv] at hk; cases hk
                | some y =>
                  rw [hmv, hV_block] at hk
                  have h1 : y.1 = k := by simpa using hk
                  rw [← h1]
                  exact HFREE.out vq y hmv)
              generalize hV (m2 (vq : Int)) = sv at *
              generalize linkF (kl ++ mlTo lk Dm t) vq = Fv at *
              go_region_law (refine step_append_lies _ (by rfl) _ _ _ (by rfl) (b + 1) 123 i0 _ 2 16 Tryz.underlying121 hi0 hz0 hz1 hz2 rfl (by omega) _ _ _ (by rfl) ((hrow.alloc _).drew) ⟨wr.heap.size, 0, none⟩ 1 1 [.int .i64 (uq : Int), .int .u64 (dv : Int)] (by rfl) (by rfl) (World.news_of_block (cs := #[.int .i64 (uq : Int), .int .u64 (dv : Int)]) (t := 123) (fr := (0, 0)) (heap_alloc_new wr _)) (by simp [Value.oneCell']) (by omega) (by unfold maxLen; omega) (by omega) (by simp; omega) (wr.heap.size + 1) (by simp) ?_; intro gg cap3 w3 hown hgrow hat hlt3; obtain ⟨x, w4', hx, hfree, hrun, hL4, hg4⟩ := HPUT.out w3 _ ⟨hgrow.os, hgrow.tape, hgrow.output, by have h := hgrow.size; simp at h; omega, fun k hk hne => (hgrow.block k (by simp; omega) hne).trans (heap_alloc_old wr _ hk)⟩ hown (by rcases hat with h | h; (· exact Or.inl h.symm); (· exact Or.inr ⟨gg, rfl, by omega⟩)); have HL4 := Lib.hid hL4; have HFREE4 := Lib.hid hfree; have HG4 := Lib.hid hg4; have HG3 := Lib.hid hgrow; clear hL4 hfree hg4 hgrow hown hat hx)
              all_goals
                go_wp2_with fail
                have HWT := Lib.hid hwt
                clear hwt
                go_roundg (Dm.length - (t + 1))
                case measure => omega
                case rel =>
                  have hb6 : Below b w4 ((wr.alloc (.cells #[.int .i64 (uq : Int), .int .u64 (dv : Int)] 123)).drew) := (HBT4.out.alloc (by omega) _).drew
                  have hb7 : Below b w4 w3 := Below.grown hb6 HG3.out (fun j hj => by have := (hrow.lt j hj).1; omega) (by simp; omega)
                  have hz3 := HG3.out.size
                  have hz4 := HG4.out.size
                  simp at hz3
                  have hbg : b < gq := by have := HLA.out.map.lt; have := HGQ.out; omega
                  refine ⟨t + 1, putM m2 vq x, by omega, Nat.le_refl _, rfl, Lib.hid ?_, HFREE4, Lib.hid ?_, Lib.hid ?_, Lib.hid (fun k hk1 hk2 => ?_)⟩
                  · rw [HMS3.out, ← List.append_assoc, linkF_put, List.length_append]
                    exact HL4.out
                  · exact Below.grown hb7 HG4.out (fun j hj => by cases hj; exact Nat.le_refl _) (by omega)
                  · have := HST.out; omega
                  · have hks := HST.out
                    refine (HG4.out.block k (by omega) (fun e => by cases e; omega)).trans ((HG3.out.block k (by simp; omega) (fun e => ?_)).trans ((heap_alloc_old wr _ (by omega)).trans (HSAME.out k hk1 hk2)))
                    rcases HSVB.out k e.symm with h | h <;> omega
            · have hfz : ¬ (dv : Int) < 18446744073709551615 := by unfold infN at hfin; omega
              have hdfz : decide ((dv : Int) < 18446744073709551615) = false := decide_eq_false hfz
              go_wp2_with fail
              have HWT := Lib.hid hwt
              clear hwt
              go_roundg (Dm.length - (t + 1))
              case measure => omega
              case rel =>
                refine ⟨t + 1, m2, by omega, Nat.le_refl _, rfl, ?_, HFREE, HBT4, HST, HSAME⟩
                rw [HMS2.out, if_neg hfin, List.append_nil]
                exact HLT
          · have : t = Dm.length := by omega
            subst this
            have hkz2 : ¬ (Dm.length : Int) < (Dm.length : Int) := by omega
            go_wp2_with fail
            have HWK := Lib.hid hwk
            clear hwk
            go_roundg (ms.length - (i + 1))
            case measure => omega
            case rel =>
              refine ⟨i + 1, m2, by omega, Nat.le_refl _, rfl, ?_, HBT4⟩
              rw [HSTEP.out]
              exact HLT
    · have : i = ms.length := by omega
      subst this
      have hkz : ¬ (ms.length : Int) < (ms.length : Int) := by omega
      have HKL : Hid ((klTo arcs bel kids Ds ms.length).length ≤ 274877906944) := Lib.hid (by
        have h := klTo_len hm bel kids (Ds := Ds) (n := ms.length) (fun j hj => by rw [HDS.out]; exact HDL.out j hj) ms.length (Nat.le_refl _)
        have h2 : ms.length * 268435456 ≤ 1024 * 268435456 := Nat.mul_le_mul_right _ (by omega)
        omega)
      generalize klTo arcs bel kids Ds ms.length = kl at *
      have hwl8 : ws.length ≤ 8192 := by have := HWL.out; omega
      go_wp2_with fail
      go_loopg [167] ws.length (fun gg s167 wr => ∃ (t : Nat) (m2 : Int → Option Hdr), t ≤ ws.length ∧ ws.length - t ≤ gg ∧ s167 = .int .i64 t ∧ Hid (LinkAt wr (b + 1) b (kl ++ alTo arcs bet ws t).length m2 (linkF (kl ++ alTo arcs bet ws t))) ∧ Hid (Below b w4 wr))
      case atStart =>
        refine ⟨0, m, Nat.zero_le _, by omega, rfl, ?_, HBL4⟩
        rw [show alTo arcs bet ws 0 = [] from rfl, List.append_nil]
        exact HLA
      case round =>
        obtain ⟨t, m2, ht1, hgg2, rfl, HLT, HBT4⟩ := hrel
        have hsr : b ≤ wr.heap.size := by have h1 := HBT4.out.size; have h2 := HBQ.out; omega
        have HBGR : Hid (Below gx w wr) := Lib.hid (HB4G.out.trans (HBT4.out.mono (by omega)))
        have HBWR : Hid (Below w1.heap.size w1 wr) := Lib.hid (HBW4.out.trans (HBT4.out.mono (by omega)))
        by_cases hlt2 : t < ws.length
        · have hltz2 : (t : Int) < (ws.length : Int) := by omega
          have hwt : IntKind.i64.wrap ((t : Int) + 1) = ((t + 1 : Nat) : Int) := by rw [IntWalk.i64_in _ (by omega)]; omega
          have hb4r : Below w4.heap.size w4 wr := by rw [HBQ.out]; exact HBT4.out
          obtain ⟨bad, hbad, u0⟩ := Q.int_cell (Kd.C_below HBET4.out hb4r) t (by rw [← HNB.out]; exact hlt2)
          subst hbad
          obtain ⟨ai, hai, hail⟩ := HBIN.out t (by rw [← HNB.out]; exact hlt2)
          rw [hai] at u0
          have hbwr : Below w.heap.size w wr := by rw [HGX.out]; exact HBGR.out
          have hra := Kd.C_below HR.out hbwr
          obtain ⟨aad, hA, a0, a1, a2⟩ := arc_at hra ai hail
          subst hA
          obtain ⟨wad, hWA, b0⟩ := u32_at (Kd.C_below HW.out hbwr) t hlt2
          subst hWA
          have HSTEP := Lib.hid (alTo_step arcs bet ws t)
          have hmem : arcs.getD ai Q.z95 ∈ arcs := by rw [List.getD_eq_getElem?_getD, List.getElem?_eq_getElem hail]; exact List.getElem_mem hail
          obtain ⟨⟨e0, e1⟩, e2, e3⟩ := HG.out.ends _ hmem
          have hwv := HWS.out (ws.getD t 0) (get_mem hlt2)
          rw [hai, Int.toNat_natCast] at HSTEP
          generalize arcs.getD ai Q.z95 = aa at *
          obtain ⟨f0, f1, f2⟩ := aa
          simp only at e0 e1 e2 e3 a0 a1 a2 HSTEP
          obtain ⟨vq, rfl⟩ : ∃ x : Nat, f0 = (x : Int) := ⟨f0.toNat, (Int.toNat_of_nonneg e0).symm⟩
          obtain ⟨uq, rfl⟩ : ∃ x : Nat, f1 = (x : Int) := ⟨f1.toNat, (Int.toNat_of_nonneg e2).symm⟩
          obtain ⟨dv, hdv⟩ : ∃ x : Nat, ws.getD t 0 = (x : Int) := ⟨_, (Int.toNat_of_nonneg hwv.1).symm⟩
          rw [hdv] at b0 hwv HSTEP
          simp only [Int.toNat_natCast] at HSTEP
          have hcv : IntKind.u64.wrap (dv : Int) = (dv : Int) := IntWalk.u64_in _ (by omega)
          obtain ⟨-, x1, -, -, -⟩ := HBOX.out wr HBWR.out
          have haiz : (ai : Int) < (arcs.length : Int) := by omega
          clear hra hbwr hb4r hmem hai hdv
          go_upto_region 34 with fail
          have hrow := HLT.out.row vq
          have hlk1 : (Instr.lookup 120 (.map (some b)) (.int .i64 (vq : Int)) false).run Tryz.prog wr.drew = .ok (hV (m2 (vq : Int))) wr.drew := (HLT.out.below (Below.refl _ wr).drew).look vq (by omega)
          have hlk2 : (Instr.lookup 120 (.map (some b)) (.int .i64 (vq : Int)) false).run Tryz.prog (wr.alloc (.cells #[.int .i64 (uq : Int), .int .u64 (dv : Int)] 123)).drew = .ok (hV (m2 (vq : Int))) (wr.alloc (.cells #[.int .i64 (uq : Int), .int .u64 (dv : Int)] 123)).drew := (HLT.out.below (((Below.refl _ wr).alloc (Nat.le_refl _) _).drew)).look vq (by omega)
          have hfl : (linkF (kl ++ alTo arcs bet ws t) vq).length ≤ 1000000000000 := by
            have h1 := linkF_len (kl ++ alTo arcs bet ws t) vq
            rw [List.length_append, alTo_len] at h1
            have h3 := HKL.out
            omega
          have hits : (kl ++ alTo arcs bet ws t).length ≤ 1000000000000 := by
            rw [List.length_append, alTo_len]
            have h3 := HKL.out
            omega
          have hbs : b + 1 ≤ wr.heap.size := by have := HLT.out.map.lt; omega
          have HPUT : Hid (∀ (w2 : World) (s' : Value), wr.grownBy w2 (hV (m2 (vq : Int))).ownBlock → w2.ownsRow (b + 1) 123 2 s' ((linkF (kl ++ alTo arcs bet ws t) vq).length + 1) (encE (linkF (kl ++ alTo arcs bet ws t) vq) ++ [.int .i64 (uq : Int), .int .u64 (dv : Int)]) → (s'.ownBlock = (hV (m2 (vq : Int))).ownBlock ∨ ∃ g, s'.ownBlock = some g ∧ wr.heap.size ≤ g) →
              ∃ x w3, s' = hV (some x) ∧ (Instr.mapUpdate 120 (.map (some b)) (.int .i64 (vq : Int)) s').run Tryz.prog w2 = .ok () w3 ∧ LinkAt w3 (b + 1) b ((kl ++ alTo arcs bet ws t).length + 1) (putM m2 vq x) (putF (linkF (kl ++ alTo arcs bet ws t)) vq (uq, dv)) ∧ w2.grownBy w3 (some b)) := Lib.hid (fun w2 s' h1 h2 h3 => by
            obtain ⟨x, w3, g1, g2, g3, g4, g5⟩ := HLT.out.put hbs (by omega) vq (by omega) (uq, dv) s' h1 h2 h3
            exact ⟨x, w3, g1, g3, g4, g5⟩)
          generalize hV (m2 (vq : Int)) = sv at *
          generalize linkF (kl ++ alTo arcs bet ws t) vq = Fv at *
          go_region_law (refine step_append_lies _ (by rfl) _ _ _ (by rfl) (b + 1) 123 i0 _ 2 16 Tryz.underlying121 hi0 hz0 hz1 hz2 rfl (by omega) _ _ _ (by rfl) ((hrow.alloc _).drew) ⟨wr.heap.size, 0, none⟩ 1 1 [.int .i64 (uq : Int), .int .u64 (dv : Int)] (by rfl) (by rfl) (World.news_of_block (cs := #[.int .i64 (uq : Int), .int .u64 (dv : Int)]) (t := 123) (fr := (0, 0)) (heap_alloc_new wr _)) (by simp [Value.oneCell']) (by omega) (by unfold maxLen; omega) (by omega) (by simp; omega) (wr.heap.size + 1) (by simp) ?_; intro gg cap3 w3 hown hgrow hat hlt3; obtain ⟨x, w4', hx, hrun, hL4, hg4⟩ := HPUT.out w3 _ ⟨hgrow.os, hgrow.tape, hgrow.output, by have h := hgrow.size; simp at h; omega, fun k hk hne => (hgrow.block k (by simp; omega) hne).trans (heap_alloc_old wr _ hk)⟩ hown (by rcases hat with h | h; (· exact Or.inl h.symm); (· exact Or.inr ⟨gg, rfl, by omega⟩)); have HL4 := Lib.hid hL4; have HG4 := Lib.hid hg4; have HG3 := Lib.hid hgrow; clear hL4 hg4 hgrow hown hat hx)
          all_goals
            go_wp2_with fail
            have HWT := Lib.hid hwt
            clear hwt
            go_roundg (ws.length - (t + 1))
            case measure => omega
            case rel =>
              have hb6 : Below b w4 ((wr.alloc (.cells #[.int .i64 (uq : Int), .int .u64 (dv : Int)] 123)).drew) := (HBT4.out.alloc (by omega) _).drew
              have hb7 : Below b w4 w3 := Below.grown hb6 HG3.out (fun j hj => by have := (hrow.lt j hj).1; omega) (by simp; omega)
              have hz3 := HG3.out.size
              simp at hz3
              refine ⟨t + 1, putM m2 vq x, by omega, Nat.le_refl _, rfl, Lib.hid ?_, Lib.hid ?_⟩
              · rw [HSTEP.out, ← List.append_assoc, linkF_put, List.length_append]
                exact HL4.out
              · exact Below.grown hb7 HG4.out (fun j hj => by cases hj; exact Nat.le_refl _) (by omega)
        · have : t = ws.length := by omega
          subst this
          have hkz2 : ¬ (ws.length : Int) < (ws.length : Int) := by omega
          rw [← HUP.out] at HLT
          have HITS : Hid (its.length ≤ 1000000000000) := Lib.hid (by rw [HUP.out, List.length_append, alTo_len]; have := HKL.out; omega)
          obtain ⟨wp, rfl⟩ : ∃ x : World, x = wr := ⟨_, rfl⟩
          obtain ⟨x0, x1, x2, x3, -⟩ := HBOX.out wp HBWR.out
          have HBNP := Lib.hid (HBN.out wp HBGR.out)
          clear HUP HLA HBL4
          go_upto_region 37 with (go_at_call 23; (with_reducible refine HBNP.out.mono ?_); rintro e wb ⟨L2, nl, cl, rfl, hcv, hb⟩; have HBB := Lib.hid hb; have HCV := Lib.hid hcv; clear hb hcv)
          obtain ⟨PL, hvl, hlC⟩ := HCV.out
          simp only [Value.slice.injEq] at hvl
          obtain ⟨hvl1, hvl2, hvl3⟩ := hvl
          subst hvl1
          have HNLL := Lib.hid hvl2
          have HLC := Lib.hid hlC
          have hs1p : w1.heap.size ≤ wp.heap.size := HBWR.out.size
          have HBWB : Hid (Below w1.heap.size w1 wb) := Lib.hid (HBWR.out.trans (HBB.out.mono hs1p))
          have HBGB : Hid (Below gx w wb) := Lib.hid (HB1.out.trans (HBWB.out.mono (by omega)))
          have HLB := Lib.hid (HLT.out.below HBB.out)
          have hn1 : 1 ≤ n := HG.out.n1
          have hs1b : w1.heap.size ≤ wb.heap.size := HBWB.out.size
          clear x0 x1 x2 x3 hvl2 hvl3 hlC HCV HBNP HBB
          have hm5 := heap_alloc_new wb (.cells #[.int .i64 level, .int .i64 cell, .int .i64 epoch, .slice none 0 0] 37)
          have hbm5 : Below wb.heap.size wb (wb.alloc (.cells #[.int .i64 level, .int .i64 cell, .int .i64 epoch, .slice none 0 0] 37)) := (Below.refl _ wb).alloc (Nat.le_refl _) _
          have HM5 : Hid (MatAt wb wb.heap.size level cell epoch (wb.alloc (.cells #[.int .i64 level, .int .i64 cell, .int .i64 epoch, .slice none 0 0] 37)) [] (.slice none 0 0)) := Lib.hid ⟨hm5, World.ownsRow_nil _ _ _ _, hbm5⟩
          clear hm5 hbm5
          go_upto_region 40 with fail
          generalize (wb.alloc (.cells #[.int .i64 level, .int .i64 cell, .int .i64 epoch, .slice none 0 0] 37)) = wc at *
          generalize hgm : wb.heap.size = gm at *
          have HGM := Lib.hid hgm
          clear hgm
          go_wp2_with fail
          have hnl16 : nl ≤ 16384 := by have := HLL.out; have := HNLL.out; omega
          go_loopg [216] nl (fun gg s216 wr => ∃ (k : Nat) (Dv : Value), k ≤ nl ∧ nl - k ≤ gg ∧ s216 = .int .i64 k ∧ Hid (MatAt wb gm level cell epoch wr (upTo n its l k) Dv))
          case atStart => exact ⟨0, _, Nat.zero_le _, by omega, rfl, HM5⟩
          case round =>
            obtain ⟨k, Dv, hk1, hgg3, rfl, HMA⟩ := hrel
            obtain ⟨wq, rfl⟩ : ∃ x : World, x = wr := ⟨_, rfl⟩
            have hbq : Below wb.heap.size wb wq := by rw [HGM.out]; exact HMA.out.below
            by_cases hltk : k < nl
            · have hltkz : (k : Int) < (nl : Int) := by omega
              have hwk : IntKind.i64.wrap ((k : Int) + 1) = ((k + 1 : Nat) : Int) := by rw [IntWalk.i64_in _ (by omega)]; omega
              have hkl2 : k < l.length := by rw [← HNLL.out]; exact hltk
              obtain ⟨lad, hlad, u0⟩ := Q.int_cell (Kd.C_below HLC.out hbq) k hkl2
              subst hlad
              have hvr := HLIN.out _ (get_mem hkl2)
              have HUPS := Lib.hid (upTo_step n its l k hkl2)
              obtain ⟨v, hv⟩ : ∃ v : Nat, l.getD k 0 = (v : Int) := ⟨_, (Int.toNat_of_nonneg hvr.1).symm⟩
              rw [hv] at u0 hvr HUPS
              rw [Int.toNat_natCast] at HUPS
              have hul := upTo_len n its l k
              have HSP := Lib.hid (spread_any n wq (HLB.out.below hbq) HOK.out hn1 hn2 (fun u => Nat.le_trans (linkF_len its u) HITS.out) v (by omega))
              obtain ⟨y0, -, -, -, -⟩ := HBOX.out wq (HBWB.out.trans (hbq.mono (by have := HGM.out; omega)))
              have hgmq : gm < wq.heap.size := lt_of_block HMA.out.box
              clear hbq hkl2 hv hvr
              go_upto_region 44 with (go_at_call 80; (with_reducible refine HSP.out.mono ?_); rintro e wd ⟨d, qd, rfl, hds, hqd, hdrow, hbd⟩; have HDS2 := Lib.hid hds; have HQD := Lib.hid hdrow; have HBD := Lib.hid hbd; clear hds hdrow hbd)
              have HM1 : Hid (MatAt wb gm level cell epoch wd (upTo n its l k) Dv) := Lib.hid ⟨(HBD.out.block gm hgmq).trans HMA.out.box, own_below HMA.out.row HBD.out, HMA.out.below.trans (HBD.out.mono (by omega))⟩
              have HDV : Hid (Dv.ownBlock ≠ some qd) := Lib.hid (fun h => by have := (HMA.out.row.lt qd h).2; omega)
              have HLOF : Hid (lOf n (linkF its) v = d) := Lib.hid (lOf_eq HDS2.out)
              have HDLN : Hid (d.length = n) := Lib.hid HDS2.out.len
              have HUPX : Hid (upTo n its l (k + 1) = upTo n its l k ++ rowOf d l) := Lib.hid (by rw [HUPS.out, HLOF.out])
              have hul2 : (upTo n its l k).length ≤ 1000000000 := by
                have h1 : k * l.length ≤ 16384 * 16384 := Nat.mul_le_mul (by omega) (by rw [← HNLL.out]; exact hnl16)
                omega
              generalize upTo n its l k = D at *
              clear u0 y0 HSP HMA hul
              go_wp2_with fail
              have HWK := Lib.hid hwk
              clear hwk
              go_loopg [227] nl (fun gg s227 wr => ∃ (j : Nat) (Dw : Value), j ≤ nl ∧ nl - j ≤ gg ∧ s227 = .int .i64 j ∧ Hid (MatAt wb gm level cell epoch wr (D ++ rowOf d (l.take j)) Dw) ∧ Hid (Dw.ownBlock ≠ some qd) ∧ Hid (wr.heap[qd]? = some (.cells (d.map (fun x : Nat => Value.int .u64 (x : Int))).toArray 43 (0, 0))) ∧ Hid (gm < wr.heap.size))
              case atStart => exact ⟨0, Dv, Nat.zero_le _, by omega, rfl, by simpa [rowOf] using HM1, HDV, HQD, Lib.hid (lt_of_block HM1.out.box)⟩
              case round =>
                obtain ⟨j, Dw, hj1, hgg4, rfl, HMK2, HDW, HQK, HGK⟩ := hrel
                by_cases hltj : j < nl
                · have hltjz : (j : Int) < (nl : Int) := by omega
                  have hwj : IntKind.i64.wrap ((j : Int) + 1) = ((j + 1 : Nat) : Int) := by rw [IntWalk.i64_in _ (by omega)]; omega
                  have hltl : j < l.length := by rw [← HNLL.out]; exact hltj
                  have hbw : Below wb.heap.size wb wr := by rw [HGM.out]; exact HMK2.out.below
                  obtain ⟨lad2, hlad2, x0⟩ := Q.int_cell (Kd.C_below HLC.out hbw) j hltl
                  cases hlad2
                  obtain ⟨hu0, hu1⟩ := HLIN.out _ (get_mem hltl)
                  obtain ⟨u, hu⟩ : ∃ u : Nat, l.getD j 0 = (u : Int) := ⟨_, (Int.toNat_of_nonneg hu0).symm⟩
                  have HTK : Hid (rowOf d (l.take (j + 1)) = rowOf d (l.take j) ++ [d.getD u 0]) := Lib.hid (by
                    unfold rowOf
                    rw [List.take_add_one, List.map_append]
                    have : l[j]? = some (l.getD j 0) := by rw [List.getD_eq_getElem?_getD, List.getElem?_eq_getElem hltl]; rfl
                    rw [this, hu]
                    simp)
                  rw [hu] at x0 hu1
                  have hud : u < d.length := by rw [HDLN.out]; omega
                  have huz : (u : Int) < (n : Int) := hu1
                  have y0 : wr.cell? ⟨qd, u, none⟩ = some (.int .u64 (d.getD u 0 : Nat)) := by
                    rw [cell_of_row _ _ u _ _ _ HQK.out]
                    simp [hud]
                  have m3 : wr.cell? ⟨gm, 3, none⟩ = some Dw := by rw [cell_of_row _ _ 3 _ _ _ HMK2.out.box]; rfl
                  have hrd := HMK2.out.row
                  have hqs : qd < wr.heap.size := lt_of_block HQK.out
                  have hgs := HGK.out
                  have hrl : (D ++ rowOf d (l.take j)).length ≤ 1000000000 + 16384 := by
                    simp only [List.length_append, rowOf, List.length_map, List.length_take]
                    omega
                  generalize hDK : D ++ rowOf d (l.take j) = DK at *
                  have HDK := Lib.hid hDK
                  clear hDK hbw hu0 hu hltl
                  generalize d.getD u 0 = du at *
                  go_upto_region 47 with fail
                  go_region_law (refine step_append_lies _ (by rfl) _ _ _ (by rfl) (gm + 1) 43 j0 _ 1 8 Tryz.underlying35 hj0 hy0 hy1 hy2 rfl (by omega) _ _ _ (by rfl) (((hrd).alloc _).drew) ⟨wr.heap.size, 0, none⟩ 1 1 [.int .u64 (du : Int)] (by rfl) (by rfl) (World.news_of_block (cs := #[.int .u64 (du : Int)]) (t := 43) (fr := (0, 0)) (heap_alloc_new wr _)) (by simp [Value.oneCell']) (by omega) (by unfold maxLen; omega) (by omega) (by simp; omega) (wr.heap.size + 1) (by simp) ?_; intro g9 cap3 w3 hown hgrow hat hlt3; have hT3 : w3.heap[gm]? = some (.cells #[.int .i64 level, .int .i64 cell, .int .i64 epoch, Dw] 37 (0, 0)) := ((hgrow.block gm (by simp; omega) (fun e => by have := (hrd.lt gm e.symm).1; omega)).trans (heap_alloc_old wr _ hgs)).trans HMK2.out.box; have cT3 : w3.cell? ⟨gm, 3, none⟩ = some Dw := (by rw [cell_of_row _ _ 3 _ _ _ hT3]; rfl); have fT3 : w3.frozen? ⟨gm, 3, none⟩ = false := (by simp [World.frozen?, hT3]); have HT3 := Lib.hid hT3; have HO3 := Lib.hid hown; have HG3 := Lib.hid hgrow; have HA3 := Lib.hid hat; clear hown hgrow hat hT3)
                  all_goals
                    go_wp2_with fail
                    have hggm : g9 ≠ gm := fun e => by
                      rcases HA3.out with h1 | h1
                      · have := (hrd.lt g9 h1).1; omega
                      · omega
                    have hT4 := heap_setCell_same w3 gm 3 _ _ (.slice (some ⟨g9, 0, none⟩) (DK.length + 1) cap3) HT3.out
                    have HWJ := Lib.hid hwj
                    clear hwj
                    go_roundg (nl - (j + 1))
                    case measure => omega
                    case rel =>
                      refine ⟨j + 1, _, by omega, Nat.le_refl _, rfl, Lib.hid ⟨hT4, ?_, ?_⟩, Lib.hid ?_, Lib.hid ?_, Lib.hid ?_⟩
                      · have e1 : D ++ rowOf d (l.take (j + 1)) = DK ++ [du] := by rw [HTK.out, ← List.append_assoc, HDK.out]
                        rw [e1, List.length_append]
                        have h5 : w3.ownsRow (gm + 1) 43 1 (.slice (some ⟨g9, 0, none⟩) (DK.length + 1) cap3) (DK.length + 1) (u64s DK ++ [.int .u64 (du : Int)]) := HO3.out
                        have e2 : u64s (DK ++ [du]) = u64s DK ++ [.int .u64 (du : Int)] := by simp [u64s]
                        rw [e2]
                        exact row_stays h5 (fun j hj => heap_setCell_other w3 ⟨gm, 3, none⟩ j _ (fun e => hggm (by simp [Value.ownBlock] at hj; rw [hj, e])))
                      · have hb5 : Below gm wb ((wr.alloc (.cells #[.int .u64 (du : Int)] 43)).drew) := (HMK2.out.below.alloc (by omega) _).drew
                        exact (Below.grown hb5 HG3.out (fun j hj => by have := (hrd.lt j hj).1; omega) (by simp; omega)).setCell (Nat.le_refl _) _
                      · simp only [Value.ownBlock]
                        intro e
                        injection e with e
                        rcases HA3.out with h1 | h1
                        · exact HDW.out (by rw [h1, e])
                        · omega
                      · rw [heap_setCell_other w3 ⟨gm, 3, none⟩ qd _ (by show qd ≠ gm; omega)]
                        exact ((HG3.out.block qd (by simp; omega) (fun e => HDW.out e.symm)).trans (heap_alloc_old wr _ hqs)).trans HQK.out
                      · have := HG3.out.size; simp at this ⊢; omega
                · have : j = nl := by omega
                  subst this
                  have hjz : ¬ (j : Int) < (j : Int) := by omega
                  have hwk := HWK.out
                  go_wp2_with fail
                  clear hwk
                  go_roundg (j - (k + 1))
                  case measure => omega
                  case rel =>
                    refine ⟨k + 1, Dw, by omega, Nat.le_refl _, rfl, ?_⟩
                    have e1 : D ++ rowOf d (l.take j) = upTo n its l (k + 1) := by rw [HUPX.out, HNLL.out, List.take_length]
                    rw [e1] at HMK2
                    exact HMK2
            · have : k = nl := by omega
              subst this
              have hkz3 : ¬ (k : Int) < (k : Int) := by omega
              rw [HNLL.out, upTo_all, ← HUD.out] at HMA
              obtain ⟨P9, m9, c9, rfl⟩ : ∃ P9 m9 c9, Dv = .slice P9 m9 c9 := by
                rcases HMA.out.row.2 with ⟨h, _⟩ | ⟨g, cap, cur, h, _⟩
                · exact ⟨_, _, _, h⟩
                · exact ⟨_, _, _, h⟩
              obtain ⟨-, -, -, -, hq9⟩ := HBOX.out wq (HBWB.out.trans (hbq.mono (by have := HGM.out; omega)))
              obtain ⟨x0, x1, x2, x3, xf⟩ := cells4 hq9
              obtain ⟨z0, z1, z2, z3, zf⟩ := cells4 HMA.out.box
              have HQ9 := Lib.hid hq9
              have hgmb : gx + 3 ≤ gm := by have := HGM.out; omega
              clear hq9 hbq
              go_wp2_with fail
              ((try simp only [Exit.inBlock, Exit.then]); refine bodyPost_ret (results_ct rfl _ _ (gx + 1 + 1) 37 #[.int .i64 level, .int .i64 cell, .int .i64 epoch, .slice P9 m9 c9] (0, 0) _ rfl (heap_set4 HQ9.out) Tryz.underlying37 rfl (by kernel_rfl)) rfl ?_)
              have hgx := HGX.out
              subst hgx
              refine ⟨_, rfl, leafV_mat ⟨_, rfl, ?_⟩, ?_⟩
              · have h5 := own_lower (B := w.heap.size) HMA.out.row (by omega)
                refine row_stays h5 (fun j' hj' => ?_)
                have h6 := (HMA.out.row.lt j' hj').1
                have h7 : ∀ (wx : World) (o : Nat) (u : Value), (wx.setCell ⟨w.heap.size + 1 + 1, o, none⟩ u).heap[j']? = wx.heap[j']? := fun wx o u => heap_setCell_other wx ⟨w.heap.size + 1 + 1, o, none⟩ j' u (by show j' ≠ w.heap.size + 1 + 1; omega)
                rw [h7, h7, h7, h7]
              · exact below_set4 (HBGB.out.trans (HMA.out.below.mono (by omega))) (by omega)

end Go.Proofs.YtjddimoeodecgaaGreat
