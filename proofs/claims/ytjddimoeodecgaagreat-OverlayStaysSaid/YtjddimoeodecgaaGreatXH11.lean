/- Overlays kept while another block turns; equal rows of matrices; the chapter's example in memory. -/
import Derived.BigQuiet
import Derived.BigRegion
import Derived.Test.YtjddimoeodecgaaGreatXH08
import Derived.Test.YtjddimoeodecgaaGreatXQx3
import Derived.Test.YtjddimoeodecgaaGreatXH10
import Derived.Deep.RegionHeld3
import Derived.StillTailTactics
import Derived.Deep.RegionLaw
import Derived.Test.YtjddimoeodecgaaGreatRows
import Derived.Test.YtjddimoeodecgaaGreatXH07
namespace Go.Proofs.YtjddimoeodecgaaGreat
open Go.RowKit Go.Lib Go.Maps Go.Proofs.YtjddimoeodecgaaGreatW.PrintWords Go.Proofs.YtjddimoeodecgaaGreatW.PrintLast Go.Proofs.YtjddimoeodecgaaGreatW.PrintMore
set_option linter.unusedVariables false
set_option maxRecDepth 100000

/-- An overlay stays while a block below it turns. -/
theorem Over.apart' {w w' : World} {B g ga : Nat} {vs : List Value} {pss : List (List (Mat × Value))} (h : Over w B g vs pss) (hg : w.grownBy w' (some ga)) (ha : ga < B) : Over w' B g vs pss := by
  have hne : ∀ b, B ≤ b → (some b : Option Nat) ≠ some ga := fun b hb e => by cases e; omega
  refine ⟨h.len, h.ge, (hg.block g h.lt (fun e => hne g h.ge e)).trans h.box, fun k hk => (h.rows k hk).kept hg ?_ (fun p hp hd => ?_), h.apG, h.apD, h.apR, h.apM⟩
  · cases hq : (vs.getD k nilV).ownBlock with
    | none => exact Or.inl rfl
    | some b => exact Or.inr (hne b ((h.rows k hk).row.lt b hq).1)
  · cases hq : p.2.ownBlock with
    | none => exact Or.inl rfl
    | some b => exact Or.inr (hne b ((((h.rows k hk).mats p hp).lt hd b hq).1))

/-- flyoverbook.SameMats of rows that say the same. -/
theorem sameMats_any (w : World) (ms : List Mat) (HA HB : Option Addr) (hc hd : Nat) (h1 : MatsC w HA ms) (h2 : MatsC w HB ms) (hl : ms.length ≤ 1024) (hD : ∀ i, i < ms.length → (ms.getD i zMat).D.length ≤ 268435456) :
    Calls Tryz.prog 43 #[.slice HA ms.length hc, .slice HB ms.length hd] w fun e w' => e = .returned (.bool true) ∧ Below w.heap.size w w' := by
  have H1 := Lib.hid h1
  have H2 := Lib.hid h2
  have HD := Lib.hid hD
  clear h1 h2 hD
  generalize hml : ms.length = ml at *
  have HML := Lib.hid hml
  clear hml
  go_enter Tryz.func43, Tryz.ntmps43
  go_wp2_with fail
  go_loopg [5] ml (fun gg s5 wr => ∃ k : Nat, k ≤ ml ∧ ml - k ≤ gg ∧ s5 = .int .i64 k ∧ Hid (Below w.heap.size w wr))
  case atStart => exact ⟨0, Nat.zero_le _, by omega, rfl, Lib.hid (Below.refl _ _)⟩
  case round =>
    obtain ⟨k, hk1, hgg, rfl, HB0⟩ := hrel
    obtain ⟨wm, rfl⟩ : ∃ x : World, x = wr := ⟨_, rfl⟩
    by_cases hlt : k < ml
    · have hltz : (k : Int) < (ml : Int) := by omega
      have hwk : IntKind.i64.wrap ((k : Int) + 1) = ((k + 1 : Nat) : Int) := by rw [IntWalk.i64_in _ (by omega)]; omega
      obtain ⟨g1, DP, dc, hHA, y0, y1, y2, y3, hdc, -, hkc, -⟩ := (H1.out.below HB0.out) k (by rw [HML.out]; exact hlt)
      obtain ⟨g2, EP, ec, hHB, z0, z1, z2, z3, hec, -, hkd, -⟩ := (H2.out.below HB0.out) k (by rw [HML.out]; exact hlt)
      subst hHA
      subst hHB
      have hdl := HD.out k hlt
      generalize ms.getD k zMat = M at *
      obtain ⟨lv, mc, ep, D⟩ := M
      simp only at y0 y1 y2 y3 z0 z1 z2 z3 hdc hec hkc hkd hdl
      have hnl := (natsI_u64 D).2
      have HSM : Hid (∀ wx : World, Below wm.heap.size wm wx → Calls Tryz.prog 32 #[.agg #[.int .i64 lv, .int .i64 mc, .int .i64 ep, .slice DP D.length dc], .agg #[.int .i64 lv, .int .i64 mc, .int .i64 ep, .slice EP D.length ec]] wx fun e w' => e = .returned (.bool true) ∧ Below wx.heap.size wx w') := Lib.hid (fun wx hb => by
        have h := Q.flyoverbook_SameMatrix.calls _ lv mc ep DP dc (Q.natsI D) lv mc ep EP ec (Q.natsI D) true wx (Kd.C_below hkc hb) (by rw [hnl]; exact hdc) (Kd.C_below hkd hb) (by rw [hnl]; exact hec) (Q.sameMatrix_refl lv mc ep (Q.natsI D) (by rw [hnl]; omega))
        rw [hnl] at h
        exact h)
      clear hkc hkd hnl hdl hdc hec
      go_upto_region 6 with fail
      have HBM := Lib.hid HB0.out.size
      go_cut [26] (fun s26 wx => s26 = .bool false ∧ Hid (Below w.heap.size w wx))
      case first =>
        have y0' : wm.drew.cell? ⟨g1, k * 4, none⟩ = some (.int .i64 lv) := y0
        have y1' : wm.drew.cell? ⟨g1, k * 4 + 1, none⟩ = some (.int .i64 mc) := y1
        have y2' : wm.drew.cell? ⟨g1, k * 4 + 2, none⟩ = some (.int .i64 ep) := y2
        have y3' : wm.drew.cell? ⟨g1, k * 4 + 3, none⟩ = some (.slice DP D.length dc) := y3
        have z0' : wm.drew.cell? ⟨g2, k * 4, none⟩ = some (.int .i64 lv) := z0
        have z1' : wm.drew.cell? ⟨g2, k * 4 + 1, none⟩ = some (.int .i64 mc) := z1
        have z2' : wm.drew.cell? ⟨g2, k * 4 + 2, none⟩ = some (.int .i64 ep) := z2
        have z3' : wm.drew.cell? ⟨g2, k * 4 + 3, none⟩ = some (.slice EP D.length ec) := z3
        go_region_with (go_at_call 32; (with_reducible refine (HSM.out _ (Below.drew (Below.refl _ _))).mono ?_); rintro e w5 ⟨rfl, hb5⟩; have HB5 : Hid (Below w.heap.size w w5) := Lib.hid (((HB0.out).drew).trans (hb5.mono HBM.out)); clear hb5)
        all_goals
          go_wp2_with fail
          go_meet
          exact ⟨by first | rfl | (simp; done), HB5⟩
      case rest =>
        obtain ⟨rfl, HC⟩ := hcut
        go_wp2_with fail
        have HWK := Lib.hid hwk
        clear hwk
        go_roundg (ml - (k + 1))
        case measure => omega
        case rel => exact ⟨k + 1, by omega, Nat.le_refl _, rfl, HC⟩
    · have : k = ml := by omega
      subst this
      have hkz : ¬ (k : Int) < (k : Int) := by omega
      go_wp2_with fail
      go_ret
      exact ⟨rfl, HB0.out⟩

/-- Rows of numbers, from the cells of their headers. -/
theorem rows_C (w : World) (g : Nat) (rows : List (List Int)) (h : ∀ j, j < rows.length → ∃ A c, w.cell? ⟨g, j, none⟩ = some (.slice A (rows.getD j []).length c) ∧ (rows.getD j []).length ≤ c ∧ Kd.C (Kd.int .i64) w A (rows.getD j []).length (rows.getD j [])) (hl : rows.length ≤ 1000000) : Kd.C (Kd.slice 3 (Kd.int .i64)) w (some ⟨g, 0, none⟩) rows.length rows := by
  refine ⟨rfl, by omega, fun _ => ⟨_, rfl, fun j p hj => ?_⟩⟩
  have hjl : j < rows.length := by
    rcases Nat.lt_or_ge j rows.length with h' | h'
    · exact h'
    · rw [List.getElem?_eq_none h'] at hj; cases hj
  have hp : rows.getD j [] = p := by rw [List.getD_eq_getElem?_getD, hj]; rfl
  obtain ⟨A, c, h1, h2, h3⟩ := h j hjl
  rw [hp] at h1 h2 h3
  refine ⟨[.slice A p.length c], rfl, ⟨A, c, rfl, h2, h3⟩, fun i u hu => ?_⟩
  match i, hu with
  | 0, hu =>
    simp at hu
    subst hu
    have e : ((⟨g, 0, none⟩ : Addr).add (j * (Kd.slice 3 (Kd.int .i64)).sz + 0)) = ⟨g, j, none⟩ := by
      rw [Nat.add_zero, show (Kd.slice 3 (Kd.int .i64)).sz = 1 from rfl, Nat.mul_one]
      unfold Addr.add
      split <;> simp_all
    rw [e]
    exact h1

/-- The example's arcs in memory. -/
theorem exArcs_at {w : World} {g x : Nat} {t : TypeId} (h : w.heap[g]? = some (.cells #[.int .i64 0, .int .i64 1, .int .u32 (x : Int), .int .i64 1, .int .i64 2, .int .u32 0, .int .i64 0, .int .i64 2, .int .u32 0] t (0, 0))) : ArcsAt w g (Q.exW x) := fun i hi => by
  have h3 : i < 3 := hi
  match i, h3 with
  | 0, _ => exact ⟨by simp [World.cell?, h]; rfl, by simp [World.cell?, h]; rfl, by simp [World.cell?, h]; rfl, by simp [World.frozen?, h]⟩
  | 1, _ => exact ⟨by simp [World.cell?, h]; rfl, by simp [World.cell?, h]; rfl, by simp [World.cell?, h]; rfl, by simp [World.frozen?, h]⟩
  | 2, _ => exact ⟨by simp [World.cell?, h]; rfl, by simp [World.cell?, h]; rfl, by simp [World.cell?, h]; rfl, by simp [World.frozen?, h]⟩
theorem exNest_in {w : World} {gb gr gc : Nat} {t1 t2 t3 : TypeId} (h1 : w.heap[gb]? = some (.cells #[.int .i64 2] t1 (0, 0))) (h2 : w.heap[gr]? = some (.cells #[.int .i64 0, .int .i64 0, .int .i64 1] t2 (0, 0))) (h3 : w.heap[gc]? = some (.cells #[.slice (some ⟨gr, 0, none⟩) 3 3] t3 (0, 0))) : NestIn w (some ⟨gb, 0, none⟩) 1 [2] (some ⟨gc, 0, none⟩) 1 [[0, 0, 1]] := by
  refine ⟨Q.ints_C w gb [2] (fun j hj => ?_) (by decide), by decide, rows_C w gc [[0, 0, 1]] (fun j hj => ?_) (by decide), by decide⟩
  · have h0 : j < 1 := hj
    match j, h0 with
    | 0, _ => simp [World.cell?, h1]
  · have h0 : j < 1 := hj
    match j, h0 with
    | 0, _ =>
      refine ⟨some ⟨gr, 0, none⟩, 3, by simp [World.cell?, h3], by decide, Q.ints_C w gr [0, 0, 1] (fun i hi => ?_) (by decide)⟩
      have h5 : i < 3 := hi
      match i, h5 with
      | 0, _ => simp [World.cell?, h2]
      | 1, _ => simp [World.cell?, h2]
      | 2, _ => simp [World.cell?, h2]
/-- Distances in a block. -/
theorem dists_C (w : World) (b : Nat) (l : List Int) (h : ∀ j, j < l.length → w.cell? ⟨b, j, none⟩ = some (.int .u64 (l.getD j 0))) (hl : l.length ≤ 1000000) : Kd.C (Kd.int .u64) w (some ⟨b, 0, none⟩) l.length l := by
  refine ⟨rfl, by omega, fun _ => ⟨_, rfl, fun j p hj => ?_⟩⟩
  have hjl : j < l.length := by
    rcases Nat.lt_or_ge j l.length with h' | h'
    · exact h'
    · rw [List.getElem?_eq_none h'] at hj; cases hj
  refine ⟨[.int .u64 p], rfl, rfl, fun i u hu => ?_⟩
  match i, hu with
  | 0, hu =>
    simp at hu
    subst hu
    have h1 := h j hjl
    rw [List.getD_eq_getElem?_getD, hj] at h1
    have e : ((⟨b, 0, none⟩ : Addr).add (j * (Kd.int .u64).sz + 0)) = ⟨b, j, none⟩ := by
      rw [Nat.add_zero, show (Kd.int .u64).sz = 1 from rfl, Nat.mul_one]
      unfold Addr.add
      split <;> simp_all
    rw [e]
    exact h1
namespace Q
theorem sameDists_refl (l : List Int) (hl : l.length ≤ 1000000000000) : flyoverbook_SameDists.f (l.length + 1) l l = some true := by
  unfold flyoverbook_SameDists.f
  have h : flyoverbook_SameDists.l0 (l.length + 1) l l 0 = some true := sameDists_loop l hl l.length _ 0 (by omega) (by omega)
  rw [if_pos rfl, h]
theorem large14_tot (N : Int) (arcs : List S95) : ∃ b, flyoverlaw14_large.f (arcs.length + 3) N arcs = some b := by
  obtain ⟨r, h⟩ := ref_tot N arcs
  unfold flyoverlaw14_large.f
  rw [h, Option.bind_some]
  split
  · split
    · exact ⟨_, rfl⟩
    · exact ⟨_, rfl⟩
  · exact ⟨_, rfl⟩
end Q

end Go.Proofs.YtjddimoeodecgaaGreat

/- The overlay chapter's example. -/
namespace Go.Proofs.YtjddimoeodecgaaGreat
open Go.RowKit Go.Lib Go.Maps Go.Proofs.YtjddimoeodecgaaGreatW.PrintWords Go.Proofs.YtjddimoeodecgaaGreatW.PrintLast Go.Proofs.YtjddimoeodecgaaGreatW.PrintMore
set_option linter.unusedVariables false
set_option maxRecDepth 100000

theorem heap_alloc_at (w : World) (o : Obj) (i : Nat) (h : i = w.heap.size) : (w.alloc o).heap[i]? = some o := by
  subst h
  exact heap_alloc_new w o
theorem six_boxes (w : World) (o1 o2 o3 o4 o5 o6 : Obj) : ((((((w.alloc o1).alloc o2).alloc o3).alloc o4).alloc o5).alloc o6).heap[w.heap.size]? = some o1 ∧ ((((((w.alloc o1).alloc o2).alloc o3).alloc o4).alloc o5).alloc o6).heap[w.heap.size + 1]? = some o2 ∧ ((((((w.alloc o1).alloc o2).alloc o3).alloc o4).alloc o5).alloc o6).heap[w.heap.size + 2]? = some o3 ∧ ((((((w.alloc o1).alloc o2).alloc o3).alloc o4).alloc o5).alloc o6).heap[w.heap.size + 3]? = some o4 ∧ ((((((w.alloc o1).alloc o2).alloc o3).alloc o4).alloc o5).alloc o6).heap[w.heap.size + 4]? = some o5 ∧ ((((((w.alloc o1).alloc o2).alloc o3).alloc o4).alloc o5).alloc o6).heap[w.heap.size + 5]? = some o6 ∧ ((((((w.alloc o1).alloc o2).alloc o3).alloc o4).alloc o5).alloc o6).heap.size = w.heap.size + 6 ∧ Below w.heap.size w ((((((w.alloc o1).alloc o2).alloc o3).alloc o4).alloc o5).alloc o6) := by
  refine ⟨?_, ?_, ?_, ?_, ?_, ?_, by simp, ?_⟩
  · rw [heap_alloc_old _ _ (by simp <;> omega), heap_alloc_old _ _ (by simp <;> omega), heap_alloc_old _ _ (by simp <;> omega), heap_alloc_old _ _ (by simp <;> omega), heap_alloc_old _ _ (by simp <;> omega), heap_alloc_new]
  · rw [heap_alloc_old _ _ (by simp <;> omega), heap_alloc_old _ _ (by simp <;> omega), heap_alloc_old _ _ (by simp <;> omega), heap_alloc_old _ _ (by simp <;> omega), heap_alloc_at _ _ _ (by simp)]
  · rw [heap_alloc_old _ _ (by simp <;> omega), heap_alloc_old _ _ (by simp <;> omega), heap_alloc_old _ _ (by simp <;> omega), heap_alloc_at _ _ _ (by simp)]
  · rw [heap_alloc_old _ _ (by simp <;> omega), heap_alloc_old _ _ (by simp <;> omega), heap_alloc_at _ _ _ (by simp)]
  · rw [heap_alloc_old _ _ (by simp <;> omega), heap_alloc_at _ _ _ (by simp)]
  · rw [heap_alloc_at _ _ _ (by simp)]
  · exact (((((((Below.refl _ w).alloc (Nat.le_refl _) _).alloc (by simp <;> omega) _).alloc (by simp <;> omega) _).alloc (by simp <;> omega) _).alloc (by simp <;> omega) _).alloc (by simp <;> omega) _)

/-- The example's graph and nest lie in memory. -/
structure ExIn (w : World) (ga x gb gr gc : Nat) : Prop where
  a : w.heap[ga]? = some (.cells #[.int .i64 0, .int .i64 1, .int .u32 (x : Int), .int .i64 1, .int .i64 2, .int .u32 0, .int .i64 0, .int .i64 2, .int .u32 0] 95 (0, 0))
  b : w.heap[gb]? = some (.cells #[.int .i64 2] 3 (0, 0))
  r : w.heap[gr]? = some (.cells #[.int .i64 0, .int .i64 0, .int .i64 1] 3 (0, 0))
  c : w.heap[gc]? = some (.cells #[.slice (some ⟨gr, 0, none⟩) 3 3] 25 (0, 0))
theorem ExIn.below {w w' : World} {ga x gb gr gc m : Nat} (h : ExIn w ga x gb gr gc) (hb : Below m w w') (h1 : ga < m) (h2 : gb < m) (h3 : gr < m) (h4 : gc < m) : ExIn w' ga x gb gr gc := ⟨(hb.block ga h1).trans h.a, (hb.block gb h2).trans h.b, (hb.block gr h3).trans h.r, (hb.block gc h4).trans h.c⟩
theorem ExIn.gn {w : World} {ga x gb gr gc : Nat} (h : ExIn w ga x gb gr gc) (hx : x < 4294967296) : GN w 3 (Q.exW x) (some ⟨ga, 0, none⟩) 3 (some ⟨gb, 0, none⟩) 1 [2] (some ⟨gc, 0, none⟩) 1 [[0, 0, 1]] :=
  ⟨Q.exW_ok x hx, (exArcs_at h.a).c (by show 3 ≤ 1000000; omega), by show 3 ≤ 3; omega, exNest_in h.b h.r h.c, by
    have h1 := Q.exW_check x hx
    show (Q.checkR 3 (Q.exW x) [2] [[0, 0, 1]]).2 = 0
    rw [h1]⟩

theorem exAll_any (w : World) (ga gb gr gc : Nat) (h : ExIn w ga 9 gb gr gc) :
    Calls Tryz.prog 37 #[.agg #[.int .i64 3, .slice (some ⟨ga, 0, none⟩) 3 3], .agg #[.slice (some ⟨gb, 0, none⟩) 1 1, .slice (some ⟨gc, 0, none⟩) 1 1], .int .i64 0] w fun e w' => ∃ g vs pss, e = .returned (.tuple #[.slice (some ⟨g, 0, none⟩) 1 1, .int .i64 0]) ∧ Over w' w.heap.size g vs pss ∧ pss.map (fun ps => ps.map (·.1)) = overO 3 (Q.exW 9) [[0, 0, 1]] 1 (fun _ _ => 0) ∧ Below w.heap.size w w' :=
  overAll_any 3 (Q.exW 9) (some ⟨ga, 0, none⟩) 3 (some ⟨gb, 0, none⟩) 1 [2] (some ⟨gc, 0, none⟩) 1 [[0, 0, 1]] w (h.gn (by omega)) 0 (by omega)
def exF : Nat → Nat → Nat := Q.fateF (Q.exW 4) [[0, 0, 1]] [0]
theorem exF_0 : exF 0 0 = 1 := by
  unfold exF Q.fateF Q.isStale
  rw [show ([[(0 : Int), 0, 1]]).getD 0 [] = [0, 0, 1] from rfl, Q.exW_stale 4]
  rfl
theorem exF_1 : exF 0 1 = 0 := by
  unfold exF Q.fateF Q.isStale
  rw [show ([[(0 : Int), 0, 1]]).getD 0 [] = [0, 0, 1] from rfl, Q.exW_stale 4]
  rfl
theorem exAnew : anewT exF (fun k => Q.manyOf (([[(0 : Int), 0, 1]]).getD k [])) 1 = 1 := by
  rw [anewT_step]
  have e : Q.manyOf (([[(0 : Int), 0, 1]]).getD 0 []) = 2 := Q.exW_many
  rw [show anewT exF (fun k => Q.manyOf (([[(0 : Int), 0, 1]]).getD k [])) 0 = 0 from rfl]
  show 0 + anewK exF 0 (Q.manyOf (([[(0 : Int), 0, 1]]).getD 0 [])) = 1
  rw [e, show (2 : Nat) = 0 + 1 + 1 from rfl, anewK_step, anewK_step, exF_0, exF_1]
  rfl
theorem exRenew_any (w : World) (ga gb gr gc go gi : Nat) (h : ExIn w ga 4 gb gr gc) (hO : OverIn w go (overO 3 (Q.exW 9) [[0, 0, 1]] 1 (fun _ _ => 0))) (hi : w.heap[gi]? = some (.cells #[.int .i64 0] 3 (0, 0))) :
    Calls Tryz.prog 42 #[.agg #[.int .i64 3, .slice (some ⟨ga, 0, none⟩) 3 3], .agg #[.slice (some ⟨gb, 0, none⟩) 1 1, .slice (some ⟨gc, 0, none⟩) 1 1], .slice (some ⟨go, 0, none⟩) 1 1, .slice (some ⟨gi, 0, none⟩) 1 1, .int .i64 1] w fun e w' => ∃ g vs pss, e = .returned (.tuple #[.slice (some ⟨g, 0, none⟩) 1 1, .int .i64 1, .int .i64 0]) ∧ Over w' w.heap.size g vs pss ∧ pss.map (fun ps => ps.map (·.1)) = overO 3 (Q.exW 4) [[0, 0, 1]] 1 (epF exF (fun _ _ => 0) 1) ∧ Below w.heap.size w w' := by
  have hII : Kd.C (Kd.int .i64) w (some ⟨gi, 0, none⟩) 1 [0] := Q.ints_C w gi [0] (fun j hj => by
    have h0 : j < 1 := hj
    match j, h0 with
    | 0, _ => simp [World.cell?, hi]) (by decide)
  have hse : Q.staleE (Q.exW 4) [0] = 0 := by decide
  have h1 := renew_any 3 (Q.exW 4) (some ⟨ga, 0, none⟩) 3 (some ⟨gb, 0, none⟩) 1 [2] (some ⟨gc, 0, none⟩) 1 [[0, 0, 1]] w (h.gn (by omega)) go 1 (overO 3 (Q.exW 9) [[0, 0, 1]] 1 (fun _ _ => 0)) hO
    (overO_ok (Q.exW_shape 9 4) (n := 3) [2] [[0, 0, 1]] (fun _ _ => 0) (fun k c _ _ => by omega)) (some ⟨gi, 0, none⟩) 1 [0] hII hse 1 (by omega) (overO_mem.2 (fun k c _ _ => by show (0 : Int) ≤ 1; omega)) (fun _ _ => 0) (fun k x hk hx h0 => by
      have hk1 : k < 1 := hk
      rw [overO_get _ _ hk1, overRow_get _ _ hx]
      have h2 := overM_kept (ep := fun _ _ => (0 : Int)) (epoch := 1) (Q.exW_ok 9 (by omega)) (Q.exW_ok 4 (by omega)) (Q.exW_shape 9 4) (Q.exW_but 9 4) (k := k) (c := x) (cells := [[0, 0, 1]]) (by
        have hk0 : k < 1 := hk
        obtain rfl : k = 0 := by omega
        rfl) h0
      unfold overM at h2 ⊢
      rw [epF_stays h0] at h2
      exact h2)
  have h3 : (overO 3 (Q.exW 9) [[0, 0, 1]] 1 (fun _ _ => 0)).length = 1 := overO_len _
  rw [h3] at h1
  have h4 : anewT (Q.fateF (Q.exW 4) [[0, 0, 1]] [0]) (fun k => Q.manyOf (([[(0 : Int), 0, 1]]).getD k [])) 1 = 1 := exAnew
  refine h1.mono ?_
  rintro e w' ⟨g, vs, pss, h5, h6, h7, h8⟩
  refine ⟨g, vs, pss, ?_, h6, h7, h8⟩
  rw [h5]
  show Ending.returned (.tuple #[_, .int .i64 ((anewT (Q.fateF (Q.exW 4) [[0, 0, 1]] [0]) (fun k => Q.manyOf (([[(0 : Int), 0, 1]]).getD k [])) 1 : Nat) : Int), _]) = _
  rw [h4]
  rfl

/-- The example's overlay, to be read. -/
theorem ex_read {w : World} {g x : Nat} {E : Nat → Nat → Int} (hx : x < 4294967296) (h : OverIn w g (overO 3 (Q.exW x) [[0, 0, 1]] 1 E)) : ∃ (A : Nat) (hc : Nat) (DP : Option Addr) (dc : Nat), w.cell? ⟨g, 0, none⟩ = some (.slice (some ⟨A, 0, none⟩) 2 hc) ∧ w.cell? ⟨A, 2, none⟩ = some (.int .i64 (E 0 0)) ∧ w.cell? ⟨A, 3, none⟩ = some (.slice DP 4 dc) ∧ 4 ≤ dc ∧ Kd.C (Kd.int .u64) w DP 4 [0, (x : Int), 18446744073709551615, 0] ∧ ∃ gd, DP = some ⟨gd, 0, none⟩ ∧ w.cell? ⟨gd, 1, none⟩ = some (.int .u64 (x : Int)) := by
  obtain ⟨HA, hc, h1, h2, h3⟩ := h 0 (by rw [overO_len]; omega)
  have e1 : (overO 3 (Q.exW x) [[0, 0, 1]] 1 E).getD 0 [] = overRow 3 (Q.exW x) [[0, 0, 1]] E 0 := overO_get _ _ (by omega)
  have e2 : (overRow 3 (Q.exW x) [[0, 0, 1]] E 0).length = 2 := by rw [overRow_len]; exact Q.exW_many
  have e3 : (overRow 3 (Q.exW x) [[0, 0, 1]] E 0).getD 0 zMat = ⟨1, 0, E 0 0, [0, x, infN, 0]⟩ := by
    rw [overRow_get 0 0 (by show 0 < Q.manyOf [0, 0, 1]; rw [Q.exW_many]; omega)]
    unfold overM
    show (⟨1, 0, E 0 0, Q.matOf 3 (Q.exW x) [0, 0, 1] 0⟩ : Mat) = _
    rw [Q.exW_mat x hx]
  rw [e1] at h1 h2 h3
  obtain ⟨A, DP, dc, h4, y0, y1, y2, y3, y4, -, y5, y6⟩ := h3 0 (by rw [e2]; omega)
  rw [e2, h4] at h1
  rw [e3] at y2 y3 y4 y5 y6
  obtain ⟨gd, h5, h6⟩ := y6 1 (by show 1 < 4; omega)
  exact ⟨A, hc, DP, dc, h1, y2, y3, y4, y5, gd, h5, h6⟩

set_option maxHeartbeats 8000000 in
theorem works14_any (w : World) : Calls Tryz.prog 35 #[] w fun e w' => e = .returned (.bool true) ∧ Below w.heap.size w w' := by
  obtain ⟨qa, qg, qb, qr, qc, qn, hsz, hb1⟩ := six_boxes w (.cells #[.int .i64 0, .int .i64 1, .int .u32 9, .int .i64 1, .int .i64 2, .int .u32 0, .int .i64 0, .int .i64 2, .int .u32 0] 95) (.cells #[.int .i64 3, .slice (some ⟨w.heap.size, 0, none⟩) 3 3] 24) (.cells #[.int .i64 2] 3) (.cells #[.int .i64 0, .int .i64 0, .int .i64 1] 3) (.cells #[.slice (some ⟨w.heap.size + 1 + 1 + 1, 0, none⟩) 3 3] 25) (.cells #[.slice (some ⟨w.heap.size + 1 + 1, 0, none⟩) 1 1, .slice (some ⟨w.heap.size + 1 + 1 + 1 + 1, 0, none⟩) 1 1] 28)
  rw [show w.heap.size + 2 = w.heap.size + 1 + 1 from rfl] at qb
  rw [show w.heap.size + 3 = w.heap.size + 1 + 1 + 1 from rfl] at qr
  rw [show w.heap.size + 4 = w.heap.size + 1 + 1 + 1 + 1 from rfl] at qc
  rw [show w.heap.size + 5 = w.heap.size + 1 + 1 + 1 + 1 + 1 from rfl] at qn
  go_enter Tryz.func35, Tryz.ntmps35
  go_upto_region 3 with fail
  generalize ((((((w.alloc (.cells #[.int .i64 0, .int .i64 1, .int .u32 9, .int .i64 1, .int .i64 2, .int .u32 0, .int .i64 0, .int .i64 2, .int .u32 0] 95)).alloc (.cells #[.int .i64 3, .slice (some ⟨w.heap.size, 0, none⟩) 3 3] 24)).alloc (.cells #[.int .i64 2] 3)).alloc (.cells #[.int .i64 0, .int .i64 0, .int .i64 1] 3)).alloc (.cells #[.slice (some ⟨w.heap.size + 1 + 1 + 1, 0, none⟩) 3 3] 25)).alloc (.cells #[.slice (some ⟨w.heap.size + 1 + 1, 0, none⟩) 1 1, .slice (some ⟨w.heap.size + 1 + 1 + 1 + 1, 0, none⟩) 1 1] 28)) = w1 at *
  have HB1 := Lib.hid hb1
  generalize hgn : w.heap.size + 1 + 1 + 1 + 1 + 1 = gn at *
  generalize hgc : w.heap.size + 1 + 1 + 1 + 1 = gc at *
  generalize hgr : w.heap.size + 1 + 1 + 1 = gr at *
  generalize hgb : w.heap.size + 1 + 1 = gb at *
  generalize hgg : w.heap.size + 1 = gg at *
  generalize hga : w.heap.size = ga at *
  have hex : ExIn w1 ga 9 gb gr gc := ⟨qa, qb, qr, qc⟩
  have HEX := Lib.hid hex
  have HGA := Lib.hid hga
  have HQG := Lib.hid qg
  have HQN := Lib.hid qn
  have hs : ga + 6 = w1.heap.size ∧ gg = ga + 1 ∧ gb = ga + 2 ∧ gr = ga + 3 ∧ gc = ga + 4 ∧ gn = ga + 5 := by omega
  have HS := Lib.hid hs
  clear hs
  have HBX : Hid (∀ wx : World, wx.heap[gg]? = some (.cells #[.int .i64 3, .slice (some ⟨ga, 0, none⟩) 3 3] 24 (0, 0)) → wx.heap[gn]? = some (.cells #[.slice (some ⟨gb, 0, none⟩) 1 1, .slice (some ⟨gc, 0, none⟩) 1 1] 28 (0, 0)) → wx.cell? ⟨gg, 0, none⟩ = some (.int .i64 3) ∧ wx.cell? ⟨gg, 1, none⟩ = some (.slice (some ⟨ga, 0, none⟩) 3 3) ∧ wx.cell? ⟨gn, 0, none⟩ = some (.slice (some ⟨gb, 0, none⟩) 1 1) ∧ wx.cell? ⟨gn, 1, none⟩ = some (.slice (some ⟨gc, 0, none⟩) 1 1)) := Lib.hid (fun wx h1 h2 => ⟨by rw [cell_of_row _ _ 0 _ _ _ h1]; rfl, by rw [cell_of_row _ _ 1 _ _ _ h1]; rfl, by rw [cell_of_row _ _ 0 _ _ _ h2]; rfl, by rw [cell_of_row _ _ 1 _ _ _ h2]; rfl⟩)
  have HAL := Lib.hid (exAll_any w1 ga gb gr gc hex)
  obtain ⟨x0, x1, x2, x3⟩ := HBX.out w1 qg qn
  clear hex hb1 qa qb qr qc qg qn hgn hgc hgr hgb hgg hga hsz
  go_upto_region 4 with (go_at_call 37; (with_reducible refine HAL.out.mono ?_); rintro e w2 ⟨go, vs, pss, rfl, hov, hps, hb⟩; have HOV := Lib.hid hov; have HPS := Lib.hid hps; have HB2 := Lib.hid hb; clear hov hps hb)
  clear x0 x1 x2 x3 HAL
  have hgo : w1.heap.size ≤ go := HOV.out.ge
  have HEX2 := Lib.hid (HEX.out.below HB2.out (by have := HS.out; omega) (by have := HS.out; omega) (by have := HS.out; omega) (by have := HS.out; omega))
  have HQG2 := Lib.hid ((HB2.out.block gg (by have := HS.out; omega)).trans HQG.out)
  have HQN2 := Lib.hid ((HB2.out.block gn (by have := HS.out; omega)).trans HQN.out)
  obtain ⟨x0, x1, x2, x3⟩ := HBX.out w2 HQG2.out HQN2.out
  have z2 : w2.cell? ⟨ga, 2, none⟩ = some (.int .u32 9) := by rw [cell_of_row _ _ 2 _ _ _ HEX2.out.a]; rfl
  have zf : w2.frozen? ⟨ga, 2, none⟩ = false := by simp [World.frozen?, HEX2.out.a]
  go_upto_region 5 with fail
  have hA3 : (w2.setCell ⟨ga, 2, none⟩ (.int .u32 4)).heap[ga]? = some (.cells #[.int .i64 0, .int .i64 1, .int .u32 ((4 : Nat) : Int), .int .i64 1, .int .i64 2, .int .u32 0, .int .i64 0, .int .i64 2, .int .u32 0] 95 (0, 0)) := by
    rw [heap_setCell_same w2 ga 2 _ _ (.int .u32 4) HEX2.out.a]
    rfl
  have hoth : ∀ b, b ≠ ga → (w2.setCell ⟨ga, 2, none⟩ (.int .u32 4)).heap[b]? = w2.heap[b]? := fun b hb => heap_setCell_other w2 ⟨ga, 2, none⟩ b _ hb
  have hex3 : ExIn (w2.setCell ⟨ga, 2, none⟩ (.int .u32 4)) ga 4 gb gr gc := ⟨hA3, (hoth gb (by have := HS.out; omega)).trans HEX2.out.b, (hoth gr (by have := HS.out; omega)).trans HEX2.out.r, (hoth gc (by have := HS.out; omega)).trans HEX2.out.c⟩
  have hq3 := (hoth gg (by have := HS.out; omega)).trans HQG2.out
  have hn3 := (hoth gn (by have := HS.out; omega)).trans HQN2.out
  have HOV3 := Lib.hid (HOV.out.apart' (grownBy_setCell w2 ga 2 (.int .u32 4)) (by have := HS.out; omega))
  have HB23 : Hid (Below ga w (w2.setCell ⟨ga, 2, none⟩ (.int .u32 4))) := Lib.hid ((HB1.out.trans (HB2.out.mono (by have := HS.out; omega))).setCell (by show ga ≤ ga; omega) _)
  have hs23 : w2.heap.size = (w2.setCell ⟨ga, 2, none⟩ (.int .u32 4)).heap.size := by simp
  clear x0 x1 x2 x3 z2 zf hA3 hoth HOV HEX HQG HQN HQG2 HQN2 HEX2
  generalize (w2.setCell ⟨ga, 2, none⟩ (.int .u32 4)) = w3 at *
  have hb4 : Below w3.heap.size w3 (w3.alloc (.cells #[.int .i64 0] 3)) := (Below.refl _ w3).alloc (Nat.le_refl _) _
  have hgi := heap_alloc_new w3 (.cells #[.int .i64 0] 3)
  have hw3 : w1.heap.size ≤ w3.heap.size := by have := HB2.out.size; omega
  have hex4 := hex3.below hb4 (by have := HS.out; omega) (by have := HS.out; omega) (by have := HS.out; omega) (by have := HS.out; omega)
  have HO3 := Lib.hid (by have h5 := HOV3.out.inn; rw [HPS.out] at h5; exact h5 : OverIn w3 go (overO 3 (Q.exW 9) [[0, 0, 1]] 1 (fun _ _ => 0)))
  have HO4 := Lib.hid (HO3.out.below hb4)
  have HRN := Lib.hid (exRenew_any _ ga gb gr gc go w3.heap.size hex4 HO4.out hgi)
  obtain ⟨x0, x1, x2, x3⟩ := HBX.out w3 hq3 hn3
  clear hb4 hgi hex4 hex3 hs23
  go_upto_region 6 with (go_at_call 42; (with_reducible refine HRN.out.mono ?_); rintro e w5 ⟨gr2, vs2, pss2, rfl, hov, hps, hb⟩; have HOV5 := Lib.hid hov; have HPS5 := Lib.hid hps; have HB45 := Lib.hid hb; clear hov hps hb)
  have HB5 : Hid (Below ga w w5) := Lib.hid (HB23.out.trans ((((Below.refl _ w3).alloc (Nat.le_refl _) _).trans (HB45.out.mono (by simp))).mono (by have := HB23.out.size; have := HGA.out; omega)))
  obtain ⟨OA, oc, DP, dc, o0, -, o3, o4, o5, -⟩ := ex_read (by omega) (HO4.out.below HB45.out)
  have HRI := HOV5.out.inn
  rw [HPS5.out] at HRI
  obtain ⟨RA, rc, EP, ec, r0, r2, r3, r4, -, gd, hEP, r5⟩ := ex_read (by omega) HRI
  rw [epF_anew (by rw [exF_0]; decide)] at r2
  subst hEP
  have hb6 : Below w5.heap.size w5 (w5.alloc (.cells #[.int .u64 0, .int .u64 9, .int .u64 18446744073709551615, .int .u64 0] 43)) := (Below.refl _ w5).alloc (Nat.le_refl _) _
  have hq6 := heap_alloc_new w5 (.cells #[.int .u64 0, .int .u64 9, .int .u64 18446744073709551615, .int .u64 0] 43)
  have hlit : Kd.C (Kd.int .u64) (w5.alloc (.cells #[.int .u64 0, .int .u64 9, .int .u64 18446744073709551615, .int .u64 0] 43)) (some ⟨w5.heap.size, 0, none⟩) 4 [0, ((9 : Nat) : Int), 18446744073709551615, 0] := dists_C _ _ [0, ((9 : Nat) : Int), 18446744073709551615, 0] (fun j hj => by
    have h4 : j < 4 := hj
    match j, h4 with
    | 0, _ => rw [cell_of_row _ _ 0 _ _ _ hq6]; rfl
    | 1, _ => rw [cell_of_row _ _ 1 _ _ _ hq6]; rfl
    | 2, _ => rw [cell_of_row _ _ 2 _ _ _ hq6]; rfl
    | 3, _ => rw [cell_of_row _ _ 3 _ _ _ hq6]; rfl) (by decide)
  have HSD : Hid (Calls Tryz.prog 50 #[.slice DP 4 dc, .slice (some ⟨w5.heap.size, 0, none⟩) 4 4] (w5.alloc (.cells #[.int .u64 0, .int .u64 9, .int .u64 18446744073709551615, .int .u64 0] 43)) fun e w' => e = .returned (.bool true) ∧ Below w5.heap.size w5 w') := Lib.hid (by
    have h := Q.flyoverbook_SameDists.calls _ DP dc [0, ((9 : Nat) : Int), 18446744073709551615, 0] (some ⟨w5.heap.size, 0, none⟩) 4 [0, ((9 : Nat) : Int), 18446744073709551615, 0] true _ (Kd.C_below o5 hb6) o4 hlit (Nat.le_refl _) (Q.sameDists_refl _ (by decide))
    refine h.mono ?_
    rintro e w' ⟨h1, h2⟩
    exact ⟨h1, hb6.trans (h2.below.mono hb6.size)⟩)
  have HR := Lib.hid (⟨r0, r2, r3, r5⟩ : w5.cell? ⟨gr2, 0, none⟩ = some (.slice (some ⟨RA, 0, none⟩) 2 rc) ∧ w5.cell? ⟨RA, 2, none⟩ = some (.int .i64 1) ∧ w5.cell? ⟨RA, 3, none⟩ = some (.slice (some ⟨gd, 0, none⟩) 4 ec) ∧ w5.cell? ⟨gd, 1, none⟩ = some (.int .u64 ((4 : Nat) : Int)))
  clear hb6 hq6 hlit o5 HRI r0 r2 r3 r5
  go_wp2_with (go_at_call 50; go_loud ((with_reducible refine HSD.out.mono ?_); rintro e w6 ⟨rfl, hb⟩; obtain ⟨q0, q2, q3, q5⟩ := HR.out; have r0 := (hb.cell (World.block_lt_of_cell? w5 _ q0)).trans q0; have r2 := (hb.cell (World.block_lt_of_cell? w5 _ q2)).trans q2; have r3 := (hb.cell (World.block_lt_of_cell? w5 _ q3)).trans q3; have r5 := (hb.cell (World.block_lt_of_cell? w5 _ q5)).trans q5; have HB56 := Lib.hid hb; clear hb q0 q2 q3 q5))
  go_ret
  have hga := HGA.out
  subst hga
  exact ⟨rfl, HB5.out.trans (HB56.out.mono (by have := HB5.out.size; omega))⟩

end Go.Proofs.YtjddimoeodecgaaGreat

/- OverlayStays' walk. -/
namespace Go.Proofs.YtjddimoeodecgaaGreat
open Go.RowKit Go.Lib Go.Maps Go.Proofs.YtjddimoeodecgaaGreatW.PrintWords Go.Proofs.YtjddimoeodecgaaGreatW.PrintLast Go.Proofs.YtjddimoeodecgaaGreatW.PrintMore
set_option linter.unusedVariables false
set_option maxRecDepth 100000

theorem overO_same {n : Nat} {arcs : List Q.S95} {cells : List (List Int)} {K : Nat} {ep ep' : Nat → Nat → Int} (h : ∀ k c, ep k c = ep' k c) : overO n arcs cells K ep = overO n arcs cells K ep' := by
  have e : ep = ep' := by funext k c; exact h k c
  rw [e]
theorem epF_const (f : Nat → Nat → Nat) (E : Int) (k c : Nat) : epF f (fun _ _ => E) E k c = E := by unfold epF; split <;> rfl

/-- What OverlayStays calls on a right graph and nest: the overlay, renewed by no arcs, and renewed by some. -/
theorem staysAll_any (n : Nat) (arcs : List Q.S95) (A : Option Addr) (c : Nat) (BA : Option Addr) (bc : Nat) (bounds : List Int) (CA : Option Addr) (cc : Nat) (cells : List (List Int)) (w : World) (h : GN w n arcs A c BA bc bounds CA cc cells) : Calls Tryz.prog 37 #[.agg #[.int .i64 (n : Int), .slice A arcs.length c], .agg #[.slice BA bounds.length bc, .slice CA cells.length cc], .int .i64 3] w fun e w' => ∃ g, e = .returned (.tuple #[.slice (some ⟨g, 0, none⟩) bounds.length bounds.length, .int .i64 0]) ∧ OverIn w' g (overO n arcs cells bounds.length (fun _ _ => 3)) ∧ Below w.heap.size w w' := by
  refine (overAll_any n arcs A c BA bc bounds CA cc cells w h 3 (by omega)).mono ?_
  rintro e w' ⟨g, vs, pss, h1, h2, h3, h4⟩
  have h5 := h2.inn
  rw [h3] at h5
  exact ⟨g, h1, h5, h4⟩
theorem staysRenew_any (n : Nat) (arcs : List Q.S95) (A : Option Addr) (c : Nat) (BA : Option Addr) (bc : Nat) (bounds : List Int) (CA : Option Addr) (cc : Nat) (cells : List (List Int)) (w : World) (h : GN w n arcs A c BA bc bounds CA cc cells) (go : Nat) (hO : OverIn w go (overO n arcs cells bounds.length (fun _ _ => 3))) (IA : Option Addr) (ic : Nat) (ids : List Int) (hi : Kd.C (Kd.int .i64) w IA ids.length ids) (hse : Q.staleE arcs ids = 0) :
    Calls Tryz.prog 42 #[.agg #[.int .i64 (n : Int), .slice A arcs.length c], .agg #[.slice BA bounds.length bc, .slice CA cells.length cc], .slice (some ⟨go, 0, none⟩) bounds.length bounds.length, .slice IA ids.length ic, .int .i64 3] w fun e w' => ∃ g, e = .returned (.tuple #[.slice (some ⟨g, 0, none⟩) bounds.length bounds.length, .int .i64 (anewT (Q.fateF arcs cells ids) (fun k => Q.manyOf (cells.getD k [])) bounds.length : Nat), .int .i64 0]) ∧ OverIn w' g (overO n arcs cells bounds.length (fun _ _ => 3)) ∧ Below w.heap.size w w' := by
  have hok := overO_ok (Shape.refl arcs) (n := n) bounds cells (fun _ _ => 3) (fun k c _ _ => by omega)
  have h1 := renew_any n arcs A c BA bc bounds CA cc cells w h go bounds.length _ hO hok IA ic ids hi hse 3 (by omega) (overO_mem.2 (fun k c _ _ => Int.le_refl _)) (fun _ _ => 3) (fun k x hk hx _ => by rw [overO_get _ _ hk, overRow_get _ _ hx])
  rw [overO_len, overO_same (epF_const _ 3)] at h1
  refine h1.mono ?_
  rintro e w' ⟨g, vs, pss, h1, h2, h3, h4⟩
  have h5 := h2.inn
  rw [h3] at h5
  exact ⟨g, h1, h5, h4⟩
theorem anew_none (arcs : List Q.S95) (cells : List (List Int)) (M : Nat → Nat) (K : Nat) : anewT (Q.fateF arcs cells []) M K = 0 := anewT_none _ M (fun k c => fateF_nil arcs cells k c) K

set_option maxHeartbeats 8000000 in
theorem stays_any (N : Int) (arcs : List Q.S95) (A : Option Addr) (c : Nat) (BA : Option Addr) (bc : Nat) (bounds : List Int) (CA : Option Addr) (cc : Nat) (cells : List (List Int)) (IA : Option Addr) (ic : Nat) (idx : List Int) (w : World)
    (hf : Q.ArcsFit arcs) (hr : Kd.C Q.k95 w A arcs.length arcs) (hc : arcs.length ≤ c) (hn : NestIn w BA bc bounds CA cc cells) (hi : Kd.C (Kd.int .i64) w IA idx.length idx) (hic : idx.length ≤ ic) :
    Calls Tryz.prog 8 #[.agg #[.int .i64 N, .slice A arcs.length c], .agg #[.slice BA bounds.length bc, .slice CA cells.length cc], .slice IA idx.length ic] w fun e w' => e = .returned (.bool true) ∧ Below w.heap.size w w' := by
  obtain ⟨c0, c1, n0, n1, hsz, hb1⟩ := two_boxes w (.int .i64 N) (.slice A arcs.length c) (.slice BA bounds.length bc) (.slice CA cells.length cc) 24 28
  have HWK1 : Hid (∀ wx : World, Calls Tryz.prog 35 #[] wx fun e w' => e = .returned (.bool true) ∧ Below wx.heap.size wx w') := Lib.hid works14_any
  obtain ⟨lb, hlb⟩ := Q.large14_tot N arcs
  have HLG : Hid (∀ wx : World, Below w.heap.size w wx → Calls Tryz.prog 34 #[.agg #[.int .i64 N, .slice A arcs.length c]] wx fun e w' => e = .returned (.bool lb) ∧ Below wx.heap.size wx w') := Lib.hid (fun wx hb => Q.flyoverlaw14_large.calls _ N A c arcs lb wx (Kd.C_below hr hb) hc hlb)
  have HF := Lib.hid hf
  have HR := Lib.hid hr
  have HC := Lib.hid hc
  have HN := Lib.hid hn
  have HI := Lib.hid hi
  clear hf hr hc hn hlb hi hic
  go_enter Tryz.func8, Tryz.ntmps8
  go_upto_region 1 with fail
  generalize ((w.alloc (.cells #[.int .i64 N, .slice A arcs.length c] 24)).alloc (.cells #[.slice BA bounds.length bc, .slice CA cells.length cc] 28)) = w1 at *
  have HB1 := Lib.hid hb1
  have hs1 : w.heap.size + 2 ≤ w1.heap.size := by omega
  generalize hgx : w.heap.size = gx at *
  have HGX := Lib.hid hgx
  have HBOX : Hid (∀ wx : World, Below w1.heap.size w1 wx → wx.cell? ⟨gx, 0, none⟩ = some (.int .i64 N) ∧ wx.cell? ⟨gx, 1, none⟩ = some (.slice A arcs.length c) ∧ wx.cell? ⟨gx + 1, 0, none⟩ = some (.slice BA bounds.length bc) ∧ wx.cell? ⟨gx + 1, 1, none⟩ = some (.slice CA cells.length cc) ∧ Below gx w wx) := Lib.hid (fun wx hb =>
    ⟨(hb.cell (p := ⟨gx, 0, none⟩) (by show gx < w1.heap.size; omega)).trans c0, (hb.cell (p := ⟨gx, 1, none⟩) (by show gx < w1.heap.size; omega)).trans c1, (hb.cell (p := ⟨gx + 1, 0, none⟩) (by show gx + 1 < w1.heap.size; omega)).trans n0, (hb.cell (p := ⟨gx + 1, 1, none⟩) (by show gx + 1 < w1.heap.size; omega)).trans n1, HB1.out.trans (hb.mono (by omega))⟩)
  clear hb1 hsz hgx
  go_upto_region 3 with (go_at_call 35; (with_reducible refine (HWK1.out _).mono ?_); rintro e w2 ⟨rfl, hb⟩; have HB2 := Lib.hid hb; clear hb)
  clear c0 c1 n0 n1 HWK1
  obtain ⟨x0, x1, x2, x3, hbw⟩ := HBOX.out w2 HB2.out
  have HLG2 := Lib.hid (HLG.out w2 hbw)
  clear hbw HLG
  cases lb with
  | true =>
    go_wp2_with (go_at_call 34; (with_reducible refine HLG2.out.mono ?_); rintro e w4 ⟨rfl, hb⟩; have HB4 := Lib.hid hb; clear hb)
    go_ret
    obtain ⟨-, -, -, -, hbw⟩ := HBOX.out w4 (HB2.out.trans (HB4.out.mono HB2.out.size))
    have hgx := HGX.out
    subst hgx
    exact ⟨rfl, hbw⟩
  | false =>
    go_upto_region 5 with (go_at_call 34; (with_reducible refine HLG2.out.mono ?_); rintro e w3 ⟨rfl, hb⟩; have HB3 : Hid (Below w1.heap.size w1 w3) := Lib.hid (HB2.out.trans (hb.mono HB2.out.size)); clear hb)
    clear x0 x1 x2 x3 HLG2 HB2
    obtain ⟨x0, x1, x2, x3, hbw⟩ := HBOX.out w3 HB3.out
    have hbw3 : Below w.heap.size w w3 := by rw [HGX.out]; exact hbw
    by_cases hck : (Q.checkR N arcs bounds cells).2 = 0
    · have HGNX : ∃ n : Nat, N = (n : Int) ∧ Q.GOk n arcs := by
        obtain ⟨⟨hN1, hG⟩, hNest⟩ := Q.checkR_ok HF.out hck
        exact ⟨N.toNat, (Int.toNat_of_nonneg (by omega)).symm, hG⟩
      obtain ⟨n, rfl, hG⟩ := HGNX
      have HGN : Hid (GN w n arcs A c BA bc bounds CA cc cells) := Lib.hid ⟨hG, HR.out, HC.out, HN.out, hck⟩
      have hb5 : bounds.length ≤ 5 := HGN.out.ok.b5
      have HALL := Lib.hid (staysAll_any n arcs A c BA bc bounds CA cc cells w3 (HGN.out.below hbw3))
      have HRN := Lib.hid (fun (go : Nat) (wx : World) (hb : Below gx w wx) (hO : OverIn wx go (overO n arcs cells bounds.length (fun _ _ => 3))) => by
        have hb' : Below w.heap.size w wx := by rw [HGX.out]; exact hb
        have h1 := staysRenew_any n arcs A c BA bc bounds CA cc cells wx (HGN.out.below hb') go hO none 0 [] (Q.ints_C_nil _ _) (by unfold Q.staleE; rfl)
        have e0 : ((0 : Nat) : Int) = 0 := rfl
        rw [anew_none, e0, List.length_nil] at h1
        exact h1)
      have HRI := Lib.hid (fun (hse : Q.staleE arcs idx = 0) (go : Nat) (wx : World) (hb : Below gx w wx) (hO : OverIn wx go (overO n arcs cells bounds.length (fun _ _ => 3))) => by
        have hb' : Below w.heap.size w wx := by rw [HGX.out]; exact hb
        exact staysRenew_any n arcs A c BA bc bounds CA cc cells wx (HGN.out.below hb') go hO IA ic idx (Kd.C_below HI.out hb') hse)
      have HRB := Lib.hid (fun (hse : ¬ Q.staleE arcs idx = 0) (go : Nat) (wx : World) (hb : Below gx w wx) (hO : OverIn wx go (overO n arcs cells bounds.length (fun _ _ => 3))) => by
        have hb' : Below w.heap.size w wx := by rw [HGX.out]; exact hb
        have h1 := renewBad_any n arcs A c BA bc bounds CA cc cells wx (HGN.out.below hb') go bounds.length _ hO (overO_ok (Shape.refl arcs) (n := n) bounds cells (fun _ _ => 3) (fun k c _ _ => by omega)) IA ic idx (Kd.C_below HI.out hb') hse 3
        rw [overO_len] at h1
        exact h1)
      have HROW : Hid (∀ k, k < bounds.length → ((overO n arcs cells bounds.length (fun _ _ => 3)).getD k []).length ≤ 1024 ∧ ∀ i, i < ((overO n arcs cells bounds.length (fun _ _ => 3)).getD k []).length → (((overO n arcs cells bounds.length (fun _ _ => 3)).getD k []).getD i zMat).D.length ≤ 268435456) := Lib.hid (fun k hk => by
        rw [overO_get _ _ hk]
        refine ⟨by rw [overRow_len]; exact (HGN.out.row k hk).2.2, fun i hi => ?_⟩
        rw [overRow_len] at hi
        rw [overRow_get _ _ hi]
        show (Q.matOf n arcs (cells.getD k []) (i : Int)).length ≤ _
        rw [matOf_len]
        have hm := HGN.out.g.m
        have h1 := Q.bnd_len arcs (cells.getD k []) (i : Int)
        have h2 : (Q.bndOf arcs (cells.getD k []) (i : Int)).length ≤ 16384 := by omega
        have h3 := Nat.mul_le_mul h2 h2
        omega)
      have HOLN : Hid ((overO n arcs cells bounds.length (fun _ _ => 3)).length = bounds.length) := Lib.hid (overO_len _)
      generalize overO n arcs cells bounds.length (fun _ _ => 3) = OO at *
      generalize anewT (Q.fateF arcs cells idx) (fun k => Q.manyOf (cells.getD k [])) bounds.length = an at *
      clear hbw hbw3 hck hG
      go_upto_region 8 with (go_at_call 37; (with_reducible refine HALL.out.mono ?_); rintro e w4 ⟨go, rfl, hov, hb⟩; have HO4 := Lib.hid hov; have HB34 := Lib.hid hb; have HB4 : Hid (Below w1.heap.size w1 w4) := Lib.hid (HB3.out.trans (hb.mono HB3.out.size)); clear hov hb)
      clear x0 x1 x2 x3 HALL
      obtain ⟨x0, x1, x2, x3, hbw⟩ := HBOX.out w4 HB4.out
      have HR4 := Lib.hid (HRN.out go w4 hbw HO4.out)
      clear hbw HRN
      go_upto_region 9 with (go_at_call 42; (with_reducible refine HR4.out.mono ?_); rintro e w5 ⟨ga, rfl, hov, hb⟩; have HA5 := Lib.hid hov; have HO5 := Lib.hid (HO4.out.below hb); have HB5 : Hid (Below w1.heap.size w1 w5) := Lib.hid (HB4.out.trans (hb.mono HB4.out.size)); clear hov hb)
      clear x0 x1 x2 x3 HR4
      obtain ⟨x0, x1, x2, x3, hbw⟩ := HBOX.out w5 HB5.out
      by_cases hse : Q.staleE arcs idx = 0
      · have HR5 := Lib.hid (HRI.out hse go w5 hbw HO5.out)
        clear hbw HRI HRB
        go_upto_region 10 with (go_at_call 42; (with_reducible refine HR5.out.mono ?_); rintro e w6 ⟨gb, rfl, hov, hb⟩; have HBV6 := Lib.hid hov; have HA6 := Lib.hid (HA5.out.below hb); have HO6 := Lib.hid (HO5.out.below hb); have HB6 : Hid (Below w1.heap.size w1 w6) := Lib.hid (HB5.out.trans (hb.mono HB5.out.size)); clear hov hb)
        clear x0 x1 x2 x3 HR5 HA5 HO5 HO4
        go_wp2_with fail
        go_loopg [63] bounds.length (fun gg s63 wr => ∃ k : Nat, k ≤ bounds.length ∧ bounds.length - k ≤ gg ∧ s63 = .int .i64 k ∧ Hid (Below w6.heap.size w6 wr))
        case atStart => exact ⟨0, Nat.zero_le _, by omega, rfl, Lib.hid (Below.refl _ _)⟩
        case round =>
          obtain ⟨k, hk1, hgg, rfl, HBR⟩ := hrel
          obtain ⟨wm, rfl⟩ : ∃ x : World, x = wr := ⟨_, rfl⟩
          by_cases hlt : k < bounds.length
          · have hltz : (k : Int) < (bounds.length : Int) := by omega
            have hwk : IntKind.i64.wrap ((k : Int) + 1) = ((k + 1 : Nat) : Int) := by rw [IntWalk.i64_in _ (by omega)]; omega
            obtain ⟨OA, oc, o1, -, o3⟩ := (HO6.out.below HBR.out) k (by rw [HOLN.out]; exact hlt)
            obtain ⟨PA, pc, p1, -, p3⟩ := (HA6.out.below HBR.out) k (by rw [HOLN.out]; exact hlt)
            obtain ⟨QA, qc, q1, -, q3⟩ := (HBV6.out.below HBR.out) k (by rw [HOLN.out]; exact hlt)
            obtain ⟨hr1, hr2⟩ := HROW.out k hlt
            have HSA : Hid (∀ wx : World, Below wm.heap.size wm wx → Calls Tryz.prog 43 #[.slice PA (OO.getD k []).length pc, .slice OA (OO.getD k []).length oc] wx fun e w' => e = .returned (.bool true) ∧ Below wx.heap.size wx w') := Lib.hid (fun wx hb => sameMats_any wx _ PA OA pc oc (p3.below hb) (o3.below hb) hr1 hr2)
            have HSB : Hid (∀ wx : World, Below wm.heap.size wm wx → Calls Tryz.prog 43 #[.slice QA (OO.getD k []).length qc, .slice OA (OO.getD k []).length oc] wx fun e w' => e = .returned (.bool true) ∧ Below wx.heap.size wx w') := Lib.hid (fun wx hb => sameMats_any wx _ QA OA qc oc (q3.below hb) (o3.below hb) hr1 hr2)
            clear hr1 hr2 o3 p3 q3
            generalize (OO.getD k []).length = rl at *
            have HCC : Hid (∀ wx : World, Below wm.heap.size wm wx → wx.cell? ⟨go, k, none⟩ = some (.slice OA rl oc) ∧ wx.cell? ⟨ga, k, none⟩ = some (.slice PA rl pc) ∧ wx.cell? ⟨gb, k, none⟩ = some (.slice QA rl qc)) := Lib.hid (fun wx hb => ⟨(hb.cell (World.block_lt_of_cell? wm _ o1)).trans o1, (hb.cell (World.block_lt_of_cell? wm _ p1)).trans p1, (hb.cell (World.block_lt_of_cell? wm _ q1)).trans q1⟩)
            clear o1 p1 q1
            go_upto_region 15 with fail
            go_cut [91] (fun s91 wx => s91 = .bool false ∧ Hid (Below wm.heap.size wm wx))
            case first =>
              obtain ⟨c0, c1, c2⟩ := HCC.out wm.drew (Below.drew (Below.refl _ _))
              go_region_held3 (fun w' => w'.cell? ⟨go, k, none⟩ = some (.slice OA rl oc) ∧ w'.cell? ⟨ga, k, none⟩ = some (.slice PA rl pc) ∧ w'.cell? ⟨gb, k, none⟩ = some (.slice QA rl qc)) (first | exact HCC.out _ (Below.refl _ _) | exact HCC.out _ (Below.drew (Below.refl _ _)) | exact HCC.out _ HBB.out | exact HCC.out _ HBA.out)
                (first
                  | (go_at_call 43; (with_reducible refine (HSA.out _ (Below.drew (Below.refl _ _))).mono ?_); rintro e wA ⟨rfl, hb⟩; have HBA : Hid (Below wm.heap.size wm wA) := Lib.hid ((Below.drew (Below.refl _ _)).trans hb); clear hb)
                  | (go_at_call 43; (with_reducible refine (HSB.out wA HBA.out).mono ?_); rintro e wB ⟨rfl, hb⟩; have HBB : Hid (Below wm.heap.size wm wB) := Lib.hid (HBA.out.trans (hb.mono HBA.out.size)); clear hb))
              all_goals
                go_wp2_with fail
                go_meet
                exact ⟨by first | rfl | (simp; done), HBB⟩
            case rest =>
              obtain ⟨rfl, HC⟩ := hcut
              go_wp2_with fail
              have HWK := Lib.hid hwk
              clear hwk
              go_roundg (bounds.length - (k + 1))
              case measure => omega
              case rel => exact ⟨k + 1, by omega, Nat.le_refl _, rfl, Lib.hid (HBR.out.trans (HC.out.mono HBR.out.size))⟩
          · have : k = bounds.length := by omega
            subst this
            have hkz : ¬ (bounds.length : Int) < (bounds.length : Int) := by omega
            go_wp2_with fail
            go_ret
            obtain ⟨-, -, -, -, hbw⟩ := HBOX.out wm (HB6.out.trans (HBR.out.mono HB6.out.size))
            have hgx := HGX.out
            subst hgx
            exact ⟨rfl, hbw⟩
      · have HR5 := Lib.hid (HRB.out hse go w5 hbw HO5.out)
        clear hbw HRI HRB
        go_upto_region 10 with (go_at_call 42; (with_reducible refine HR5.out.mono ?_); rintro e w6 ⟨⟨E, hE, rfl⟩, hb⟩; have HA6 := Lib.hid (HA5.out.below hb); have HO6 := Lib.hid (HO5.out.below hb); have HB6 : Hid (Below w1.heap.size w1 w6) := Lib.hid (HB5.out.trans (hb.mono HB5.out.size)); clear hb)
        have hEd : decide (E = 0) = false := decide_eq_false hE
        have hEb : (E == 0) = false := by simpa using hE
        clear x0 x1 x2 x3 HR5 HA5 HO5 HO4
        go_wp2_with fail
        go_loopg [63] bounds.length (fun gg s63 wr => ∃ k : Nat, k ≤ bounds.length ∧ bounds.length - k ≤ gg ∧ s63 = .int .i64 k ∧ Hid (Below w6.heap.size w6 wr))
        case atStart => exact ⟨0, Nat.zero_le _, by omega, rfl, Lib.hid (Below.refl _ _)⟩
        case round =>
          obtain ⟨k, hk1, hgg, rfl, HBR⟩ := hrel
          obtain ⟨wm, rfl⟩ : ∃ x : World, x = wr := ⟨_, rfl⟩
          by_cases hlt : k < bounds.length
          · have hltz : (k : Int) < (bounds.length : Int) := by omega
            have hwk : IntKind.i64.wrap ((k : Int) + 1) = ((k + 1 : Nat) : Int) := by rw [IntWalk.i64_in _ (by omega)]; omega
            obtain ⟨OA, oc, o1, -, o3⟩ := (HO6.out.below HBR.out) k (by rw [HOLN.out]; exact hlt)
            obtain ⟨PA, pc, p1, -, p3⟩ := (HA6.out.below HBR.out) k (by rw [HOLN.out]; exact hlt)
            obtain ⟨hr1, hr2⟩ := HROW.out k hlt
            have HSA : Hid (∀ wx : World, Below wm.heap.size wm wx → Calls Tryz.prog 43 #[.slice PA (OO.getD k []).length pc, .slice OA (OO.getD k []).length oc] wx fun e w' => e = .returned (.bool true) ∧ Below wx.heap.size wx w') := Lib.hid (fun wx hb => sameMats_any wx _ PA OA pc oc (p3.below hb) (o3.below hb) hr1 hr2)
            clear hr1 hr2 o3 p3
            generalize (OO.getD k []).length = rl at *
            have hwm : Below wm.heap.size wm wm.drew := Below.drew (Below.refl _ _)
            go_upto_region 15 with fail
            go_cut [91] (fun s91 wx => s91 = .bool false ∧ Hid (Below wm.heap.size wm wx))
            case first =>
              have c0 := (hwm.cell (World.block_lt_of_cell? wm _ o1)).trans o1
              have c1 := (hwm.cell (World.block_lt_of_cell? wm _ p1)).trans p1
              refine wp_region_held_drew (S := fun w' => w'.cell? ⟨go, k, none⟩ = some (.slice OA rl oc) ∧ w'.cell? ⟨ga, k, none⟩ = some (.slice PA rl pc)) (by kernel_rfl) ⟨c0, c1⟩ (fun hHeld => ?_)
              refine wpAnyH_take (i := 0) (oi := ({ dst := some 66, op := Op.move (Operand.tmp 9), type := 68, pos := "more.go:64", after := #[], guard := none } : Oper)) (v := ?v0) rfl (by kernel_rfl) (by kernel_rfl) (by kernel_rfl) (fun _ _ _ h => h) (Or.inl ⟨by rfl, ?h0⟩) hHeld ?r0
              case h0 => (intro w' hSw; (try dsimp only at hSw); go_simp; (try with_reducible rfl))
              (try simp only [Act.put, List.setIfInBounds_toArray, List.set_cons_zero, List.set_cons_succ])
              refine wpAnyH_take (i := 1) (oi := ({ dst := some 67, op := Op.move (Operand.tmp 15), type := 3, pos := "more.go:64", after := #[], guard := none } : Oper)) (v := ?v1) rfl (by kernel_rfl) (by kernel_rfl) (by kernel_rfl) (fun _ _ _ h => h) (Or.inl ⟨by rfl, ?h1⟩) hHeld ?r1
              case h1 => (intro w' hSw; (try dsimp only at hSw); go_simp; (try with_reducible rfl))
              (try simp only [Act.put, List.setIfInBounds_toArray, List.set_cons_zero, List.set_cons_succ])
              refine wpAnyH_take (i := 2) (oi := ({ dst := some 68, op := Op.indexAddr 68 (Operand.tmp 66) (Operand.tmp 67), type := 0, pos := "more.go:64", after := #[{ on := 0, ground := Ground.data }, { on := 1, ground := Ground.data }], guard := none } : Oper)) (v := ?v2) rfl (by kernel_rfl) (by kernel_rfl) (by kernel_rfl) (fun _ _ _ h => h) (Or.inl ⟨by rfl, ?h2⟩) hHeld ?r2
              case h2 => (intro w' hSw; (try dsimp only at hSw); go_simp; (try with_reducible rfl))
              (try simp only [Act.put, List.setIfInBounds_toArray, List.set_cons_zero, List.set_cons_succ])
              refine wpAnyH_take (i := 3) (oi := ({ dst := some 69, op := Op.load 30 (Operand.tmp 68), type := 30, pos := "more.go:64", after := #[{ on := 2, ground := Ground.data }], guard := none } : Oper)) (v := ?v3) rfl (by kernel_rfl) (by kernel_rfl) (by kernel_rfl) (fun _ _ _ h => h) (Or.inl ⟨by rfl, ?h3⟩) hHeld ?r3
              case h3 => (intro w' hSw; (try dsimp only at hSw); go_simp; (try with_reducible rfl))
              (try simp only [Act.put, List.setIfInBounds_toArray, List.set_cons_zero, List.set_cons_succ])
              refine wpAnyH_take (i := 4) (oi := ({ dst := some 70, op := Op.move (Operand.tmp 7), type := 68, pos := "more.go:64", after := #[], guard := none } : Oper)) (v := ?v4) rfl (by kernel_rfl) (by kernel_rfl) (by kernel_rfl) (fun _ _ _ h => h) (Or.inl ⟨by rfl, ?h4⟩) hHeld ?r4
              case h4 => (intro w' hSw; (try dsimp only at hSw); go_simp; (try with_reducible rfl))
              (try simp only [Act.put, List.setIfInBounds_toArray, List.set_cons_zero, List.set_cons_succ])
              refine wpAnyH_take (i := 5) (oi := ({ dst := some 71, op := Op.move (Operand.tmp 15), type := 3, pos := "more.go:64", after := #[], guard := none } : Oper)) (v := ?v5) rfl (by kernel_rfl) (by kernel_rfl) (by kernel_rfl) (fun _ _ _ h => h) (Or.inl ⟨by rfl, ?h5⟩) hHeld ?r5
              case h5 => (intro w' hSw; (try dsimp only at hSw); go_simp; (try with_reducible rfl))
              (try simp only [Act.put, List.setIfInBounds_toArray, List.set_cons_zero, List.set_cons_succ])
              refine wpAnyH_take (i := 6) (oi := ({ dst := some 72, op := Op.indexAddr 68 (Operand.tmp 70) (Operand.tmp 71), type := 0, pos := "more.go:64", after := #[{ on := 4, ground := Ground.data }, { on := 5, ground := Ground.data }], guard := none } : Oper)) (v := ?v6) rfl (by kernel_rfl) (by kernel_rfl) (by kernel_rfl) (fun _ _ _ h => h) (Or.inl ⟨by rfl, ?h6⟩) hHeld ?r6
              case h6 => (intro w' hSw; (try dsimp only at hSw); go_simp; (try with_reducible rfl))
              (try simp only [Act.put, List.setIfInBounds_toArray, List.set_cons_zero, List.set_cons_succ])
              refine wpAnyH_take (i := 7) (oi := ({ dst := some 73, op := Op.load 30 (Operand.tmp 72), type := 30, pos := "more.go:64", after := #[{ on := 6, ground := Ground.data }], guard := none } : Oper)) (v := ?v7) rfl (by kernel_rfl) (by kernel_rfl) (by kernel_rfl) (fun _ _ _ h => h) (Or.inl ⟨by rfl, ?h7⟩) hHeld ?r7
              case h7 => (intro w' hSw; (try dsimp only at hSw); go_simp; (try with_reducible rfl))
              (try simp only [Act.put, List.setIfInBounds_toArray, List.set_cons_zero, List.set_cons_succ])
              refine wpAnyH_ready (rs := [8]) (by kernel_rfl) (by simp) ?_
              refine AllReadyH.cons (o := ({ dst := some 74, op := Op.call { callee := Callee.value (Operand.func 43), args := #[Operand.tmp 69, Operand.tmp 73], argTypes := #[30, 30] }, type := 4, pos := "more.go:64", after := #[{ on := 3, ground := Ground.data }, { on := 7, ground := Ground.data }], guard := none } : Oper)) rfl (fun K hK => ?_) AllReadyH.nil
              go_simp
              go_at_call 43
              refine (HSA.out _ hwm).mono ?_
              rintro e wA ⟨rfl, hb⟩
              have HBA : Hid (Below wm.heap.size wm wA) := Lib.hid (hwm.trans hb)
              clear hb
              refine hK.out _ _ ⟨(HBA.out.cell (World.block_lt_of_cell? wm _ o1)).trans o1, (HBA.out.cell (World.block_lt_of_cell? wm _ p1)).trans p1⟩ (fun hHeld2 => ?_)
              clear hK K
              (try simp only [Act.put, List.setIfInBounds_toArray, List.set_cons_zero, List.set_cons_succ])
              refine wpAnyH_take (i := 9) (oi := ({ dst := some 75, op := Op.unOp UnOp.not 4 (Operand.tmp 74), type := 4, pos := "more.go:64", after := #[{ on := 8, ground := Ground.data }], guard := none } : Oper)) (v := ?v9) rfl (by kernel_rfl) (by kernel_rfl) (by kernel_rfl) (fun _ _ _ h => h) (Or.inl ⟨by rfl, ?h9⟩) hHeld2 ?r9
              case h9 => (intro w' hSw; (try dsimp only at hSw); go_simp; (try with_reducible rfl))
              (try simp only [Act.put, List.setIfInBounds_toArray, List.set_cons_zero, List.set_cons_succ])
              refine wpAnyH_take (i := 10) (oi := ({ dst := some 76, op := Op.move (Operand.tmp 75), type := 4, pos := "more.go:64", after := #[{ on := 9, ground := Ground.data }, { on := 8, ground := Ground.chain }], guard := none } : Oper)) (v := ?v10) rfl (by kernel_rfl) (by kernel_rfl) (by kernel_rfl) (fun _ _ _ h => h) (Or.inl ⟨by rfl, ?h10⟩) hHeld2 ?r10
              case h10 => (intro w' hSw; (try dsimp only at hSw); go_simp; (try with_reducible rfl))
              (try simp only [Act.put, List.setIfInBounds_toArray, List.set_cons_zero, List.set_cons_succ])
              refine wpAnyH_take (i := 11) (oi := ({ dst := some 77, op := Op.move (Operand.tmp 14), type := 38, pos := "more.go:64", after := #[{ on := 10, ground := Ground.guard }], guard := some (10, false) } : Oper)) (v := ?v11) rfl (by kernel_rfl) (by kernel_rfl) (by kernel_rfl) (fun _ _ _ h => h) (Or.inl ⟨by rfl, ?h11⟩) hHeld2 ?r11
              case h11 => (intro w' hSw; (try dsimp only at hSw); go_simp; (try with_reducible rfl))
              (try simp only [Act.put, List.setIfInBounds_toArray, List.set_cons_zero, List.set_cons_succ])
              refine wpAnyH_take (i := 12) (oi := ({ dst := some 78, op := Op.binOp BinOp.eql 38 (Operand.tmp 77) (Operand.const (Value.int IntKind.i64 0)) 38, type := 4, pos := "more.go:64", after := #[{ on := 11, ground := Ground.data }, { on := 10, ground := Ground.guard }], guard := some (10, false) } : Oper)) (v := ?v12) rfl (by kernel_rfl) (by kernel_rfl) (by kernel_rfl) (fun _ _ _ h => h) (Or.inl ⟨by rfl, ?h12⟩) hHeld2 ?r12
              case h12 => (intro w' hSw; (try dsimp only at hSw); go_simp; (try with_reducible rfl))
              (try simp only [Act.put, List.setIfInBounds_toArray, List.set_cons_zero, List.set_cons_succ])
              refine wpAnyH_take (i := 13) (oi := ({ dst := some 79, op := Op.move (Operand.tmp 78), type := 4, pos := "more.go:64", after := #[{ on := 12, ground := Ground.data }, { on := 10, ground := Ground.chain }, { on := 10, ground := Ground.guard }], guard := some (10, false) } : Oper)) (v := ?v13) rfl (by kernel_rfl) (by kernel_rfl) (by kernel_rfl) (fun _ _ _ h => h) (Or.inl ⟨by rfl, ?h13⟩) hHeld2 ?r13
              case h13 => (intro w' hSw; (try dsimp only at hSw); go_simp; (try with_reducible rfl))
              (try simp only [Act.put, List.setIfInBounds_toArray, List.set_cons_zero, List.set_cons_succ])
              refine wpAnyH_take (i := 14) (oi := ({ dst := some 80, op := Op.move (Operand.tmp 12), type := 68, pos := "more.go:64", after := #[{ on := 13, ground := Ground.guard }], guard := some (13, true) } : Oper)) (v := undef) rfl (by kernel_rfl) (by kernel_rfl) (by kernel_rfl) (fun _ _ _ h => h) (Or.inr ⟨by rfl, rfl⟩) hHeld2 ?_
              (try simp only [Act.put, List.setIfInBounds_toArray, List.set_cons_zero, List.set_cons_succ])
              refine wpAnyH_take (i := 15) (oi := ({ dst := some 81, op := Op.move (Operand.tmp 15), type := 3, pos := "more.go:64", after := #[{ on := 13, ground := Ground.guard }], guard := some (13, true) } : Oper)) (v := undef) rfl (by kernel_rfl) (by kernel_rfl) (by kernel_rfl) (fun _ _ _ h => h) (Or.inr ⟨by rfl, rfl⟩) hHeld2 ?_
              (try simp only [Act.put, List.setIfInBounds_toArray, List.set_cons_zero, List.set_cons_succ])
              refine wpAnyH_take (i := 16) (oi := ({ dst := some 82, op := Op.indexAddr 68 (Operand.tmp 80) (Operand.tmp 81), type := 0, pos := "more.go:64", after := #[{ on := 14, ground := Ground.data }, { on := 15, ground := Ground.data }, { on := 13, ground := Ground.guard }], guard := some (13, true) } : Oper)) (v := undef) rfl (by kernel_rfl) (by kernel_rfl) (by kernel_rfl) (fun _ _ _ h => h) (Or.inr ⟨by rfl, rfl⟩) hHeld2 ?_
              (try simp only [Act.put, List.setIfInBounds_toArray, List.set_cons_zero, List.set_cons_succ])
              refine wpAnyH_take (i := 17) (oi := ({ dst := some 83, op := Op.load 30 (Operand.tmp 82), type := 30, pos := "more.go:64", after := #[{ on := 16, ground := Ground.data }, { on := 13, ground := Ground.guard }], guard := some (13, true) } : Oper)) (v := undef) rfl (by kernel_rfl) (by kernel_rfl) (by kernel_rfl) (fun _ _ _ h => h) (Or.inr ⟨by rfl, rfl⟩) hHeld2 ?_
              (try simp only [Act.put, List.setIfInBounds_toArray, List.set_cons_zero, List.set_cons_succ])
              refine wpAnyH_take (i := 18) (oi := ({ dst := some 84, op := Op.move (Operand.tmp 7), type := 68, pos := "more.go:64", after := #[{ on := 13, ground := Ground.guard }], guard := some (13, true) } : Oper)) (v := undef) rfl (by kernel_rfl) (by kernel_rfl) (by kernel_rfl) (fun _ _ _ h => h) (Or.inr ⟨by rfl, rfl⟩) hHeld2 ?_
              (try simp only [Act.put, List.setIfInBounds_toArray, List.set_cons_zero, List.set_cons_succ])
              refine wpAnyH_take (i := 19) (oi := ({ dst := some 85, op := Op.move (Operand.tmp 15), type := 3, pos := "more.go:64", after := #[{ on := 13, ground := Ground.guard }], guard := some (13, true) } : Oper)) (v := undef) rfl (by kernel_rfl) (by kernel_rfl) (by kernel_rfl) (fun _ _ _ h => h) (Or.inr ⟨by rfl, rfl⟩) hHeld2 ?_
              (try simp only [Act.put, List.setIfInBounds_toArray, List.set_cons_zero, List.set_cons_succ])
              refine wpAnyH_take (i := 20) (oi := ({ dst := some 86, op := Op.indexAddr 68 (Operand.tmp 84) (Operand.tmp 85), type := 0, pos := "more.go:64", after := #[{ on := 18, ground := Ground.data }, { on := 19, ground := Ground.data }, { on := 13, ground := Ground.guard }], guard := some (13, true) } : Oper)) (v := undef) rfl (by kernel_rfl) (by kernel_rfl) (by kernel_rfl) (fun _ _ _ h => h) (Or.inr ⟨by rfl, rfl⟩) hHeld2 ?_
              (try simp only [Act.put, List.setIfInBounds_toArray, List.set_cons_zero, List.set_cons_succ])
              refine wpAnyH_take (i := 21) (oi := ({ dst := some 87, op := Op.load 30 (Operand.tmp 86), type := 30, pos := "more.go:64", after := #[{ on := 20, ground := Ground.data }, { on := 13, ground := Ground.guard }], guard := some (13, true) } : Oper)) (v := undef) rfl (by kernel_rfl) (by kernel_rfl) (by kernel_rfl) (fun _ _ _ h => h) (Or.inr ⟨by rfl, rfl⟩) hHeld2 ?_
              (try simp only [Act.put, List.setIfInBounds_toArray, List.set_cons_zero, List.set_cons_succ])
              refine wpAnyH_take (i := 22) (oi := ({ dst := some 88, op := Op.call { callee := Callee.value (Operand.func 43), args := #[Operand.tmp 83, Operand.tmp 87], argTypes := #[30, 30] }, type := 4, pos := "more.go:64", after := #[{ on := 17, ground := Ground.data }, { on := 21, ground := Ground.data }, { on := 13, ground := Ground.chain }, { on := 13, ground := Ground.guard }], guard := some (13, true) } : Oper)) (v := undef) rfl (by kernel_rfl) (by kernel_rfl) (by kernel_rfl) (fun _ _ _ h => h) (Or.inr ⟨by rfl, rfl⟩) hHeld2 ?_
              (try simp only [Act.put, List.setIfInBounds_toArray, List.set_cons_zero, List.set_cons_succ])
              refine wpAnyH_take (i := 23) (oi := ({ dst := some 89, op := Op.unOp UnOp.not 4 (Operand.tmp 88), type := 4, pos := "more.go:64", after := #[{ on := 22, ground := Ground.data }, { on := 13, ground := Ground.guard }], guard := some (13, true) } : Oper)) (v := undef) rfl (by kernel_rfl) (by kernel_rfl) (by kernel_rfl) (fun _ _ _ h => h) (Or.inr ⟨by rfl, rfl⟩) hHeld2 ?_
              (try simp only [Act.put, List.setIfInBounds_toArray, List.set_cons_zero, List.set_cons_succ])
              refine wpAnyH_take (i := 24) (oi := ({ dst := some 90, op := Op.pick (Operand.tmp 79) (Operand.tmp 89) (Operand.const (Value.bool false)), type := 4, pos := "more.go:64", after := #[{ on := 13, ground := Ground.data }, { on := 23, ground := Ground.data }, { on := 10, ground := Ground.guard }], guard := some (10, false) } : Oper)) (v := ?v24) rfl (by kernel_rfl) (by kernel_rfl) (by kernel_rfl) (fun _ _ _ h => h) (Or.inl ⟨by rfl, ?h24⟩) hHeld2 ?r24
              case h24 => (intro w' hSw; (try dsimp only at hSw); go_simp; (try with_reducible rfl))
              (try simp only [Act.put, List.setIfInBounds_toArray, List.set_cons_zero, List.set_cons_succ])
              refine wpAnyH_take (i := 25) (oi := ({ dst := some 91, op := Op.pick (Operand.tmp 76) (Operand.const (Value.bool true)) (Operand.tmp 90), type := 4, pos := "more.go:64", after := #[{ on := 10, ground := Ground.data }, { on := 24, ground := Ground.data }], guard := none } : Oper)) (v := ?v25) rfl (by kernel_rfl) (by kernel_rfl) (by kernel_rfl) (fun _ _ _ h => h) (Or.inl ⟨by rfl, ?h25⟩) hHeld2 ?r25
              case h25 => (intro w' hSw; (try dsimp only at hSw); go_simp; (try with_reducible rfl))
              (try simp only [Act.put, List.setIfInBounds_toArray, List.set_cons_zero, List.set_cons_succ])
              refine wpAnyH_done (by kernel_rfl) ?_ _
              go_wp2_with fail
              go_meet
              exact ⟨by first | rfl | (simp; done), HBA⟩
            case rest =>
              obtain ⟨rfl, HC⟩ := hcut
              go_wp2_with fail
              have HWK := Lib.hid hwk
              clear hwk
              go_roundg (bounds.length - (k + 1))
              case measure => omega
              case rel => exact ⟨k + 1, by omega, Nat.le_refl _, rfl, Lib.hid (HBR.out.trans (HC.out.mono HBR.out.size))⟩
          · have : k = bounds.length := by omega
            subst this
            have hkz : ¬ (bounds.length : Int) < (bounds.length : Int) := by omega
            go_wp2_with fail
            go_ret
            obtain ⟨-, -, -, -, hbw⟩ := HBOX.out wm (HB6.out.trans (HBR.out.mono HB6.out.size))
            have hgx := HGX.out
            subst hgx
            exact ⟨rfl, hbw⟩
    · have HAB := Lib.hid (allBad_any N arcs A c BA bc bounds CA cc cells w3 3 HF.out (Kd.C_below HR.out hbw3) HC.out (HN.out.below hbw3) hck)
      clear hbw hbw3 hck
      go_wp2_with (go_at_call 37; (with_reducible refine HAB.out.mono ?_); rintro e w4 ⟨⟨E, hE, rfl⟩, hb⟩; have HB4 : Hid (Below w1.heap.size w1 w4) := Lib.hid (HB3.out.trans (hb.mono HB3.out.size)); clear hb)
      go_ret
      obtain ⟨-, -, -, -, hbw⟩ := HBOX.out w4 HB4.out
      have hgx := HGX.out
      subst hgx
      exact ⟨rfl, hbw⟩

end Go.Proofs.YtjddimoeodecgaaGreat

/- OverlayStays, the given row: renewed by no arcs, or with weights as they were, an overlay says what it said. -/
namespace Go.Proofs.YtjddimoeodecgaaGreat
open Go.ChangeShapes Go.WideShapes Go.ChangeAt Go.RowKit Go.Proofs.YtjddimoeodecgaaGreatW.PrintWords Go.Proofs.YtjddimoeodecgaaGreatW.PrintLast
open Go.ChangeMaps (open_string shut_string)
set_option linter.unusedVariables false

set_option maxRecDepth 100000 in
theorem stays_lifted (os : Os) (started : os.Started) (H : Type) (enc : TypeId × Value → H) :
    ReturnsInHanded {} Tryz.checked os 8 .any (Rows.overlayStaysSpec.pre6 enc Tryz.prog Tryz.f8 Rows.overlayStaysRow.domain false) (Rows.overlayStaysSpec.post enc Tryz.prog Tryz.f8 false true false false) := by
  refine returnsInHanded_of_change_sized (C := Tryz.checked) own13h started (by kernel_rfl) Tryz.func8
    (ChangeSpec.witness6 (enc := enc) (C := Tryz.checked) false ⟨#[], #[.agg #[.int .i64 0, .slice none 0 0], .agg #[.slice none 0 0, .slice none 0 0], .slice none 0 0], []⟩ 8 (by kernel_rfl) (by kernel_rfl) (by kernel_rfl) (by kernel_rfl)) ?_
  intro W base args ds gs before hval0 hW hcnd hsz0 _
  have hsz : (DataW.weightsEach Tryz.prog (Tryz.f8.params.toList ++ Rows.overlayStaysSpec.plain.varTypes Tryz.prog) (ds ++ gs)).all (· ≤ reachBytes) = true := hsz0
  have hval : ∀ (j : Nat) t v, Tryz.f8.params[j]? = some t → args[j]? = some v → Value.okWide Tryz.prog W .any base t v := hval0
  have hW' := hW
  obtain ⟨p, q, hA0, hV, rfl, hfz, hnd⟩ := hW
  have hA : DataW.TrodAll enc Tryz.prog W 0 (fun _ => true) true Tryz.f8.params.toList args.toList ds p := hA0
  rw [Tryz.params8] at hA hval hsz
  obtain ⟨v0, vs0, d0, ds0, p0, q0, hargs, rfl, rfl, h0, r0⟩ := trodAll_cons hA
  obtain ⟨v1, vs1, d1, ds1, p1, q1, rfl, rfl, rfl, h1, r1⟩ := trodAll_cons r0
  obtain ⟨v2, vs2, d2, ds2, p2, q2, rfl, rfl, rfl, h2, r2⟩ := trodAll_cons r1
  obtain ⟨rfl, rfl, rfl⟩ := trodAll_nil r2
  obtain rfl : args = #[v0, v1, v2] := by cases args; simp_all
  obtain ⟨rfl, rfl⟩ := trodVars_none hV
  have k0 := h0
  have k1 := h1
  have k2 := h2
  have lt0 : ∀ x ∈ p0, x.block < W.heap.size := by obtain ⟨m, hm⟩ := k0; exact DataW.trod_lt m _ _ _ hm
  have lt1 : ∀ x ∈ p1, x.block < W.heap.size := by obtain ⟨m, hm⟩ := k1; exact DataW.trod_lt m _ _ _ hm
  have lt2 : ∀ x ∈ p2, x.block < W.heap.size := by obtain ⟨m, hm⟩ := k2; exact DataW.trod_lt m _ _ _ hm
  obtain ⟨x0, x1, y0, y1, n0, rfl, hd0, hp0, ha0, ha1⟩ := Go.Joins.open_agg2 Tryz.underlying24 (by kernel_rfl) (by kernel_rfl) (hval 0 24 v0 rfl rfl) h0
  obtain ⟨z0, z1, u0, u1, n1, rfl, hd1, hp1, hb0, hb1⟩ := Go.Joins.open_agg2 Tryz.underlying28 (by kernel_rfl) (by kernel_rfl) (hval 1 28 v1 rfl rfl) h1
  obtain ⟨n2, hi2⟩ := h2
  obtain ⟨IA0, IM0, IC0, rfl⟩ := okWide_slice Tryz.underlying25 (hval 2 25 v2 rfl rfl)
  have hi3 : DataW.trod enc Tryz.prog W 0 (fun _ => true) true n2 25 [.slice IA0 IM0 IC0] = some (d2, p2) := hi2
  obtain ⟨N, rfl⟩ := int_of ha0
  obtain ⟨A, c, arcs, rfl, hc, hr, hf⟩ := arcs_of ha1
  obtain ⟨BA, bc, bounds, rfl, hbc, hb, _⟩ := ints_of Tryz.underlying25 Tryz.underlying3 (by kernel_rfl) hb0
  obtain ⟨CA, cc, cells, rfl, hcc, hcl⟩ := rows_of hb1
  obtain ⟨IA, ic, idx, hix, hic, hi, _⟩ := ints_of Tryz.underlying25 Tryz.underlying3 (by kernel_rfl) hi3
  simp only [Value.slice.injEq] at hix
  obtain ⟨rfl, rfl, rfl⟩ := hix
  clear hA0 hval0 hsz0 hsz
  refine (stays_any N arcs A c BA bc bounds CA cc cells IA0 IC0 idx W hf hr hc ⟨hb, hbc, hcl, hcc⟩ hi hic).mono fun e W' ⟨he, bel⟩ => ?_
  subst he
  exact ⟨_, rfl, _, _, _, [], _, [], hW', trodAll_mk1 (shut_bool Tryz.underlying4 _), (trodAll_cons_mk (Below.trod laidOut13h (by kernel_rfl) (of_decide_eq_true (by kernel_rfl)) k0 bel lt0) (trodAll_cons_mk (Below.trod laidOut13h (by kernel_rfl) (of_decide_eq_true (by kernel_rfl)) k1 bel lt1) (trodAll_cons_mk (Below.trod laidOut13h (by kernel_rfl) (of_decide_eq_true (by kernel_rfl)) k2 bel lt2) trodAll_mk0))), rfl, bel.frame _, fun h => by cases h⟩

theorem overlayStays_holds : Rows.OverlayStaysSaid :=
  OpenClaim.holds_of_wide 8 Tryz.f8 rfl rfl rfl rfl rfl rfl rfl ⟨rfl, rfl, rfl, rfl, rfl⟩ rfl rfl rfl rfl rfl (by kernel_rfl) Tryz.func8 (by kernel_rfl)
    (of_decide_eq_true (by kernel_rfl)) (by unfold Func.isWrapper; first | (rw [if_pos (by decide +kernel)]; kernel_rfl) | (rw [if_neg (by decide +kernel)]; exact ⟨rfl, rfl⟩))
    (fun os started H enc _ => stays_lifted os started H enc)

#print axioms overlayStays_holds
end Go.Proofs.YtjddimoeodecgaaGreat
