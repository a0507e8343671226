/- Contracts over this seat's translation, written by a program (wip/prx.py); Lean checks them. -/
import Derived.Test.YtkakngnfbahhiaaDoorQx0
import Derived.Test.YtkakngnfbahhiaaDoorQx1
import Derived.Test.YtkakngnfbahhiaaDoorQx2
import Derived.Test.YtkakngnfbahhiaaDoorQAdd
import Derived.Test.YtkakngnfbahhiaaDoorQWorks
namespace Go.Proofs.YtkakngnfbahhiaaDoor.Q
open Go.RowKit Go.Proofs.YtkakngnfbahhiaaDoorW.PrintWords Go.Proofs.YtkakngnfbahhiaaDoorW.PrintLast Go.Proofs.YtkakngnfbahhiaaDoorW.PrintMore
attribute [local go_sem] max2_int min2_int max_two min_two max_three min_three max_four min_four   -- for this text's walks alone
set_option linter.unusedVariables false
set_option linter.unusedSimpArgs false

/-! ### flyoverlaw01_DistJoins: function 9 -/
mutual
def flyoverlaw01_DistJoins.j0 : Nat → List Int → Bool → Option (Bool)
  | 0, _, _ => none
  | k + 1, x5, x69 => if x69 = true then (some false) else ((dist_Least.f k x5).bind fun bt151 => (if (x5.length : Int) = 0 then (some (bt151.2.2 == 5)) else (flyoverlaw01_DistJoins.l0 k x5 bt151.1 bt151.2.1 bt151.2.2 x5 (x5.length : Int) 0)))
def flyoverlaw01_DistJoins.l0 : Nat → List Int → Int → Int → Int → List Int → Int → Int → Option (Bool)
  | 0, _, _, _, _, _, _, _ => none
  | k + 1, x5, x10, x11, x12, x81, x82, x83 => if x83 < x82 then (if 0 ≤ x83 then (if x83 < (x81.length : Int) then (if (rd x81 x83) < x11 then (some false) else (if (rd x81 x83) = x11 then (if x83 < x10 then (some false) else (flyoverlaw01_DistJoins.l0 k x5 x10 x11 x12 x81 x82 (wrap64 (x83 + 1)))) else (flyoverlaw01_DistJoins.l0 k x5 x10 x11 x12 x81 x82 (wrap64 (x83 + 1))))) else (none)) else (none)) else (if x12 = 0 then (if x10 ≥ 0 then (if x10 < (x5.length : Int) then (if 0 ≤ x10 then (some ((rd x5 x10) == x11)) else (none)) else (some false)) else (some false)) else (some false))
end
def flyoverlaw01_DistJoins.f (k : Nat) (l0 : List Int) (l1 : List Int) : Option (Bool) := (flyoverlaw01_works.f).bind fun t124 => (if t124 = true then (if (wrap64 ((l0.length : Int) + (l1.length : Int))) > 16384 then (some true) else ((some (([] : List Int) : List Int)).bind fun y125 => (if y125.length + l0.length < 17592186044416 then ((some (y125 ++ l0 : List Int)).bind fun y128 => (if y128.length + l1.length < 17592186044416 then ((some (y128 ++ l1 : List Int)).bind fun y131 => ((dist_Sums.f k l0).bind fun bt134 => ((dist_Sums.f k y131).bind fun bt138 => (if bt134.2 = 0 then (if bt138.2 = 0 then (if (bt138.1.length : Int) = (y131.length : Int) then (if 0 ≤ (l0.length : Int) then (if (l0.length : Int) ≤ (bt138.1.length : Int) then ((flyoverbook_SameDists.f k bt134.1 (bt138.1.take ((l0.length : Int) : Int).toNat)).bind fun t146 => (if t146 = true then ((dist_Sum.f k y131).bind fun t147 => ((dist_Sum.f k l0).bind fun t148 => ((dist_Sum.f k l1).bind fun t149 => ((dist_Add.f t148 t149).bind fun t150 => (flyoverlaw01_DistJoins.j0 k y131 (t147 != t150)))))) else (flyoverlaw01_DistJoins.j0 k y131 true))) else (none)) else (none)) else (flyoverlaw01_DistJoins.j0 k y131 true)) else (flyoverlaw01_DistJoins.j0 k y131 true)) else (flyoverlaw01_DistJoins.j0 k y131 true))))) else (none))) else (none)))) else (some false))
theorem flyoverlaw01_DistJoins.mono_l : ∀ k, (∀ y0 y1, LeO (flyoverlaw01_DistJoins.j0 k y0 y1) (flyoverlaw01_DistJoins.j0 (k + 1) y0 y1)) ∧ (∀ y0 y1 y2 y3 y4 y5 y6, LeO (flyoverlaw01_DistJoins.l0 k y0 y1 y2 y3 y4 y5 y6) (flyoverlaw01_DistJoins.l0 (k + 1) y0 y1 y2 y3 y4 y5 y6))
  | 0 => ⟨fun _ _ r h => by simp [flyoverlaw01_DistJoins.j0] at h, fun _ _ _ _ _ _ _ r h => by simp [flyoverlaw01_DistJoins.l0] at h⟩
  | k + 1 => by
    obtain ⟨ih0, ih1⟩ := flyoverlaw01_DistJoins.mono_l k
    refine ⟨?_, ?_⟩
    · intro y0 y1
      unfold flyoverlaw01_DistJoins.j0
      repeat' first
      | (with_reducible exact ih0 _ _)
      | (with_reducible exact ih1 _ _ _ _ _ _ _)
      | (with_reducible exact dist_Least.mono _ _)
      | (with_reducible exact dist_Sum.mono _ _)
      | (with_reducible exact dist_Sums.mono _ _)
      | (with_reducible exact flyoverbook_SameDists.mono _ _ _)
      | (with_reducible exact LeO.refl _)
      | (with_reducible exact LeO.none _)
      | (with_reducible refine LeO.ite ?_ ?_)
      | (with_reducible refine LeO.bind ?_ (fun _ => ?_))
      | exact ih0 _ _
      | exact ih1 _ _ _ _ _ _ _
      | exact dist_Least.mono _ _
      | exact dist_Sum.mono _ _
      | exact dist_Sums.mono _ _
      | exact flyoverbook_SameDists.mono _ _ _
      | exact LeO.none _
      | refine LeO.ite ?_ ?_
      | refine LeO.bind ?_ (fun _ => ?_)
    · intro y0 y1 y2 y3 y4 y5 y6
      unfold flyoverlaw01_DistJoins.l0
      repeat' first
      | (with_reducible exact ih0 _ _)
      | (with_reducible exact ih1 _ _ _ _ _ _ _)
      | (with_reducible exact dist_Least.mono _ _)
      | (with_reducible exact dist_Sum.mono _ _)
      | (with_reducible exact dist_Sums.mono _ _)
      | (with_reducible exact flyoverbook_SameDists.mono _ _ _)
      | (with_reducible exact LeO.refl _)
      | (with_reducible exact LeO.none _)
      | (with_reducible refine LeO.ite ?_ ?_)
      | (with_reducible refine LeO.bind ?_ (fun _ => ?_))
      | exact ih0 _ _
      | exact ih1 _ _ _ _ _ _ _
      | exact dist_Least.mono _ _
      | exact dist_Sum.mono _ _
      | exact dist_Sums.mono _ _
      | exact flyoverbook_SameDists.mono _ _ _
      | exact LeO.none _
      | refine LeO.ite ?_ ?_
      | refine LeO.bind ?_ (fun _ => ?_)
theorem flyoverlaw01_DistJoins.mono : ∀ a0 a1 k, LeO (flyoverlaw01_DistJoins.f k a0 a1) (flyoverlaw01_DistJoins.f (k + 1) a0 a1) := by
  intro a0 a1 k
  obtain ⟨ih0, ih1⟩ := flyoverlaw01_DistJoins.mono_l k
  unfold flyoverlaw01_DistJoins.f
  repeat' first
      | (with_reducible exact ih0 _ _)
      | (with_reducible exact ih1 _ _ _ _ _ _ _)
      | (with_reducible exact dist_Least.mono _ _)
      | (with_reducible exact dist_Sum.mono _ _)
      | (with_reducible exact dist_Sums.mono _ _)
      | (with_reducible exact flyoverbook_SameDists.mono _ _ _)
      | (with_reducible exact LeO.refl _)
      | (with_reducible exact LeO.none _)
      | (with_reducible refine LeO.ite ?_ ?_)
      | (with_reducible refine LeO.bind ?_ (fun _ => ?_))
      | exact ih0 _ _
      | exact ih1 _ _ _ _ _ _ _
      | exact dist_Least.mono _ _
      | exact dist_Sum.mono _ _
      | exact dist_Sums.mono _ _
      | exact flyoverbook_SameDists.mono _ _ _
      | exact LeO.none _
      | refine LeO.ite ?_ ?_
      | refine LeO.bind ?_ (fun _ => ?_)
set_option maxHeartbeats 8000000 in
set_option maxRecDepth 100000 in
theorem flyoverlaw01_DistJoins.calls (k : Nat) (A0 : Option Addr) (c0 : Nat) (l0 : List Int) (A1 : Option Addr) (c1 : Nat) (l1 : List Int) (r : Bool) (w : World) (hr0 : Kd.C (Kd.int .u64) w A0 l0.length l0) (hc0 : l0.length ≤ c0) (hr1 : Kd.C (Kd.int .u64) w A1 l1.length l1) (hc1 : l1.length ≤ c1) (hLw : Laid w) (h : flyoverlaw01_DistJoins.f k l0 l1 = some r) :
    Calls Tryd.prog 9 #[.slice A0 l0.length c0, .slice A1 l1.length c1] w fun e w' => e = .returned (.bool r) ∧ Below w.heap.size w w' := by
  have HLw := Aside0.mk hLw
  clear hLw
  have HR0 := Aside0.mk hr0
  have HC0 := Aside0.mk hc0
  clear hr0 hc0
  have HR1 := Aside0.mk hr1
  have HC1 := Aside0.mk hc1
  clear hr1 hc1
  have HB := Aside0.mk (Below.refl w.heap.size w)
  have H : ((flyoverlaw01_works.f).bind fun t124 => (if t124 = true then (if (wrap64 ((l0.length : Int) + (l1.length : Int))) > 16384 then (some true) else ((some (([] : List Int) : List Int)).bind fun y125 => (if y125.length + l0.length < 17592186044416 then ((some (y125 ++ l0 : List Int)).bind fun y128 => (if y128.length + l1.length < 17592186044416 then ((some (y128 ++ l1 : List Int)).bind fun y131 => ((dist_Sums.f k l0).bind fun bt134 => ((dist_Sums.f k y131).bind fun bt138 => (if bt134.2 = 0 then (if bt138.2 = 0 then (if (bt138.1.length : Int) = (y131.length : Int) then (if 0 ≤ (l0.length : Int) then (if (l0.length : Int) ≤ (bt138.1.length : Int) then ((flyoverbook_SameDists.f k bt134.1 (bt138.1.take ((l0.length : Int) : Int).toNat)).bind fun t146 => (if t146 = true then ((dist_Sum.f k y131).bind fun t147 => ((dist_Sum.f k l0).bind fun t148 => ((dist_Sum.f k l1).bind fun t149 => ((dist_Add.f t148 t149).bind fun t150 => (flyoverlaw01_DistJoins.j0 k y131 (t147 != t150)))))) else (flyoverlaw01_DistJoins.j0 k y131 true))) else (none)) else (none)) else (flyoverlaw01_DistJoins.j0 k y131 true)) else (flyoverlaw01_DistJoins.j0 k y131 true)) else (flyoverlaw01_DistJoins.j0 k y131 true))))) else (none))) else (none)))) else (some false))) = some r := h
  clear h
  replace H := Option.bind_eq_some_iff.mp H
  obtain ⟨t124, A30, H⟩ := H
  replace H : (if t124 = true then (if (wrap64 ((l0.length : Int) + (l1.length : Int))) > 16384 then (some true) else ((some (([] : List Int) : List Int)).bind fun y125 => (if y125.length + l0.length < 17592186044416 then ((some (y125 ++ l0 : List Int)).bind fun y128 => (if y128.length + l1.length < 17592186044416 then ((some (y128 ++ l1 : List Int)).bind fun y131 => ((dist_Sums.f k l0).bind fun bt134 => ((dist_Sums.f k y131).bind fun bt138 => (if bt134.2 = 0 then (if bt138.2 = 0 then (if (bt138.1.length : Int) = (y131.length : Int) then (if 0 ≤ (l0.length : Int) then (if (l0.length : Int) ≤ (bt138.1.length : Int) then ((flyoverbook_SameDists.f k bt134.1 (bt138.1.take ((l0.length : Int) : Int).toNat)).bind fun t146 => (if t146 = true then ((dist_Sum.f k y131).bind fun t147 => ((dist_Sum.f k l0).bind fun t148 => ((dist_Sum.f k l1).bind fun t149 => ((dist_Add.f t148 t149).bind fun t150 => (flyoverlaw01_DistJoins.j0 k y131 (t147 != t150)))))) else (flyoverlaw01_DistJoins.j0 k y131 true))) else (none)) else (none)) else (flyoverlaw01_DistJoins.j0 k y131 true)) else (flyoverlaw01_DistJoins.j0 k y131 true)) else (flyoverlaw01_DistJoins.j0 k y131 true))))) else (none))) else (none)))) else (some false)) = some r := H
  have A3 := Aside0.mk A30
  clear A30
  by_cases c4 : t124 = true
  · subst c4
    have H1 : (if (wrap64 ((l0.length : Int) + (l1.length : Int))) > 16384 then (some true) else ((some (([] : List Int) : List Int)).bind fun y125 => (if y125.length + l0.length < 17592186044416 then ((some (y125 ++ l0 : List Int)).bind fun y128 => (if y128.length + l1.length < 17592186044416 then ((some (y128 ++ l1 : List Int)).bind fun y131 => ((dist_Sums.f k l0).bind fun bt134 => ((dist_Sums.f k y131).bind fun bt138 => (if bt134.2 = 0 then (if bt138.2 = 0 then (if (bt138.1.length : Int) = (y131.length : Int) then (if 0 ≤ (l0.length : Int) then (if (l0.length : Int) ≤ (bt138.1.length : Int) then ((flyoverbook_SameDists.f k bt134.1 (bt138.1.take ((l0.length : Int) : Int).toNat)).bind fun t146 => (if t146 = true then ((dist_Sum.f k y131).bind fun t147 => ((dist_Sum.f k l0).bind fun t148 => ((dist_Sum.f k l1).bind fun t149 => ((dist_Add.f t148 t149).bind fun t150 => (flyoverlaw01_DistJoins.j0 k y131 (t147 != t150)))))) else (flyoverlaw01_DistJoins.j0 k y131 true))) else (none)) else (none)) else (flyoverlaw01_DistJoins.j0 k y131 true)) else (flyoverlaw01_DistJoins.j0 k y131 true)) else (flyoverlaw01_DistJoins.j0 k y131 true))))) else (none))) else (none)))) = some r := by rw [if_pos rfl] at H; exact H
    clear H
    have H := H1
    clear H1
    by_cases c5 : (wrap64 ((l0.length : Int) + (l1.length : Int))) > 16384
    · rw [if_pos c5] at H
      have c5b0 : decide (16384 < (wrap64 ((l0.length : Int) + (l1.length : Int)))) = true := decide_eq_true c5
      clear c5
      obtain rfl := Option.some.inj H
      go_enter Tryd.func9, Tryd.ntmps9
      go_wp2_with (first | ((with_reducible refine gate_callee (f := 15) rfl ?_); refine goesL_ (some 15) rfl rfl Tryd.func15 (by kernel_rfl) rfl #[] rfl (by (try simp only [List.map_toArray, List.map_cons, List.map_nil]); first | done | rfl | (simp only [List.length_drop, List.length_take]; rfl)) ?_; (with_reducible refine (flyoverlaw01_works.calls true _ A3.out ?sideLw).mono ?_); (case sideLw => exact HLw.out.stays (by repeat (first | (with_reducible first | exact HB.out | apply below_alloc | apply pw_below_drewN | apply below_drew1) | exact HB.out))); rintro e w6 ⟨rfl, hb⟩; refine ⟨_, rfl, ?_⟩; have n0_ := Aside0.mk (below_step (by repeat (first | (with_reducible first | exact HB.out | apply below_alloc | apply pw_below_drewN | apply below_drew1) | exact HB.out)) hb); clear HB; have HB := n0_; clear n0_; (try clear hb); (try clear hb2); (try clear hk); (try clear hi)))
      go_ret
      exact ⟨by first | rfl | (simp [errW_none, errW_some] <;> rfl) | (simp [*, errW_none, errW_some] <;> rfl), by repeat (first | (with_reducible first | exact HB.out | apply below_alloc | apply pw_below_drewN | apply below_drew1) | exact HB.out)⟩
    · rw [if_neg c5] at H
      have c5b0 : decide (16384 < (wrap64 ((l0.length : Int) + (l1.length : Int)))) = false := decide_eq_false c5
      clear c5
      obtain ⟨y125, hy125⟩ : ∃ y_ : List Int, y_ = (([] : List Int)) := ⟨_, rfl⟩
      replace H : (if y125.length + l0.length < 17592186044416 then ((some (y125 ++ l0 : List Int)).bind fun y128 => (if y128.length + l1.length < 17592186044416 then ((some (y128 ++ l1 : List Int)).bind fun y131 => ((dist_Sums.f k l0).bind fun bt134 => ((dist_Sums.f k y131).bind fun bt138 => (if bt134.2 = 0 then (if bt138.2 = 0 then (if (bt138.1.length : Int) = (y131.length : Int) then (if 0 ≤ (l0.length : Int) then (if (l0.length : Int) ≤ (bt138.1.length : Int) then ((flyoverbook_SameDists.f k bt134.1 (bt138.1.take ((l0.length : Int) : Int).toNat)).bind fun t146 => (if t146 = true then ((dist_Sum.f k y131).bind fun t147 => ((dist_Sum.f k l0).bind fun t148 => ((dist_Sum.f k l1).bind fun t149 => ((dist_Add.f t148 t149).bind fun t150 => (flyoverlaw01_DistJoins.j0 k y131 (t147 != t150)))))) else (flyoverlaw01_DistJoins.j0 k y131 true))) else (none)) else (none)) else (flyoverlaw01_DistJoins.j0 k y131 true)) else (flyoverlaw01_DistJoins.j0 k y131 true)) else (flyoverlaw01_DistJoins.j0 k y131 true))))) else (none))) else (none)) = some r := by first | (rw [hy125]; with_reducible exact H) | (have H2_ := (Option.bind_some _ _).symm.trans H; rw [hy125]; with_reducible exact H2_) | (have H2_ := (Option.bind_some _ _).symm.trans H; with_reducible exact H2_) | with_reducible exact H | (rw [hy125]; exact H) | exact H
      have Ny125 := Aside0.mk hy125
      clear hy125
      by_cases c7 : y125.length + l0.length < 17592186044416
      · rw [if_pos c7] at H
        have LMc7 := Aside0.mk c7
        clear c7
        obtain ⟨y128, hy128⟩ : ∃ y_ : List Int, y_ = (y125 ++ l0) := ⟨_, rfl⟩
        replace H : (if y128.length + l1.length < 17592186044416 then ((some (y128 ++ l1 : List Int)).bind fun y131 => ((dist_Sums.f k l0).bind fun bt134 => ((dist_Sums.f k y131).bind fun bt138 => (if bt134.2 = 0 then (if bt138.2 = 0 then (if (bt138.1.length : Int) = (y131.length : Int) then (if 0 ≤ (l0.length : Int) then (if (l0.length : Int) ≤ (bt138.1.length : Int) then ((flyoverbook_SameDists.f k bt134.1 (bt138.1.take ((l0.length : Int) : Int).toNat)).bind fun t146 => (if t146 = true then ((dist_Sum.f k y131).bind fun t147 => ((dist_Sum.f k l0).bind fun t148 => ((dist_Sum.f k l1).bind fun t149 => ((dist_Add.f t148 t149).bind fun t150 => (flyoverlaw01_DistJoins.j0 k y131 (t147 != t150)))))) else (flyoverlaw01_DistJoins.j0 k y131 true))) else (none)) else (none)) else (flyoverlaw01_DistJoins.j0 k y131 true)) else (flyoverlaw01_DistJoins.j0 k y131 true)) else (flyoverlaw01_DistJoins.j0 k y131 true))))) else (none)) = some r := by first | (rw [hy128]; with_reducible exact H) | (have H2_ := (Option.bind_some _ _).symm.trans H; rw [hy128]; with_reducible exact H2_) | (have H2_ := (Option.bind_some _ _).symm.trans H; with_reducible exact H2_) | with_reducible exact H | (rw [hy128]; exact H) | exact H
        have Ny128 := Aside0.mk hy128
        clear hy128
        by_cases c8 : y128.length + l1.length < 17592186044416
        · rw [if_pos c8] at H
          have LMc8 := Aside0.mk c8
          clear c8
          obtain ⟨y131, hy131⟩ : ∃ y_ : List Int, y_ = (y128 ++ l1) := ⟨_, rfl⟩
          replace H : ((dist_Sums.f k l0).bind fun bt134 => ((dist_Sums.f k y131).bind fun bt138 => (if bt134.2 = 0 then (if bt138.2 = 0 then (if (bt138.1.length : Int) = (y131.length : Int) then (if 0 ≤ (l0.length : Int) then (if (l0.length : Int) ≤ (bt138.1.length : Int) then ((flyoverbook_SameDists.f k bt134.1 (bt138.1.take ((l0.length : Int) : Int).toNat)).bind fun t146 => (if t146 = true then ((dist_Sum.f k y131).bind fun t147 => ((dist_Sum.f k l0).bind fun t148 => ((dist_Sum.f k l1).bind fun t149 => ((dist_Add.f t148 t149).bind fun t150 => (flyoverlaw01_DistJoins.j0 k y131 (t147 != t150)))))) else (flyoverlaw01_DistJoins.j0 k y131 true))) else (none)) else (none)) else (flyoverlaw01_DistJoins.j0 k y131 true)) else (flyoverlaw01_DistJoins.j0 k y131 true)) else (flyoverlaw01_DistJoins.j0 k y131 true)))) = some r := by first | (rw [hy131]; with_reducible exact H) | (have H2_ := (Option.bind_some _ _).symm.trans H; rw [hy131]; with_reducible exact H2_) | (have H2_ := (Option.bind_some _ _).symm.trans H; with_reducible exact H2_) | with_reducible exact H | (rw [hy131]; exact H) | exact H
          have Ny131 := Aside0.mk hy131
          clear hy131
          replace H := Option.bind_eq_some_iff.mp H
          obtain ⟨⟨t134, t135⟩, A90, H⟩ := H
          replace H : ((dist_Sums.f k y131).bind fun bt138 => (if t135 = 0 then (if bt138.2 = 0 then (if (bt138.1.length : Int) = (y131.length : Int) then (if 0 ≤ (l0.length : Int) then (if (l0.length : Int) ≤ (bt138.1.length : Int) then ((flyoverbook_SameDists.f k t134 (bt138.1.take ((l0.length : Int) : Int).toNat)).bind fun t146 => (if t146 = true then ((dist_Sum.f k y131).bind fun t147 => ((dist_Sum.f k l0).bind fun t148 => ((dist_Sum.f k l1).bind fun t149 => ((dist_Add.f t148 t149).bind fun t150 => (flyoverlaw01_DistJoins.j0 k y131 (t147 != t150)))))) else (flyoverlaw01_DistJoins.j0 k y131 true))) else (none)) else (none)) else (flyoverlaw01_DistJoins.j0 k y131 true)) else (flyoverlaw01_DistJoins.j0 k y131 true)) else (flyoverlaw01_DistJoins.j0 k y131 true))) = some r := H
          have A9 := Aside0.mk A90
          clear A90
          replace H := Option.bind_eq_some_iff.mp H
          obtain ⟨⟨t138, t139⟩, A100, H⟩ := H
          replace H : (if t135 = 0 then (if t139 = 0 then (if (t138.length : Int) = (y131.length : Int) then (if 0 ≤ (l0.length : Int) then (if (l0.length : Int) ≤ (t138.length : Int) then ((flyoverbook_SameDists.f k t134 (t138.take ((l0.length : Int) : Int).toNat)).bind fun t146 => (if t146 = true then ((dist_Sum.f k y131).bind fun t147 => ((dist_Sum.f k l0).bind fun t148 => ((dist_Sum.f k l1).bind fun t149 => ((dist_Add.f t148 t149).bind fun t150 => (flyoverlaw01_DistJoins.j0 k y131 (t147 != t150)))))) else (flyoverlaw01_DistJoins.j0 k y131 true))) else (none)) else (none)) else (flyoverlaw01_DistJoins.j0 k y131 true)) else (flyoverlaw01_DistJoins.j0 k y131 true)) else (flyoverlaw01_DistJoins.j0 k y131 true)) = some r := H
          have A10 := Aside0.mk A100
          clear A100
          have HC11 := Aside0.mk H
          clear H
          go_enter Tryd.func9, Tryd.ntmps9
          go_upto_region 8 with (first | ((with_reducible refine gate_callee (f := 15) rfl ?_); refine goesL_ (some 15) rfl rfl Tryd.func15 (by kernel_rfl) rfl #[] rfl (by (try simp only [List.map_toArray, List.map_cons, List.map_nil]); first | done | rfl | (simp only [List.length_drop, List.length_take]; rfl)) ?_; (with_reducible refine (flyoverlaw01_works.calls true _ A3.out ?sideLw).mono ?_); (case sideLw => exact HLw.out.stays (by repeat (first | (with_reducible first | exact HB.out | apply below_alloc | apply pw_below_drewN | apply below_drew1) | exact HB.out))); rintro e w12 ⟨rfl, hb⟩; refine ⟨_, rfl, ?_⟩; have n0_ := Aside0.mk (below_step (by repeat (first | (with_reducible first | exact HB.out | apply below_alloc | apply pw_below_drewN | apply below_drew1) | exact HB.out)) hb); clear HB; have HB := n0_; clear n0_; (try clear hb); (try clear hb2); (try clear hk); (try clear hi)) | ((with_reducible refine gate_dst (N := 23) rfl ?_); (try (refine gate_guard (by rfl) ?_; dsimp only)); refine Kd.R_lit (Kd.int .u64) _ 23 ?hg (N := 23) ?hd (xs := ([] : List Int)) (inner := []) (ok := fun _ => True) (okp := fun _ => True) ?hr ?hp (fun _ hk => hk) trivial (Below.refl _ _) (Nat.le_refl _) (by simp) ?_; (case hd => rfl); (case hg => rfl); (case hr => first | (go_simp; done) | (go_simp; rfl)); (case hp => exact (Reps.none _ _)); intro v126 w13 ho14 hb hg_ hnew_; clear hg_ hnew_; (first | rw [← Ny125.out] at ho14 | (simp only [Int.reduceToNat] at ho14; rw [← Ny125.out] at ho14)); have n0_ := Aside0.mk (Kd.R_lower ho14 (below_size (by repeat (first | (with_reducible first | exact HB.out | apply below_alloc | apply pw_below_drewN | apply below_drew1) | exact HB.out)))); have n1_ := Aside0.mk (below_step (by repeat (first | (with_reducible first | exact HB.out | apply below_alloc | apply pw_below_drewN | apply below_drew1) | exact HB.out)) hb); clear HB; have HO127 := n0_; have HB := n1_; clear n0_ n1_; clear hb ho14) | ((with_reducible refine gate_builtin (b := .append) (xs := #[.tmp 23, .tmp 24]) rfl ?_); (try (refine gate_guard (by rfl) ?_; dsimp only)); at_builtin; refine Kd.R_append_rows (Kd.int .u64) (w0 := w) w.heap.size rfl (.tmp 23) (.tmp 24) 40 23 (.int .u64 0) 8 rfl Tryd.underlying40 info23 rfl (by decide) (by omega) v126 y125 l0 _ _ _ (fun _ => True) (fun _ => False) rfl rfl ?aO ?aR (fun _ _ h => h) (fun _ h => h.elim) ?aF ?aB ?aS ?aL ?_; (case aR => repeat (first | exact (Kd.C_below HR0.out HB.out) | (with_reducible refine Kd.C_alloc ?_ _) | (with_reducible refine Kd.C_drewN ?_ _) | (with_reducible refine Kd.C_drew ?_))); (case aB => exact (by repeat (first | (with_reducible first | exact HB.out | apply below_alloc | apply pw_below_drewN | apply below_drew1) | exact HB.out))); (case aF => exact (fun _ _ => trivial)); (case aO => exact (by (with_reducible repeat (first | apply Kd.R_alloc | apply Kd.R_drewN | apply Kd.R_drew)); exact HO127.out)); (case aS => exact (below_size (by repeat (first | (with_reducible first | exact HB.out | apply below_alloc | apply pw_below_drewN | apply below_drew1) | exact HB.out)))); (case aL => have := LMc7.out; omega); intro v129 w15 ho hb hg hat; rw [← Ny128.out] at ho; have n0_ := Aside0.mk (hb); have n1_ := Aside0.mk (ho); clear HB; clear HO127; have HB := n0_; have HO130 := n1_; clear n0_ n1_; clear ho hb hg hat) | ((with_reducible refine gate_builtin (b := .append) (xs := #[.tmp 25, .tmp 26]) rfl ?_); (try (refine gate_guard (by rfl) ?_; dsimp only)); at_builtin; refine Kd.R_append_rows (Kd.int .u64) (w0 := w) w.heap.size rfl (.tmp 25) (.tmp 26) 40 23 (.int .u64 0) 8 rfl Tryd.underlying40 info23 rfl (by decide) (by omega) v129 y128 l1 _ _ _ (fun _ => True) (fun _ => False) rfl rfl ?aO ?aR (fun _ _ h => h) (fun _ h => h.elim) ?aF ?aB ?aS ?aL ?_; (case aR => repeat (first | exact (Kd.C_below HR1.out HB.out) | (with_reducible refine Kd.C_alloc ?_ _) | (with_reducible refine Kd.C_drewN ?_ _) | (with_reducible refine Kd.C_drew ?_))); (case aB => exact (by repeat (first | (with_reducible first | exact HB.out | apply below_alloc | apply pw_below_drewN | apply below_drew1) | exact HB.out))); (case aF => exact (fun _ _ => trivial)); (case aO => exact (by (with_reducible repeat (first | apply Kd.R_alloc | apply Kd.R_drewN | apply Kd.R_drew)); exact HO130.out)); (case aS => exact (below_size (by repeat (first | (with_reducible first | exact HB.out | apply below_alloc | apply pw_below_drewN | apply below_drew1) | exact HB.out)))); (case aL => have := LMc8.out; omega); intro v132 w16 ho hb hg hat; rw [← Ny131.out] at ho; have n0_ := Aside0.mk (hb); have n1_ := Aside0.mk (ho); clear HB; clear HO130; have HB := n0_; have HO133 := n1_; clear n0_ n1_; clear ho hb hg hat) | ((with_reducible refine gate_callee (f := 22) rfl ?_); refine goesL_ (some 30) rfl rfl Tryd.func22 (by kernel_rfl) rfl #[.slice A0 l0.length c0] rfl (by (try simp only [List.map_toArray, List.map_cons, List.map_nil]); first | done | rfl | (simp only [List.length_drop, List.length_take]; rfl)) ?_; (with_reducible refine (dist_Sums.calls k _ _ l0 t134 t135 _ ?side1 ?side2 A9.out).mono ?_); (case side1 => repeat (first | exact (Kd.C_below HR0.out HB.out) | (with_reducible refine Kd.C_alloc ?_ _) | (with_reducible refine Kd.C_drewN ?_ _) | (with_reducible refine Kd.C_drew ?_))); (case side2 => exact HC0.out); rintro e w17 ⟨v136, rfl, ho0, hb⟩; refine ⟨_, rfl, ?_⟩; have n0_ := Aside0.mk (Kd.R_elder' (by (with_reducible repeat (first | apply Kd.R_alloc | apply Kd.R_drewN | apply Kd.R_drew)); exact HO133.out) (Kd.R_base ho0) hb); have n1_ := Aside0.mk (Kd.R_lower (Kd.R_new' ho0 (Kd.R_lt (by (with_reducible repeat (first | apply Kd.R_alloc | apply Kd.R_drewN | apply Kd.R_drew)); exact HO133.out))) (below_size (by repeat (first | (with_reducible first | exact HB.out | apply below_alloc | apply pw_below_drewN | apply below_drew1) | exact HB.out)))); have n2_ := Aside0.mk (below_step (by repeat (first | (with_reducible first | exact HB.out | apply below_alloc | apply pw_below_drewN | apply below_drew1) | exact HB.out)) hb); clear HO133; clear HB; have HO133 := n0_; have HO137 := n1_; have HB := n2_; clear n0_ n1_ n2_; (try clear hb); (try clear hb2); (try clear hk); (try clear hi); (try clear ho0); obtain ⟨Ao18, co18, eo18⟩ := Kd.R_slice HO133.out; subst eo18) | ((with_reducible refine gate_callee (f := 22) rfl ?_); refine goesL_ (some 35) rfl rfl Tryd.func22 (by kernel_rfl) rfl #[.slice Ao18 y131.length co18] rfl (by (try simp only [List.map_toArray, List.map_cons, List.map_nil]); first | done | rfl | (simp only [List.length_drop, List.length_take]; rfl)) ?_; (with_reducible refine (dist_Sums.calls k _ _ y131 t138 t139 _ ?side1 ?side2 A10.out).mono ?_); (case side1 => repeat (first | exact (Kd.R_reads' HO133.out).2.2 | (with_reducible refine Kd.C_alloc ?_ _) | (with_reducible refine Kd.C_drewN ?_ _) | (with_reducible refine Kd.C_drew ?_))); (case side2 => exact (Kd.R_reads' HO133.out).2.1); rintro e w19 ⟨v140, rfl, ho0, hb⟩; refine ⟨_, rfl, ?_⟩; have n0_ := Aside0.mk (Kd.R_elder' (by (with_reducible repeat (first | apply Kd.R_alloc | apply Kd.R_drewN | apply Kd.R_drew)); exact HO133.out) (Kd.R_base ho0) hb); have n1_ := Aside0.mk (Kd.R_elder' (by (with_reducible repeat (first | apply Kd.R_alloc | apply Kd.R_drewN | apply Kd.R_drew)); exact HO137.out) (Kd.R_base ho0) hb); have n2_ := Aside0.mk (Kd.R_lower (Kd.R_new' (Kd.R_new' ho0 (Kd.R_lt (by (with_reducible repeat (first | apply Kd.R_alloc | apply Kd.R_drewN | apply Kd.R_drew)); exact HO133.out))) (Kd.R_lt (by (with_reducible repeat (first | apply Kd.R_alloc | apply Kd.R_drewN | apply Kd.R_drew)); exact HO137.out))) (below_size (by repeat (first | (with_reducible first | exact HB.out | apply below_alloc | apply pw_below_drewN | apply below_drew1) | exact HB.out)))); have n3_ := Aside0.mk (below_step (by repeat (first | (with_reducible first | exact HB.out | apply below_alloc | apply pw_below_drewN | apply below_drew1) | exact HB.out)) hb); clear HO133; clear HO137; clear HB; have HO133 := n0_; have HO137 := n1_; have HO141 := n2_; have HB := n3_; clear n0_ n1_ n2_ n3_; (try clear hb); (try clear hb2); (try clear hk); (try clear hi); (try clear ho0)))
          (try simp only [Act.put, List.setIfInBounds_toArray, List.set_cons_zero, List.set_cons_succ])
          go_cut [69] (fun v69 wc => ∃ (kq : Nat) (x69_10 : Bool), v69 = .bool x69_10 ∧ Aside0 (flyoverlaw01_DistJoins.j0 kq y131 x69_10 = some r) ∧ Aside0 (kq ≤ k) ∧ Aside0 (Kd.R (Kd.int .u64) 23 wc w.heap.size (fun _ => True) (.slice Ao18 y131.length co18) y131) ∧ Aside0 (Below w.heap.size w wc))
          case first =>
            have H := HC11.out
            clear HC11
            by_cases c20 : t135 = 0
            · rw [if_pos c20] at H
              have c20b0 : (t135 == 0) = true := beq_iff_eq.mpr c20
              have c20b1 : (t135 != 0) = false := bne_eq_false_iff_eq.mpr c20
              clear c20
              (first | rw [c20b0] | (simp only [i64_w, i32_w]; rw [c20b0]) | skip)
              by_cases c21 : t139 = 0
              · rw [if_pos c21] at H
                have c21b0 : (t139 == 0) = true := beq_iff_eq.mpr c21
                have c21b1 : (t139 != 0) = false := bne_eq_false_iff_eq.mpr c21
                clear c21
                by_cases c22 : (t138.length : Int) = (y131.length : Int)
                · rw [if_pos c22] at H
                  have c22b0 : ((t138.length : Int) == (y131.length : Int)) = true := beq_iff_eq.mpr c22
                  have c22b1 : ((t138.length : Int) != (y131.length : Int)) = false := bne_eq_false_iff_eq.mpr c22
                  have c22b2 : (t138.length == y131.length) = true := by first | simpa using c22 | (simp at c22 ⊢; omega)
                  clear c22
                  by_cases c23 : 0 ≤ (l0.length : Int)
                  · rw [if_pos c23] at H
                    have c23b0 := eq_true c23
                    have c23b1 : decide (0 ≤ (l0.length : Int)) = true := decide_eq_true c23
                    clear c23
                    by_cases c24 : (l0.length : Int) ≤ (t138.length : Int)
                    · rw [if_pos c24] at H
                      have c24b0 := eq_true c24
                      have c24b1 : decide ((l0.length : Int) ≤ (t138.length : Int)) = true := decide_eq_true c24
                      clear c24
                      obtain ⟨y142, hy142⟩ : ∃ y_ : List Int, y_ = (t138.take ((l0.length : Int) : Int).toNat) := ⟨_, rfl⟩
                      replace H : ((flyoverbook_SameDists.f k t134 y142).bind fun t146 => (if t146 = true then ((dist_Sum.f k y131).bind fun t147 => ((dist_Sum.f k l0).bind fun t148 => ((dist_Sum.f k l1).bind fun t149 => ((dist_Add.f t148 t149).bind fun t150 => (flyoverlaw01_DistJoins.j0 k y131 (t147 != t150)))))) else (flyoverlaw01_DistJoins.j0 k y131 true))) = some r := by first | (rw [hy142]; with_reducible exact H) | (have H2_ := (Option.bind_some _ _).symm.trans H; rw [hy142]; with_reducible exact H2_) | (have H2_ := (Option.bind_some _ _).symm.trans H; with_reducible exact H2_) | with_reducible exact H | (rw [hy142]; exact H) | exact H
                      have Ny142 := Aside0.mk hy142
                      clear hy142
                      replace H := Option.bind_eq_some_iff.mp H
                      obtain ⟨t146, A250, H⟩ := H
                      replace H : (if t146 = true then ((dist_Sum.f k y131).bind fun t147 => ((dist_Sum.f k l0).bind fun t148 => ((dist_Sum.f k l1).bind fun t149 => ((dist_Add.f t148 t149).bind fun t150 => (flyoverlaw01_DistJoins.j0 k y131 (t147 != t150)))))) else (flyoverlaw01_DistJoins.j0 k y131 true)) = some r := H
                      have A25 := Aside0.mk A250
                      clear A250
                      by_cases c26 : t146 = true
                      · subst c26
                        have H1 : ((dist_Sum.f k y131).bind fun t147 => ((dist_Sum.f k l0).bind fun t148 => ((dist_Sum.f k l1).bind fun t149 => ((dist_Add.f t148 t149).bind fun t150 => (flyoverlaw01_DistJoins.j0 k y131 (t147 != t150)))))) = some r := by rw [if_pos rfl] at H; exact H
                        clear H
                        have H := H1
                        clear H1
                        replace H := Option.bind_eq_some_iff.mp H
                        obtain ⟨t147, A270, H⟩ := H
                        replace H : ((dist_Sum.f k l0).bind fun t148 => ((dist_Sum.f k l1).bind fun t149 => ((dist_Add.f t148 t149).bind fun t150 => (flyoverlaw01_DistJoins.j0 k y131 (t147 != t150))))) = some r := H
                        have A27 := Aside0.mk A270
                        clear A270
                        replace H := Option.bind_eq_some_iff.mp H
                        obtain ⟨t148, A280, H⟩ := H
                        replace H : ((dist_Sum.f k l1).bind fun t149 => ((dist_Add.f t148 t149).bind fun t150 => (flyoverlaw01_DistJoins.j0 k y131 (t147 != t150)))) = some r := H
                        have A28 := Aside0.mk A280
                        clear A280
                        replace H := Option.bind_eq_some_iff.mp H
                        obtain ⟨t149, A290, H⟩ := H
                        replace H : ((dist_Add.f t148 t149).bind fun t150 => (flyoverlaw01_DistJoins.j0 k y131 (t147 != t150))) = some r := H
                        have A29 := Aside0.mk A290
                        clear A290
                        replace H := Option.bind_eq_some_iff.mp H
                        obtain ⟨t150, A300, H⟩ := H
                        replace H : (flyoverlaw01_DistJoins.j0 k y131 (t147 != t150)) = some r := H
                        have A30 := Aside0.mk A300
                        clear A300
                        have H' := Aside0.mk H
                        clear H
                        obtain ⟨Ao31, co31, eo31⟩ := Kd.R_slice HO141.out
                        subst eo31
                        have q32 : ((l0.length : Int) : Int) ≤ ((t138.length : Int) : Int) := of_decide_eq_true (by first | (with_reducible assumption) | assumption)
                        obtain ⟨i032, hi032, _, hsz32, _⟩ := info_parts info23
                        have hroom32 : t138.length ≤ co31 := (Kd.R_reads' HO141.out).2.1
                        have hC32 : Kd.C (Kd.int .u64) _ Ao31 t138.length t138 := (Kd.R_reads' HO141.out).2.2
                        have hcut32 := cut_to (P := Tryd.prog) 40 23 .i64 Tryd.underlying40 hi032 Ao31 t138.length co31 (l0.length : Int) (of_decide_eq_true (by first | (with_reducible assumption) | assumption)) q32 hroom32
                        have hr32 := Kd.C_take (m := ((l0.length : Int) : Int).toNat) hC32 (by omega)
                        have hy32 : y142.length = ((l0.length : Int) : Int).toNat := (by rw [Ny142.out, List.length_take]; omega)
                        rw [← Ny142.out] at hr32
                        rw [← hy32] at hcut32
                        have HR145 := Aside0.mk hr32
                        have HC145 := Aside0.mk (show y142.length ≤ co31 from by omega)
                        clear hr32 hC32 hroom32 hi032 hsz32
                        have KY32 := Aside0.mk hy32
                        clear hy32
                        have KL32 := Aside0.mk (show ((l0.length : Int) : Int).toNat ≤ t138.length from by omega)
                        replace q32 := eq_true q32
                        obtain ⟨Ao33, co33, eo33⟩ := Kd.R_slice HO137.out
                        subst eo33
                        go_wp2_with (first | (go_at_call 26; (with_reducible refine (flyoverbook_SameDists.calls k _ _ t134 _ _ y142 true _ ?side1 ?side2 ?side3 ?side4 A25.out).mono ?_); (case side1 => repeat (first | exact (Kd.R_reads' HO137.out).2.2 | (with_reducible refine Kd.C_alloc ?_ _) | (with_reducible refine Kd.C_drewN ?_ _) | (with_reducible refine Kd.C_drew ?_))); (case side2 => exact (Kd.R_reads' HO137.out).2.1); (case side3 => repeat (first | exact (by repeat (first | (with_reducible exact HR145.out) | (with_reducible refine Kd.C_alloc ?_ _) | (with_reducible refine Kd.C_drewN ?_ _) | (with_reducible refine Kd.C_drew ?_) | exact HR145.out)) | (with_reducible refine Kd.C_alloc ?_ _) | (with_reducible refine Kd.C_drewN ?_ _) | (with_reducible refine Kd.C_drew ?_))); (case side4 => exact HC145.out); rintro e w' ⟨rfl, ⟨nd, rfl⟩⟩) | (go_at_call 20; (with_reducible refine (dist_Sum.calls k _ _ y131 t147 _ ?side1 ?side2 A27.out).mono ?_); (case side1 => repeat (first | exact (Kd.R_reads' HO133.out).2.2 | (with_reducible refine Kd.C_alloc ?_ _) | (with_reducible refine Kd.C_drewN ?_ _) | (with_reducible refine Kd.C_drew ?_))); (case side2 => exact (Kd.R_reads' HO133.out).2.1); rintro e w' ⟨rfl, ⟨nd, rfl⟩⟩) | (go_at_call 20; (with_reducible refine (dist_Sum.calls k _ _ l0 t148 _ ?side1 ?side2 A28.out).mono ?_); (case side1 => repeat (first | exact (Kd.C_below HR0.out (by repeat (first | (with_reducible first | exact HB.out | apply below_alloc | apply pw_below_drewN | apply below_drew1) | exact HB.out))) | (with_reducible refine Kd.C_alloc ?_ _) | (with_reducible refine Kd.C_drewN ?_ _) | (with_reducible refine Kd.C_drew ?_))); (case side2 => exact HC0.out); rintro e w' ⟨rfl, ⟨nd, rfl⟩⟩) | (go_at_call 20; (with_reducible refine (dist_Sum.calls k _ _ l1 t149 _ ?side1 ?side2 A29.out).mono ?_); (case side1 => repeat (first | exact (Kd.C_below HR1.out (by repeat (first | (with_reducible first | exact HB.out | apply below_alloc | apply pw_below_drewN | apply below_drew1) | exact HB.out))) | (with_reducible refine Kd.C_alloc ?_ _) | (with_reducible refine Kd.C_drewN ?_ _) | (with_reducible refine Kd.C_drew ?_))); (case side2 => exact HC1.out); rintro e w' ⟨rfl, ⟨nd, rfl⟩⟩) | (go_at_call 13; (with_reducible refine (dist_Add.calls t148 t149 t150 _ A30.out).mono ?_); rintro e w' ⟨rfl, ⟨nd, rfl⟩⟩))
                        go_meet
                        case rel => exact ⟨_, ((t147 != t150)), (by first | rfl | (simp; done) | (simp [*]; done)), H', ⟨by first | omega | exact Nat.le_refl _⟩, ⟨by (with_reducible repeat (first | apply Kd.R_alloc | apply Kd.R_drewN | apply Kd.R_drew)); exact Kd.R_mono HO133.out (fun _ hk => trivial)⟩, ⟨by repeat (first | (with_reducible first | exact HB.out | apply below_alloc | apply pw_below_drewN | apply below_drew1) | exact HB.out)⟩⟩
                      · replace c26 := Bool.eq_false_iff.mpr c26
                        subst c26
                        have H1 : (flyoverlaw01_DistJoins.j0 k y131 true) = some r := by rw [if_neg (show ¬ (false = true) by decide)] at H; exact H
                        clear H
                        have H := H1
                        clear H1
                        have H' := Aside0.mk H
                        clear H
                        obtain ⟨Ao34, co34, eo34⟩ := Kd.R_slice HO141.out
                        subst eo34
                        have q35 : ((l0.length : Int) : Int) ≤ ((t138.length : Int) : Int) := of_decide_eq_true (by first | (with_reducible assumption) | assumption)
                        obtain ⟨i035, hi035, _, hsz35, _⟩ := info_parts info23
                        have hroom35 : t138.length ≤ co34 := (Kd.R_reads' HO141.out).2.1
                        have hC35 : Kd.C (Kd.int .u64) _ Ao34 t138.length t138 := (Kd.R_reads' HO141.out).2.2
                        have hcut35 := cut_to (P := Tryd.prog) 40 23 .i64 Tryd.underlying40 hi035 Ao34 t138.length co34 (l0.length : Int) (of_decide_eq_true (by first | (with_reducible assumption) | assumption)) q35 hroom35
                        have hr35 := Kd.C_take (m := ((l0.length : Int) : Int).toNat) hC35 (by omega)
                        have hy35 : y142.length = ((l0.length : Int) : Int).toNat := (by rw [Ny142.out, List.length_take]; omega)
                        rw [← Ny142.out] at hr35
                        rw [← hy35] at hcut35
                        have HR145 := Aside0.mk hr35
                        have HC145 := Aside0.mk (show y142.length ≤ co34 from by omega)
                        clear hr35 hC35 hroom35 hi035 hsz35
                        have KY35 := Aside0.mk hy35
                        clear hy35
                        have KL35 := Aside0.mk (show ((l0.length : Int) : Int).toNat ≤ t138.length from by omega)
                        replace q35 := eq_true q35
                        obtain ⟨Ao36, co36, eo36⟩ := Kd.R_slice HO137.out
                        subst eo36
                        go_wp2_with (first | (go_at_call 26; (with_reducible refine (flyoverbook_SameDists.calls k _ _ t134 _ _ y142 false _ ?side1 ?side2 ?side3 ?side4 A25.out).mono ?_); (case side1 => repeat (first | exact (Kd.R_reads' HO137.out).2.2 | (with_reducible refine Kd.C_alloc ?_ _) | (with_reducible refine Kd.C_drewN ?_ _) | (with_reducible refine Kd.C_drew ?_))); (case side2 => exact (Kd.R_reads' HO137.out).2.1); (case side3 => repeat (first | exact (by repeat (first | (with_reducible exact HR145.out) | (with_reducible refine Kd.C_alloc ?_ _) | (with_reducible refine Kd.C_drewN ?_ _) | (with_reducible refine Kd.C_drew ?_) | exact HR145.out)) | (with_reducible refine Kd.C_alloc ?_ _) | (with_reducible refine Kd.C_drewN ?_ _) | (with_reducible refine Kd.C_drew ?_))); (case side4 => exact HC145.out); rintro e w' ⟨rfl, ⟨nd, rfl⟩⟩))
                        go_meet
                        case rel => exact ⟨_, (true), (by first | rfl | (simp; done) | (simp [*]; done)), H', ⟨by first | omega | exact Nat.le_refl _⟩, ⟨by (with_reducible repeat (first | apply Kd.R_alloc | apply Kd.R_drewN | apply Kd.R_drew)); exact Kd.R_mono HO133.out (fun _ hk => trivial)⟩, ⟨by repeat (first | (with_reducible first | exact HB.out | apply below_alloc | apply pw_below_drewN | apply below_drew1) | exact HB.out)⟩⟩
                    · rw [if_neg c24] at H
                      exact absurd H (by simp)
                  · rw [if_neg c23] at H
                    exact absurd H (by simp)
                · rw [if_neg c22] at H
                  have c22b0 : ((t138.length : Int) == (y131.length : Int)) = false := beq_eq_false_iff_ne.mpr c22
                  have c22b1 : ((t138.length : Int) != (y131.length : Int)) = true := bne_iff_ne.mpr c22
                  have c22b2 : (t138.length == y131.length) = false := by first | simpa using c22 | (simp at c22 ⊢; omega)
                  have H' := Aside0.mk H
                  clear H
                  obtain ⟨Ao37, co37, eo37⟩ := Kd.R_slice HO141.out
                  subst eo37
                  go_wp2
                  go_meet
                  case rel => exact ⟨_, (true), (by first | rfl | (simp; done) | (simp [*]; done)), H', ⟨by first | omega | exact Nat.le_refl _⟩, ⟨by (with_reducible repeat (first | apply Kd.R_alloc | apply Kd.R_drewN | apply Kd.R_drew)); exact Kd.R_mono HO133.out (fun _ hk => trivial)⟩, ⟨by repeat (first | (with_reducible first | exact HB.out | apply below_alloc | apply pw_below_drewN | apply below_drew1) | exact HB.out)⟩⟩
              · rw [if_neg c21] at H
                have c21b0 : (t139 == 0) = false := beq_eq_false_iff_ne.mpr c21
                have c21b1 : (t139 != 0) = true := bne_iff_ne.mpr c21
                have H' := Aside0.mk H
                clear H
                go_wp2
                go_meet
                case rel => exact ⟨_, (true), (by first | rfl | (simp; done) | (simp [*]; done)), H', ⟨by first | omega | exact Nat.le_refl _⟩, ⟨by (with_reducible repeat (first | apply Kd.R_alloc | apply Kd.R_drewN | apply Kd.R_drew)); exact Kd.R_mono HO133.out (fun _ hk => trivial)⟩, ⟨by repeat (first | (with_reducible first | exact HB.out | apply below_alloc | apply pw_below_drewN | apply below_drew1) | exact HB.out)⟩⟩
            · rw [if_neg c20] at H
              have c20b0 : (t135 == 0) = false := beq_eq_false_iff_ne.mpr c20
              have c20b1 : (t135 != 0) = true := bne_iff_ne.mpr c20
              (first | rw [c20b0] | (simp only [i64_w, i32_w]; rw [c20b0]) | skip)
              have H' := Aside0.mk H
              clear H
              go_wp2
              go_meet
              case rel => exact ⟨_, (true), (by first | rfl | (simp; done) | (simp [*]; done)), H', ⟨by first | omega | exact Nat.le_refl _⟩, ⟨by (with_reducible repeat (first | apply Kd.R_alloc | apply Kd.R_drewN | apply Kd.R_drew)); exact Kd.R_mono HO133.out (fun _ hk => trivial)⟩, ⟨by repeat (first | (with_reducible first | exact HB.out | apply below_alloc | apply pw_below_drewN | apply below_drew1) | exact HB.out)⟩⟩
          case rest =>
            clear HC11
            try clear c1
            try clear c2
            try clear p2
            try clear q3
            try clear c4
            try clear c5
            try clear c5b0
            try clear p6
            try clear c7
            try clear c8
            try clear c9
            try clear c15
            try clear c20
            try clear c20b0
            try clear c20b1
            try clear c21
            try clear c21b0
            try clear c21b1
            try clear c22
            try clear c22b0
            try clear c22b1
            try clear c22b2
            try clear c23
            try clear c23b0
            try clear c23b1
            try clear c24
            try clear c24b0
            try clear c24b1
            try clear c26
            try clear q32
            try clear q35
            try clear q32
            try clear q35
            obtain ⟨kq, x69_10, rfl, HA, HJ10, HO_5, HB⟩ := hcut
            cases kq with
            | zero => exact absurd HA.out (by simp [flyoverlaw01_DistJoins.j0])
            | succ kj10 =>
              have H := HA.out
              clear HA
              simp only [flyoverlaw01_DistJoins.j0] at H
              by_cases c38 : x69_10 = true
              · subst c38
                have H1 : (some false) = some r := by rw [if_pos rfl] at H; exact H
                clear H
                have H := H1
                clear H1
                obtain rfl := Option.some.inj H
                go_wp2
                go_ret
                exact ⟨by first | rfl | (simp [errW_none, errW_some] <;> rfl) | (simp [*, errW_none, errW_some] <;> rfl), by repeat (first | (with_reducible first | exact HB.out | apply below_alloc | apply pw_below_drewN | apply below_drew1) | exact HB.out)⟩
              · replace c38 := Bool.eq_false_iff.mpr c38
                subst c38
                have H1 : ((dist_Least.f kj10 y131).bind fun bt151 => (if (y131.length : Int) = 0 then (some (bt151.2.2 == 5)) else (flyoverlaw01_DistJoins.l0 kj10 y131 bt151.1 bt151.2.1 bt151.2.2 y131 (y131.length : Int) 0))) = some r := by rw [if_neg (show ¬ (false = true) by decide)] at H; exact H
                clear H
                have H := H1
                clear H1
                replace H := Option.bind_eq_some_iff.mp H
                obtain ⟨⟨t151, t152, t153⟩, A390, H⟩ := H
                replace H : (if (y131.length : Int) = 0 then (some (t153 == 5)) else (flyoverlaw01_DistJoins.l0 kj10 y131 t151 t152 t153 y131 (y131.length : Int) 0)) = some r := H
                have A39 := Aside0.mk A390
                clear A390
                by_cases c40 : (y131.length : Int) = 0
                · rw [if_pos c40] at H
                  have c40b0 : ((y131.length : Int) == 0) = true := beq_iff_eq.mpr c40
                  have c40b1 : ((y131.length : Int) != 0) = false := bne_eq_false_iff_eq.mpr c40
                  clear c40
                  obtain rfl := Option.some.inj H
                  go_wp2_with (first | ((with_reducible refine gate_callee (f := 24) rfl ?_); refine goesL_ (some 72) rfl rfl Tryd.func24 (by kernel_rfl) rfl #[.slice Ao18 y131.length co18] rfl (by (try simp only [List.map_toArray, List.map_cons, List.map_nil]); first | done | rfl | (simp only [List.length_drop, List.length_take]; rfl)) ?_; (with_reducible refine (dist_Least.calls kj10 _ _ y131 t151 t152 t153 _ ?side1 ?side2 A39.out).mono ?_); (case side1 => repeat (first | exact (Kd.R_reads' HO_5.out).2.2 | (with_reducible refine Kd.C_alloc ?_ _) | (with_reducible refine Kd.C_drewN ?_ _) | (with_reducible refine Kd.C_drew ?_))); (case side2 => exact (Kd.R_reads' HO_5.out).2.1); rintro e w' ⟨rfl, ⟨nd, rfl⟩⟩; refine ⟨_, rfl, ?_⟩))
                  go_ret
                  exact ⟨by first | rfl | (simp [errW_none, errW_some] <;> rfl) | (simp [*, errW_none, errW_some] <;> rfl), by repeat (first | (with_reducible first | exact HB.out | apply below_alloc | apply pw_below_drewN | apply below_drew1) | exact HB.out)⟩
                · rw [if_neg c40] at H
                  have c40b0 : ((y131.length : Int) == 0) = false := beq_eq_false_iff_ne.mpr c40
                  have c40b1 : ((y131.length : Int) != 0) = true := bne_iff_ne.mpr c40
                  have c40b2 : ¬ (y131 = []) := fun h_ => c40 (by rw [h_]; rfl)
                  have H' := Aside0.mk H
                  clear H
                  go_wp2_with (first | ((with_reducible refine gate_callee (f := 24) rfl ?_); refine goesL_ (some 72) rfl rfl Tryd.func24 (by kernel_rfl) rfl #[.slice Ao18 y131.length co18] rfl (by (try simp only [List.map_toArray, List.map_cons, List.map_nil]); first | done | rfl | (simp only [List.length_drop, List.length_take]; rfl)) ?_; (with_reducible refine (dist_Least.calls kj10 _ _ y131 t151 t152 t153 _ ?side1 ?side2 A39.out).mono ?_); (case side1 => repeat (first | exact (Kd.R_reads' HO_5.out).2.2 | (with_reducible refine Kd.C_alloc ?_ _) | (with_reducible refine Kd.C_drewN ?_ _) | (with_reducible refine Kd.C_drew ?_))); (case side2 => exact (Kd.R_reads' HO_5.out).2.1); rintro e w' ⟨rfl, ⟨nd, rfl⟩⟩; refine ⟨_, rfl, ?_⟩))
                  go_loopg [83] kj10 (fun kq v83 w' => ∃ (x83_2 : Int), v83 = .int .i64 x83_2 ∧ Aside0 (flyoverlaw01_DistJoins.l0 kq y131 t151 t152 t153 y131 (y131.length : Int) x83_2 = some r) ∧ Aside0 (kq ≤ kj10) ∧ Aside0 (Kd.R (Kd.int .u64) 23 w' w.heap.size (fun _ => True) (.slice Ao18 y131.length co18) y131) ∧ Aside0 (Kd.R (Kd.int .u64) 23 w' w.heap.size (fun _ => True) (.slice Ao18 y131.length co18) y131) ∧ Aside0 (Below w.heap.size w w'))
                  case atStart => exact ⟨(0), (by first | rfl | (simp; done) | (simp [*]; done)), H', ⟨Nat.le_refl _⟩, ⟨by (with_reducible repeat (first | apply Kd.R_alloc | apply Kd.R_drewN | apply Kd.R_drew)); exact HO_5.out⟩, ⟨by (with_reducible repeat (first | apply Kd.R_alloc | apply Kd.R_drewN | apply Kd.R_drew)); exact HO_5.out⟩, ⟨by repeat (first | (with_reducible first | exact HB.out | apply below_alloc | apply pw_below_drewN | apply below_drew1) | exact HB.out)⟩⟩
                  case round =>
                    clear H'
                    try clear c1
                    try clear c2
                    try clear p2
                    try clear c3
                    try clear q3
                    try clear c4
                    try clear c5
                    try clear c5b0
                    try clear p6
                    try clear c7
                    try clear c8
                    try clear c9
                    try clear c15
                    try clear c20
                    try clear c20b0
                    try clear c20b1
                    try clear c21
                    try clear c21b0
                    try clear c21b1
                    try clear c22
                    try clear c22b0
                    try clear c22b1
                    try clear c22b2
                    try clear c23
                    try clear c23b0
                    try clear c23b1
                    try clear c24
                    try clear c24b0
                    try clear c24b1
                    try clear c26
                    try clear q32
                    try clear q35
                    try clear c38
                    try clear c40
                    try clear c40b0
                    try clear c40b1
                    try clear c40b2
                    try clear p2
                    try clear p6
                    try clear q3
                    try clear q32
                    try clear q35
                    obtain ⟨x83_2, rfl, HA, HK2, HO_5, HO_81, HB⟩ := hrel
                    cases gk with
                    | zero => exact absurd HA.out (by simp [flyoverlaw01_DistJoins.l0])
                    | succ k2 =>
                      have H := HA.out
                      clear HA
                      simp only [flyoverlaw01_DistJoins.l0] at H
                      by_cases c41 : x83_2 < (y131.length : Int)
                      · rw [if_pos c41] at H
                        have c41b0 : decide (x83_2 < (y131.length : Int)) = true := decide_eq_true c41
                        clear c41
                        by_cases c42 : 0 ≤ x83_2
                        · rw [if_pos c42] at H
                          have c42b0 : decide (0 ≤ x83_2) = true := decide_eq_true c42
                          clear c42
                          by_cases c43 : x83_2 < (y131.length : Int)
                          · rw [if_pos c43] at H
                            have c43b0 : decide (x83_2 < (y131.length : Int)) = true := decide_eq_true c43
                            clear c43
                            by_cases c44 : (rd y131 x83_2) < t152
                            · rw [if_pos c44] at H
                              have c44b0 : decide ((rd y131 x83_2) < t152) = true := decide_eq_true c44
                              clear c44
                              obtain rfl := Option.some.inj H
                              have p154 : 0 ≤ (x83_2 : Int) := of_decide_eq_true (by first | (with_reducible assumption) | assumption)
                              have q154 : x83_2 < (y131.length : Int) := of_decide_eq_true (by first | (with_reducible assumption) | assumption)
                              obtain ⟨ad154, e154, hx154_0⟩ := Kd.at_int (Kd.R_reads' HO_81.out).2.2 x83_2 p154 q154
                              cases e154
                              replace p154 := eq_true p154
                              replace q154 := eq_true q154
                              go_wp2
                              go_ret
                              exact ⟨by first | rfl | (simp [errW_none, errW_some] <;> rfl) | (simp [*, errW_none, errW_some] <;> rfl), by repeat (first | (with_reducible first | exact HB.out | apply below_alloc | apply pw_below_drewN | apply below_drew1) | exact HB.out)⟩
                            · rw [if_neg c44] at H
                              have c44b0 : decide ((rd y131 x83_2) < t152) = false := decide_eq_false c44
                              clear c44
                              by_cases c45 : (rd y131 x83_2) = t152
                              · rw [if_pos c45] at H
                                have c45b0 : ((rd y131 x83_2) == t152) = true := beq_iff_eq.mpr c45
                                have c45b1 : ((rd y131 x83_2) != t152) = false := bne_eq_false_iff_eq.mpr c45
                                clear c45
                                by_cases c46 : x83_2 < t151
                                · rw [if_pos c46] at H
                                  have c46b0 : decide (x83_2 < t151) = true := decide_eq_true c46
                                  clear c46
                                  obtain rfl := Option.some.inj H
                                  have p154 : 0 ≤ (x83_2 : Int) := of_decide_eq_true (by first | (with_reducible assumption) | assumption)
                                  have q154 : x83_2 < (y131.length : Int) := of_decide_eq_true (by first | (with_reducible assumption) | assumption)
                                  obtain ⟨ad154, e154, hx154_0⟩ := Kd.at_int (Kd.R_reads' HO_81.out).2.2 x83_2 p154 q154
                                  cases e154
                                  replace p154 := eq_true p154
                                  replace q154 := eq_true q154
                                  go_wp2
                                  go_ret
                                  exact ⟨by first | rfl | (simp [errW_none, errW_some] <;> rfl) | (simp [*, errW_none, errW_some] <;> rfl), by repeat (first | (with_reducible first | exact HB.out | apply below_alloc | apply pw_below_drewN | apply below_drew1) | exact HB.out)⟩
                                · rw [if_neg c46] at H
                                  have c46b0 : decide (x83_2 < t151) = false := decide_eq_false c46
                                  clear c46
                                  have H' := Aside0.mk H
                                  clear H
                                  have p154 : 0 ≤ (x83_2 : Int) := of_decide_eq_true (by first | (with_reducible assumption) | assumption)
                                  have q154 : x83_2 < (y131.length : Int) := of_decide_eq_true (by first | (with_reducible assumption) | assumption)
                                  obtain ⟨ad154, e154, hx154_0⟩ := Kd.at_int (Kd.R_reads' HO_81.out).2.2 x83_2 p154 q154
                                  cases e154
                                  replace p154 := eq_true p154
                                  replace q154 := eq_true q154
                                  go_wp2
                                  go_roundg k2
                                  case measure => have := HJ10.out; have := HK2.out; omega
                                  case rel => exact ⟨(wrap64 (x83_2 + 1)), (by first | rfl | (simp; done) | (simp [*]; done)), H', ⟨by have := HJ10.out; have := HK2.out; omega⟩, ⟨by (with_reducible repeat (first | apply Kd.R_alloc | apply Kd.R_drewN | apply Kd.R_drew)); exact HO_5.out⟩, ⟨by (with_reducible repeat (first | apply Kd.R_alloc | apply Kd.R_drewN | apply Kd.R_drew)); exact HO_81.out⟩, ⟨by repeat (first | (with_reducible first | exact HB.out | apply below_alloc | apply pw_below_drewN | apply below_drew1) | exact HB.out)⟩⟩
                              · rw [if_neg c45] at H
                                have c45b0 : ((rd y131 x83_2) == t152) = false := beq_eq_false_iff_ne.mpr c45
                                have c45b1 : ((rd y131 x83_2) != t152) = true := bne_iff_ne.mpr c45
                                have H' := Aside0.mk H
                                clear H
                                have p154 : 0 ≤ (x83_2 : Int) := of_decide_eq_true (by first | (with_reducible assumption) | assumption)
                                have q154 : x83_2 < (y131.length : Int) := of_decide_eq_true (by first | (with_reducible assumption) | assumption)
                                obtain ⟨ad154, e154, hx154_0⟩ := Kd.at_int (Kd.R_reads' HO_81.out).2.2 x83_2 p154 q154
                                cases e154
                                replace p154 := eq_true p154
                                replace q154 := eq_true q154
                                go_wp2
                                go_roundg k2
                                case measure => have := HJ10.out; have := HK2.out; omega
                                case rel => exact ⟨(wrap64 (x83_2 + 1)), (by first | rfl | (simp; done) | (simp [*]; done)), H', ⟨by have := HJ10.out; have := HK2.out; omega⟩, ⟨by (with_reducible repeat (first | apply Kd.R_alloc | apply Kd.R_drewN | apply Kd.R_drew)); exact HO_5.out⟩, ⟨by (with_reducible repeat (first | apply Kd.R_alloc | apply Kd.R_drewN | apply Kd.R_drew)); exact HO_81.out⟩, ⟨by repeat (first | (with_reducible first | exact HB.out | apply below_alloc | apply pw_below_drewN | apply below_drew1) | exact HB.out)⟩⟩
                          · rw [if_neg c43] at H
                            exact absurd H (by simp)
                        · rw [if_neg c42] at H
                          exact absurd H (by simp)
                      · rw [if_neg c41] at H
                        have c41b0 : decide (x83_2 < (y131.length : Int)) = false := decide_eq_false c41
                        clear c41
                        by_cases c47 : t153 = 0
                        · rw [if_pos c47] at H
                          have c47b0 : (t153 == 0) = true := beq_iff_eq.mpr c47
                          have c47b1 : (t153 != 0) = false := bne_eq_false_iff_eq.mpr c47
                          clear c47
                          by_cases c48 : t151 ≥ 0
                          · rw [if_pos c48] at H
                            have c48b0 : decide (0 ≤ t151) = true := decide_eq_true c48
                            clear c48
                            by_cases c49 : t151 < (y131.length : Int)
                            · rw [if_pos c49] at H
                              have c49b0 : decide (t151 < (y131.length : Int)) = true := decide_eq_true c49
                              clear c49
                              by_cases c50 : 0 ≤ t151
                              · rw [if_pos c50] at H
                                have c50b0 : decide (0 ≤ t151) = true := decide_eq_true c50
                                clear c50
                                obtain rfl := Option.some.inj H
                                have p155 : 0 ≤ (t151 : Int) := of_decide_eq_true (by first | (with_reducible assumption) | assumption)
                                have q155 : t151 < (y131.length : Int) := of_decide_eq_true (by first | (with_reducible assumption) | assumption)
                                obtain ⟨ad155, e155, hx155_0⟩ := Kd.at_int (Kd.R_reads' HO_5.out).2.2 t151 p155 q155
                                cases e155
                                replace p155 := eq_true p155
                                replace q155 := eq_true q155
                                go_wp2
                                go_ret
                                exact ⟨by first | rfl | (simp [errW_none, errW_some] <;> rfl) | (simp [*, errW_none, errW_some] <;> rfl), by repeat (first | (with_reducible first | exact HB.out | apply below_alloc | apply pw_below_drewN | apply below_drew1) | exact HB.out)⟩
                              · rw [if_neg c50] at H
                                exact absurd H (by simp)
                            · rw [if_neg c49] at H
                              have c49b0 : decide (t151 < (y131.length : Int)) = false := decide_eq_false c49
                              clear c49
                              obtain rfl := Option.some.inj H
                              go_wp2
                              go_ret
                              exact ⟨by first | rfl | (simp [errW_none, errW_some] <;> rfl) | (simp [*, errW_none, errW_some] <;> rfl), by repeat (first | (with_reducible first | exact HB.out | apply below_alloc | apply pw_below_drewN | apply below_drew1) | exact HB.out)⟩
                          · rw [if_neg c48] at H
                            have c48b0 : decide (0 ≤ t151) = false := decide_eq_false c48
                            clear c48
                            obtain rfl := Option.some.inj H
                            go_wp2
                            go_ret
                            exact ⟨by first | rfl | (simp [errW_none, errW_some] <;> rfl) | (simp [*, errW_none, errW_some] <;> rfl), by repeat (first | (with_reducible first | exact HB.out | apply below_alloc | apply pw_below_drewN | apply below_drew1) | exact HB.out)⟩
                        · rw [if_neg c47] at H
                          have c47b0 : (t153 == 0) = false := beq_eq_false_iff_ne.mpr c47
                          have c47b1 : (t153 != 0) = true := bne_iff_ne.mpr c47
                          obtain rfl := Option.some.inj H
                          go_wp2
                          go_ret
                          exact ⟨by first | rfl | (simp [errW_none, errW_some] <;> rfl) | (simp [*, errW_none, errW_some] <;> rfl), by repeat (first | (with_reducible first | exact HB.out | apply below_alloc | apply pw_below_drewN | apply below_drew1) | exact HB.out)⟩
        · rw [if_neg c8] at H
          exact absurd H (by simp)
      · rw [if_neg c7] at H
        exact absurd H (by simp)
  · replace c4 := Bool.eq_false_iff.mpr c4
    subst c4
    have H1 : (some false) = some r := by rw [if_neg (show ¬ (false = true) by decide)] at H; exact H
    clear H
    have H := H1
    clear H1
    obtain rfl := Option.some.inj H
    go_enter Tryd.func9, Tryd.ntmps9
    go_wp2_with (first | ((with_reducible refine gate_callee (f := 15) rfl ?_); refine goesL_ (some 15) rfl rfl Tryd.func15 (by kernel_rfl) rfl #[] rfl (by (try simp only [List.map_toArray, List.map_cons, List.map_nil]); first | done | rfl | (simp only [List.length_drop, List.length_take]; rfl)) ?_; (with_reducible refine (flyoverlaw01_works.calls false _ A3.out ?sideLw).mono ?_); (case sideLw => exact HLw.out.stays (by repeat (first | (with_reducible first | exact HB.out | apply below_alloc | apply pw_below_drewN | apply below_drew1) | exact HB.out))); rintro e w51 ⟨rfl, hb⟩; refine ⟨_, rfl, ?_⟩; have n0_ := Aside0.mk (below_step (by repeat (first | (with_reducible first | exact HB.out | apply below_alloc | apply pw_below_drewN | apply below_drew1) | exact HB.out)) hb); clear HB; have HB := n0_; clear n0_; (try clear hb); (try clear hb2); (try clear hk); (try clear hi)))
    go_ret
    exact ⟨by first | rfl | (simp [errW_none, errW_some] <;> rfl) | (simp [*, errW_none, errW_some] <;> rfl), by repeat (first | (with_reducible first | exact HB.out | apply below_alloc | apply pw_below_drewN | apply below_drew1) | exact HB.out)⟩

end Go.Proofs.YtkakngnfbahhiaaDoor.Q
