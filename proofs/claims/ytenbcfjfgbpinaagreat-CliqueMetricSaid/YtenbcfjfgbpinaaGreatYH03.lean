/- near.From. -/
import Derived.Test.YtenbcfjfgbpinaaGreatYG06
import Derived.Test.YtenbcfjfgbpinaaGreatYG12
import Derived.BigQuiet
import Derived.Test.YtenbcfjfgbpinaaGreatYH01
import Derived.WalkKit
import Derived.ProofKit
import Derived.OpenShut
import Derived.ShutString
import Derived.ChangeOld
import Derived.Below
import Derived.SizedLaws
import Derived.Lib.SmallJoins
import Derived.Carry
import Derived.ChangeSlices
import Derived.Deep.Slices
import Derived.Deep.Fields
import Derived.Test.YtenbcfjfgbpinaaGreatRows
namespace Go.Proofs.YtenbcfjfgbpinaaGreat
open Go.RowKit Go.Lib Go.Proofs.YtenbcfjfgbpinaaGreatW.PrintWords Go.Proofs.YtenbcfjfgbpinaaGreatW.PrintLast Go.Proofs.YtenbcfjfgbpinaaGreatW.PrintMore
set_option linter.unusedVariables false
set_option maxRecDepth 100000

theorem free_any (i : Nat) (w : World) : Calls Tryz.prog 46 (#[.int .i64 i] ++ #[]) w fun e w' => e = .returned (.bool true) ∧ Below w.heap.size w w' := by
  rw [Array.append_empty]
  go_enter Tryz.func46, Tryz.ntmps46
  go_wp2_with fail
  go_ret
  exact ⟨rfl, Below.refl _ w⟩

set_option maxHeartbeats 4000000 in
theorem from_any (N : Nat) (arcs : List Q.S68) (A : Option Addr) (c s : Nat) (w : World) (hg : Q.GOk N arcs) (hr : Kd.C Q.k68 w A arcs.length arcs) (hc : arcs.length ≤ c) (hs : s < N) :
    Calls Tryz.prog 19 #[.agg #[.int .i64 N, .slice A arcs.length c], .int .i64 s] w fun e w' => ∃ d q, e = .returned (.tuple #[.slice (some ⟨q, 0, none⟩) N N, .int .i64 0]) ∧ Sol false N arcs (fun _ => true) s d ∧ w.heap.size ≤ q ∧ w'.heap[q]? = some (.cells (d.map (fun x : Nat => Value.int .u64 (x : Int))).toArray 43 (0, 0)) ∧ Below w.heap.size w w' := by
  have hn1 := hg.n1
  have hn2 := hg.n2
  have HG := Lib.hid hg
  have HR := Lib.hid hr
  have HC := Lib.hid hc
  have HLK := Lib.hid (Q.looked_f N arcs hg [(s : Int)] (by intro v hv; simp at hv; subst hv; omega) (by simp))
  clear hg hr hc
  go_enter Tryz.func19, Tryz.ntmps19
  go_upto_region 1 with fail
  have hb1 : Below w.heap.size w (w.alloc (.cells #[.int .i64 N, .slice A arcs.length c] 24)) := (Below.refl _ w).alloc (Nat.le_refl _) _
  have c30 : (w.alloc (.cells #[.int .i64 N, .slice A arcs.length c] 24)).cell? ⟨w.heap.size, 0, none⟩ = some (.int .i64 N) := by simp
  have c31 : (w.alloc (.cells #[.int .i64 N, .slice A arcs.length c] 24)).cell? ⟨w.heap.size, 1, none⟩ = some (.slice A arcs.length c) := by simp
  have hsz : (w.alloc (.cells #[.int .i64 N, .slice A arcs.length c] 24)).heap.size = w.heap.size + 1 := by simp
  have hr1 := Kd.C_below HR.out hb1
  generalize (w.alloc (.cells #[.int .i64 N, .slice A arcs.length c] 24)) = w1 at *
  have HB1 := Lib.hid hb1
  generalize hgx : w.heap.size = gx at *
  have HGX := Lib.hid hgx
  have HSZ := Lib.hid hsz
  clear hb1 hgx hsz
  have HR1 := Lib.hid hr1
  clear hr1
  have HLOOK : Hid (∀ (wx : World) (b : Nat), Kd.C Q.k68 wx A arcs.length arcs → wx.cell? ⟨b, 0, none⟩ = some (.int .i64 s) → Calls Tryz.prog 43 #[.agg #[.int .i64 N, .slice A arcs.length c], .slice (some ⟨b, 0, none⟩) 1 1] wx fun e w' => e = .returned (.int .i64 0) ∧ Below wx.heap.size wx w') :=
    Lib.hid (fun wx b h1 h2 => Q.near_looked.calls (arcs.length + [(s : Int)].length + 2) N A c arcs (some ⟨b, 0, none⟩) 1 [(s : Int)] 0 wx h1 HC.out (one_int wx b s h2) (by simp) HLK.out)
  go_upto_region 2 with (with_reducible refine (HLOOK.out _ _ ?hra ?hrb).mono ?_; (case hra => exact Kd.C_alloc HR1.out _); (case hrb => simp); rintro e w2 ⟨rfl, hb2⟩; have HB2 := Lib.hid hb2; clear hb2)
  clear HLOOK HLK
  have hb2 : Below w1.heap.size w1 w2 := ((Below.refl _ w1).alloc (Nat.le_refl _) _).trans (HB2.out.mono (by simp))
  clear HB2
  have hsz := HSZ.out
  have d30 := (hb2.cell (p := ⟨gx, 0, none⟩) (by show gx < w1.heap.size; omega)).trans c30
  have d31 := (hb2.cell (p := ⟨gx, 1, none⟩) (by show gx < w1.heap.size; omega)).trans c31
  have hr2 := Kd.C_below HR1.out hb2
  have hbw : Below gx w w2 := HB1.out.trans (hb2.mono (by omega))
  have hsz2 : gx + 1 ≤ w2.heap.size := by have := hb2.size; omega
  have HR2 := Lib.hid hr2
  have HBW := Lib.hid hbw
  clear c30 c31 hb2 hr2 hbw hsz HR1 HB1
  have hsN : (s : Int) < (N : Int) := by omega
  go_upto_region 4 with fail
  obtain ⟨L, hL, hO⟩ := Q.outs_f false N arcs HG.out
  obtain ⟨n, fin, hruns, hsol⟩ := sol_any false HG.out (fun _ => true) s hs hO
  have HBEG := Lib.hid (begin_any N arcs A c s false w2 HG.out HR2.out HC.out hs L hL)
  have HO := Lib.hid hO
  have HRUNS := Lib.hid hruns
  have HSOL := Lib.hid hsol
  have HMAY : Hid (∀ (wx : World) (i : Nat), i < arcs.length → Below w2.heap.size w2 wx → Calls Tryz.prog 46 (#[.int .i64 i] ++ #[]) wx fun e w' => e = .returned (.bool true) ∧ Below wx.heap.size wx w') :=
    Lib.hid (fun wx i hi hb => free_any i wx)
  clear hL hO hruns hsol
  go_wp2_with (first
    | (go_at_call 44; (with_reducible refine HBEG.out.mono ?_); rintro e w3 ⟨K, X, db, yb, hp, T, abh, v3, OA, oc, rfl, hs3, hb3⟩; have HS3 := Lib.hid hs3; have HB3 := Lib.hid hb3; clear hs3 hb3)
    | (go_at_call 45; go_loud ((with_reducible refine (all_any (st := ⟨(List.replicate N infN).set s 0, List.replicate N (-1), lowF [] s 0⟩) n fin 46 #[] (fun _ => true) w2 _ HS3.out HR2.out HB3.out (Nat.le_refl _) HG.out HO.out (start_ok hs) (fun _ _ => rfl) HMAY.out HRUNS.out).mono ?_); rintro e w4 ⟨rfl, v4, hs4, ho4, hb4⟩; have HS4 := Lib.hid hs4; have HB4 := Lib.hid hb4; clear hs4 ho4 hb4)))
  go_ret2
  have hgx := HGX.out
  subst hgx
  have hbs := HS4.out.bs.2.1
  exact ⟨fin.d, db, rfl, HSOL.out, by omega, HS4.out.drow, HBW.out.trans (HB4.out.mono (by omega))⟩

end Go.Proofs.YtenbcfjfgbpinaaGreat

/- clique.Whole. -/
namespace Go.Proofs.YtenbcfjfgbpinaaGreat
open Go.RowKit Go.Lib Go.Sort Go.Proofs.YtenbcfjfgbpinaaGreatW.PrintWords Go.Proofs.YtenbcfjfgbpinaaGreatW.PrintLast Go.Proofs.YtenbcfjfgbpinaaGreatW.PrintMore
set_option linter.unusedVariables false
set_option maxRecDepth 100000

/-- The error that clique.Whole tells. -/
def Q.wholeE (N : Int) (arcs : List Q.S68) (bounds : List Int) (cells : List (List Int)) (level cell epoch : Int) : Int :=
  if Q.cellE N arcs bounds cells level cell = 0 then (if 0 ≤ epoch ∧ epoch ≤ 1073741824 then 0 else 1) else Q.cellE N arcs bounds cells level cell

set_option maxHeartbeats 4000000 in
theorem whole_any (N : Int) (arcs : List Q.S68) (A : Option Addr) (c : Nat) (BA : Option Addr) (bc : Nat) (bounds : List Int) (CA : Option Addr) (cc : Nat) (cells : List (List Int)) (level cell epoch : Int) (w : World)
    (hf : Q.ArcsFit arcs) (hr : Kd.C Q.k68 w A arcs.length arcs) (hc : arcs.length ≤ c) (hn : NestIn w BA bc bounds CA cc cells) :
    Calls Tryz.prog 17 #[.agg #[.int .i64 N, .slice A arcs.length c], .agg #[.slice BA bounds.length bc, .slice CA cells.length cc], .int .i64 level, .int .i64 cell, .int .i64 epoch] w fun e w' => ∃ v, e = .returned (.tuple #[v, .int .i64 (Q.wholeE N arcs bounds cells level cell epoch)]) ∧
      (Q.wholeE N arcs bounds cells level cell epoch = 0 → LeafV w.heap.size w' level cell epoch (Q.natsI (Q.matOf N.toNat arcs (Q.levelRow cells level) cell)) v) ∧ (¬ Q.wholeE N arcs bounds cells level cell epoch = 0 → v = .agg #[.int .i64 0, .int .i64 0, .int .i64 0, .slice none 0 0]) ∧ Below w.heap.size w w' := by
  obtain ⟨c0, c1, n0, n1, r0, hsz, hb1⟩ := boxes224 w (.int .i64 N) (.slice A arcs.length c) (.slice BA bounds.length bc) (.slice CA cells.length cc) (.int .i64 0) (.int .i64 0) (.int .i64 0) (.slice none 0 0) 24 28 37
  have HCK : Hid (∀ wx : World, Below w.heap.size w wx → Calls Tryz.prog 38 #[.agg #[.int .i64 N, .slice A arcs.length c], .agg #[.slice BA bounds.length bc, .slice CA cells.length cc], .int .i64 level, .int .i64 cell] wx fun e w' => ∃ v, e = .returned (.tuple #[v, .int .i64 (Q.cellE N arcs bounds cells level cell)]) ∧ Below wx.heap.size wx w') :=
    Lib.hid (fun wx hb => members_any N arcs A c BA bc bounds CA cc cells level cell w wx hb hf hr hc hn)
  have HMX : Hid (∀ wx : World, Below w.heap.size w wx → Calls Tryz.prog 32 #[.agg #[.int .i64 N, .slice A arcs.length c], .agg #[.slice BA bounds.length bc, .slice CA cells.length cc], .int .i64 level, .int .i64 cell, .int .i64 epoch] wx fun e w' => ∃ v, e = .returned (.tuple #[v, .int .i64 (Q.cellE N arcs bounds cells level cell)]) ∧
      (Q.cellE N arcs bounds cells level cell = 0 → MatV wx.heap.size w' level cell epoch (Q.matOf N.toNat arcs (Q.levelRow cells level) cell) v) ∧ (¬ Q.cellE N arcs bounds cells level cell = 0 → v = .agg #[.int .i64 0, .int .i64 0, .int .i64 0, .slice none 0 0]) ∧ Below wx.heap.size wx w') :=
    Lib.hid (fun wx hb => matrix_any N arcs A c BA bc bounds CA cc cells level cell epoch w wx hb hf hr hc hn)
  have HEP : Hid (∀ wx : World, Calls Tryz.prog 31 #[.int .i64 epoch] wx fun e w' => e = .returned (.bool (decide (0 ≤ epoch ∧ epoch ≤ 1073741824))) ∧ Drawn0 wx w') := Lib.hid (fun wx => Q.clique_epochs.calls epoch _ wx (by
    unfold Q.clique_epochs.f
    by_cases h0 : 0 ≤ epoch
    · rw [if_pos h0]; congr 1; by_cases h1 : epoch ≤ 1073741824 <;> simp [h0, h1]
    · rw [if_neg h0]; congr 1; simp [h0]))
  clear hf hr hc hn
  unfold Q.wholeE
  generalize hke : Q.cellE N arcs bounds cells level cell = ke at *
  clear hke
  generalize hwe : (if ke = 0 then (if 0 ≤ epoch ∧ epoch ≤ 1073741824 then (0 : Int) else 1) else ke) = we at *
  have HWE := Lib.hid hwe
  clear hwe
  go_enter Tryz.func17, Tryz.ntmps17
  go_upto_region 1 with fail
  generalize (((w.alloc (.cells #[.int .i64 N, .slice A arcs.length c] 24)).alloc (.cells #[.slice BA bounds.length bc, .slice CA cells.length cc] 28)).alloc (.cells #[.int .i64 0, .int .i64 0, .int .i64 0, .slice none 0 0] 37)) = w1 at *
  have HB1 := Lib.hid hb1
  have HCK1 := Lib.hid (HCK.out w1 hb1)
  have hs1 : w.heap.size + 3 ≤ w1.heap.size := by omega
  generalize hgx : w.heap.size = gx at *
  have HGX := Lib.hid hgx
  clear hb1 hsz HCK hgx
  go_upto_region 2 with (go_at_call 38; (with_reducible refine HCK1.out.mono ?_); rintro e w2 ⟨v, rfl, hb⟩; have HB := Lib.hid hb; clear hb)
  have hs2 : gx + 3 ≤ w2.heap.size := by have := HB.out.size; omega
  have d0 := (HB.out.cell (p := ⟨gx, 0, none⟩) (by show gx < w1.heap.size; omega)).trans c0
  have d1 := (HB.out.cell (p := ⟨gx, 1, none⟩) (by show gx < w1.heap.size; omega)).trans c1
  have m0 := (HB.out.cell (p := ⟨gx + 1, 0, none⟩) (by show gx + 1 < w1.heap.size; omega)).trans n0
  have m1 := (HB.out.cell (p := ⟨gx + 1, 1, none⟩) (by show gx + 1 < w1.heap.size; omega)).trans n1
  have q0 := (HB.out.block (gx + 2) (by omega)).trans r0
  have Q0 := Lib.hid q0
  have HB2 := Lib.hid (HB1.out.trans (HB.out.mono (by omega)))
  obtain ⟨x0, x1, x2, x3, xf⟩ := cells4 Q0.out
  clear c0 c1 n0 n1 r0 q0 HCK1 HB HB1
  by_cases hke : ke = 0
  · by_cases hep : 0 ≤ epoch ∧ epoch ≤ 1073741824
    · have hwe : we = 0 := by rw [← HWE.out, if_pos hke, if_pos hep]
      have HW0 := Lib.hid hwe
      rw [decide_eq_true hep] at HEP
      clear hep hwe
      go_upto_region 6 with (go_at_call 31; (with_reducible refine (HEP.out _).mono ?_); rintro e w3 ⟨rfl, nd, rfl⟩)
      have k0 : (w2.drewN nd).cell? ⟨gx, 0, none⟩ = some (.int .i64 N) := d0
      have k1 : (w2.drewN nd).cell? ⟨gx, 1, none⟩ = some (.slice A arcs.length c) := d1
      have k2 : (w2.drewN nd).cell? ⟨gx + 1, 0, none⟩ = some (.slice BA bounds.length bc) := m0
      have k3 : (w2.drewN nd).cell? ⟨gx + 1, 1, none⟩ = some (.slice CA cells.length cc) := m1
      have q3 : (w2.drewN nd).heap[gx + 1 + 1]? = some (.cells #[.int .i64 0, .int .i64 0, .int .i64 0, .slice none 0 0] 37 (0, 0)) := Q0.out
      have hb3 : Below gx w (w2.drewN nd) := Below.drewN_ HB2.out nd
      have hs3 : gx + 3 ≤ (w2.drewN nd).heap.size := hs2
      generalize (w2.drewN nd) = w3 at *
      have Q3 := Lib.hid q3
      have HBG3 := Lib.hid hb3
      have HMX3 := Lib.hid (HMX.out w3 hb3)
      clear d0 d1 m0 m1 x0 x1 x2 x3 xf q3 hb3 HMX HEP HB2 Q0
      generalize hg3 : gx + 1 + 1 = g3 at *
      have HG3 := Lib.hid hg3
      clear hg3
      go_wp2_with (go_at_call 32; (with_reducible refine HMX3.out.mono ?_); rintro e wI ⟨v, rfl, hv, -, hbI⟩; have HV := Lib.hid (hv hke); have HBI := Lib.hid hbI; obtain ⟨P', m', c2, rfl, hown⟩ := leafV_mat HV.out; have HOWN := Lib.hid hown; clear hv hbI hown HV; have qI : wI.heap[g3]? = some (.cells #[.int .i64 0, .int .i64 0, .int .i64 0, .slice none 0 0] 37 (0, 0)) := (HBI.out.block g3 (by have := HG3.out; omega)).trans Q3.out; have QI := Lib.hid qI; clear qI; obtain ⟨x0, x1, x2, x3, xf⟩ := cells4 QI.out)
      ((try simp only [Exit.inBlock, Exit.then]); refine bodyPost_ret (results_ct rfl _ _ g3 37 #[.int .i64 level, .int .i64 cell, .int .i64 epoch, .slice P' m' c2] (0, 0) _ rfl (heap_set4 QI.out) Tryz.underlying37 rfl (by kernel_rfl)) rfl ?_)
      have hgx := HGX.out
      have hg3 := HG3.out
      have sB := HBG3.out.size
      have hbT : Below w.heap.size w wI := by
        rw [hgx]
        exact HBG3.out.trans (HBI.out.mono (by omega))
      refine ⟨_, by rw [HW0.out]; rfl, fun _ => ⟨P', m', c2, rfl, ?_⟩, fun h => absurd HW0.out h, below_set4 hbT (by omega)⟩
      refine own_lower (row_stays HOWN.out (fun j' hj' => ?_)) (by omega)
      have h6 := (HOWN.out.lt j' hj').1
      have h7 : ∀ (wx : World) (o : Nat) (u : Value), (wx.setCell ⟨g3, o, none⟩ u).heap[j']? = wx.heap[j']? := fun wx o u => heap_setCell_other wx ⟨g3, o, none⟩ j' u (by show j' ≠ g3; omega)
      rw [h7, h7, h7, h7]
    · have hwe : we = 1 := by rw [← HWE.out, if_pos hke, if_neg hep]
      have HW0 := Lib.hid hwe
      rw [decide_eq_false hep] at HEP
      clear hep hwe
      go_wp2_with (go_at_call 31; (with_reducible refine (HEP.out _).mono ?_); rintro e w3 ⟨rfl, nd, rfl⟩)
      ((try simp only [Exit.inBlock, Exit.then]); refine bodyPost_ret (results_ct rfl _ _ (gx + 2) 37 #[.int .i64 0, .int .i64 0, .int .i64 0, .slice none 0 0] (0, 0) _ rfl (heap_set4 (w := w2.drewN nd) Q0.out) Tryz.underlying37 rfl (by kernel_rfl)) rfl ?_)
      have hgx := HGX.out
      subst hgx
      exact ⟨_, by rw [HW0.out]; rfl, fun h => absurd (HW0.out.symm.trans h) (by decide), fun _ => rfl, below_set4 (Below.drewN_ HB2.out nd) (by omega)⟩
  · have hwe : we = ke := by rw [← HWE.out, if_neg hke]
    have HW0 := Lib.hid hwe
    clear hwe
    go_wp2_with fail
    ((try simp only [Exit.inBlock, Exit.then]); refine bodyPost_ret (results_ct rfl _ _ (gx + 2) 37 #[.int .i64 0, .int .i64 0, .int .i64 0, .slice none 0 0] (0, 0) _ rfl (heap_set4 Q0.out) Tryz.underlying37 rfl (by kernel_rfl)) rfl ?_)
    have hgx := HGX.out
    subst hgx
    exact ⟨_, by rw [HW0.out]; rfl, fun h => absurd (HW0.out.symm.trans h) hke, fun _ => rfl, below_set4 HB2.out (by omega)⟩

end Go.Proofs.YtenbcfjfgbpinaaGreat

/- A cell's matrix as a metric (plain): zeros, sums, and the distances in the whole graph. -/
namespace Go.Proofs.YtenbcfjfgbpinaaGreat
open Go.RowKit Go.Proofs.YtenbcfjfgbpinaaGreatW.PrintWords Go.Proofs.YtenbcfjfgbpinaaGreatW.PrintLast
set_option linter.unusedVariables false
set_option maxRecDepth 100000

/-- What members of a flat matrix are. -/
theorem flat_len (f : Int → List Nat) (b : Nat) (hf : ∀ v, (f v).length = b) : ∀ l : List Int, (l.flatMap f).length = l.length * b
  | [] => by simp
  | v :: l => by
    rw [List.flatMap_cons, List.length_append, hf, flat_len f b hf l, List.length_cons, Nat.add_mul, Nat.one_mul, Nat.add_comm]
theorem flat_get (f : Int → List Nat) (b : Nat) (hf : ∀ v, (f v).length = b) : ∀ (l : List Int) (i j : Nat), i < l.length → j < b → (l.flatMap f).getD (i * b + j) 0 = (f (l.getD i 0)).getD j 0
  | [], i, j, hi, _ => absurd hi (by simp)
  | v :: l, 0, j, hi, hj => by
    rw [List.flatMap_cons, Nat.zero_mul, Nat.zero_add, List.getD_eq_getElem?_getD, List.getElem?_append_left (by rw [hf]; exact hj), ← List.getD_eq_getElem?_getD]
    rfl
  | v :: l, i + 1, j, hi, hj => by
    have h := flat_get f b hf l i j (by simpa using hi) hj
    have e : (i + 1) * b + j = b + (i * b + j) := by rw [Nat.add_mul, Nat.one_mul]; omega
    rw [List.flatMap_cons, e, List.getD_eq_getElem?_getD, List.getElem?_append_right (by rw [hf]; omega), hf, Nat.add_sub_cancel_left, ← List.getD_eq_getElem?_getD, h]
    rfl
theorem rowOf_len (d : List Nat) (l : List Int) : (rowOf d l).length = l.length := by unfold rowOf; rw [List.length_map]
theorem rowOf_get (d : List Nat) (l : List Int) (j : Nat) (hj : j < l.length) : (rowOf d l).getD j 0 = d.getD (l.getD j 0).toNat 0 := by
  unfold rowOf
  simp [hj]
theorem matOf_len (N : Nat) (arcs : List Q.S68) (cs : List Int) (c : Int) : (Q.matOf N arcs cs c).length = (Q.bndOf arcs cs c).length * (Q.bndOf arcs cs c).length := by
  unfold Q.matOf
  exact flat_len _ _ (fun v => rowOf_len _ _) _
theorem matOf_get (N : Nat) (arcs : List Q.S68) (cs : List Int) (c : Int) (i j : Nat) (hi : i < (Q.bndOf arcs cs c).length) (hj : j < (Q.bndOf arcs cs c).length) :
    (Q.matOf N arcs cs c).getD (i * (Q.bndOf arcs cs c).length + j) 0 = (dOf N arcs (Q.inB cs c) ((Q.bndOf arcs cs c).getD i 0).toNat).getD ((Q.bndOf arcs cs c).getD j 0).toNat 0 := by
  unfold Q.matOf
  rw [flat_get _ _ (fun v => rowOf_len _ _) _ i j hi hj, rowOf_get _ _ j hj]

/-- A boundary vertex lies in its cell. -/
theorem bnd_cell (arcs : List Q.S68) (cs : List Int) (c : Int) : ∀ u ∈ Q.bndOf arcs cs c, cs.getD u.toNat 0 = c := by
  intro u hu
  have h1 : u ∈ (Q.edgeOf arcs cs c).mergeSort (fun x y => decide (x ≤ y)) := by
    unfold Q.bndOf Lib.compact Lib.compactUpTo at hu
    simp only [List.mem_map, List.mem_filter, List.mem_range] at hu
    obtain ⟨j, ⟨hj, _⟩, rfl⟩ := hu
    have hj' : j < ((Q.edgeOf arcs cs c).mergeSort (fun x y => decide (x ≤ y))).toArray.size := by simpa using hj
    rw [getElem!_pos _ j hj']
    simp
  rw [List.mem_mergeSort] at h1
  unfold Q.edgeOf at h1
  obtain ⟨a, ha, hu2⟩ := List.mem_flatMap.1 h1
  unfold Q.endsOf at hu2
  split at hu2
  · cases hu2
  · rcases List.mem_append.1 hu2 with h | h
    · split at h
      · rename_i hc; simp at h; subst h; exact hc
      · cases h
    · split at h
      · rename_i hc; simp at h; subst h; exact hc
      · cases h
theorem inB_get (cs : List Int) (c : Int) (u : Nat) (hu : u < cs.length) : (Q.inB cs c).getD u false = decide (cs.getD u 0 = c) := by
  unfold Q.inB
  simp [hu]
theorem bnd_inB {N : Nat} {arcs : List Q.S68} (hg : Q.GOk N arcs) (cs : List Int) (c : Int) (hl : cs.length = N) : ∀ u ∈ Q.bndOf arcs cs c, (Q.inB cs c).getD u.toNat false = true := by
  intro u hu
  have h1 := bnd_in hg cs c u hu
  have h2 := bnd_cell arcs cs c u hu
  rw [inB_get _ _ _ (by omega), h2]
  simp

theorem addD_assoc (a b c : Nat) (ha : a < 18446744073709551616) (hb : b < 18446744073709551616) (hc : c < 18446744073709551616) : addD (addD a b) c = addD a (addD b c) := by
  unfold addD
  split <;> split <;> (try split) <;> (try split) <;> omega
theorem addD_zero (a : Nat) (ha : a < 18446744073709551616) : addD a 0 = a := by unfold addD; rw [if_pos (by omega)]; rfl
theorem addD_inf (a b : Nat) (h : a = infN ∨ b = infN) : addD a b = infN := by
  unfold addD infN at *
  split <;> omega

theorem Rch.lt {back : Bool} {arcs : List Q.S68} {may : Nat → Bool} {s u x : Nat} (h : Rch back arcs may s u x) : x < 18446744073709551616 := by
  cases h with
  | start => omega
  | arc x i hi hm h => exact addD_lt _ _
theorem Rch.trans {N : Nat} {arcs : List Q.S68} (hg : Q.GOk N arcs) {back : Bool} {may : Nat → Bool} {s u v x y : Nat} (h : Rch back arcs may s u x) (k : Rch back arcs may u v y) : Rch back arcs may s v (addD x y) := by
  induction k with
  | start => rw [addD_zero _ h.lt]; exact h
  | arc y i hi hm k ih =>
    have hmem : arcs.getD i Q.z68 ∈ arcs := by rw [List.getD_eq_getElem?_getD, List.getElem?_eq_getElem hi]; exact List.getElem_mem hi
    have hw := hg.wt _ hmem
    rw [← addD_assoc _ _ _ h.lt k.lt (by omega)]
    exact Rch.arc _ i hi hm ih
theorem Rch.more {arcs : List Q.S68} {back : Bool} {may may' : Nat → Bool} (hm : ∀ i, may i = true → may' i = true) {s u x : Nat} (h : Rch back arcs may s u x) : Rch back arcs may' s u x := by
  induction h with
  | start => exact .start
  | arc x i hi h1 h ih => exact .arc x i hi (hm i h1) ih

/-- The three laws of distances within some vertices, s and t among them. -/
theorem sol_zero {N : Nat} {arcs : List Q.S68} {may : Nat → Bool} {s : Nat} {d : List Nat} (h : Sol false N arcs may s d) (hs : s < N) : d.getD s 0 = 0 := by
  have := h.low s 0 hs .start
  omega
theorem sol_tri {N : Nat} {arcs : List Q.S68} (hg : Q.GOk N arcs) {may : Nat → Bool} {s t : Nat} {d e : List Nat} (h : Sol false N arcs may s d) (k : Sol false N arcs may t e) (hs : s < N) (ht : t < N) (u : Nat) (hu : u < N) : d.getD u 0 ≤ addD (d.getD t 0) (e.getD u 0) := by
  rcases h.rch t ht with h1 | h1
  · rw [addD_inf _ _ (Or.inl h1)]; have := h.lt u; unfold infN; omega
  · rcases k.rch u hu with h2 | h2
    · rw [addD_inf _ _ (Or.inr h2)]; have := h.lt u; unfold infN; omega
    · exact h.low u _ hu (h1.trans hg h2)
theorem sol_more {N : Nat} {arcs : List Q.S68} {may may' : Nat → Bool} (hm : ∀ i, may i = true → may' i = true) {s : Nat} {d e : List Nat} (h : Sol false N arcs may s d) (k : Sol false N arcs may' s e) (u : Nat) (hu : u < N) : e.getD u 0 ≤ d.getD u 0 := by
  rcases h.rch u hu with h1 | h1
  · rw [h1]; have := k.lt u; unfold infN; omega
  · exact k.low u _ hu (h1.more hm)

/-- What the law asks of a matrix. -/
structure Metric (N : Nat) (arcs : List Q.S68) (l : List Int) (D : List Nat) : Prop where
  len : D.length = l.length * l.length
  lt : ∀ i, D.getD i 0 < 18446744073709551616
  zero : ∀ i, i < l.length → D.getD (i * l.length + i) 0 = 0
  tri : ∀ i j k, i < l.length → j < l.length → k < l.length → D.getD (i * l.length + j) 0 ≤ addD (D.getD (i * l.length + k) 0) (D.getD (k * l.length + j) 0)
  low : ∀ i j d, i < l.length → j < l.length → Sol false N arcs (fun _ => true) (l.getD i 0).toNat d → d.getD (l.getD j 0).toNat 0 ≤ D.getD (i * l.length + j) 0

theorem mat_metric {N : Nat} {arcs : List Q.S68} (hg : Q.GOk N arcs) (cs : List Int) (c : Int) (hl : cs.length = N) : Metric N arcs (Q.bndOf arcs cs c) (Q.matOf N arcs cs c) := by
  have hin := bnd_in hg cs c
  have hb := bnd_inB hg cs c hl
  have hsol : ∀ i, i < (Q.bndOf arcs cs c).length → (0 ≤ (Q.bndOf arcs cs c).getD i 0 ∧ (Q.bndOf arcs cs c).getD i 0 < (N : Int)) ∧ Sol false N arcs (inMay arcs (Q.inB cs c)) ((Q.bndOf arcs cs c).getD i 0).toNat (dOf N arcs (Q.inB cs c) ((Q.bndOf arcs cs c).getD i 0).toNat) := by
    intro i hi
    have hmem : (Q.bndOf arcs cs c).getD i 0 ∈ Q.bndOf arcs cs c := by rw [List.getD_eq_getElem?_getD, List.getElem?_eq_getElem hi]; exact List.getElem_mem hi
    have h1 := hin _ hmem
    refine ⟨h1, ?_⟩
    have h2 := dOf_spec hg (Q.inB cs c) ((Q.bndOf arcs cs c).getD i 0).toNat (by omega)
    unfold InSol at h2
    rw [if_pos (hb _ hmem)] at h2
    exact h2
  have hlen := matOf_len N arcs cs c
  refine ⟨hlen, fun i => ?_, fun i hi => ?_, fun i j k hi hj hk => ?_, fun i j d hi hj hd => ?_⟩
  · by_cases hi : i < (Q.matOf N arcs cs c).length
    · have h0 : 0 < (Q.bndOf arcs cs c).length := by
        rcases Nat.eq_zero_or_pos (Q.bndOf arcs cs c).length with h | h
        · rw [hlen, h] at hi; omega
        · exact h
      have hq : i / (Q.bndOf arcs cs c).length < (Q.bndOf arcs cs c).length := by rw [hlen] at hi; exact Nat.div_lt_of_lt_mul hi
      have hr : i % (Q.bndOf arcs cs c).length < (Q.bndOf arcs cs c).length := Nat.mod_lt _ h0
      have he : i / (Q.bndOf arcs cs c).length * (Q.bndOf arcs cs c).length + i % (Q.bndOf arcs cs c).length = i := Nat.div_add_mod' i _
      rw [← he, matOf_get N arcs cs c _ _ hq hr]
      exact (hsol _ hq).2.lt _
    · rw [List.getD_eq_getElem?_getD, List.getElem?_eq_none (by omega)]
      simp
  · rw [matOf_get N arcs cs c i i hi hi]
    have h := hsol i hi
    exact sol_zero h.2 (by omega)
  · rw [matOf_get N arcs cs c i j hi hj, matOf_get N arcs cs c i k hi hk, matOf_get N arcs cs c k j hk hj]
    have h1 := hsol i hi
    have h2 := hsol j hj
    have h3 := hsol k hk
    exact sol_tri hg h1.2 h3.2 (by omega) (by omega) _ (by omega)
  · rw [matOf_get N arcs cs c i j hi hj]
    have h1 := hsol i hi
    have h2 := hsol j hj
    exact sol_more (fun _ _ => rfl) h1.2 hd _ (by omega)

end Go.Proofs.YtenbcfjfgbpinaaGreat

/- CliqueMetric's walk. -/
namespace Go.Proofs.YtenbcfjfgbpinaaGreat
open Go.RowKit Go.Lib Go.Sort Go.Proofs.YtenbcfjfgbpinaaGreatW.PrintWords Go.Proofs.YtenbcfjfgbpinaaGreatW.PrintLast Go.Proofs.YtenbcfjfgbpinaaGreatW.PrintMore
set_option linter.unusedVariables false
set_option maxRecDepth 100000

theorem whole_ok {N : Int} {arcs : List Q.S68} {bounds : List Int} {cells : List (List Int)} {level cell epoch : Int} (hf : Q.ArcsFit arcs) (h : Q.wholeE N arcs bounds cells level cell epoch = 0) :
    ∃ n : Nat, N = (n : Int) ∧ Q.GOk n arcs ∧ Q.cellE N arcs bounds cells level cell = 0 ∧ (Q.levelRow cells level).length = n := by
  have h0 : Q.cellE N arcs bounds cells level cell = 0 := by
    unfold Q.wholeE at h
    split at h
    · assumption
    · exact h
  obtain ⟨⟨h1, h2⟩, h3, ⟨h4, h5⟩, _⟩ := Q.cellE_ok hf h0
  refine ⟨N.toNat, (Int.toNat_of_nonneg (by omega)).symm, h2, h0, ?_⟩
  unfold Q.levelRow
  exact (Q.rightP_in (h3.right (j := (level - 1).toNat) (by omega))).1

theorem mul_small {i j b : Nat} (hi : i < b) (hj : j < b) : i * b + j < b * b := by
  have : (i + 1) * b ≤ b * b := Nat.mul_le_mul_right b hi
  rw [Nat.add_mul, Nat.one_mul] at this
  omega
theorem wrap_mul {i b M : Nat} (hi : i ≤ b) (hb : b * b ≤ M) (hM : M ≤ 9000000000000000000) : IntKind.i64.wrap ((i : Int) * (b : Int)) = ((i * b : Nat) : Int) := by
  have h1 : i * b ≤ b * b := Nat.mul_le_mul_right b hi
  rw [IntWalk.i64_in _ (by rw [← Int.natCast_mul]; omega), Int.natCast_mul]

set_option maxHeartbeats 8000000 in
theorem metric_any (N : Int) (arcs : List Q.S68) (A : Option Addr) (c : Nat) (BA : Option Addr) (bc : Nat) (bounds : List Int) (CA : Option Addr) (cc : Nat) (cells : List (List Int)) (level cell epoch : Int) (WV CV : Value) (w : World)
    (hf : Q.ArcsFit arcs) (hr : Kd.C Q.k68 w A arcs.length arcs) (hc : arcs.length ≤ c) (hn : NestIn w BA bc bounds CA cc cells) :
    Calls Tryz.prog 5 #[.agg #[.int .i64 N, .slice A arcs.length c], .agg #[.slice BA bounds.length bc, .slice CA cells.length cc], .agg #[.int .i64 level, .int .i64 cell, .int .i64 epoch, WV, CV]] w fun e w' => e = .returned (.bool true) ∧ Below w.heap.size w w' := by
  have HWK1 : Hid (∀ wx : World, Calls Tryz.prog 7 #[] wx fun e w' => e = .returned (.bool true) ∧ Below wx.heap.size wx w') := Lib.hid (fun wx => Q.flyoverlaw13_works.calls 9 true wx Q.works_f)
  obtain ⟨lb, hlb⟩ := Q.large_tot N arcs
  have HLG : Hid (∀ wx : World, Below w.heap.size w wx → Calls Tryz.prog 8 #[.agg #[.int .i64 N, .slice A arcs.length c]] wx fun e w' => e = .returned (.bool lb) ∧ Below wx.heap.size wx w') := Lib.hid (fun wx hb => Q.flyoverlaw13_large.calls _ N A c arcs lb wx (Kd.C_below hr hb) hc hlb)
  have HWH : Hid (∀ wx : World, Below w.heap.size w wx → Calls Tryz.prog 17 #[.agg #[.int .i64 N, .slice A arcs.length c], .agg #[.slice BA bounds.length bc, .slice CA cells.length cc], .int .i64 level, .int .i64 cell, .int .i64 epoch] wx fun e w' => ∃ v, e = .returned (.tuple #[v, .int .i64 (Q.wholeE N arcs bounds cells level cell epoch)]) ∧
      (Q.wholeE N arcs bounds cells level cell epoch = 0 → LeafV wx.heap.size w' level cell epoch (Q.natsI (Q.matOf N.toNat arcs (Q.levelRow cells level) cell)) v) ∧ (¬ Q.wholeE N arcs bounds cells level cell epoch = 0 → v = .agg #[.int .i64 0, .int .i64 0, .int .i64 0, .slice none 0 0]) ∧ Below wx.heap.size wx w') :=
    Lib.hid (fun wx hb => whole_any N arcs A c BA bc bounds CA cc cells level cell epoch wx hf (Kd.C_below hr hb) hc (hn.below hb))
  have HBN : Hid (∀ wx : World, Below w.heap.size w wx → Calls Tryz.prog 18 #[.agg #[.int .i64 N, .slice A arcs.length c], .agg #[.slice BA bounds.length bc, .slice CA cells.length cc], .int .i64 level, .int .i64 cell] wx fun e w' => ∃ A' n' c', e = .returned (.tuple #[.slice A' n' c', .int .i64 (Q.cellE N arcs bounds cells level cell)]) ∧ (Q.cellE N arcs bounds cells level cell = 0 → CutV w' (Q.bndOf arcs (cells.getD (level - 1).toNat []) cell) (.slice A' n' c')) ∧ Below wx.heap.size wx w') :=
    Lib.hid (fun wx hb => boundary_any N arcs A c BA bc bounds CA cc cells level cell w wx hb hf hr hc hn)
  have HOK : Hid (Q.wholeE N arcs bounds cells level cell epoch = 0 → ∃ n : Nat, N = (n : Int) ∧ Q.GOk n arcs ∧ Q.cellE N arcs bounds cells level cell = 0 ∧ (Q.levelRow cells level).length = n) := Lib.hid (whole_ok hf)
  have HR := Lib.hid hr
  have HC := Lib.hid hc
  clear hf hr hc hn hlb
  generalize hwe : Q.wholeE N arcs bounds cells level cell epoch = we at *
  clear hwe
  go_enter Tryz.func5, Tryz.ntmps5
  go_upto_region 1 with fail
  have hA : (((w.alloc (.cells #[.int .i64 N, .slice A arcs.length c] 24)).alloc (.cells #[.slice BA bounds.length bc, .slice CA cells.length cc] 28)).alloc (.cells #[.int .i64 level, .int .i64 cell, .int .i64 epoch, WV, CV] 32)).heap[w.heap.size]? = some (.cells #[.int .i64 N, .slice A arcs.length c] 24 (0, 0)) := by
    rw [heap_alloc_old _ _ (by simp; omega), heap_alloc_old _ _ (by simp), heap_alloc_new]
  have hB : (((w.alloc (.cells #[.int .i64 N, .slice A arcs.length c] 24)).alloc (.cells #[.slice BA bounds.length bc, .slice CA cells.length cc] 28)).alloc (.cells #[.int .i64 level, .int .i64 cell, .int .i64 epoch, WV, CV] 32)).heap[w.heap.size + 1]? = some (.cells #[.slice BA bounds.length bc, .slice CA cells.length cc] 28 (0, 0)) := by
    rw [heap_alloc_old _ _ (by simp), heap_alloc2_new]
  have hC : (((w.alloc (.cells #[.int .i64 N, .slice A arcs.length c] 24)).alloc (.cells #[.slice BA bounds.length bc, .slice CA cells.length cc] 28)).alloc (.cells #[.int .i64 level, .int .i64 cell, .int .i64 epoch, WV, CV] 32)).heap[w.heap.size + 2]? = some (.cells #[.int .i64 level, .int .i64 cell, .int .i64 epoch, WV, CV] 32 (0, 0)) := by
    have h := heap_alloc_new ((w.alloc (.cells #[.int .i64 N, .slice A arcs.length c] 24)).alloc (.cells #[.slice BA bounds.length bc, .slice CA cells.length cc] 28)) (.cells #[.int .i64 level, .int .i64 cell, .int .i64 epoch, WV, CV] 32)
    simp only [World.size_alloc] at h
    exact h
  have hb1 : Below w.heap.size w (((w.alloc (.cells #[.int .i64 N, .slice A arcs.length c] 24)).alloc (.cells #[.slice BA bounds.length bc, .slice CA cells.length cc] 28)).alloc (.cells #[.int .i64 level, .int .i64 cell, .int .i64 epoch, WV, CV] 32)) := (((Below.refl _ w).alloc (Nat.le_refl _) _).alloc (by rw [World.size_alloc]; omega) _).alloc (by simp; omega) _
  have hs1 : w.heap.size + 3 ≤ (((w.alloc (.cells #[.int .i64 N, .slice A arcs.length c] 24)).alloc (.cells #[.slice BA bounds.length bc, .slice CA cells.length cc] 28)).alloc (.cells #[.int .i64 level, .int .i64 cell, .int .i64 epoch, WV, CV] 32)).heap.size := by simp
  generalize (((w.alloc (.cells #[.int .i64 N, .slice A arcs.length c] 24)).alloc (.cells #[.slice BA bounds.length bc, .slice CA cells.length cc] 28)).alloc (.cells #[.int .i64 level, .int .i64 cell, .int .i64 epoch, WV, CV] 32)) = w1 at *
  generalize hgx : w.heap.size = gx at *
  have HGX := Lib.hid hgx
  clear hgx
  have HBOX : Hid (∀ wx : World, Below w1.heap.size w1 wx → wx.cell? ⟨gx, 0, none⟩ = some (.int .i64 N) ∧ wx.cell? ⟨gx, 1, none⟩ = some (.slice A arcs.length c) ∧ wx.cell? ⟨gx + 1, 0, none⟩ = some (.slice BA bounds.length bc) ∧ wx.cell? ⟨gx + 1, 1, none⟩ = some (.slice CA cells.length cc) ∧ wx.cell? ⟨gx + 2, 0, none⟩ = some (.int .i64 level) ∧ wx.cell? ⟨gx + 2, 1, none⟩ = some (.int .i64 cell) ∧ wx.cell? ⟨gx + 2, 2, none⟩ = some (.int .i64 epoch)) := Lib.hid (fun wx hb => by
    have a := (hb.block gx (by omega)).trans hA
    have b := (hb.block (gx + 1) (by omega)).trans hB
    have c := (hb.block (gx + 2) (by omega)).trans hC
    refine ⟨?_, ?_, ?_, ?_, ?_, ?_, ?_⟩
    · rw [cell_of_row _ _ 0 _ _ _ a]; rfl
    · rw [cell_of_row _ _ 1 _ _ _ a]; rfl
    · rw [cell_of_row _ _ 0 _ _ _ b]; rfl
    · rw [cell_of_row _ _ 1 _ _ _ b]; rfl
    · rw [cell_of_row _ _ 0 _ _ _ c]; rfl
    · rw [cell_of_row _ _ 1 _ _ _ c]; rfl
    · rw [cell_of_row _ _ 2 _ _ _ c]; rfl)
  have HB1 := Lib.hid hb1
  clear hA hB hC hb1
  go_upto_region 3 with (go_at_call 7; (with_reducible refine (HWK1.out _).mono ?_); rintro e w2 ⟨rfl, hb⟩; have HB := Lib.hid hb; clear hb)
  have HB2 : Hid (Below gx w w2) := Lib.hid (HB1.out.trans (HB.out.mono (by omega)))
  obtain ⟨x0, x1, -, -, -, -, -⟩ := HBOX.out w2 HB.out
  have HLG2 := Lib.hid (HLG.out w2 HB2.out)
  clear HWK1 HLG
  cases lb with
  | true =>
    go_wp2_with (go_at_call 8; (with_reducible refine HLG2.out.mono ?_); rintro e w3 ⟨rfl, hb⟩; have HB3 := Lib.hid hb; clear hb)
    go_ret
    have hgx := HGX.out
    subst hgx
    exact ⟨rfl, HB2.out.trans (HB3.out.mono (by have := HB2.out.size; omega))⟩
  | false =>
    go_upto_region 5 with (go_at_call 8; (with_reducible refine HLG2.out.mono ?_); rintro e w3 ⟨rfl, hb⟩; have HB3 := Lib.hid hb; clear hb)
    have HBW3 : Hid (Below w1.heap.size w1 w3) := Lib.hid (HB.out.trans (HB3.out.mono (by have := HB.out.size; omega)))
    have HBG3 : Hid (Below gx w w3) := Lib.hid (HB1.out.trans (HBW3.out.mono (by omega)))
    clear x0 x1 HLG2 HB HB2 HB3
    obtain ⟨x0, x1, x2, x3, x4, x5, x6⟩ := HBOX.out w3 HBW3.out
    have HWH3 := Lib.hid (HWH.out w3 HBG3.out)
    clear HWH
    by_cases hwe : we = 0
    · obtain ⟨n, rfl, hG, hce, hrl⟩ := HOK.out hwe
      rw [hce] at HBN
      have hmet := mat_metric hG (Q.levelRow cells level) cell hrl
      have hn2 := hG.n2
      have hm := hG.m
      have HBIN := Lib.hid (bnd_in hG (Q.levelRow cells level) cell)
      have HBL := Lib.hid (Q.bnd_len arcs (Q.levelRow cells level) cell)
      have HG := Lib.hid hG
      have HLR : Hid (cells.getD (level - 1).toNat [] = Q.levelRow cells level) := Lib.hid rfl
      rw [HLR.out] at HBN
      clear hce hrl hG HOK
      generalize hl : Q.bndOf arcs (Q.levelRow cells level) cell = l at *
      rw [Int.toNat_natCast] at HWH3
      generalize hD : Q.matOf n arcs (Q.levelRow cells level) cell = D at *
      have HMT := Lib.hid hmet
      clear hmet hl hD HLR
      go_upto_region 6 with (go_at_call 17; (with_reducible refine HWH3.out.mono ?_); rintro e w4 ⟨v, rfl, hv, -, hb⟩; obtain ⟨P, m, cp, rfl, hown⟩ := hv hwe; have HO4 := Lib.hid hown; have HB4 := Lib.hid hb; clear hown hb hv)
      subst hwe
      have hmD := u64_len HO4.out
      have q7 := heap_alloc_new w4 (.cells #[.int .i64 level, .int .i64 cell, .int .i64 epoch, .slice P m cp] 37)
      have hb5 : Below w4.heap.size w4 (w4.alloc (.cells #[.int .i64 level, .int .i64 cell, .int .i64 epoch, .slice P m cp] 37)) := (Below.refl _ w4).alloc (Nat.le_refl _) _
      have hs5 : w4.heap.size < (w4.alloc (.cells #[.int .i64 level, .int .i64 cell, .int .i64 epoch, .slice P m cp] 37)).heap.size := by simp
      generalize (w4.alloc (.cells #[.int .i64 level, .int .i64 cell, .int .i64 epoch, .slice P m cp] 37)) = w5 at *
      have hs4 := HB4.out.size
      have hs3 := HBW3.out.size
      have HO5 := Lib.hid (own_below HO4.out hb5)
      have HBW5 : Hid (Below w1.heap.size w1 w5) := Lib.hid ((HBW3.out.trans (HB4.out.mono (by omega))).trans (hb5.mono (by omega)))
      have HBG5 : Hid (Below gx w w5) := Lib.hid (HB1.out.trans (HBW5.out.mono (by omega)))
      have HQ7 := Lib.hid q7
      have HMD := Lib.hid hmD
      generalize hg7 : w4.heap.size = g7 at *
      have hg71 : w1.heap.size ≤ g7 := by omega
      clear x0 x1 x2 x3 x4 x5 x6 q7 hb5 HWH3 HB4 HO4 HBW3 HBG3 hmD hg7 hs4 hs3
      obtain ⟨x0, x1, x2, x3, x4, x5, x6⟩ := HBOX.out w5 HBW5.out
      have HBN5 := Lib.hid (HBN.out w5 HBG5.out)
      clear HBN
      go_upto_region 9 with (go_at_call 18; (with_reducible refine HBN5.out.mono ?_); rintro e w6 ⟨A', n', c', rfl, hcv, hb⟩; obtain ⟨P2, hv2, hPC⟩ := hcv (by first | trivial | rfl); have HPC := Lib.hid hPC; have HV2 := Lib.hid hv2; have HB6 := Lib.hid hb; clear hcv hb hPC hv2)
      have hv2 := HV2.out
      simp only [Value.slice.injEq] at hv2
      obtain ⟨h1, h2, h3⟩ := hv2
      subst h1
      have HBW6 : Hid (Below w1.heap.size w1 w6) := Lib.hid (HBW5.out.trans (HB6.out.mono (by have := HBW5.out.size; omega)))
      have HBG6 : Hid (Below gx w w6) := Lib.hid (HB1.out.trans (HBW6.out.mono (by omega)))
      have HO6 := Lib.hid (own_below HO5.out HB6.out)
      have HQ76 : Hid (w6.heap[g7]? = some (.cells #[.int .i64 level, .int .i64 cell, .int .i64 epoch, .slice P m cp] 37 (0, 0))) := Lib.hid ((HB6.out.block g7 hs5).trans HQ7.out)
      have hg76 : g7 < w6.heap.size := by have := HB6.out.size; omega
      have HH2 := Lib.hid h2
      have hmb : m = n' * n' := by rw [HMD.out, HMT.out.len, h2]
      have HMB := Lib.hid hmb
      have hn16 : n' ≤ 16384 := by rw [h2]; have := HBL.out; omega
      clear x0 x1 x2 x3 x4 x5 x6 HBN5 h3 HO5 HQ7 HBW5 HBG5 HB6 hmb h2
      obtain ⟨z0, z1, z2, z3, -⟩ := cells4 HQ76.out
      have hbb : n' * n' ≤ 268435456 := Nat.mul_le_mul hn16 hn16
      have hsq : IntKind.i64.wrap ((n' : Int) * (n' : Int)) = (m : Int) := by rw [HMB.out]; exact wrap_mul (Nat.le_refl _) (Nat.le_refl _) (by omega)
      go_wp2_with fail
      clear hsq z0 z1 z2 z3
      go_loopg [63] n' (fun gg s63 wr => ∃ i : Nat, i ≤ n' ∧ n' - i ≤ gg ∧ s63 = .int .i64 i ∧ Hid (Below w6.heap.size w6 wr))
      case atStart => exact ⟨0, Nat.zero_le _, by omega, rfl, Lib.hid (Below.refl _ _)⟩
      case round =>
        obtain ⟨i, hi1, hgg, rfl, HBL1⟩ := hrel
        by_cases hlt : i < n'
        · have hltz : (i : Int) < (n' : Int) := by omega
          have hwk : IntKind.i64.wrap ((i : Int) + 1) = ((i + 1 : Nat) : Int) := by rw [IntWalk.i64_in _ (by omega)]; omega
          obtain ⟨wm, rfl⟩ : ∃ x : World, x = wr := ⟨_, rfl⟩
          have hmpos : 0 < m := by rw [HMB.out]; exact Nat.mul_pos (by omega) (by omega)
          have hm28 : m ≤ 268435456 := by rw [HMB.out]; exact hbb
          have hown := HO6.out
          have hnl : (Q.natsI D).length = m := by unfold Q.natsI; rw [List.length_map, HMD.out]
          rw [hnl] at hown
          obtain ⟨gP, hgP⟩ := own_spot hown hmpos
          obtain ⟨lad, hlad, -⟩ := Q.int_cell HPC.out 0 (by rw [← HH2.out]; omega)
          have HF : Hid (∀ wx : World, Below w6.heap.size w6 wx → wx.cell? ⟨gx, 0, none⟩ = some (.int .i64 (n : Int)) ∧ wx.cell? ⟨gx, 1, none⟩ = some (.slice A arcs.length c) ∧ wx.cell? ⟨g7, 3, none⟩ = some (.slice (some ⟨gP, 0, none⟩) m cp) ∧ (∀ q, q < m → wx.cell? ⟨gP, q, none⟩ = some (.int .u64 (D.getD q 0 : Nat))) ∧ (∀ j, j < n' → wx.cell? (lad.add j) = some (.int .i64 ((l.getD j 0).toNat : Nat)) ∧ (l.getD j 0).toNat < n)) := Lib.hid (fun wx hb => by
            obtain ⟨a0, a1, -⟩ := HBOX.out wx (HBW6.out.trans (hb.mono (by have := HBW6.out.size; omega)))
            obtain ⟨-, -, -, a2, -⟩ := cells4 ((hb.block g7 hg76).trans HQ76.out)
            rw [hgP] at a2
            refine ⟨a0, a1, a2, fun q hq => ?_, fun j hj => ?_⟩
            · have h := own_below HO6.out hb
              rw [hgP] at h
              exact u64_own h q (by rw [← HMD.out]; exact hq)
            · obtain ⟨lad', h1, h2⟩ := Q.int_cell (Kd.C_below HPC.out hb) j (by rw [← HH2.out]; exact hj)
              rw [hlad] at h1
              cases h1
              have hjl : j < l.length := by rw [← HH2.out]; exact hj
              have hin := HBIN.out (l.getD j 0) (by rw [List.getD_eq_getElem?_getD, List.getElem?_eq_getElem hjl]; exact List.getElem_mem hjl)
              exact ⟨by rw [Int.toNat_of_nonneg hin.1]; exact h2, by omega⟩)
          subst hgP
          subst hlad
          obtain ⟨f0, f1, f2, -, f4⟩ := HF.out wm HBL1.out
          obtain ⟨x0, hvn⟩ := f4 i hlt
          have hbw : Below w.heap.size w wm := by rw [HGX.out]; exact HBG6.out.trans (HBL1.out.mono (by have := HBG6.out.size; omega))
          have HFR : Hid (∀ wx : World, Below wm.heap.size wm wx → Calls Tryz.prog 19 #[.agg #[.int .i64 (n : Int), .slice A arcs.length c], .int .i64 ((l.getD i 0).toNat : Nat)] wx fun e w' => ∃ d q, e = .returned (.tuple #[.slice (some ⟨q, 0, none⟩) n n, .int .i64 0]) ∧ Sol false n arcs (fun _ => true) (l.getD i 0).toNat d ∧ wx.heap.size ≤ q ∧ w'.heap[q]? = some (.cells (d.map (fun x : Nat => Value.int .u64 (x : Int))).toArray 43 (0, 0)) ∧ Below wx.heap.size wx w') :=
            Lib.hid (fun wx hb => from_any n arcs A c _ wx HG.out (Kd.C_below (Kd.C_below HR.out hbw) hb) HC.out hvn)
          have hgm : gx < wm.heap.size := by have := HBG6.out.size; have := HBL1.out.size; omega
          have HGM := Lib.hid hgm
          have HHI := Lib.hid hlt
          have HLOW : Hid (∀ (j : Nat) (d : List Nat), j < n' → Sol false n arcs (fun _ => true) (l.getD i 0).toNat d → d.getD (l.getD j 0).toNat 0 ≤ D.getD (i * n' + j) 0) := Lib.hid (fun j d hj hd => by
            rw [HH2.out] at hj ⊢
            exact HMT.out.low i j d (by rw [← HH2.out]; exact HHI.out) hj hd)
          generalize hvv : (l.getD i 0).toNat = v at *
          clear hmpos hown hnl f2 f4 hbw hvv
          go_upto_region 15 with fail
          go_cut [13, 14] (fun s13 s14 wx => ∃ (d : List Nat) (q : Nat), s13 = .slice (some ⟨q, 0, none⟩) n n ∧ s14 = .int .i64 0 ∧ Hid (Sol false n arcs (fun _ => true) v d) ∧ Hid (wx.heap[q]? = some (.cells (d.map (fun x : Nat => Value.int .u64 (x : Int))).toArray 43 (0, 0))) ∧ Hid (Below wm.heap.size wm wx))
          case first =>
            go_region_held3 (fun w' => w'.cell? ⟨gx, 0, none⟩ = some (.int .i64 (n : Int)) ∧ w'.cell? ⟨gx, 1, none⟩ = some (.slice A arcs.length c) ∧ w'.cell? (lad.add i) = some (.int .i64 (v : Int))) (first | (refine ⟨?_, ?_, ?_⟩ <;> (repeat (first | assumption | (simp; done) | (simp [*]; done) | rw [drew_cell_all]))) | (go_keep; done))
              (first | (go_at_call 19; (with_reducible refine (HFR.out _ ?hra).mono ?_); (case hra => exact (Below.refl _ _).drew); rintro e wF ⟨d, q, rfl, hsol, hq, hrow, hbF⟩; have fe0 := (hbF.cell (p := ⟨gx, 0, none⟩) HGM.out).trans f0; have fe1 := (hbF.cell (p := ⟨gx, 1, none⟩) HGM.out).trans f1; have fy0 := (hbF.cell (p := lad.add i) (World.block_lt_of_cell? wm _ x0)).trans x0))
            all_goals
              go_wp2_with fail
              go_meet
              exact ⟨d, q, rfl, rfl, Lib.hid hsol, Lib.hid hrow, Lib.hid ((Below.refl _ _).drew.trans hbF)⟩
          case rest =>
            obtain ⟨d, q, rfl, rfl, HS, HQ, HBC⟩ := hcut
            have HB6C : Hid (Below w6.heap.size w6 wc) := Lib.hid (HBL1.out.trans (HBC.out.mono (by have := HBL1.out.size; omega)))
            clear f0 f1 x0 HFR
            obtain ⟨p, hp⟩ : ∃ p : Nat, p = i * n' := ⟨_, rfl⟩
            have hw1 : IntKind.i64.wrap ((i : Int) * (n' : Int)) = (p : Int) := by rw [hp]; exact wrap_mul hi1 hbb (by omega)
            have hpb : ∀ j, j < n' → p + j < m := fun j hj => by rw [HMB.out, hp]; exact mul_small HHI.out hj
            have HPB := Lib.hid hpb
            have HPQ := Lib.hid hp
            obtain ⟨t, ht⟩ : ∃ t : Nat, t = p + i := ⟨_, rfl⟩
            have htm : t < m := by rw [ht]; exact hpb i HHI.out
            have hw2 : IntKind.i64.wrap ((p : Int) + (i : Int)) = (t : Int) := by rw [IntWalk.i64_in _ (by omega)]; omega
            have htz : (t : Int) < (m : Int) := by omega
            obtain ⟨-, -, f2, f3, -⟩ := HF.out wc HB6C.out
            have y0 := f3 t htm
            have hz0 : D.getD t 0 = 0 := by rw [ht, HPQ.out, HH2.out]; exact HMT.out.zero i (by rw [← HH2.out]; exact HHI.out)
            rw [hz0] at y0
            have y1 : wc.cell? ⟨gP, t, none⟩ = some (.int .u64 0) := y0
            have HW1 := Lib.hid hw1
            clear f3 hpb hp ht htm hz0 y0
            go_wp2_with fail
            clear hw1 hw2 htz y1 f2
            go_loopg [90] n' (fun gg s90 wr => ∃ j : Nat, j ≤ n' ∧ n' - j ≤ gg ∧ s90 = .int .i64 j ∧ Hid (Below wc.heap.size wc wr))
            case atStart => exact ⟨0, Nat.zero_le _, by omega, rfl, Lib.hid (Below.refl _ _)⟩
            case round =>
              obtain ⟨j, hj1, hgg2, rfl, HBL2⟩ := hrel
              obtain ⟨wn, rfl⟩ : ∃ x : World, x = wr := ⟨_, rfl⟩
              have HB6N : Hid (Below w6.heap.size w6 wn) := Lib.hid (HB6C.out.trans (HBL2.out.mono (by have := HB6C.out.size; omega)))
              by_cases hjt : j < n'
              · have hjtz : (j : Int) < (n' : Int) := by omega
                have hwj : IntKind.i64.wrap ((j : Int) + 1) = ((j + 1 : Nat) : Int) := by rw [IntWalk.i64_in _ (by omega)]; omega
                obtain ⟨t, ht⟩ : ∃ t : Nat, t = p + j := ⟨_, rfl⟩
                have htm : t < m := by rw [ht]; exact HPB.out j hjt
                have hw2 : IntKind.i64.wrap ((p : Int) + (j : Int)) = (t : Int) := by rw [IntWalk.i64_in _ (by omega)]; omega
                have htz : (t : Int) < (m : Int) := by omega
                obtain ⟨-, -, f2, f3, f4⟩ := HF.out wn HB6N.out
                have y0 := f3 t htm
                obtain ⟨y1, hun⟩ := f4 j hjt
                have hle := HLOW.out j d hjt HS.out
                have hDt : D.getD (i * n' + j) 0 = D.getD t 0 := by rw [ht, HPQ.out]
                rw [hDt] at hle
                have HJT := Lib.hid hjt
                have HTQ := Lib.hid ht
                generalize hu : (l.getD j 0).toNat = u at *
                have y2 : wn.cell? ⟨q, u, none⟩ = some (.int .u64 (d.getD u 0 : Nat)) := by
                  have hqc := (HBL2.out.block q (lt_of_block HQ.out)).trans HQ.out
                  rw [cell_of_row _ _ u _ _ _ hqc]
                  have : u < d.length := by rw [HS.out.len]; exact hun
                  simp [this]
                have hunz : (u : Int) < (n : Int) := by omega
                have hno : ¬ ((D.getD t 0 : Nat) : Int) < ((d.getD u 0 : Nat) : Int) := by omega
                have hnd : decide (((D.getD t 0 : Nat) : Int) < ((d.getD u 0 : Nat) : Int)) = false := decide_eq_false hno
                have hnn : decide (D.getD t 0 < d.getD u 0) = false := decide_eq_false (by omega)
                have hw1 := HW1.out
                clear f3 f4 hle hDt ht htm hu
                generalize D.getD t 0 = x at *
                generalize d.getD u 0 = y at *
                go_wp2_with fail
                go_quiet (fail)
                go_wp2_with fail
                clear y0 y1 y2 hw1 hw2 htz hunz hno hnd hnn f2
                have HWJ := Lib.hid hwj
                clear hwj
                go_loopg [111] n' (fun gg s111 wr => ∃ k : Nat, k ≤ n' ∧ n' - k ≤ gg ∧ s111 = .int .i64 k ∧ Hid (Below wn.heap.size wn wr))
                case atStart => exact ⟨0, Nat.zero_le _, by omega, rfl, Lib.hid (Below.drewN_ (Below.refl _ _) _)⟩
                case round =>
                  obtain ⟨k, hk1, hgg3, rfl, HBL3⟩ := hrel
                  have HB6R : Hid (Below w6.heap.size w6 wr) := Lib.hid (HB6N.out.trans (HBL3.out.mono (by have := HB6N.out.size; omega)))
                  by_cases hkt : k < n'
                  · have hktz : (k : Int) < (n' : Int) := by omega
                    have hwk3 : IntKind.i64.wrap ((k : Int) + 1) = ((k + 1 : Nat) : Int) := by rw [IntWalk.i64_in _ (by omega)]; omega
                    obtain ⟨t1, ht1⟩ : ∃ t1 : Nat, t1 = p + k := ⟨_, rfl⟩
                    obtain ⟨p2, hp2⟩ : ∃ p2 : Nat, p2 = k * n' := ⟨_, rfl⟩
                    obtain ⟨t2, ht2⟩ : ∃ t2 : Nat, t2 = p2 + j := ⟨_, rfl⟩
                    have htm : t < m := by rw [HTQ.out]; exact HPB.out j HJT.out
                    have htm1 : t1 < m := by rw [ht1]; exact HPB.out k hkt
                    have htm2 : t2 < m := by rw [ht2, hp2, HMB.out]; exact mul_small hkt HJT.out
                    have hw2 : IntKind.i64.wrap ((p : Int) + (j : Int)) = (t : Int) := by rw [IntWalk.i64_in _ (by have := HTQ.out; omega)]; have := HTQ.out; omega
                    have hw3 : IntKind.i64.wrap ((p : Int) + (k : Int)) = (t1 : Int) := by rw [IntWalk.i64_in _ (by omega)]; omega
                    have hw4 : IntKind.i64.wrap ((k : Int) * (n' : Int)) = (p2 : Int) := by rw [hp2]; exact wrap_mul hk1 hbb (by omega)
                    have hw5 : IntKind.i64.wrap ((p2 : Int) + (j : Int)) = (t2 : Int) := by rw [IntWalk.i64_in _ (by omega)]; omega
                    have htz : (t : Int) < (m : Int) := by omega
                    have htz1 : (t1 : Int) < (m : Int) := by omega
                    have htz2 : (t2 : Int) < (m : Int) := by omega
                    obtain ⟨-, -, f2, f3, -⟩ := HF.out wr HB6R.out
                    have y0 := f3 t htm
                    have y1 := f3 t1 htm1
                    have y2 := f3 t2 htm2
                    have htri : D.getD t 0 ≤ addD (D.getD t1 0) (D.getD t2 0) := by
                      have h := HMT.out.tri i j k (by rw [← HH2.out]; exact HHI.out) (by rw [← HH2.out]; exact HJT.out) (by rw [← HH2.out]; exact hkt)
                      rw [← HH2.out, ← hp2, ← HPQ.out, ← ht1, ← ht2, ← HTQ.out] at h
                      exact h
                    have HADD : Hid (∀ wx : World, Calls Tryz.prog 20 #[.int .u64 (D.getD t1 0 : Nat), .int .u64 (D.getD t2 0 : Nat)] wx fun e w' => e = .returned (.int .u64 (addD (D.getD t1 0) (D.getD t2 0) : Nat)) ∧ w' = wx) := Lib.hid (fun wx => (add_any _ _ (HMT.out.lt _) (HMT.out.lt _) wx).mono (fun e w' h => ⟨h.1, h.2.symm⟩))
                    have hno : ¬ ((addD (D.getD t1 0) (D.getD t2 0) : Nat) : Int) < ((D.getD t 0 : Nat) : Int) := by omega
                    have hnd : decide (((addD (D.getD t1 0) (D.getD t2 0) : Nat) : Int) < ((D.getD t 0 : Nat) : Int)) = false := decide_eq_false hno
                    have hnn : decide (addD (D.getD t1 0) (D.getD t2 0) < D.getD t 0) = false := decide_eq_false (by omega)
                    have hw1 := HW1.out
                    clear f3 htri ht1 hp2 ht2 htm htm1 htm2
                    generalize addD (D.getD t1 0) (D.getD t2 0) = sm at *
                    generalize D.getD t 0 = x at *
                    generalize D.getD t1 0 = x1 at *
                    generalize D.getD t2 0 = x2 at *
                    go_wp2_with fail
                    go_quiet ((go_at_call 20; exact Calls.quiet_of_same (HADD.out _)))
                    go_wp2_with fail
                    have HWK3 := Lib.hid hwk3
                    clear hwk3
                    go_roundg (n' - (k + 1))
                    case measure => omega
                    case rel => exact ⟨k + 1, by omega, Nat.le_refl _, rfl, Lib.hid (Below.drewN_ HBL3.out _)⟩
                  · have : k = n' := by omega
                    subst this
                    have hkz3 : ¬ (k : Int) < (k : Int) := by omega
                    have hwj := HWJ.out
                    go_wp2_with fail
                    clear hwj
                    go_roundg (k - (j + 1))
                    case measure => omega
                    case rel => exact ⟨j + 1, by omega, Nat.le_refl _, rfl, Lib.hid (HBL2.out.trans (HBL3.out.mono (by have := HBL2.out.size; omega)))⟩
              · have : j = n' := by omega
                subst this
                have hjz3 : ¬ (j : Int) < (j : Int) := by omega
                go_wp2_with fail
                have HWK := Lib.hid hwk
                clear hwk
                go_roundg (j - (i + 1))
                case measure => omega
                case rel => exact ⟨i + 1, by omega, Nat.le_refl _, rfl, HB6N⟩
        · have : i = n' := by omega
          subst this
          have hkz2 : ¬ (i : Int) < (i : Int) := by omega
          go_wp2_with fail
          go_ret
          have hgx := HGX.out
          subst hgx
          exact ⟨rfl, HBG6.out.trans (HBL1.out.mono (by have := HBG6.out.size; omega))⟩
    · clear HOK HBN
      go_upto_region 6 with (go_at_call 17; (with_reducible refine HWH3.out.mono ?_); rintro e w4 ⟨v, rfl, -, hv, hb⟩; have hv := hv hwe; subst hv; have HB4 := Lib.hid hb; clear hb)
      have q7 := heap_alloc_new w4 (.cells #[.int .i64 0, .int .i64 0, .int .i64 0, .slice none 0 0] 37)
      have hb5 : Below w4.heap.size w4 (w4.alloc (.cells #[.int .i64 0, .int .i64 0, .int .i64 0, .slice none 0 0] 37)) := (Below.refl _ w4).alloc (Nat.le_refl _) _
      generalize (w4.alloc (.cells #[.int .i64 0, .int .i64 0, .int .i64 0, .slice none 0 0] 37)) = w5 at *
      obtain ⟨z0, z1, z2, z3, -⟩ := cells4 q7
      clear x0 x1 x2 x3 x4 x5 x6 q7
      go_wp2_with fail
      go_ret
      have hgx := HGX.out
      subst hgx
      exact ⟨rfl, (HBG3.out.trans (HB4.out.mono (by have := HBG3.out.size; omega))).trans (hb5.mono (by have := HBG3.out.size; have := HB4.out.size; omega))⟩

end Go.Proofs.YtenbcfjfgbpinaaGreat

/- What rows of this seat open: graphs, nests, numbers. -/
namespace Go.Proofs.YtenbcfjfgbpinaaGreat
open Go.ChangeShapes Go.WideShapes Go.ChangeAt Go.RowKit Go.Proofs.YtenbcfjfgbpinaaGreatW.PrintWords Go.Proofs.YtenbcfjfgbpinaaGreatW.PrintLast
open Go.ChangeMaps (open_string shut_string)
set_option linter.unusedVariables false

theorem own13h : ownKnob Tryz.prog.godebug = none := by kernel_rfl
theorem laidOut13h : laidOutB Tryz.prog = true := by kernel_rfl

/-- A list of what each index has. -/
theorem list_of_each {α : Type} {P : Nat → α → Prop} (n : Nat) (d : α) (h : ∀ i, i < n → ∃ x, P i x) : ∃ xs : List α, xs.length = n ∧ ∀ i, i < xs.length → P i (xs.getD i d) := by
  induction n with
  | zero => exact ⟨[], rfl, fun i hi => absurd hi (Nat.not_lt_zero _)⟩
  | succ n ih =>
    obtain ⟨xs, hl, hx⟩ := ih (fun i hi => h i (by omega))
    obtain ⟨x, hp⟩ := h n (by omega)
    refine ⟨xs ++ [x], by simp [hl], fun i hi => ?_⟩
    by_cases hi2 : i < xs.length
    · have := hx i hi2
      rw [List.getD_eq_getElem?_getD, List.getElem?_append_left hi2, ← List.getD_eq_getElem?_getD]
      exact this
    · simp only [List.length_append, List.length_singleton] at hi
      obtain rfl : i = n := by omega
      rw [List.getD_eq_getElem?_getD, List.getElem?_append_right (by omega), hl]
      simpa using hp

section
variable {H : Type} {enc : TypeId × Value → H} {W : World} {base n : Nat} {sp : Nat → Bool} {held : Bool}
theorem fields_of {t e : TypeId} {P : Program} {fs : Array Field} {fuel : Nat} {cs : List Value} {x : DataW H × List MemPlace} (ht : P.underlying t = some (.slice e)) (he : P.underlying e = some (.struct fs))
    (hone : Go.Deep.oneCellFields P fs = true) (hC : P.cellsOf e = fs.size) (h : DataW.trod enc P W base sp held fuel t cs = some x) :
    (cs = [.slice none 0 0] ∧ x = (.nil, [])) ∨
    ∃ (a : Addr) (len cap m : Nat) (D : Nat → DataW H) (Pl : Nat → List MemPlace), cs = [.slice (some a) len cap] ∧ base ≤ a.block ∧ len ≤ cap ∧ cap ≤ maxLen ∧ m = (if sp a.block then cap else len) ∧
      x = (.slice ((List.range len).map D) ((List.range (m - len)).map fun j => D (len + j)), MemPlace.row a (m * fs.size) ++ (List.range m).flatMap Pl) ∧
      ∀ i, i < m → ∃ (ys : List (DataW H × List MemPlace)) (n : Nat), D i = .agg (ys.map (·.1)) ∧ Pl i = ys.flatMap (·.2) ∧ ys.length = fs.size ∧
        ∀ (j : Nat) (f : Field), fs[j]? = some f → ∃ (v : Value) (y : DataW H × List MemPlace), W.cell? (a.add (i * fs.size + j)) = some v ∧ ys[j]? = some y ∧ DataW.trod enc P W base sp held n f.type [v] = some y := by
  rcases Go.Deep.open_slice ht h with h0 | ⟨a, len, cap, m, n, D, Pl, hcs, hb, hl, hm, hmm, hx, hi⟩
  · exact .inl h0
  · refine .inr ⟨a, len, cap, m, D, Pl, hcs, hb, hl, hm, hmm, by rw [hC] at hx; exact hx, fun i him => ?_⟩
    obtain ⟨cs', hc, ht'⟩ := hi i him
    rw [hC] at hc
    obtain ⟨ys, n', hn', hy, hlen, hyl, hf⟩ := DataW.trod_struct he ht'
    obtain ⟨_, hcl, hat⟩ := World.cells?_some hc
    simp only [Prod.mk.injEq] at hy
    refine ⟨ys, n', hy.1, hy.2, hyl, fun j f hj => ?_⟩
    obtain ⟨ho, hk⟩ := Go.Deep.hone_of hone j f hj
    have hjl : j < fs.size := (Array.getElem?_eq_some_iff.1 hj).1
    have hcell := hat j hjl
    have hv : cs'[j]? = some (cs'[j]'(by omega)) := List.getElem?_eq_getElem (by omega)
    have h1 := hf j f hj
    rw [ho, hk] at h1
    have hone' : (cs'.drop j).take 1 = [cs'[j]'(by omega)] := by
      rw [List.drop_eq_getElem_cons (by omega)]
      rfl
    rw [hone'] at h1
    have hys : ys[j]? = some (ys[j]'(by omega)) := List.getElem?_eq_getElem (by omega)
    refine ⟨_, _, ?_, hys, h1.trans hys⟩
    rw [← Go.Deep.add_add, hcell, hv]

/-- A struct of five fields of one cell each, by value, opened. -/
theorem open_agg5 {P : Program} {r : Reach} {b0 : Nat} {t : TypeId} {f0 f1 f2 f3 f4 : Field} {v : Value} {d : DataW H} {p : List MemPlace} (hs : P.underlying t = some (.struct #[f0, f1, f2, f3, f4])) (hone : Go.Deep.oneCellFields P #[f0, f1, f2, f3, f4] = true) (hC : P.cellsOf t = 5)
    (hv : Value.okWide P W r b0 t v) (h : DataW.Trod enc P W base sp held t v d p) :
    ∃ (v0 v1 v2 v3 v4 : Value) (y0 y1 y2 y3 y4 : DataW H × List MemPlace) (n : Nat), v = .agg #[v0, v1, v2, v3, v4] ∧
      DataW.trod enc P W base sp held n f0.type [v0] = some y0 ∧ DataW.trod enc P W base sp held n f1.type [v1] = some y1 ∧ DataW.trod enc P W base sp held n f2.type [v2] = some y2 ∧ DataW.trod enc P W base sp held n f3.type [v3] = some y3 ∧ DataW.trod enc P W base sp held n f4.type [v4] = some y4 := by
  obtain ⟨cs, rfl, hsz⟩ := okWide_struct hs hv
  have hsz5 : cs.size = 5 := hsz.trans hC
  obtain ⟨c0, c1, c2, c3, c4, rfl⟩ : ∃ a b c d e, cs = #[a, b, c, d, e] := by
    obtain ⟨l⟩ := cs
    match l, hsz5 with
    | [a, b, c, d, e], _ => exact ⟨a, b, c, d, e, rfl⟩
  obtain ⟨fuel, hf⟩ := h
  obtain ⟨ys, n, _, _, _, hyl, hff⟩ := DataW.trod_struct hs hf
  have hyl5 : ys.length = 5 := hyl
  obtain ⟨o0, k0⟩ := Go.Deep.hone_of hone 0 f0 rfl
  obtain ⟨o1, k1⟩ := Go.Deep.hone_of hone 1 f1 rfl
  obtain ⟨o2, k2⟩ := Go.Deep.hone_of hone 2 f2 rfl
  obtain ⟨o3, k3⟩ := Go.Deep.hone_of hone 3 f3 rfl
  obtain ⟨o4, k4⟩ := Go.Deep.hone_of hone 4 f4 rfl
  have g0 := hff 0 f0 rfl
  have g1 := hff 1 f1 rfl
  have g2 := hff 2 f2 rfl
  have g3 := hff 3 f3 rfl
  have g4 := hff 4 f4 rfl
  rw [o0, k0, List.getElem?_eq_getElem (by omega)] at g0
  rw [o1, k1, List.getElem?_eq_getElem (by omega)] at g1
  rw [o2, k2, List.getElem?_eq_getElem (by omega)] at g2
  rw [o3, k3, List.getElem?_eq_getElem (by omega)] at g3
  rw [o4, k4, List.getElem?_eq_getElem (by omega)] at g4
  exact ⟨c0, c1, c2, c3, c4, _, _, _, _, _, n, rfl, by simpa [Value.cells] using g0, by simpa [Value.cells] using g1, by simpa [Value.cells] using g2, by simpa [Value.cells] using g3, by simpa [Value.cells] using g4⟩

/-- Numbers that an argument has. -/
theorem ints_of {k : IntKind} {t e : TypeId} {v : Value} {y : DataW H × List MemPlace} (ht : Tryz.prog.underlying t = some (.slice e)) (he : Tryz.prog.underlying e = some (.int k)) (hc : Tryz.prog.cellsOf e = 1) (h : DataW.trod enc Tryz.prog W base (fun _ => true) held n t [v] = some y) :
    ∃ (A : Option Addr) (c : Nat) (l : List Int), v = .slice A l.length c ∧ l.length ≤ c ∧ Kd.C (Kd.int k) W A l.length l ∧ ∀ x ∈ l, (Lit.int k x).wf = true := by
  rcases open_ints ht he hc h with ⟨hcs, _⟩ | ⟨x, l, c, zs, hcs, _, hl, hm, hz, _, hcell, hwz⟩
  · simp at hcs
    subst hcs
    exact ⟨none, 0, [], rfl, Nat.le_refl _, ⟨rfl, by simp, fun h => by simp at h⟩, fun x hx => by cases hx⟩
  · simp at hcs
    subst hcs
    simp only [if_true] at hz
    have hlen : (zs.take l).length = l := by rw [List.length_take]; omega
    refine ⟨some x, c, zs.take l, by rw [hlen], by omega, ⟨rfl, by rw [hlen]; unfold maxLen at hm; omega, fun _ => ⟨x, rfl, fun j p hj => ?_⟩⟩, fun z hz2 => hwz z (List.mem_of_mem_take hz2)⟩
    have hjl : j < l := by
      rcases Nat.lt_or_ge j (zs.take l).length with h' | h'
      · rw [hlen] at h'; exact h'
      · rw [List.getElem?_eq_none h'] at hj; cases hj
    refine ⟨[.int k p], rfl, rfl, fun i u hu => ?_⟩
    match i, hu with
    | 0, hu =>
      simp at hu
      subst hu
      rw [Nat.add_zero, show (Kd.int k).sz = 1 from rfl, Nat.mul_one, hcell j (by omega)]
      rw [List.getElem?_take, if_pos hjl] at hj
      rw [List.getD_eq_getElem?_getD, hj]
      rfl

theorem arcs_of {v : Value} {y : DataW H × List MemPlace} (h : DataW.trod enc Tryz.prog W base (fun _ => true) held n 22 [v] = some y) :
    ∃ (A : Option Addr) (c : Nat) (l : List Q.S68), v = .slice A l.length c ∧ l.length ≤ c ∧ Kd.C Q.k68 W A l.length l ∧ Q.ArcsFit l := by
  rcases fields_of Tryz.underlying22 Tryz.underlying68 (by kernel_rfl) (by kernel_rfl) h with ⟨hcs, _⟩ | ⟨a, len, cap, m, D, Pl, hcs, _, hl, hm, hmm, hx, hi⟩
  · simp at hcs
    subst hcs
    exact ⟨none, 0, [], rfl, Nat.le_refl _, arcs_C_nil _ _, fun a ha => by cases ha⟩
  · simp at hcs
    subst hcs
    simp only [if_true] at hmm
    subst hmm
    have each : ∀ i, i < len → ∃ x : Q.S68, (W.cell? (a.add (i * 3)) = some (.int .i64 x.f0) ∧ W.cell? (a.add (i * 3 + 1)) = some (.int .i64 x.f1) ∧ W.cell? (a.add (i * 3 + 2)) = some (.int .u32 x.f2)) ∧ ((-9223372036854775808 ≤ x.f0 ∧ x.f0 < 9223372036854775808) ∧ (-9223372036854775808 ≤ x.f1 ∧ x.f1 < 9223372036854775808) ∧ (0 ≤ x.f2 ∧ x.f2 < 4294967296)) := by
      intro i hil
      obtain ⟨ys, n2, hD, _, hyl, hf⟩ := hi i (by omega)
      obtain ⟨v0, y0, g0, e0, t0⟩ := hf 0 _ rfl
      obtain ⟨v1, y1, g1, e1, t1⟩ := hf 1 _ rfl
      obtain ⟨v2, y2, g2, e2, t2⟩ := hf 2 _ rfl
      obtain ⟨k0, q0, r0, wf0⟩ := DataW.trod_int Tryz.underlying3 t0
      obtain ⟨k1, q1, r1, wf1⟩ := DataW.trod_int Tryz.underlying3 t1
      obtain ⟨k2, q2, r2, wf2⟩ := DataW.trod_int Tryz.underlying41 t2
      simp only [List.cons.injEq, and_true] at q0 q1 q2
      subst q0 q1 q2
      have b0 := bounds_i64 wf0
      have b1 := bounds_i64 wf1
      have b2 := bounds_u32 wf2
      exact ⟨⟨k0, k1, k2⟩, ⟨g0, g1, g2⟩, by simp only; omega⟩
    obtain ⟨xs, hl2, hxs⟩ := list_of_each len Q.z68 each
    subst hl2
    refine ⟨some a, _, xs, rfl, by omega, ⟨rfl, by unfold maxLen at hm; omega, fun _ => ⟨a, rfl, fun j p hj => ?_⟩⟩, fun x hx2 => ?_⟩
    · have hjl : j < xs.length := by
        rcases Nat.lt_or_ge j xs.length with h' | h'
        · exact h'
        · rw [List.getElem?_eq_none h'] at hj; cases hj
      have hp : xs.getD j Q.z68 = p := by rw [List.getD_eq_getElem?_getD, hj]; rfl
      obtain ⟨c0, c1, c2⟩ := (hxs j hjl).1
      rw [hp] at c0 c1 c2
      refine ⟨[.int .i64 p.f0, .int .i64 p.f1, .int .u32 p.f2], rfl, Q.k68_mk W p, fun i u hu => ?_⟩
      rw [show Q.k68.sz = 3 from rfl]
      match i, hu with
      | 0, hu => simp at hu; subst hu; exact c0
      | 1, hu => simp at hu; subst hu; exact c1
      | 2, hu => simp at hu; subst hu; exact c2
    · obtain ⟨j, hj, hje⟩ := List.getElem_of_mem hx2
      have c1 := (hxs j hj).2
      have hg : xs.getD j Q.z68 = x := by rw [List.getD_eq_getElem?_getD, List.getElem?_eq_getElem hj, Option.getD_some, hje]
      rw [hg] at c1
      exact c1

theorem rows_of {v : Value} {y : DataW H × List MemPlace} (h : DataW.trod enc Tryz.prog W base (fun _ => true) held n 26 [v] = some y) :
    ∃ (A : Option Addr) (c : Nat) (l : List (List Int)), v = .slice A l.length c ∧ l.length ≤ c ∧ Kd.C (Kd.slice 3 (Kd.int .i64)) W A l.length l := by
  rcases Go.Deep.open_slice1 Tryz.underlying26 (by kernel_rfl) h with ⟨hcs, _⟩ | ⟨a, len, cap, m, n2, V, D, Pl, hcs, _, hl, hm, hmm, hx, hi⟩
  · simp at hcs
    subst hcs
    exact ⟨none, 0, [], rfl, Nat.le_refl _, ⟨rfl, by simp, fun h => by simp at h⟩⟩
  · simp at hcs
    subst hcs
    simp only [if_true] at hmm
    subst hmm
    have each : ∀ i, i < len → ∃ x : List Int, ∃ (A0 : Option Addr) (c0 : Nat), W.cell? (a.add i) = some (.slice A0 x.length c0) ∧ x.length ≤ c0 ∧ Kd.C (Kd.int .i64) W A0 x.length x := by
      intro i hil
      obtain ⟨hcl, htr⟩ := hi i (by omega)
      obtain ⟨A0, c0, x, hv, h1, h2, _⟩ := ints_of Tryz.underlying25 Tryz.underlying3 (by kernel_rfl) htr
      exact ⟨x, A0, c0, by rw [hcl, hv], h1, h2⟩
    obtain ⟨xs, hl2, hxs⟩ := list_of_each len [] each
    subst hl2
    refine ⟨some a, _, xs, rfl, by omega, ⟨rfl, by unfold maxLen at hm; omega, fun _ => ⟨a, rfl, fun j p hj => ?_⟩⟩⟩
    have hjl : j < xs.length := by
      rcases Nat.lt_or_ge j xs.length with h' | h'
      · exact h'
      · rw [List.getElem?_eq_none h'] at hj; cases hj
    have hp : xs.getD j [] = p := by rw [List.getD_eq_getElem?_getD, hj]; rfl
    obtain ⟨A0, c0, g1, g2, g3⟩ := hxs j hjl
    rw [hp] at g1 g2 g3
    refine ⟨[.slice A0 p.length c0], rfl, ⟨A0, c0, rfl, g2, g3⟩, fun i u hu => ?_⟩
    match i, hu with
    | 0, hu =>
      simp at hu
      subst hu
      rw [Nat.add_zero, show (Kd.slice 3 (Kd.int .i64)).sz = 1 from rfl, Nat.mul_one]
      exact g1
theorem int_of {v : Value} {y : DataW H × List MemPlace} (h : DataW.trod enc Tryz.prog W base (fun _ => true) held n 3 [v] = some y) : ∃ x, v = .int .i64 x := by
  obtain ⟨k0, q0, _, _⟩ := DataW.trod_int Tryz.underlying3 h
  simp only [List.cons.injEq, and_true] at q0
  exact ⟨_, q0⟩
end

end Go.Proofs.YtenbcfjfgbpinaaGreat

/- CliqueMetric, the given row: a cell's matrix has 0 on its diagonal, is no greater than sums over a vertex between, and no less than distances in the whole graph. -/
namespace Go.Proofs.YtenbcfjfgbpinaaGreat
open Go.ChangeShapes Go.WideShapes Go.ChangeAt Go.RowKit Go.Proofs.YtenbcfjfgbpinaaGreatW.PrintWords Go.Proofs.YtenbcfjfgbpinaaGreatW.PrintLast
open Go.ChangeMaps (open_string shut_string)
set_option linter.unusedVariables false

set_option maxRecDepth 100000 in
theorem metric_lifted (os : Os) (started : os.Started) (H : Type) (enc : TypeId × Value → H) :
    ReturnsInHanded {} Tryz.checked os 5 .any (Rows.cliqueMetricSpec.pre6 enc Tryz.prog Tryz.f5 Rows.cliqueMetricRow.domain false) (Rows.cliqueMetricSpec.post enc Tryz.prog Tryz.f5 false true false false) := by
  refine returnsInHanded_of_change_sized (C := Tryz.checked) own13h started (by kernel_rfl) Tryz.func5
    (ChangeSpec.witness6 (enc := enc) (C := Tryz.checked) false ⟨#[], #[.agg #[.int .i64 0, .slice none 0 0], .agg #[.slice none 0 0, .slice none 0 0], .agg #[.int .i64 0, .int .i64 0, .int .i64 0, .slice none 0 0, .slice none 0 0]], []⟩ 8 (by kernel_rfl) (by kernel_rfl) (by kernel_rfl) (by kernel_rfl)) ?_
  intro W base args ds gs before hval0 hW hcnd hsz0 _
  have hsz : (DataW.weightsEach Tryz.prog (Tryz.f5.params.toList ++ Rows.cliqueMetricSpec.plain.varTypes Tryz.prog) (ds ++ gs)).all (· ≤ reachBytes) = true := hsz0
  have hval : ∀ (j : Nat) t v, Tryz.f5.params[j]? = some t → args[j]? = some v → Value.okWide Tryz.prog W .any base t v := hval0
  have hW' := hW
  obtain ⟨p, q, hA0, hV, rfl, hfz, hnd⟩ := hW
  have hA : DataW.TrodAll enc Tryz.prog W 0 (fun _ => true) true Tryz.f5.params.toList args.toList ds p := hA0
  rw [Tryz.params5] at hA hval hsz
  obtain ⟨v0, vs0, d0, ds0, p0, q0, hargs, rfl, rfl, h0, r0⟩ := trodAll_cons hA
  obtain ⟨v1, vs1, d1, ds1, p1, q1, rfl, rfl, rfl, h1, r1⟩ := trodAll_cons r0
  obtain ⟨v2, vs2, d2, ds2, p2, q2, rfl, rfl, rfl, h2, r2⟩ := trodAll_cons r1
  obtain ⟨rfl, rfl, rfl⟩ := trodAll_nil r2
  obtain rfl : args = #[v0, v1, v2] := by cases args; simp_all
  obtain ⟨rfl, rfl⟩ := trodVars_none hV
  have k0 := h0
  have k1 := h1
  have k2 := h2
  have lt0 : ∀ x ∈ p0, x.block < W.heap.size := by obtain ⟨m, hm⟩ := k0; exact DataW.trod_lt m _ _ _ hm
  have lt1 : ∀ x ∈ p1, x.block < W.heap.size := by obtain ⟨m, hm⟩ := k1; exact DataW.trod_lt m _ _ _ hm
  have lt2 : ∀ x ∈ p2, x.block < W.heap.size := by obtain ⟨m, hm⟩ := k2; exact DataW.trod_lt m _ _ _ hm
  obtain ⟨x0, x1, y0, y1, n0, rfl, hd0, hp0, ha0, ha1⟩ := Go.Joins.open_agg2 Tryz.underlying24 (by kernel_rfl) (by kernel_rfl) (hval 0 24 v0 rfl rfl) h0
  obtain ⟨z0, z1, u0, u1, n1, rfl, hd1, hp1, hb0, hb1⟩ := Go.Joins.open_agg2 Tryz.underlying28 (by kernel_rfl) (by kernel_rfl) (hval 1 28 v1 rfl rfl) h1
  obtain ⟨q0, q1, q2, q3, q4, e0, e1, e2, e3, e4, n2, rfl, f0, f1, f2, f3, f4⟩ := open_agg5 Tryz.underlying32 (by kernel_rfl) (by kernel_rfl) (hval 2 32 v2 rfl rfl) h2
  obtain ⟨N, rfl⟩ := int_of ha0
  obtain ⟨A, c, arcs, rfl, hc, hr, hf⟩ := arcs_of ha1
  obtain ⟨BA, bc, bounds, rfl, hbc, hb, _⟩ := ints_of Tryz.underlying25 Tryz.underlying3 (by kernel_rfl) hb0
  obtain ⟨CA, cc, cells, rfl, hcc, hcl⟩ := rows_of hb1
  obtain ⟨a20, rfl⟩ := int_of f0
  obtain ⟨cell, rfl⟩ := int_of f1
  obtain ⟨a22, rfl⟩ := int_of f2
  clear hA0 hval0 hsz0 hsz
  refine (metric_any N arcs A c BA bc bounds CA cc cells a20 cell a22 q3 q4 W hf hr hc ⟨hb, hbc, hcl, hcc⟩).mono fun e W' ⟨he, bel⟩ => ?_
  subst he
  exact ⟨_, rfl, _, _, _, [], _, [], hW', trodAll_mk1 (shut_bool Tryz.underlying4 _), (trodAll_cons_mk (Below.trod laidOut13h (by kernel_rfl) (of_decide_eq_true (by kernel_rfl)) k0 bel lt0) (trodAll_cons_mk (Below.trod laidOut13h (by kernel_rfl) (of_decide_eq_true (by kernel_rfl)) k1 bel lt1) (trodAll_cons_mk (Below.trod laidOut13h (by kernel_rfl) (of_decide_eq_true (by kernel_rfl)) k2 bel lt2) trodAll_mk0))), rfl, bel.frame _, fun h => by cases h⟩

theorem cliqueMetric_holds : Rows.CliqueMetricSaid :=
  OpenClaim.holds_of_wide 5 Tryz.f5 rfl rfl rfl rfl rfl rfl rfl ⟨rfl, rfl, rfl, rfl, rfl⟩ rfl rfl rfl rfl rfl (by kernel_rfl) Tryz.func5 (by kernel_rfl)
    (of_decide_eq_true (by kernel_rfl)) (by unfold Func.isWrapper; first | (rw [if_pos (by decide +kernel)]; kernel_rfl) | (rw [if_neg (by decide +kernel)]; exact ⟨rfl, rfl⟩))
    (fun os started H enc _ => metric_lifted os started H enc)

#print axioms cliqueMetric_holds
end Go.Proofs.YtenbcfjfgbpinaaGreat
