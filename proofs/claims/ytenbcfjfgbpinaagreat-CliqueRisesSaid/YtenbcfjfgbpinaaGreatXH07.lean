/- clique.Whole. -/
import Derived.Test.YtenbcfjfgbpinaaGreatXG12
import Derived.Maps.AppendAt
import Derived.Test.YtenbcfjfgbpinaaGreatXH05
import Derived.Test.YtenbcfjfgbpinaaGreatXH04
import Derived.Test.YtenbcfjfgbpinaaGreatXH01
import Derived.Test.YtenbcfjfgbpinaaGreatXG09
import Derived.Test.YtenbcfjfgbpinaaGreatXQx3
import Derived.Test.YtenbcfjfgbpinaaGreatXH06
import Derived.WalkKit
import Derived.ProofKit
import Derived.OpenShut
import Derived.ShutString
import Derived.ChangeOld
import Derived.Below
import Derived.SizedLaws
import Derived.Lib.SmallJoins
import Derived.Carry
import Derived.ChangeSlices
import Derived.Deep.Slices
import Derived.Deep.Fields
import Derived.Test.YtenbcfjfgbpinaaGreatRows
namespace Go.Proofs.YtenbcfjfgbpinaaGreat
open Go.RowKit Go.Lib Go.Sort Go.Proofs.YtenbcfjfgbpinaaGreatW.PrintWords Go.Proofs.YtenbcfjfgbpinaaGreatW.PrintLast Go.Proofs.YtenbcfjfgbpinaaGreatW.PrintMore
set_option linter.unusedVariables false
set_option maxRecDepth 100000

/-- The error that clique.Whole tells. -/
def Q.wholeE (N : Int) (arcs : List Q.S68) (bounds : List Int) (cells : List (List Int)) (level cell epoch : Int) : Int :=
  if Q.cellE N arcs bounds cells level cell = 0 then (if 0 ≤ epoch ∧ epoch ≤ 1073741824 then 0 else 1) else Q.cellE N arcs bounds cells level cell

set_option maxHeartbeats 4000000 in
theorem whole_any (N : Int) (arcs : List Q.S68) (A : Option Addr) (c : Nat) (BA : Option Addr) (bc : Nat) (bounds : List Int) (CA : Option Addr) (cc : Nat) (cells : List (List Int)) (level cell epoch : Int) (w : World)
    (hf : Q.ArcsFit arcs) (hr : Kd.C Q.k68 w A arcs.length arcs) (hc : arcs.length ≤ c) (hn : NestIn w BA bc bounds CA cc cells) :
    Calls Tryz.prog 17 #[.agg #[.int .i64 N, .slice A arcs.length c], .agg #[.slice BA bounds.length bc, .slice CA cells.length cc], .int .i64 level, .int .i64 cell, .int .i64 epoch] w fun e w' => ∃ v, e = .returned (.tuple #[v, .int .i64 (Q.wholeE N arcs bounds cells level cell epoch)]) ∧
      (Q.wholeE N arcs bounds cells level cell epoch = 0 → LeafV w.heap.size w' level cell epoch (Q.natsI (Q.matOf N.toNat arcs (Q.levelRow cells level) cell)) v) ∧ (¬ Q.wholeE N arcs bounds cells level cell epoch = 0 → v = .agg #[.int .i64 0, .int .i64 0, .int .i64 0, .slice none 0 0]) ∧ Below w.heap.size w w' := by
  obtain ⟨c0, c1, n0, n1, r0, hsz, hb1⟩ := boxes224 w (.int .i64 N) (.slice A arcs.length c) (.slice BA bounds.length bc) (.slice CA cells.length cc) (.int .i64 0) (.int .i64 0) (.int .i64 0) (.slice none 0 0) 24 28 37
  have HCK : Hid (∀ wx : World, Below w.heap.size w wx → Calls Tryz.prog 38 #[.agg #[.int .i64 N, .slice A arcs.length c], .agg #[.slice BA bounds.length bc, .slice CA cells.length cc], .int .i64 level, .int .i64 cell] wx fun e w' => ∃ v, e = .returned (.tuple #[v, .int .i64 (Q.cellE N arcs bounds cells level cell)]) ∧ Below wx.heap.size wx w') :=
    Lib.hid (fun wx hb => members_any N arcs A c BA bc bounds CA cc cells level cell w wx hb hf hr hc hn)
  have HMX : Hid (∀ wx : World, Below w.heap.size w wx → Calls Tryz.prog 32 #[.agg #[.int .i64 N, .slice A arcs.length c], .agg #[.slice BA bounds.length bc, .slice CA cells.length cc], .int .i64 level, .int .i64 cell, .int .i64 epoch] wx fun e w' => ∃ v, e = .returned (.tuple #[v, .int .i64 (Q.cellE N arcs bounds cells level cell)]) ∧
      (Q.cellE N arcs bounds cells level cell = 0 → MatV wx.heap.size w' level cell epoch (Q.matOf N.toNat arcs (Q.levelRow cells level) cell) v) ∧ (¬ Q.cellE N arcs bounds cells level cell = 0 → v = .agg #[.int .i64 0, .int .i64 0, .int .i64 0, .slice none 0 0]) ∧ Below wx.heap.size wx w') :=
    Lib.hid (fun wx hb => matrix_any N arcs A c BA bc bounds CA cc cells level cell epoch w wx hb hf hr hc hn)
  have HEP : Hid (∀ wx : World, Calls Tryz.prog 31 #[.int .i64 epoch] wx fun e w' => e = .returned (.bool (decide (0 ≤ epoch ∧ epoch ≤ 1073741824))) ∧ Drawn0 wx w') := Lib.hid (fun wx => Q.clique_epochs.calls epoch _ wx (by
    unfold Q.clique_epochs.f
    by_cases h0 : 0 ≤ epoch
    · rw [if_pos h0]; congr 1; by_cases h1 : epoch ≤ 1073741824 <;> simp [h0, h1]
    · rw [if_neg h0]; congr 1; simp [h0]))
  clear hf hr hc hn
  unfold Q.wholeE
  generalize hke : Q.cellE N arcs bounds cells level cell = ke at *
  clear hke
  generalize hwe : (if ke = 0 then (if 0 ≤ epoch ∧ epoch ≤ 1073741824 then (0 : Int) else 1) else ke) = we at *
  have HWE := Lib.hid hwe
  clear hwe
  go_enter Tryz.func17, Tryz.ntmps17
  go_upto_region 1 with fail
  generalize (((w.alloc (.cells #[.int .i64 N, .slice A arcs.length c] 24)).alloc (.cells #[.slice BA bounds.length bc, .slice CA cells.length cc] 28)).alloc (.cells #[.int .i64 0, .int .i64 0, .int .i64 0, .slice none 0 0] 37)) = w1 at *
  have HB1 := Lib.hid hb1
  have HCK1 := Lib.hid (HCK.out w1 hb1)
  have hs1 : w.heap.size + 3 ≤ w1.heap.size := by omega
  generalize hgx : w.heap.size = gx at *
  have HGX := Lib.hid hgx
  clear hb1 hsz HCK hgx
  go_upto_region 2 with (go_at_call 38; (with_reducible refine HCK1.out.mono ?_); rintro e w2 ⟨v, rfl, hb⟩; have HB := Lib.hid hb; clear hb)
  have hs2 : gx + 3 ≤ w2.heap.size := by have := HB.out.size; omega
  have d0 := (HB.out.cell (p := ⟨gx, 0, none⟩) (by show gx < w1.heap.size; omega)).trans c0
  have d1 := (HB.out.cell (p := ⟨gx, 1, none⟩) (by show gx < w1.heap.size; omega)).trans c1
  have m0 := (HB.out.cell (p := ⟨gx + 1, 0, none⟩) (by show gx + 1 < w1.heap.size; omega)).trans n0
  have m1 := (HB.out.cell (p := ⟨gx + 1, 1, none⟩) (by show gx + 1 < w1.heap.size; omega)).trans n1
  have q0 := (HB.out.block (gx + 2) (by omega)).trans r0
  have Q0 := Lib.hid q0
  have HB2 := Lib.hid (HB1.out.trans (HB.out.mono (by omega)))
  obtain ⟨x0, x1, x2, x3, xf⟩ := cells4 Q0.out
  clear c0 c1 n0 n1 r0 q0 HCK1 HB HB1
  by_cases hke : ke = 0
  · by_cases hep : 0 ≤ epoch ∧ epoch ≤ 1073741824
    · have hwe : we = 0 := by rw [← HWE.out, if_pos hke, if_pos hep]
      have HW0 := Lib.hid hwe
      rw [decide_eq_true hep] at HEP
      clear hep hwe
      go_upto_region 6 with (go_at_call 31; (with_reducible refine (HEP.out _).mono ?_); rintro e w3 ⟨rfl, nd, rfl⟩)
      have k0 : (w2.drewN nd).cell? ⟨gx, 0, none⟩ = some (.int .i64 N) := d0
      have k1 : (w2.drewN nd).cell? ⟨gx, 1, none⟩ = some (.slice A arcs.length c) := d1
      have k2 : (w2.drewN nd).cell? ⟨gx + 1, 0, none⟩ = some (.slice BA bounds.length bc) := m0
      have k3 : (w2.drewN nd).cell? ⟨gx + 1, 1, none⟩ = some (.slice CA cells.length cc) := m1
      have q3 : (w2.drewN nd).heap[gx + 1 + 1]? = some (.cells #[.int .i64 0, .int .i64 0, .int .i64 0, .slice none 0 0] 37 (0, 0)) := Q0.out
      have hb3 : Below gx w (w2.drewN nd) := Below.drewN_ HB2.out nd
      have hs3 : gx + 3 ≤ (w2.drewN nd).heap.size := hs2
      generalize (w2.drewN nd) = w3 at *
      have Q3 := Lib.hid q3
      have HBG3 := Lib.hid hb3
      have HMX3 := Lib.hid (HMX.out w3 hb3)
      clear d0 d1 m0 m1 x0 x1 x2 x3 xf q3 hb3 HMX HEP HB2 Q0
      generalize hg3 : gx + 1 + 1 = g3 at *
      have HG3 := Lib.hid hg3
      clear hg3
      go_wp2_with (go_at_call 32; (with_reducible refine HMX3.out.mono ?_); rintro e wI ⟨v, rfl, hv, -, hbI⟩; have HV := Lib.hid (hv hke); have HBI := Lib.hid hbI; obtain ⟨P', m', c2, rfl, hown⟩ := leafV_mat HV.out; have HOWN := Lib.hid hown; clear hv hbI hown HV; have qI : wI.heap[g3]? = some (.cells #[.int .i64 0, .int .i64 0, .int .i64 0, .slice none 0 0] 37 (0, 0)) := (HBI.out.block g3 (by have := HG3.out; omega)).trans Q3.out; have QI := Lib.hid qI; clear qI; obtain ⟨x0, x1, x2, x3, xf⟩ := cells4 QI.out)
      ((try simp only [Exit.inBlock, Exit.then]); refine bodyPost_ret (results_ct rfl _ _ g3 37 #[.int .i64 level, .int .i64 cell, .int .i64 epoch, .slice P' m' c2] (0, 0) _ rfl (heap_set4 QI.out) Tryz.underlying37 rfl (by kernel_rfl)) rfl ?_)
      have hgx := HGX.out
      have hg3 := HG3.out
      have sB := HBG3.out.size
      have hbT : Below w.heap.size w wI := by
        rw [hgx]
        exact HBG3.out.trans (HBI.out.mono (by omega))
      refine ⟨_, by rw [HW0.out]; rfl, fun _ => ⟨P', m', c2, rfl, ?_⟩, fun h => absurd HW0.out h, below_set4 hbT (by omega)⟩
      refine own_lower (row_stays HOWN.out (fun j' hj' => ?_)) (by omega)
      have h6 := (HOWN.out.lt j' hj').1
      have h7 : ∀ (wx : World) (o : Nat) (u : Value), (wx.setCell ⟨g3, o, none⟩ u).heap[j']? = wx.heap[j']? := fun wx o u => heap_setCell_other wx ⟨g3, o, none⟩ j' u (by show j' ≠ g3; omega)
      rw [h7, h7, h7, h7]
    · have hwe : we = 1 := by rw [← HWE.out, if_pos hke, if_neg hep]
      have HW0 := Lib.hid hwe
      rw [decide_eq_false hep] at HEP
      clear hep hwe
      go_wp2_with (go_at_call 31; (with_reducible refine (HEP.out _).mono ?_); rintro e w3 ⟨rfl, nd, rfl⟩)
      ((try simp only [Exit.inBlock, Exit.then]); refine bodyPost_ret (results_ct rfl _ _ (gx + 2) 37 #[.int .i64 0, .int .i64 0, .int .i64 0, .slice none 0 0] (0, 0) _ rfl (heap_set4 (w := w2.drewN nd) Q0.out) Tryz.underlying37 rfl (by kernel_rfl)) rfl ?_)
      have hgx := HGX.out
      subst hgx
      exact ⟨_, by rw [HW0.out]; rfl, fun h => absurd (HW0.out.symm.trans h) (by decide), fun _ => rfl, below_set4 (Below.drewN_ HB2.out nd) (by omega)⟩
  · have hwe : we = ke := by rw [← HWE.out, if_neg hke]
    have HW0 := Lib.hid hwe
    clear hwe
    go_wp2_with fail
    ((try simp only [Exit.inBlock, Exit.then]); refine bodyPost_ret (results_ct rfl _ _ (gx + 2) 37 #[.int .i64 0, .int .i64 0, .int .i64 0, .slice none 0 0] (0, 0) _ rfl (heap_set4 Q0.out) Tryz.underlying37 rfl (by kernel_rfl)) rfl ?_)
    have hgx := HGX.out
    subst hgx
    exact ⟨_, by rw [HW0.out]; rfl, fun h => absurd (HW0.out.symm.trans h) hke, fun _ => rfl, below_set4 HB2.out (by omega)⟩

end Go.Proofs.YtenbcfjfgbpinaaGreat

/- The law's own leveled: the right matrices of a level's cells. -/
namespace Go.Proofs.YtenbcfjfgbpinaaGreat
open Go.RowKit Go.Lib Go.Maps Go.Proofs.YtenbcfjfgbpinaaGreatW.PrintWords Go.Proofs.YtenbcfjfgbpinaaGreatW.PrintLast Go.Proofs.YtenbcfjfgbpinaaGreatW.PrintMore
set_option linter.unusedVariables false
set_option maxRecDepth 100000

def encM (ps : List (Mat × Value)) : List Value := ps.flatMap fun p => [.int .i64 p.1.lv, .int .i64 p.1.c, .int .i64 p.1.ep, p.2]
def zP : Mat × Value := (zMat, .slice none 0 0)
theorem encM_app (ps qs : List (Mat × Value)) : encM (ps ++ qs) = encM ps ++ encM qs := by simp [encM]
theorem encM_at : ∀ (ps : List (Mat × Value)) (i : Nat), i < ps.length → (encM ps)[i * 4]? = some (.int .i64 (ps.getD i zP).1.lv) ∧ (encM ps)[i * 4 + 1]? = some (.int .i64 (ps.getD i zP).1.c) ∧ (encM ps)[i * 4 + 2]? = some (.int .i64 (ps.getD i zP).1.ep) ∧ (encM ps)[i * 4 + 3]? = some (ps.getD i zP).2
  | [], i, h => absurd h (by simp)
  | p :: ps, 0, h => ⟨rfl, rfl, rfl, rfl⟩
  | p :: ps, i + 1, h => by
    have ih := encM_at ps i (by simpa using h)
    have e : ∀ k, (encM (p :: ps))[(i + 1) * 4 + k]? = (encM ps)[i * 4 + k]? := fun k => by
      have : (i + 1) * 4 + k = (i * 4 + k) + 1 + 1 + 1 + 1 := by omega
      rw [this]
      show (_ :: _ :: _ :: _ :: encM ps)[_]? = _
      simp
    have e0 := e 0
    rw [Nat.add_zero, Nat.add_zero] at e0
    rw [e0, e 1, e 2, e 3]
    exact ih

/-- A row of matrices of the call's own. -/
structure Mrow (w : World) (B : Nat) (v : Value) (ps : List (Mat × Value)) : Prop where
  row : w.ownsRow B 37 4 v ps.length (encM ps)
  mats : ∀ p ∈ ps, w.ownsRow B 43 1 p.2 p.1.D.length (u64s p.1.D)
  apart : ∀ p ∈ ps, p.2.ownBlock = none ∨ p.2.ownBlock ≠ v.ownBlock
theorem Mrow.below {w w' : World} {B : Nat} {v : Value} {ps : List (Mat × Value)} (h : Mrow w B v ps) (hb : Below w.heap.size w w') : Mrow w' B v ps := ⟨own_below h.row hb, fun p hp => own_below (h.mats p hp) hb, h.apart⟩
theorem Mrow.lower {w : World} {B B' : Nat} {v : Value} {ps : List (Mat × Value)} (h : Mrow w B v ps) (hB : B' ≤ B) : Mrow w B' v ps := ⟨own_lower h.row hB, fun p hp => own_lower (h.mats p hp) hB, h.apart⟩
theorem Mrow.nil (w : World) (B : Nat) : Mrow w B (.slice none 0 0) [] := ⟨World.ownsRow_nil _ _ _ _, fun p hp => (by cases hp), fun p hp => (by cases hp)⟩
theorem u64s_at {w : World} {B : Nat} {v : Value} {D : List Nat} {P : Option Addr} {n c : Nat} (h : w.ownsRow B 43 1 v D.length (u64s D)) (hv : v = .slice P n c) : n = D.length ∧ ∀ j, j < D.length → ∃ gd, P = some ⟨gd, 0, none⟩ ∧ w.cell? ⟨gd, j, none⟩ = some (.int .u64 (D.getD j 0 : Nat)) := by
  rcases h.2 with ⟨h1, h0⟩ | ⟨g, cap, cur, h1, _⟩
  · rw [hv] at h1
    cases h1
    exact ⟨h0.symm, fun j hj => by omega⟩
  · rw [hv] at h1
    cases h1
    refine ⟨rfl, fun j hj => ⟨g, rfl, ?_⟩⟩
    have h2 := h.cells (g := g) (by rw [hv]; rfl) j (.int .u64 (D.getD j 0 : Nat)) (by unfold u64s; simp [hj])
    have e : (⟨g, 0, none⟩ : Addr).add j = ⟨g, j, none⟩ := by unfold Addr.add; split <;> simp_all
    rw [e] at h2
    exact h2
theorem Mrow.mat {w : World} {B : Nat} {v : Value} {ps : List (Mat × Value)} (h : Mrow w B v ps) (i : Nat) (hi : i < ps.length) : ∃ g DP dc, (ps.getD i zP).2 = .slice DP (ps.getD i zP).1.D.length dc ∧ v.ownBlock = some g ∧ w.cell? ⟨g, i * 4, none⟩ = some (.int .i64 (ps.getD i zP).1.lv) ∧ w.cell? ⟨g, i * 4 + 1, none⟩ = some (.int .i64 (ps.getD i zP).1.c) ∧ w.cell? ⟨g, i * 4 + 2, none⟩ = some (.int .i64 (ps.getD i zP).1.ep) ∧ w.cell? ⟨g, i * 4 + 3, none⟩ = some (.slice DP (ps.getD i zP).1.D.length dc) ∧
    ∀ j, j < (ps.getD i zP).1.D.length → ∃ gd, DP = some ⟨gd, 0, none⟩ ∧ w.cell? ⟨gd, j, none⟩ = some (.int .u64 ((ps.getD i zP).1.D.getD j 0 : Nat)) := by
  have hmem : ps.getD i zP ∈ ps := by rw [List.getD_eq_getElem?_getD, List.getElem?_eq_getElem hi]; exact List.getElem_mem hi
  obtain ⟨e0, e1, e2, e3⟩ := encM_at ps i hi
  obtain ⟨DP, dc, hs⟩ := own_shape (h.mats _ hmem)
  have hu := u64s_at (h.mats _ hmem) hs
  obtain ⟨g, hg⟩ : ∃ g, v.ownBlock = some g := by
    rcases h.row.2 with ⟨_, h0⟩ | ⟨g, cap, cur, h1, _⟩
    · omega
    · exact ⟨g, by rw [h1]; rfl⟩
  have e : ∀ k : Nat, (⟨g, 0, none⟩ : Addr).add k = ⟨g, k, none⟩ := fun k => by unfold Addr.add; split <;> simp_all
  have h0 := h.row.cells hg _ _ e0
  have h1 := h.row.cells hg _ _ e1
  have h2 := h.row.cells hg _ _ e2
  have h3 := h.row.cells hg _ _ e3
  rw [e] at h0 h1 h2 h3
  rw [hs] at h3
  exact ⟨g, DP, dc, hs, hg, h0, h1, h2, h3, hu.2⟩
theorem Mrow.shape {w : World} {B : Nat} {v : Value} {ps : List (Mat × Value)} (h : Mrow w B v ps) : ∃ HA hc, v = .slice HA ps.length hc ∧ MatsIn w HA (ps.map (·.1)) := by
  obtain ⟨HA, hc, hv⟩ := own_shape h.row
  refine ⟨HA, hc, hv, fun i hi => ?_⟩
  rw [List.length_map] at hi
  have e : (ps.map (·.1)).getD i zMat = (ps.getD i zP).1 := by simp [hi]
  obtain ⟨g, DP, dc, h1, h2, h3, h4, h5, h6, h7⟩ := h.mat i hi
  have h8 : HA = some ⟨g, 0, none⟩ := by
    rcases h.row.2 with ⟨_, h0⟩ | ⟨g', cap, cur, h9, _⟩
    · omega
    · rw [h9] at h2 hv
      cases hv
      have : g' = g := by simpa [Value.ownBlock] using h2
      rw [this]
  rw [e]
  exact ⟨g, DP, dc, h8, h3, h4, h5, h6, h7⟩
theorem matInfo : (Tryz.prog.info? 37).map (fun i => (i.zero, i.size, i.bytes)) = some (some (.agg #[.int .i64 0, .int .i64 0, .int .i64 0, .slice none 0 0]), 4, 48) := by kernel_rfl

/-- One matrix more. -/
theorem Mrow.push {w w2 : World} {B : Nat} {v v' : Value} {ps : List (Mat × Value)} (h : Mrow w B v ps) (p : Mat × Value) (hp : w.ownsRow B 43 1 p.2 p.1.D.length (u64s p.1.D)) (hpa : p.2.ownBlock = none ∨ p.2.ownBlock ≠ v.ownBlock)
    (hown : w2.ownsRow B 37 4 v' (ps.length + 1) (encM ps ++ [.int .i64 p.1.lv, .int .i64 p.1.c, .int .i64 p.1.ep, p.2])) (hg : w.grownBy w2 v.ownBlock) (hat : v'.ownBlock = v.ownBlock ∨ ∃ g, v'.ownBlock = some g ∧ w.heap.size ≤ g) : Mrow w2 B v' (ps ++ [p]) := by
  have hall : ∀ q ∈ ps ++ [p], w.ownsRow B 43 1 q.2 q.1.D.length (u64s q.1.D) ∧ (q.2.ownBlock = none ∨ q.2.ownBlock ≠ v.ownBlock) := fun q hq => by
    rcases List.mem_append.1 hq with h1 | h1
    · exact ⟨h.mats q h1, h.apart q h1⟩
    · simp at h1
      subst h1
      exact ⟨hp, hpa⟩
  refine ⟨?_, fun q hq => (hall q hq).1.kept hg (hall q hq).2, fun q hq => ?_⟩
  · rw [encM_app, List.length_append]
    exact hown
  · rcases (hall q hq).2 with h1 | h1
    · exact Or.inl h1
    · rcases hat with h2 | ⟨g, h2, h3⟩
      · right; rw [h2]; exact h1
      · right
        rw [h2]
        intro e
        have := ((hall q hq).1.lt g e).2
        omega

theorem cellE_looked {N : Int} {arcs : List Q.S68} {bounds : List Int} {cells : List (List Int)} {level : Int} (h : Q.lookedE N arcs bounds cells level = 0) (k : Nat) (hk : k < Q.manyOf (cells.getD (level - 1).toNat [])) : Q.cellE N arcs bounds cells level (k : Int) = 0 := by
  unfold Q.cellE
  rw [if_pos h, if_neg (by omega), if_neg (by omega)]

set_option maxHeartbeats 4000000 in
theorem leveled_any (N : Int) (arcs : List Q.S68) (A : Option Addr) (c : Nat) (BA : Option Addr) (bc : Nat) (bounds : List Int) (CA : Option Addr) (cc : Nat) (cells : List (List Int)) (level : Int) (w : World)
    (hf : Q.ArcsFit arcs) (hr : Kd.C Q.k68 w A arcs.length arcs) (hc : arcs.length ≤ c) (hn : NestIn w BA bc bounds CA cc cells) (hok : Q.lookedE N arcs bounds cells level = 0) (hmany : Q.manyOf (cells.getD (level - 1).toNat []) ≤ 1024) :
    Calls Tryz.prog 22 #[.agg #[.int .i64 N, .slice A arcs.length c], .agg #[.slice BA bounds.length bc, .slice CA cells.length cc], .int .i64 level] w fun e w' => ∃ v ps, e = .returned (.tuple #[v, .bool true]) ∧ Mrow w' w.heap.size v ps ∧ ps.length = Q.manyOf (cells.getD (level - 1).toNat []) ∧ (∀ i : Nat, i < ps.length → (ps.getD i zP).1 = ⟨level, (i : Int), 0, Q.matOf N.toNat arcs (cells.getD (level - 1).toNat []) (i : Int)⟩) ∧ Below w.heap.size w w' := by
  obtain ⟨i0, hi0, hz0, hz1, hz2⟩ := info_parts matInfo
  obtain ⟨c0, c1, n0, n1, hsz, hb1⟩ := two_boxes w (.int .i64 N) (.slice A arcs.length c) (.slice BA bounds.length bc) (.slice CA cells.length cc) 24 28
  have HMN : Hid (∀ wx : World, Below w.heap.size w wx → Calls Tryz.prog 51 #[.agg #[.int .i64 N, .slice A arcs.length c], .agg #[.slice BA bounds.length bc, .slice CA cells.length cc], .int .i64 level] wx fun e w' => e = .returned (.tuple #[.int .i64 (Q.manyOf (cells.getD (level - 1).toNat []) : Int), .int .i64 0]) ∧ Below wx.heap.size wx w') :=
    Lib.hid (fun wx hb => nestMany_any N arcs A c BA bc bounds CA cc cells level w wx hb hf hr hc hn hok)
  have HWH : Hid (∀ (k : Nat) (wx : World), k < Q.manyOf (cells.getD (level - 1).toNat []) → Below w.heap.size w wx → Calls Tryz.prog 17 #[.agg #[.int .i64 N, .slice A arcs.length c], .agg #[.slice BA bounds.length bc, .slice CA cells.length cc], .int .i64 level, .int .i64 (k : Int), .int .i64 0] wx fun e w' => ∃ P m cp, e = .returned (.tuple #[.agg #[.int .i64 level, .int .i64 (k : Int), .int .i64 0, .slice P m cp], .int .i64 0]) ∧ w'.ownsRow wx.heap.size 43 1 (.slice P m cp) (Q.matOf N.toNat arcs (cells.getD (level - 1).toNat []) (k : Int)).length (u64s (Q.matOf N.toNat arcs (cells.getD (level - 1).toNat []) (k : Int))) ∧ Below wx.heap.size wx w') :=
    Lib.hid (fun k wx hk hb => (whole_any N arcs A c BA bc bounds CA cc cells level k 0 wx hf (Kd.C_below hr hb) hc (hn.below hb)).mono (fun e w' ⟨v, h1, h2, h3, h4⟩ => by
      have h0 : Q.wholeE N arcs bounds cells level (k : Int) 0 = 0 := by
        unfold Q.wholeE
        rw [if_pos (cellE_looked hok k hk), if_pos (show (0 : Int) ≤ 0 ∧ (0 : Int) ≤ 1073741824 by omega)]
      obtain ⟨P, m, cp, h5, h6⟩ := h2 h0
      rw [h0, h5] at h1
      have e1 : ∀ D : List Nat, (Q.natsI D).map (Value.int .u64) = u64s D := fun D => by unfold Q.natsI u64s; rw [List.map_map]; rfl
      have e2 : ∀ D : List Nat, (Q.natsI D).length = D.length := fun D => by unfold Q.natsI; rw [List.length_map]
      rw [e1, e2] at h6
      exact ⟨P, m, cp, h1, h6, h4⟩))
  clear hf hr hc hn hok
  generalize cells.getD (level - 1).toNat [] = row at *
  generalize Q.manyOf row = many at *
  go_enter Tryz.func22, Tryz.ntmps22
  go_upto_region 1 with fail
  generalize ((w.alloc (.cells #[.int .i64 N, .slice A arcs.length c] 24)).alloc (.cells #[.slice BA bounds.length bc, .slice CA cells.length cc] 28)) = w1 at *
  have HB1 := Lib.hid hb1
  have HMN1 := Lib.hid (HMN.out w1 hb1)
  have hs1 : w.heap.size + 2 ≤ w1.heap.size := by omega
  generalize hgx : w.heap.size = gx at *
  have HGX := Lib.hid hgx
  have HBOX : Hid (∀ wx : World, Below w1.heap.size w1 wx → wx.cell? ⟨gx, 0, none⟩ = some (.int .i64 N) ∧ wx.cell? ⟨gx, 1, none⟩ = some (.slice A arcs.length c) ∧ wx.cell? ⟨gx + 1, 0, none⟩ = some (.slice BA bounds.length bc) ∧ wx.cell? ⟨gx + 1, 1, none⟩ = some (.slice CA cells.length cc)) := Lib.hid (fun wx hb =>
    ⟨(hb.cell (p := ⟨gx, 0, none⟩) (by show gx < w1.heap.size; omega)).trans c0, (hb.cell (p := ⟨gx, 1, none⟩) (by show gx < w1.heap.size; omega)).trans c1, (hb.cell (p := ⟨gx + 1, 0, none⟩) (by show gx + 1 < w1.heap.size; omega)).trans n0, (hb.cell (p := ⟨gx + 1, 1, none⟩) (by show gx + 1 < w1.heap.size; omega)).trans n1⟩)
  clear hb1 hsz hgx HMN
  go_wp2_with (go_at_call 51; (with_reducible refine HMN1.out.mono ?_); rintro e w2 ⟨rfl, hb⟩; have HB2 := Lib.hid hb; clear hb)
  clear c0 c1 n0 n1 HMN1
  go_loopg [10, 24] many (fun gg s10 s24 wr => ∃ (k : Nat) (ps : List (Mat × Value)), k ≤ many ∧ many - k ≤ gg ∧ s24 = .int .i64 k ∧ Hid (Mrow wr w1.heap.size s10 ps) ∧ Hid (ps.length = k) ∧ Hid (∀ i : Nat, i < ps.length → (ps.getD i zP).1 = ⟨level, (i : Int), 0, Q.matOf N.toNat arcs row (i : Int)⟩) ∧ Hid (Below w1.heap.size w1 wr))
  case atStart => exact ⟨0, [], Nat.zero_le _, by omega, rfl, Lib.hid (Mrow.nil _ _), Lib.hid rfl, Lib.hid (fun i hi => by simp at hi), HB2⟩
  case round =>
    obtain ⟨k, ps, hk1, hgg, rfl, HM, HPL, HPE, HB⟩ := hrel
    by_cases hlt : k < many
    · have hltz : (k : Int) < (many : Int) := by omega
      have hwk : IntKind.i64.wrap ((k : Int) + 1) = ((k + 1 : Nat) : Int) := by rw [IntWalk.i64_in _ (by omega)]; omega
      have hbg : Below gx w wr := HB1.out.trans (HB.out.mono (by omega))
      have HWK1 := Lib.hid (HWH.out k wr hlt hbg)
      obtain ⟨x0, x1, x2, x3⟩ := HBOX.out wr HB.out
      have HPL2 : Hid (ps.length ≤ 1024) := Lib.hid (by rw [HPL.out]; omega)
      clear hbg
      go_upto_region 9 with (go_at_call 17; (with_reducible refine HWK1.out.mono ?_); rintro e w3 ⟨P, m, cp, rfl, hown, hb3⟩; have HO3 := Lib.hid hown; have HB3 := Lib.hid hb3; clear hown hb3)
      have hq := heap_alloc_new w3 (.cells #[.int .i64 level, .int .i64 (k : Int), .int .i64 0, .slice P m cp] 37)
      have hb4 : Below w3.heap.size w3 (w3.alloc (.cells #[.int .i64 level, .int .i64 (k : Int), .int .i64 0, .slice P m cp] 37)) := (Below.refl _ w3).alloc (Nat.le_refl _) _
      generalize (w3.alloc (.cells #[.int .i64 level, .int .i64 (k : Int), .int .i64 0, .slice P m cp] 37)) = w4 at *
      have hs3 := HB3.out.size
      have hs0 := HB.out.size
      have HB34 : Hid (Below wr.heap.size wr w4) := Lib.hid (HB3.out.trans (hb4.mono hs3))
      have HM4 := Lib.hid (HM.out.below HB34.out)
      have HO4 := Lib.hid (own_lower (own_below HO3.out hb4) (show w1.heap.size ≤ wr.heap.size from hs0))
      have HNE : Hid ((Value.slice P m cp).ownBlock = none ∨ (Value.slice P m cp).ownBlock ≠ u10.ownBlock) := Lib.hid (by
        cases hq : (Value.slice P m cp).ownBlock with
        | none => exact Or.inl rfl
        | some g =>
          right
          intro e
          have h1 := (HO3.out.lt g hq).1
          have h2 := (HM.out.row.lt g e.symm).2
          omega)
      have HB4 : Hid (Below w1.heap.size w1 w4) := Lib.hid (HB.out.trans (HB34.out.mono hs0))
      generalize hgq : w3.heap.size = gq at *
      have hs4 : w1.heap.size ≤ w4.heap.size := HB4.out.size
      obtain ⟨z0, z1, z2, z3, -⟩ := cells4 hq
      clear x0 x1 x2 x3 hq hb4 HWK1 hgq
      go_wp2_with (at_builtin; go_loud (refine wpList_append_own_at _ rfl _ _ 30 rfl w1.heap.size 37 i0 _ 4 48 Tryz.underlying30 hi0 hz0 hz1 hz2 rfl (by decide) _ _ _ rfl (HM4.out.row.alloc _) ⟨w4.heap.size, 0, none⟩ 1 1 [.int .i64 level, .int .i64 (k : Int), .int .i64 0, .slice P m cp] rfl rfl (World.news_of_block (cs := #[.int .i64 level, .int .i64 (k : Int), .int .i64 0, .slice P m cp]) (t := 37) (fr := (0, 0)) (heap_alloc_new w4 _)) (by simp [Value.oneCell']) (by have := HPL2.out; unfold maxLen; omega) (by have := HPL2.out; omega) (by simp; omega) ?_); intro v' w5 hown5 hg5 hnil5 hat5; go_frame)
      have HWK := Lib.hid hwk
      clear hwk
      go_roundg (many - (k + 1))
      case measure => omega
      case rel =>
        have hg6 : w4.grownBy w5 u10.ownBlock := ⟨hg5.os, hg5.tape, hg5.output, by have h := hg5.size; simp at h; omega, fun j hj hne => (hg5.block j (by simp; omega) hne).trans (heap_alloc_old w4 _ hj)⟩
        have hp : Mrow w5 w1.heap.size v' (ps ++ [(⟨level, (k : Int), 0, Q.matOf N.toNat arcs row (k : Int)⟩, .slice P m cp)]) := HM4.out.push (⟨level, (k : Int), 0, Q.matOf N.toNat arcs row (k : Int)⟩, .slice P m cp) HO4.out HNE.out hown5 hg6 (by
          rcases hat5 with h | h
          · exact Or.inl h
          · exact Or.inr ⟨_, h, by simp⟩)
        refine ⟨k + 1, _, by omega, Nat.le_refl _, rfl, Lib.hid hp, Lib.hid (by rw [List.length_append, HPL.out]; rfl), Lib.hid (fun i hi => ?_), Lib.hid (Below.grown HB4.out hg6 (fun j hj => (HM4.out.row.lt j hj).1) hs4)⟩
        rw [List.length_append] at hi
        by_cases e : i < ps.length
        · have e1 : (ps ++ [((⟨level, (k : Int), 0, Q.matOf N.toNat arcs row (k : Int)⟩ : Mat), Value.slice P m cp)]).getD i zP = ps.getD i zP := by rw [List.getD_eq_getElem?_getD, List.getElem?_append_left e, ← List.getD_eq_getElem?_getD]
          rw [e1]
          exact HPE.out i e
        · have e2 : i = ps.length := by simp at hi; omega
          subst e2
          rw [List.getD_eq_getElem?_getD, List.getElem?_append_right (by omega), Nat.sub_self]
          show (⟨level, (k : Int), 0, Q.matOf N.toNat arcs row (k : Int)⟩ : Mat) = ⟨level, ((ps.length : Nat) : Int), 0, Q.matOf N.toNat arcs row ((ps.length : Nat) : Int)⟩
          rw [HPL.out]
    · have : k = many := by omega
      subst this
      have hkz : ¬ (k : Int) < (k : Int) := by omega
      go_wp2_with fail
      go_ret2
      have hgx := HGX.out
      subst hgx
      first
        | exact ⟨_, rfl, ps, HM.out.lower (by omega), HPL.out, HPE.out, HB1.out.trans (HB.out.mono (by omega))⟩
        | exact ⟨_, ps, rfl, HM.out.lower (by omega), HPL.out, HPE.out, HB1.out.trans (HB.out.mono (by omega))⟩

end Go.Proofs.YtenbcfjfgbpinaaGreat

/- The weights of arcs: what the program and the document's answer say (plain). -/
namespace Go.Proofs.YtenbcfjfgbpinaaGreat.Q
open Go.RowKit Go.Proofs.YtenbcfjfgbpinaaGreatW.PrintWords Go.Proofs.YtenbcfjfgbpinaaGreatW.PrintLast
set_option linter.unusedVariables false
set_option maxRecDepth 100000

/-- Whether all are indices of arcs. -/
def idxOk (arcs : List S68) (idx : List Int) : Bool := idx.all (fun i => decide (0 ≤ i) && decide (i < (arcs.length : Int)))
/-- What is said of the weights of arcs. -/
def weightsR (N : Int) (arcs : List S68) (idx : List Int) : List Int × Int :=
  if (graphR N arcs).2 = 0 then (if (idx.length : Int) > 16384 then ([], 2) else if idxOk arcs idx = true then (idx.map (fun i => (arcs.getD i.toNat z68).f2), 0) else ([], 5)) else ([], (graphR N arcs).2)

end Go.Proofs.YtenbcfjfgbpinaaGreat.Q

/- clique.Weights. -/
namespace Go.Proofs.YtenbcfjfgbpinaaGreat
open Go.RowKit Go.Lib Go.Sort Go.Proofs.YtenbcfjfgbpinaaGreatW.PrintWords Go.Proofs.YtenbcfjfgbpinaaGreatW.PrintLast Go.Proofs.YtenbcfjfgbpinaaGreatW.PrintMore
set_option linter.unusedVariables false
set_option maxRecDepth 100000

namespace Q
theorem idx_no {arcs : List S68} {idx : List Int} {i : Nat} (hi : i < idx.length) (h : ¬ (0 ≤ idx.getD i 0 ∧ idx.getD i 0 < (arcs.length : Int))) : idxOk arcs idx = false := by
  cases he : idxOk arcs idx with
  | false => rfl
  | true =>
    have hb := List.all_eq_true.1 he _ (List.getElem_mem hi)
    simp only [Bool.and_eq_true, decide_eq_true_eq] at hb
    rw [List.getD_eq_getElem?_getD, List.getElem?_eq_getElem hi] at h
    exact absurd hb h
def wtTo (arcs : List S68) (idx : List Int) (k : Nat) : List Int := (idx.take k).map (fun i => (arcs.getD i.toNat z68).f2)
theorem wt_step (arcs : List S68) (idx : List Int) (k : Nat) (hk : k < idx.length) : wtTo arcs idx (k + 1) = wtTo arcs idx k ++ [(arcs.getD (idx.getD k 0).toNat z68).f2] := by
  unfold wtTo
  rw [List.take_add_one, List.map_append, List.getElem?_eq_getElem hk, List.getD_eq_getElem?_getD (l := idx), List.getElem?_eq_getElem hk]
  rfl
theorem wt_len (arcs : List S68) (idx : List Int) (k : Nat) : (wtTo arcs idx k).length ≤ k := by unfold wtTo; rw [List.length_map, List.length_take]; omega
theorem idx_yes {arcs : List S68} {idx : List Int} {k : Nat} (hk : k < idx.length) (h : idxOk arcs (idx.take k) = true) (hi : 0 ≤ idx.getD k 0 ∧ idx.getD k 0 < (arcs.length : Int)) : idxOk arcs (idx.take (k + 1)) = true := by
  rw [List.getD_eq_getElem?_getD, List.getElem?_eq_getElem hk] at hi
  unfold idxOk at h ⊢
  rw [List.take_add_one, List.getElem?_eq_getElem hk, List.all_append, h]
  simp
  exact hi
end Q

theorem make_cap (n : Nat) (hn : n ≤ 16384) (w : World) : (Instr.makeSlice 29 (.int .i64 0) (.int .i64 n)).run Tryz.prog w = .ok (.slice (some ⟨w.heap.size, 0, none⟩) 0 n) (w.alloc (.cells (madeCells #[Value.int .u32 0] n) 41)) := by
  obtain ⟨i0, hi, hz0, hz1, hz2⟩ := info_parts u32Info
  have h := run_make (P := Tryz.prog) w 29 41 i0 (.int .u32 0) Tryz.underlying29 hi hz0 .i64 .i64 0 n (by omega) (by omega) (by rw [hz2]; omega) (by omega)
  rw [hz1, Int.toNat_natCast, Nat.mul_one] at h
  exact h
theorem own_made_of (w : World) (n : Nat) (hn : n ≤ 16384) : (w.alloc (.cells (madeCells #[Value.int .u32 0] n) 41)).ownsRow w.heap.size 41 1 (.slice (some ⟨w.heap.size, 0, none⟩) 0 n) 0 [] :=
  World.ownsRow_made w _ n (Nat.le_refl _) (by unfold maxLen; omega) (by rw [← Array.length_toList, toList_madeCells_one]; simp)

set_option maxHeartbeats 4000000 in
theorem weights_any (N : Int) (arcs : List Q.S68) (A : Option Addr) (c : Nat) (IA : Option Addr) (ic : Nat) (idx : List Int) (w : World) (hf : Q.ArcsFit arcs) (hr : Kd.C Q.k68 w A arcs.length arcs) (hc : arcs.length ≤ c) (hi : Kd.C (Kd.int .i64) w IA idx.length idx) :
    Calls Tryz.prog 12 #[.agg #[.int .i64 N, .slice A arcs.length c], .slice IA idx.length ic] w fun e w' => ∃ P cap, e = .returned (.tuple #[.slice P (Q.weightsR N arcs idx).1.length cap, .int .i64 (Q.weightsR N arcs idx).2]) ∧ w'.ownsRow w.heap.size 41 1 (.slice P (Q.weightsR N arcs idx).1.length cap) (Q.weightsR N arcs idx).1.length ((Q.weightsR N arcs idx).1.map (Value.int .u32)) ∧ Below w.heap.size w w' := by
  obtain ⟨i0, hi0, hz0, hz1, hz2⟩ := info_parts u32Info
  have hb1 : Below w.heap.size w (w.alloc (.cells #[.int .i64 N, .slice A arcs.length c] 24)) := (Below.refl _ w).alloc (Nat.le_refl _) _
  have HG := Lib.hid (graph_e N arcs A c (w.alloc (.cells #[.int .i64 N, .slice A arcs.length c] 24)) hf (Kd.C_below hr hb1) hc)
  have HW : Hid (Q.weightsR N arcs idx = if (Q.graphR N arcs).2 = 0 then (if (idx.length : Int) > 16384 then ([], 2) else if Q.idxOk arcs idx = true then (idx.map (fun i => (arcs.getD i.toNat Q.z68).f2), 0) else ([], 5)) else ([], (Q.graphR N arcs).2)) := Lib.hid rfl
  have HGK : Hid ((Q.graphR N arcs).2 = 0 → arcs.length ≤ 8192) := Lib.hid (fun h => (Q.graphR_ok hf h).2.m)
  have HR := Lib.hid hr
  have HI := Lib.hid hi
  have c0 : (w.alloc (.cells #[.int .i64 N, .slice A arcs.length c] 24)).cell? ⟨w.heap.size, 0, none⟩ = some (.int .i64 N) := by simp
  have c1 : (w.alloc (.cells #[.int .i64 N, .slice A arcs.length c] 24)).cell? ⟨w.heap.size, 1, none⟩ = some (.slice A arcs.length c) := by simp
  have hs1 : w.heap.size < (w.alloc (.cells #[.int .i64 N, .slice A arcs.length c] 24)).heap.size := by simp
  clear hf hr hc hi
  generalize Q.weightsR N arcs idx = res at *
  obtain ⟨rl, re⟩ := res
  simp only at *
  generalize (Q.graphR N arcs).2 = ge at *
  generalize (Q.graphR N arcs).1 = gl at *
  go_enter Tryz.func12, Tryz.ntmps12
  go_upto_region 1 with fail
  generalize (w.alloc (.cells #[.int .i64 N, .slice A arcs.length c] 24)) = w1 at *
  have HB1 := Lib.hid hb1
  generalize hgx : w.heap.size = gx at *
  have HGX := Lib.hid hgx
  clear hb1 hgx
  go_upto_region 2 with (go_at_call 34; (with_reducible refine HG.out.mono ?_); rintro e w2 ⟨rfl, hb⟩; have HB := Lib.hid hb; clear hb)
  have d0 := (HB.out.cell (p := ⟨gx, 0, none⟩) hs1).trans c0
  have d1 := (HB.out.cell (p := ⟨gx, 1, none⟩) hs1).trans c1
  have HB2 := Lib.hid (HB1.out.trans (HB.out.mono (by omega)))
  have hs2 : gx < w2.heap.size := by have := HB.out.size; omega
  clear c0 c1 HG HB HB1
  by_cases hge : ge = 0
  · by_cases hbig : (idx.length : Int) > 16384
    · have hres := HW.out
      rw [if_pos hge, if_pos hbig] at hres
      simp only [Prod.mk.injEq] at hres
      obtain ⟨rfl, rfl⟩ := hres
      have hbig2 : (16384 : Int) < (idx.length : Int) := hbig
      go_wp2_with fail
      go_ret2
      have hgx := HGX.out
      subst hgx
      exact ⟨none, 0, rfl, World.ownsRow_nil _ _ _ _, HB2.out⟩
    · have hnb : ¬ (16384 : Int) < (idx.length : Int) := hbig
      have HM := Lib.hid (HGK.out hge)
      have HW2 : Hid ((rl, re) = if Q.idxOk arcs idx = true then (idx.map (fun i => (arcs.getD i.toNat Q.z68).f2), 0) else ([], 5)) := Lib.hid (by have h := HW.out; rw [if_pos hge, if_neg hbig] at h; exact h)
      have HIT := Lib.hid (Kd.C_below (Kd.C_below HI.out (by rw [HGX.out]; exact HB2.out)) (Below.refl w2.heap.size w2))
      have HAT := Lib.hid (Kd.C_below HR.out (by rw [HGX.out]; exact HB2.out : Below w.heap.size w w2))
      clear HW HI HR HGK
      have hil : idx.length ≤ 16384 := by omega
      have hmk := make_cap idx.length hil w2
      go_wp2_with fail
      go_loopg [8, 27] idx.length (fun gg s8 s27 wr => ∃ k : Nat, k ≤ idx.length ∧ idx.length - k ≤ gg ∧ s27 = .int .i64 k ∧ Hid (wr.ownsRow w2.heap.size 41 1 s8 (Q.wtTo arcs idx k).length ((Q.wtTo arcs idx k).map (Value.int .u32))) ∧ Hid (Q.idxOk arcs (idx.take k) = true) ∧ Hid (Below w2.heap.size w2 wr))
      case atStart => exact ⟨0, Nat.zero_le _, by omega, rfl, Lib.hid (own_made_of w2 idx.length hil), Lib.hid rfl, Lib.hid ((Below.refl _ w2).alloc (Nat.le_refl _) _)⟩
      case round =>
        obtain ⟨k, hk1, hgg, rfl, HO, HOK, HB⟩ := hrel
        by_cases hlt : k < idx.length
        · have hltz : (k : Int) < (idx.length : Int) := by omega
          have hwk : IntKind.i64.wrap ((k : Int) + 1) = ((k + 1 : Nat) : Int) := by rw [IntWalk.i64_in _ (by omega)]; omega
          obtain ⟨iad, rfl, x0⟩ := Q.int_cell (Kd.C_below HIT.out HB.out) k hlt
          have f0 := (HB.out.cell (p := ⟨gx, 0, none⟩) hs2).trans d0
          have f1 := (HB.out.cell (p := ⟨gx, 1, none⟩) hs2).trans d1
          have HNO : Hid (¬ (0 ≤ idx.getD k 0 ∧ idx.getD k 0 < (arcs.length : Int)) → Q.idxOk arcs idx = false) := Lib.hid (Q.idx_no hlt)
          have HST := Lib.hid (Q.wt_step arcs idx k hlt)
          have HOS : Hid (0 ≤ idx.getD k 0 ∧ idx.getD k 0 < (arcs.length : Int) → Q.idxOk arcs (idx.take (k + 1)) = true) := Lib.hid (Q.idx_yes hlt HOK.out)
          have hln := Q.wt_len arcs idx k
          generalize hii : idx.getD k 0 = i at *
          clear hii
          by_cases hneg : i < 0
          · have hres := HW2.out
            rw [HNO.out (by omega), if_neg (by simp)] at hres
            simp only [Prod.mk.injEq] at hres
            obtain ⟨rfl, rfl⟩ := hres
            go_wp2_with fail
            go_ret2
            have hgx := HGX.out
            subst hgx
            exact ⟨none, 0, rfl, World.ownsRow_nil _ _ _ _, HB2.out.trans (HB.out.mono (by omega))⟩
          · by_cases hbg : i < (arcs.length : Int)
            · obtain ⟨j, rfl⟩ : ∃ j : Nat, i = (j : Int) := ⟨i.toNat, (Int.toNat_of_nonneg (by omega)).symm⟩
              have hjl : j < arcs.length := by omega
              obtain ⟨ad, rfl, g0, g1, g2⟩ := arc_at (Kd.C_below HAT.out HB.out) j hjl
              have hst := HST.out
              rw [Int.toNat_natCast] at hst
              have HST2 := Lib.hid hst
              have HOK2 := Lib.hid (HOS.out ⟨by omega, hbg⟩)
              generalize (arcs.getD j Q.z68).f2 = wt at *
              generalize (arcs.getD j Q.z68).f1 = wt1 at *
              generalize (arcs.getD j Q.z68).f0 = wt0 at *
              clear hst HST HOS HNO g0 g1
              go_wp2_with (at_builtin; go_loud (refine wpList_append_own _ rfl _ _ 29 rfl w2.heap.size 41 i0 _ 1 4 Tryz.underlying29 hi0 hz0 hz1 hz2 rfl (by decide) _ _ _ rfl (HO.out.alloc _) ⟨wr.heap.size, 0, none⟩ 1 1 [.int .u32 wt] rfl rfl (cell_one_new _ _ _) (by intro q hq; simp at hq; subst hq; rfl) (by unfold maxLen; omega) (by omega) (by have := HB.out.size; simp; omega) ?_; intro v7 w7 ho7 hg7 hnil7; (have HO7 := Lib.hid ho7); (have HG7 := Lib.hid hg7); clear ho7 hg7 hnil7; go_frame))
              have HWK := Lib.hid hwk
              clear hwk
              go_roundg (idx.length - (k + 1))
              case measure => omega
              case rel =>
                refine ⟨k + 1, by omega, Nat.le_refl _, rfl, Lib.hid ?_, HOK2, Lib.hid (Below.grown (HB.out.alloc HB.out.size _) HG7.out (fun k hk => (HO.out.lt k hk).1) (by have := HB.out.size; simp; omega))⟩
                rw [HST2.out, List.map_append, List.length_append]
                exact HO7.out
            · have hres := HW2.out
              rw [HNO.out (by omega), if_neg (by simp)] at hres
              simp only [Prod.mk.injEq] at hres
              obtain ⟨rfl, rfl⟩ := hres
              have hge2 : ¬ i < (arcs.length : Int) := hbg
              go_wp2_with fail
              go_ret2
              have hgx := HGX.out
              subst hgx
              exact ⟨none, 0, rfl, World.ownsRow_nil _ _ _ _, HB2.out.trans (HB.out.mono (by omega))⟩
        · have hke : k = idx.length := by omega
          subst hke
          have hkz : ¬ (idx.length : Int) < (idx.length : Int) := by omega
          have hres := HW2.out
          have hok := HOK.out
          rw [List.take_of_length_le (Nat.le_refl _)] at hok
          rw [if_pos hok] at hres
          simp only [Prod.mk.injEq] at hres
          obtain ⟨hrl, rfl⟩ := hres
          have hO := HO.out
          have hwe : Q.wtTo arcs idx idx.length = idx.map (fun i => (arcs.getD i.toNat Q.z68).f2) := by unfold Q.wtTo; rw [List.take_of_length_le (Nat.le_refl _)]
          rw [hwe, ← hrl] at hO
          obtain ⟨P, cap, rfl⟩ := own_shape hO
          have HO2 := Lib.hid hO
          clear hO HO hwe hok HOK HW2 hrl
          go_wp2_with fail
          go_ret2
          have hgx := HGX.out
          subst hgx
          exact ⟨P, cap, rfl, own_lower HO2.out (Nat.le_of_lt hs2), HB2.out.trans (HB.out.mono (by omega))⟩
  · have hres := HW.out
    rw [if_neg hge] at hres
    simp only [Prod.mk.injEq] at hres
    obtain ⟨rfl, rfl⟩ := hres
    go_wp2_with fail
    go_ret2
    have hgx := HGX.out
    subst hgx
    exact ⟨none, 0, rfl, World.ownsRow_nil _ _ _ _, HB2.out⟩

end Go.Proofs.YtenbcfjfgbpinaaGreat

/- What CliqueRises wants of plain data. -/
namespace Go.Proofs.YtenbcfjfgbpinaaGreat
open Go.RowKit Go.Proofs.YtenbcfjfgbpinaaGreatW.PrintWords Go.Proofs.YtenbcfjfgbpinaaGreatW.PrintLast Go.Proofs.YtenbcfjfgbpinaaGreatW.PrintMore
set_option linter.unusedVariables false
set_option maxRecDepth 100000

theorem getD_map {α β : Type} (f : α → β) (l : List α) (i : Nat) (d : α) (d' : β) (h : i < l.length) : (l.map f).getD i d' = f (l.getD i d) := by
  rw [List.getD_eq_getElem?_getD, List.getElem?_map, List.getD_eq_getElem?_getD, List.getElem?_eq_getElem h]
  rfl
namespace Q
theorem sameDists_loop (l : List Int) (hl : l.length ≤ 1000000000000) (d : Nat) : ∀ (k i : Nat), i + d = l.length → d < k → flyoverbook_SameDists.l0 k l l (i : Int) = some true := by
  induction d with
  | zero =>
    intro k i hi hk
    obtain ⟨k, rfl⟩ : ∃ m, k = m + 1 := ⟨k - 1, by omega⟩
    simp only [flyoverbook_SameDists.l0]
    rw [if_neg (by omega)]
  | succ d ih =>
    intro k i hi hk
    obtain ⟨k, rfl⟩ : ∃ m, k = m + 1 := ⟨k - 1, by omega⟩
    have hw : wrap64 ((i : Int) + 1) = ((i + 1 : Nat) : Int) := by unfold wrap64; omega
    simp only [flyoverbook_SameDists.l0]
    rw [if_pos (by omega), if_pos (by omega), if_pos (by omega), if_pos trivial, hw]
    exact ih k (i + 1) (by omega) (by omega)
theorem sameMatrix_refl (a b c : Int) (l : List Int) (hl : l.length ≤ 1000000000000) : flyoverbook_SameMatrix.f (l.length + 1) a b c l a b c l = some true := by
  unfold flyoverbook_SameMatrix.f flyoverbook_SameDists.f
  have h : flyoverbook_SameDists.l0 (l.length + 1) l l 0 = some true := sameDists_loop l hl l.length _ 0 (by omega) (by omega)
  rw [if_pos rfl, if_pos rfl, if_pos rfl, if_pos rfl, h]
  rfl
theorem weigh_own (arcs : List S68) (inner : List Int) (hin : ∀ i ∈ inner, 0 ≤ i ∧ i < (arcs.length : Int)) : ∀ k, k ≤ inner.length → weighTo arcs inner (inner.map (fun i => (arcs.getD i.toNat z68).f2)) k = arcs
  | 0, _ => rfl
  | k + 1, hk => by
    unfold weighTo
    rw [weigh_own arcs inner hin k (by omega)]
    have hkl : k < inner.length := hk
    have h1 := hin _ (get_mem hkl)
    have e1 : (inner.map (fun i => (arcs.getD i.toNat z68).f2)).getD k 0 = (arcs.getD (inner.getD k 0).toNat z68).f2 := getD_map _ inner k 0 0 hkl
    rw [e1]
    generalize (inner.getD k 0).toNat = i at *
    apply List.ext_getElem
    · simp
    · intro j h2 h3
      rw [List.getElem_set]
      split
      · rename_i e
        subst e
        rw [List.getD_eq_getElem?_getD, List.getElem?_eq_getElem h3]
        rfl
      · rfl
theorem weightsR_own {n : Nat} {arcs : List S68} (hg : GOk n arcs) {idx : List Int} (hin : ∀ i ∈ idx, 0 ≤ i ∧ i < (arcs.length : Int)) (hl : idx.length ≤ 16384) : weightsR (n : Int) arcs idx = (idx.map (fun i => (arcs.getD i.toNat z68).f2), 0) := by
  unfold weightsR
  have h1 : idxOk arcs idx = true := by
    unfold idxOk
    rw [List.all_eq_true]
    intro i hi
    have := hin i hi
    simp only [Bool.and_eq_true, decide_eq_true_eq]
    exact this
  rw [graphR_of hg, if_pos rfl, if_neg (by omega), if_pos h1]
theorem many_le {N : Nat} (hN : 1 ≤ N) {l : List Int} (h : rightP N l = true) : manyOf l ≤ N := by
  have h1 := rightP_in h
  have h2 := h1.2 _ (maxOf_mem (l := l) (by omega))
  unfold manyOf
  omega
theorem kid_many {N : Nat} {row bel : List Int} {c k : Int} (hrow : row.length = N) (h : rightP N bel = true) (hk : k ∈ kidsOf row bel c) : ∃ x : Nat, k = (x : Int) ∧ x < manyOf bel := by
  unfold kidsOf rawOf at hk
  obtain ⟨v, hv, rfl⟩ := List.mem_map.1 (mem_sorted.1 hk)
  obtain ⟨h1, h2, h3⟩ := mem_in hv
  have h4 := rightP_in h
  have hm : bel.getD v.toNat 0 ∈ bel := get_mem (by omega)
  have h5 := h4.2 _ hm
  have h6 := le_maxOf hm
  refine ⟨(bel.getD v.toNat 0).toNat, (Int.toNat_of_nonneg h5.1).symm, ?_⟩
  unfold manyOf
  omega
end Q
theorem own_weights {n : Nat} {arcs : List Q.S68} (hg : Q.GOk n arcs) {idx : List Int} (hin : ∀ i ∈ idx, 0 ≤ i ∧ i < (arcs.length : Int)) : ∀ x ∈ idx.map (fun i => (arcs.getD i.toNat Q.z68).f2), 0 ≤ x ∧ x < 4294967296 := fun x hx => by
  obtain ⟨i, hi, rfl⟩ := List.mem_map.1 hx
  have h1 := hin i hi
  have hl : i.toNat < arcs.length := by omega
  exact hg.wt _ (by rw [List.getD_eq_getElem?_getD, List.getElem?_eq_getElem hl]; exact List.getElem_mem hl)
/-- Leaf with the arcs' own weights. -/
theorem leaf_own {n : Nat} {arcs : List Q.S68} (hg : Q.GOk n arcs) {bounds : List Int} {cells : List (List Int)} {c : Int} (h0 : Q.cellE (n : Int) arcs bounds cells 1 c = 0) :
    Q.clique_Leaf.f (n : Int) arcs bounds cells c 0 ((Q.innerOf arcs (Q.levelRow cells 1) c).map (fun i => (arcs.getD i.toNat Q.z68).f2)) = some (1, c, 0, Q.natsI (Q.matOf n arcs (Q.levelRow cells 1) c), 0) := by
  have hin := inner_idx arcs (Q.levelRow cells 1) c
  rw [Q.leaf_f hg.fit (own_weights hg hin), if_pos h0, if_pos (by rw [List.length_map])]
  unfold Q.weighedOf
  rw [Q.weigh_own arcs _ hin _ (Nat.le_refl _), Q.within_f hg.fit, if_pos h0, Int.toNat_natCast]

/-- The children's matrices. -/
noncomputable def kidMats (n : Nat) (arcs : List Q.S68) (cells : List (List Int)) (level cell : Int) : List Mat := (Q.kidsOf (cells.getD (level - 1).toNat []) (cells.getD (level - 2).toNat []) cell).map (fun k => ⟨level - 1, k, 0, Q.matOf n arcs (cells.getD (level - 2).toNat []) k⟩)
theorem kids_ok {n : Nat} {arcs : List Q.S68} {bounds : List Int} {cells : List (List Int)} {level cell : Int} (hf : Q.ArcsFit arcs) (h : Q.upE (n : Int) arcs bounds cells level cell = 0) (i : Nat) (hi : i < (kidMats n arcs cells level cell).length) :
    KidOk (n : Int) arcs bounds cells level 0 ((Q.kidsOf (cells.getD (level - 1).toNat []) (cells.getD (level - 2).toNat []) cell).getD i 0) ((kidMats n arcs cells level cell).getD i zMat) := by
  obtain ⟨hce, hl1⟩ := upE_ok h
  obtain ⟨⟨hN1, hG⟩, hNest, ⟨hlv1, hlv2⟩, _⟩ := Q.cellE_ok hf hce
  rw [Int.toNat_natCast] at hG hNest
  have hil : i < (Q.kidsOf (cells.getD (level - 1).toNat []) (cells.getD (level - 2).toNat []) cell).length := by
    unfold kidMats at hi
    rwa [List.length_map] at hi
  have hrow := (Q.rightP_in (hNest.right (j := (level - 1).toNat) (by omega))).1
  have hbp := hNest.right (j := (level - 2).toNat) (by omega)
  obtain ⟨x, hx, hxm⟩ := Q.kid_many hrow hbp (get_mem hil)
  have hbel := (Q.rightP_in hbp).1
  have e : (kidMats n arcs cells level cell).getD i zMat = ⟨level - 1, (Q.kidsOf (cells.getD (level - 1).toNat []) (cells.getD (level - 2).toNat []) cell).getD i 0, 0, Q.matOf n arcs (cells.getD (level - 2).toNat []) ((Q.kidsOf (cells.getD (level - 1).toNat []) (cells.getD (level - 2).toNat []) cell).getD i 0)⟩ := by
    unfold kidMats
    exact getD_map _ _ i 0 zMat hil
  rw [e]
  have hlook : Q.lookedE (n : Int) arcs bounds cells (level - 1) = 0 := by
    have h2 : (Q.checkR (n : Int) arcs bounds cells).2 = 0 := by
      have h1 := hce
      unfold Q.cellE at h1
      split at h1
      · rename_i h3
        unfold Q.lookedE at h3
        split at h3
        · assumption
        · exact h3
      · rename_i h3
        exact absurd h1 h3
    unfold Q.lookedE
    rw [if_pos h2, if_neg (by omega), if_neg (by omega)]
  refine ⟨rfl, rfl, by show (0 : Int) ≤ 0 ∧ (0 : Int) ≤ 1073741824; omega, Int.le_refl _, matOf_len _ _ _ _, ?_, fun j => (mat_metric hG _ _ hbel).lt j⟩
  rw [hx]
  refine cellE_looked hlook x ?_
  rw [show level - 1 - 1 = level - 2 by omega]
  exact hxm
theorem looked_of {N : Int} {arcs : List Q.S68} {bounds : List Int} {cells : List (List Int)} {level : Int} (h : (Q.checkR N arcs bounds cells).2 = 0) (h1 : 1 ≤ level) (h2 : level ≤ bounds.length) : Q.lookedE N arcs bounds cells level = 0 := by
  unfold Q.lookedE
  rw [if_pos h, if_neg (by omega), if_neg (by omega)]
/-- Up with the arcs' own weights, and right matrices. -/
theorem up_own {n : Nat} {arcs : List Q.S68} {bounds : List Int} {cells : List (List Int)} {level cell : Int} (hf : Q.ArcsFit arcs) (h : Q.upE (n : Int) arcs bounds cells level cell = 0) :
    upD n arcs (cells.getD (level - 1).toNat []) (cells.getD (level - 2).toNat []) cell ((Q.betweenOf arcs (cells.getD (level - 1).toNat []) (cells.getD (level - 2).toNat []) cell).map (fun i => (arcs.getD i.toNat Q.z68).f2)) ((kidMats n arcs cells level cell).map (·.D)) = Q.matOf n arcs (cells.getD (level - 1).toNat []) cell := by
  obtain ⟨hce, hl1⟩ := upE_ok h
  obtain ⟨⟨hN1, hG⟩, hNest, ⟨hlv1, hlv2⟩, _⟩ := Q.cellE_ok hf hce
  rw [Int.toNat_natCast] at hG hNest
  have hrow := (Q.rightP_in (hNest.right (j := (level - 1).toNat) (by omega))).1
  have hbel := (Q.rightP_in (hNest.right (j := (level - 2).toNat) (by omega))).1
  have hnest := nested_of hNest (j := (level - 2).toNat) (by omega)
  rw [show (level - 2).toNat + 1 = (level - 1).toNat by omega] at hnest
  refine up_right hG hrow hbel hnest (fun i hi => getD_map _ _ i 0 0 hi) (by rw [List.length_map]) (fun i hi => ?_)
  unfold kidMats
  rw [List.map_map]
  exact getD_map _ _ i 0 [] hi

end Go.Proofs.YtenbcfjfgbpinaaGreat

/- CliqueRises' walk. -/
namespace Go.Proofs.YtenbcfjfgbpinaaGreat
open Go.RowKit Go.Lib Go.Maps Go.Proofs.YtenbcfjfgbpinaaGreatW.PrintWords Go.Proofs.YtenbcfjfgbpinaaGreatW.PrintLast Go.Proofs.YtenbcfjfgbpinaaGreatW.PrintMore
set_option linter.unusedVariables false
set_option maxRecDepth 100000

theorem u64_C {w : World} {B n cap : Nat} {P : Option Addr} {D : List Nat} (h : w.ownsRow B 43 1 (.slice P n cap) D.length (u64s D)) : n = D.length ∧ D.length ≤ cap ∧ Kd.C (Kd.int .u64) w P (Q.natsI D).length (Q.natsI D) := by
  have e1 : (Q.natsI D).map (Value.int .u64) = u64s D := by unfold Q.natsI u64s; rw [List.map_map]; rfl
  have e2 : (Q.natsI D).length = D.length := by unfold Q.natsI; rw [List.length_map]
  have hn : n = D.length ∧ D.length ≤ cap := by
    rcases h.2 with ⟨h1, h0⟩ | ⟨g, cap', cur, h1, _, _, h4, _⟩
    · injection h1 with h1 h2 h3
      omega
    · injection h1 with h1 h2 h3
      omega
  obtain ⟨rfl, hc⟩ := hn
  rw [← e1, ← e2] at h
  exact ⟨rfl, hc, (Kd.R_reads' (Kd.R_of_own (enc := Value.int .u64) (ok := fun _ => True) h (fun _ _ => trivial))).2.2⟩

theorem weightsOwn_any (n : Nat) (arcs : List Q.S68) (A : Option Addr) (c : Nat) (IA : Option Addr) (ic : Nat) (idx : List Int) (w : World) (hg : Q.GOk n arcs) (hr : Kd.C Q.k68 w A arcs.length arcs) (hc : arcs.length ≤ c) (hi : Kd.C (Kd.int .i64) w IA idx.length idx) (hin : ∀ i ∈ idx, 0 ≤ i ∧ i < (arcs.length : Int)) (hl : idx.length ≤ 16384) :
    Calls Tryz.prog 12 #[.agg #[.int .i64 (n : Int), .slice A arcs.length c], .slice IA idx.length ic] w fun e w' => ∃ P cap, e = .returned (.tuple #[.slice P (idx.map (fun i => (arcs.getD i.toNat Q.z68).f2)).length cap, .int .i64 0]) ∧ Kd.C (Kd.int .u32) w' P (idx.map (fun i => (arcs.getD i.toNat Q.z68).f2)).length (idx.map (fun i => (arcs.getD i.toNat Q.z68).f2)) ∧ Below w.heap.size w w' := by
  have h := weights_any (n : Int) arcs A c IA ic idx w hg.fit hr hc hi
  rw [Q.weightsR_own hg hin hl] at h
  refine h.mono ?_
  rintro e w' ⟨P, cap, h1, h2, h3⟩
  exact ⟨P, cap, h1, u32_C h2 rfl, h3⟩

set_option maxHeartbeats 16000000 in
theorem rises_any (N : Int) (arcs : List Q.S68) (A : Option Addr) (c : Nat) (BA : Option Addr) (bc : Nat) (bounds : List Int) (CA : Option Addr) (cc : Nat) (cells : List (List Int)) (w : World)
    (hf : Q.ArcsFit arcs) (hr : Kd.C Q.k68 w A arcs.length arcs) (hc : arcs.length ≤ c) (hn : NestIn w BA bc bounds CA cc cells) :
    Calls Tryz.prog 6 #[.agg #[.int .i64 N, .slice A arcs.length c], .agg #[.slice BA bounds.length bc, .slice CA cells.length cc]] w fun e w' => e = .returned (.bool true) ∧ Below w.heap.size w w' := by
  obtain ⟨i0, hi0, hz0, hz1, hz2⟩ := info_parts matInfo
  obtain ⟨c0, c1, n0, n1, hsz, hb1⟩ := two_boxes w (.int .i64 N) (.slice A arcs.length c) (.slice BA bounds.length bc) (.slice CA cells.length cc) 24 28
  have HWK1 : Hid (∀ wx : World, Calls Tryz.prog 7 #[] wx fun e w' => e = .returned (.bool true) ∧ Below wx.heap.size wx w') := Lib.hid (fun wx => Q.flyoverlaw13_works.calls 9 true wx Q.works_f)
  obtain ⟨lb, hlb⟩ := Q.large_tot N arcs
  have HLG : Hid (∀ wx : World, Below w.heap.size w wx → Calls Tryz.prog 8 #[.agg #[.int .i64 N, .slice A arcs.length c]] wx fun e w' => e = .returned (.bool lb) ∧ Below wx.heap.size wx w') := Lib.hid (fun wx hb => Q.flyoverlaw13_large.calls _ N A c arcs lb wx (Kd.C_below hr hb) hc hlb)
  have HNC : Hid (∀ wx : World, Below w.heap.size w wx → Calls Tryz.prog 21 #[.agg #[.int .i64 N, .slice A arcs.length c], .agg #[.slice BA bounds.length bc, .slice CA cells.length cc]] wx fun e w' => e = .returned (.tuple #[.int .i64 (Q.checkR N arcs bounds cells).1, .int .i64 (Q.checkR N arcs bounds cells).2]) ∧ Below wx.heap.size wx w') :=
    Lib.hid (fun wx hb => nestCheck_any N arcs A c BA bc bounds CA cc cells wx hf (Kd.C_below hr hb) hc (hn.below hb))
  have HF := Lib.hid hf
  have HR := Lib.hid hr
  have HC := Lib.hid hc
  have HN := Lib.hid hn
  clear hf hr hc hn hlb
  generalize hk1 : (Q.checkR N arcs bounds cells).1 = k1 at *
  generalize hk2q : (Q.checkR N arcs bounds cells).2 = k2 at *
  have HK2 := Lib.hid hk2q
  clear hk1 hk2q
  go_enter Tryz.func6, Tryz.ntmps6
  go_upto_region 1 with fail
  generalize ((w.alloc (.cells #[.int .i64 N, .slice A arcs.length c] 24)).alloc (.cells #[.slice BA bounds.length bc, .slice CA cells.length cc] 28)) = w1 at *
  have HB1 := Lib.hid hb1
  have hs1 : w.heap.size + 2 ≤ w1.heap.size := by omega
  generalize hgx : w.heap.size = gx at *
  have HGX := Lib.hid hgx
  have HBOX : Hid (∀ wx : World, Below w1.heap.size w1 wx → wx.cell? ⟨gx, 0, none⟩ = some (.int .i64 N) ∧ wx.cell? ⟨gx, 1, none⟩ = some (.slice A arcs.length c) ∧ wx.cell? ⟨gx + 1, 0, none⟩ = some (.slice BA bounds.length bc) ∧ wx.cell? ⟨gx + 1, 1, none⟩ = some (.slice CA cells.length cc) ∧ Below gx w wx) := Lib.hid (fun wx hb =>
    ⟨(hb.cell (p := ⟨gx, 0, none⟩) (by show gx < w1.heap.size; omega)).trans c0, (hb.cell (p := ⟨gx, 1, none⟩) (by show gx < w1.heap.size; omega)).trans c1, (hb.cell (p := ⟨gx + 1, 0, none⟩) (by show gx + 1 < w1.heap.size; omega)).trans n0, (hb.cell (p := ⟨gx + 1, 1, none⟩) (by show gx + 1 < w1.heap.size; omega)).trans n1, HB1.out.trans (hb.mono (by omega))⟩)
  clear hb1 hsz hgx
  go_upto_region 3 with (go_at_call 7; (with_reducible refine (HWK1.out _).mono ?_); rintro e w2 ⟨rfl, hb⟩; have HB2 := Lib.hid hb; clear hb)
  clear c0 c1 n0 n1
  obtain ⟨x0, x1, x2, x3, hbw⟩ := HBOX.out w2 HB2.out
  have HNC2 := Lib.hid (HNC.out w2 hbw)
  clear hbw HNC HWK1
  go_upto_region 4 with (go_at_call 21; (with_reducible refine HNC2.out.mono ?_); rintro e w3 ⟨rfl, hb⟩; have HB3 := Lib.hid hb; clear hb)
  have HBW3 : Hid (Below w1.heap.size w1 w3) := Lib.hid (HB2.out.trans (HB3.out.mono (by have := HB2.out.size; omega)))
  clear x0 x1 x2 x3 HNC2 HB2 HB3
  obtain ⟨x0, x1, x2, x3, hbw⟩ := HBOX.out w3 HBW3.out
  by_cases hk2 : k2 = 0
  · have HLG3 := Lib.hid (HLG.out w3 hbw)
    have h2 := HK2.out
    rw [hk2] at h2
    obtain ⟨⟨hN1, hG⟩, hNest⟩ := Q.checkR_ok HF.out h2
    obtain ⟨n, rfl⟩ : ∃ n : Nat, N = (n : Int) := ⟨N.toNat, (Int.toNat_of_nonneg (by omega)).symm⟩
    rw [Int.toNat_natCast] at hG hNest
    have HCK2 := Lib.hid h2
    clear hbw HLG h2
    cases lb with
    | true =>
      go_wp2_with (go_at_call 8; (with_reducible refine HLG3.out.mono ?_); rintro e w4 ⟨rfl, hb⟩; have HB4 := Lib.hid hb; clear hb)
      go_ret
      obtain ⟨-, -, -, -, hbw⟩ := HBOX.out w4 (HBW3.out.trans (HB4.out.mono (by have := HBW3.out.size; omega)))
      have hgx := HGX.out
      subst hgx
      exact ⟨rfl, hbw⟩
    | false =>
      have hn2 := hG.n2
      have hm := hG.m
      have hb5 := hNest.b5
      have HG := Lib.hid hG
      have HNO := Lib.hid hNest
      have HROW : Hid (∀ L : Nat, 1 ≤ L → L ≤ bounds.length → (cells.getD ((L : Int) - 1).toNat []).length = n ∧ Q.rightP n (cells.getD ((L : Int) - 1).toNat []) = true) := Lib.hid (fun L h1 h2 => by
        have h := hNest.right (j := ((L : Int) - 1).toNat) (by omega)
        exact ⟨(Q.rightP_in h).1, h⟩)
      clear hN1 hG hNest
      go_upto_region 6 with (go_at_call 8; (with_reducible refine HLG3.out.mono ?_); rintro e w4 ⟨rfl, hb⟩; have HB4 := Lib.hid hb; clear hb)
      have HBW4 : Hid (Below w1.heap.size w1 w4) := Lib.hid (HBW3.out.trans (HB4.out.mono (by have := HBW3.out.size; omega)))
      clear x0 x1 x2 x3 HLG3 HB4 HBW3
      have HLV : Hid (∀ (L : Nat) (wx : World), 1 ≤ L → L ≤ bounds.length → Below gx w wx → Calls Tryz.prog 22 #[.agg #[.int .i64 (n : Int), .slice A arcs.length c], .agg #[.slice BA bounds.length bc, .slice CA cells.length cc], .int .i64 (L : Int)] wx fun e w' => ∃ v ps, e = .returned (.tuple #[v, .bool true]) ∧ Mrow w' wx.heap.size v ps ∧ ps.length = Q.manyOf (cells.getD ((L : Int) - 1).toNat []) ∧ (∀ i : Nat, i < ps.length → (ps.getD i zP).1 = ⟨(L : Int), (i : Int), 0, Q.matOf n arcs (cells.getD ((L : Int) - 1).toNat []) (i : Int)⟩) ∧ Below wx.heap.size wx w') :=
        Lib.hid (fun L wx h1 h2 hb => by
          have hb' : Below w.heap.size w wx := by rw [HGX.out]; exact hb
          have h := leveled_any n arcs A c BA bc bounds CA cc cells (L : Int) wx HF.out (Kd.C_below HR.out hb') HC.out (HN.out.below hb') (looked_of HCK2.out (by omega) (by omega)) (Nat.le_trans (Q.many_le HG.out.n1 (HROW.out L h1 h2).2) HG.out.n2)
          rw [Int.toNat_natCast] at h
          exact h)
      go_wp2_with fail
      go_loopg [7] (bounds.length + 1) (fun gg s7 wr => ∃ L : Nat, 1 ≤ L ∧ L ≤ bounds.length + 1 ∧ bounds.length + 1 - L ≤ gg ∧ s7 = .int .i64 L ∧ Hid (Below w1.heap.size w1 wr))
      case atStart => exact ⟨1, Nat.le_refl _, by omega, by omega, rfl, HBW4⟩
      case round =>
        obtain ⟨L, hL1, hL2, hgg, rfl, HB⟩ := hrel
        obtain ⟨wm, rfl⟩ : ∃ x : World, x = wr := ⟨_, rfl⟩
        obtain ⟨x0, x1, x2, x3, hbw⟩ := HBOX.out wm HB.out
        have hwL : IntKind.i64.wrap ((L : Int) + 1) = ((L + 1 : Nat) : Int) := by rw [IntWalk.i64_in _ (by omega)]; omega
        by_cases hlt : L ≤ bounds.length
        · have hltz : (L : Int) ≤ (bounds.length : Int) := by omega
          have HLVL := Lib.hid (HLV.out L wm hL1 hlt hbw)
          obtain ⟨hrl, hrp⟩ := HROW.out L hL1 hlt
          have HRL := Lib.hid hrl
          have hmany := Q.many_le HG.out.n1 hrp
          have HCE : Hid (∀ k : Nat, k < Q.manyOf (cells.getD ((L : Int) - 1).toNat []) → Q.cellE (n : Int) arcs bounds cells (L : Int) (k : Int) = 0) := Lib.hid (fun k hk => cellE_looked (looked_of HCK2.out (by omega) (by omega)) k hk)
          clear hbw hrl hrp
          go_wp2_with (go_at_call 22; (with_reducible refine HLVL.out.mono ?_); rintro e w5 ⟨v, ps, rfl, hmr, hpl, hpe, hb⟩; obtain ⟨PA, pc, rfl, hmi⟩ := hmr.shape; have HMR := Lib.hid hmr; have HPL := Lib.hid hpl; have HPE := Lib.hid hpe; have HB5 := Lib.hid hb; clear hmr hpl hpe hmi hb)
          have HB15 : Hid (Below w1.heap.size w1 w5) := Lib.hid (HB.out.trans (HB5.out.mono (by have := HB.out.size; omega)))
          have hpl4 : ps.length ≤ 1024 := by rw [HPL.out]; omega
          clear x0 x1 x2 x3 HLVL
          go_loopg [61] ps.length (fun gg s61 wr => ∃ k : Nat, k ≤ ps.length ∧ ps.length - k ≤ gg ∧ s61 = .int .i64 k ∧ Hid (Below w5.heap.size w5 wr))
          case atStart => exact ⟨0, Nat.zero_le _, by omega, rfl, Lib.hid (Below.refl _ _)⟩
          case round =>
            obtain ⟨k, hk1, hgg2, rfl, HB5R⟩ := hrel
            obtain ⟨wq, rfl⟩ : ∃ x : World, x = wr := ⟨_, rfl⟩
            have HB1Q : Hid (Below w1.heap.size w1 wq) := Lib.hid (HB15.out.trans (HB5R.out.mono (by have := HB15.out.size; omega)))
            by_cases hltk : k < ps.length
            · have hltkz : (k : Int) < (ps.length : Int) := by omega
              have hwk : IntKind.i64.wrap ((k : Int) + 1) = ((k + 1 : Nat) : Int) := by rw [IntWalk.i64_in _ (by omega)]; omega
              have HMQ := Lib.hid (HMR.out.below HB5R.out)
              obtain ⟨HA', hc', hsl, hmin⟩ := HMQ.out.shape
              cases hsl
              have hpk := HPE.out k hltk
              obtain ⟨g, DP, dc, hDV, hgv, y0, y1, y2, y3, -⟩ := HMQ.out.mat k hltk
              have hPA : PA = some ⟨g, 0, none⟩ := by
                rcases HMQ.out.row.2 with ⟨_, h0⟩ | ⟨g', cap, cur, h9, _⟩
                · omega
                · cases h9
                  have : g' = g := by simpa [Value.ownBlock] using hgv
                  rw [this]
              subst hPA
              have hmemk : ps.getD k zP ∈ ps := by rw [List.getD_eq_getElem?_getD, List.getElem?_eq_getElem hltk]; exact List.getElem_mem hltk
              have hDrow := HMQ.out.mats _ hmemk
              rw [hDV] at hDrow
              rw [hpk] at y0 y1 y2 y3 hDrow
              have hce := HCE.out k (by rw [← HPL.out]; exact hltk)
              have HCEK := Lib.hid hce
              simp only at y0 y1 y2 y3 hDrow
              have hrl := HRL.out
              have HMETL := Lib.hid (matOf_len n arcs (cells.getD ((L : Int) - 1).toNat []) (k : Int))
              have HCHK : Hid (∀ (wx : World) (P : Option Addr) (cp : Nat), Below gx w wx → Calls Tryz.prog 28 #[.agg #[.int .i64 (n : Int), .slice A arcs.length c], .agg #[.slice BA bounds.length bc, .slice CA cells.length cc], .agg #[.int .i64 (L : Int), .int .i64 (k : Int), .int .i64 0, .slice P (Q.matOf n arcs (cells.getD ((L : Int) - 1).toNat []) (k : Int)).length cp]] wx fun e w' => e = .returned (.int .i64 0) ∧ Below wx.heap.size wx w') := Lib.hid (fun wx P cp hb => by
                have hb' : Below w.heap.size w wx := by rw [HGX.out]; exact hb
                have hlen : (Q.matOf n arcs (cells.getD ((L : Int) - 1).toNat []) (k : Int)).length ≤ 9000000000000000000 := by
                  rw [matOf_len]
                  have h1 := Q.bnd_len arcs (cells.getD ((L : Int) - 1).toNat []) (k : Int)
                  have h2 : (Q.bndOf arcs (cells.getD ((L : Int) - 1).toNat []) (k : Int)).length ≤ 16384 := by omega
                  have h3 := Nat.mul_le_mul h2 h2
                  omega
                have h := check_any n arcs A c BA bc bounds CA cc cells (L : Int) (k : Int) 0 P (Q.matOf n arcs (cells.getD ((L : Int) - 1).toNat []) (k : Int)).length cp wx hlen HF.out (Kd.C_below HR.out hb') HC.out (HN.out.below hb')
                have h0 : Q.matE (n : Int) arcs bounds cells (L : Int) (k : Int) 0 (Q.matOf n arcs (cells.getD ((L : Int) - 1).toNat []) (k : Int)).length = 0 := by
                  unfold Q.matE Q.levelRow
                  rw [if_pos HCK2.out, if_pos ⟨HCEK.out, by omega, matOf_len _ _ _ _⟩]
                rw [h0] at h
                exact h)
              have HDSM : Hid ((Q.natsI (Q.matOf n arcs (cells.getD ((L : Int) - 1).toNat []) (k : Int))).length ≤ 1000000000000) := Lib.hid (by
                unfold Q.natsI
                rw [List.length_map, matOf_len]
                have h1 := Q.bnd_len arcs (cells.getD ((L : Int) - 1).toNat []) (k : Int)
                have h2 : (Q.bndOf arcs (cells.getD ((L : Int) - 1).toNat []) (k : Int)).length ≤ 16384 := by omega
                have h3 := Nat.mul_le_mul h2 h2
                omega)
              generalize hDW : Q.matOf n arcs (cells.getD ((L : Int) - 1).toNat []) (k : Int) = DW at *
              have HDW := Lib.hid hDW
              have HDROW := Lib.hid hDrow
              clear hmin hpk hDV hgv hmemk hDrow hce hDW HPE hrl
              go_upto_region 16 with fail
              have hbA : Below wq.heap.size wq ((wq.alloc (.cells #[.int .i64 (L : Int), .int .i64 (k : Int), .int .i64 0, .slice DP DW.length dc] 37)).alloc (.cells #[.int .i64 0, .int .i64 0, .int .i64 0, .slice none 0 0] 37)) := ((Below.refl _ wq).alloc (Nat.le_refl _) _).alloc (by rw [World.size_alloc]; omega) _
              have hqA : ((wq.alloc (.cells #[.int .i64 (L : Int), .int .i64 (k : Int), .int .i64 0, .slice DP DW.length dc] 37)).alloc (.cells #[.int .i64 0, .int .i64 0, .int .i64 0, .slice none 0 0] 37)).heap[wq.heap.size]? = some (.cells #[.int .i64 (L : Int), .int .i64 (k : Int), .int .i64 0, .slice DP DW.length dc] 37 (0, 0)) := by rw [heap_alloc2_old]
              have hqM : ((wq.alloc (.cells #[.int .i64 (L : Int), .int .i64 (k : Int), .int .i64 0, .slice DP DW.length dc] 37)).alloc (.cells #[.int .i64 0, .int .i64 0, .int .i64 0, .slice none 0 0] 37)).heap[wq.heap.size + 1]? = some (.cells #[.int .i64 0, .int .i64 0, .int .i64 0, .slice none 0 0] 37 (0, 0)) := heap_alloc2_new _ _ _
              have hsA : wq.heap.size + 2 ≤ ((wq.alloc (.cells #[.int .i64 (L : Int), .int .i64 (k : Int), .int .i64 0, .slice DP DW.length dc] 37)).alloc (.cells #[.int .i64 0, .int .i64 0, .int .i64 0, .slice none 0 0] 37)).heap.size := by simp
              generalize ((wq.alloc (.cells #[.int .i64 (L : Int), .int .i64 (k : Int), .int .i64 0, .slice DP DW.length dc] 37)).alloc (.cells #[.int .i64 0, .int .i64 0, .int .i64 0, .slice none 0 0] 37)) = wa at *
              have hsq5 : w5.heap.size ≤ wq.heap.size := HB5R.out.size
              have hsq1 : w1.heap.size ≤ w5.heap.size := HB15.out.size
              have HB1A : Hid (Below w1.heap.size w1 wa) := Lib.hid (HB1Q.out.trans (hbA.mono (by omega)))
              have HB5A : Hid (Below w5.heap.size w5 wa) := Lib.hid (HB5R.out.trans (hbA.mono hsq5))
              have HDA := Lib.hid (own_below HDROW.out hbA)
              have HDLT : Hid (∀ g, (Value.slice DP DW.length dc).ownBlock = some g → g < wq.heap.size) := Lib.hid (fun g h => (HDROW.out.lt g h).2)
              generalize hgb : wq.heap.size = gb at *
              generalize hgmq : gb + 1 = gm at *
              have HGB := Lib.hid hgb
              have HGMQ := Lib.hid hgmq
              have HQA := Lib.hid hqA
              have HQM := Lib.hid hqM
              have hgmb : gb < gm := by omega
              have hgma : gm < wa.heap.size := by omega
              have hg5m : w5.heap.size ≤ gm := by omega
              clear y0 y1 y2 y3 hbA hqA hqM hgb hgmq HDROW
              obtain ⟨x0, x1, x2, x3, hbwa⟩ := HBOX.out wa HB1A.out
              have HBWA := Lib.hid hbwa
              clear hbwa
              -- what is stored in the law's own matrix
              have HSTO : Hid (∀ (wI : World) (P : Option Addr) (m cp B : Nat), Below wa.heap.size wa wI → wI.ownsRow B 43 1 (.slice P m cp) DW.length (u64s DW) → gm < B → ∃ wj : World, wj = ((((wI.setCell ⟨gm, 0, none⟩ (.int .i64 (L : Int))).setCell ⟨gm, 1, none⟩ (.int .i64 (k : Int))).setCell ⟨gm, 2, none⟩ (.int .i64 0)).setCell ⟨gm, 3, none⟩ (.slice P m cp)) ∧ Below w1.heap.size w1 wj ∧ Below w5.heap.size w5 wj ∧ wj.heap[gm]? = some (.cells #[.int .i64 (L : Int), .int .i64 (k : Int), .int .i64 0, .slice P m cp] 37 (0, 0)) ∧ wj.heap[gb]? = some (.cells #[.int .i64 (L : Int), .int .i64 (k : Int), .int .i64 0, .slice DP DW.length dc] 37 (0, 0)) ∧ wj.ownsRow B 43 1 (.slice P m cp) DW.length (u64s DW) ∧ wj.ownsRow wm.heap.size 43 1 (.slice DP DW.length dc) DW.length (u64s DW)) := Lib.hid (fun wI P m cp B hbI hown hB => by
                have hqI := (hbI.block gm hgma).trans HQM.out
                have hset : ∀ (wx : World) (o j : Nat) (u : Value), j ≠ gm → (wx.setCell ⟨gm, o, none⟩ u).heap[j]? = wx.heap[j]? := fun wx o j u h => heap_setCell_other wx ⟨gm, o, none⟩ j u h
                refine ⟨_, rfl, below_set4 (HB1A.out.trans (hbI.mono (by omega))) (by omega), below_set4 (HB5A.out.trans (hbI.mono (by omega))) (by omega), heap_set4 hqI, ?_, row_stays hown (fun j hj => ?_), row_stays (own_below HDA.out hbI) (fun j hj => ?_)⟩
                · rw [hset _ _ _ _ (by omega), hset _ _ _ _ (by omega), hset _ _ _ _ (by omega), hset _ _ _ _ (by omega)]
                  exact (hbI.block gb (by omega)).trans HQA.out
                · have h6 := (hown.lt j hj).1
                  rw [hset _ _ _ _ (by omega), hset _ _ _ _ (by omega), hset _ _ _ _ (by omega), hset _ _ _ _ (by omega)]
                · have h6 := HDLT.out j hj
                  rw [hset _ _ _ _ (by omega), hset _ _ _ _ (by omega), hset _ _ _ _ (by omega), hset _ _ _ _ (by omega)])
              by_cases hL1e : L = 1
              · have hLz : (L : Int) = 1 := by omega
                have HLZ := Lib.hid hLz
                have hlb : ((L : Int) == 1) = true := by simp [hLz]
                have hld : decide ((L : Int) = 1) = true := decide_eq_true hLz
                have HIN1 : Hid (∀ wx : World, Below gx w wx → Calls Tryz.prog 23 #[.agg #[.int .i64 (n : Int), .slice A arcs.length c], .agg #[.slice BA bounds.length bc, .slice CA cells.length cc], .int .i64 1, .int .i64 (k : Int)] wx fun e w' => ∃ A' n' c', e = .returned (.tuple #[.slice A' n' c', .int .i64 0]) ∧ CutV w' (Q.innerOf arcs (Q.levelRow cells 1) (k : Int)) (.slice A' n' c') ∧ Below wx.heap.size wx w') := Lib.hid (fun wx hb => by
                  have hb' : Below w.heap.size w wx := by rw [HGX.out]; exact hb
                  have h0 := HCEK.out
                  rw [HLZ.out] at h0
                  refine (inner_any n arcs A c BA bc bounds CA cc cells 1 (k : Int) w wx hb' HF.out HR.out HC.out HN.out).mono ?_
                  rintro e w' ⟨A', n', c', h1, h2, h3⟩
                  rw [h0] at h1
                  exact ⟨A', n', c', h1, h2 h0, h3⟩)
                have HIDX := Lib.hid (inner_idx arcs (Q.levelRow cells 1) (k : Int))
                have HIL : Hid ((Q.innerOf arcs (Q.levelRow cells 1) (k : Int)).length ≤ arcs.length) := Lib.hid (Q.inner_len arcs (Q.levelRow cells 1) (k : Int) arcs.length)
                have HLF : Hid (∀ (wx : World) (WP : Option Addr) (wcp : Nat), Below gx w wx → Kd.C (Kd.int .u32) wx WP ((Q.innerOf arcs (Q.levelRow cells 1) (k : Int)).map (fun i => (arcs.getD i.toNat Q.z68).f2)).length ((Q.innerOf arcs (Q.levelRow cells 1) (k : Int)).map (fun i => (arcs.getD i.toNat Q.z68).f2)) → Calls Tryz.prog 9 #[.agg #[.int .i64 (n : Int), .slice A arcs.length c], .agg #[.slice BA bounds.length bc, .slice CA cells.length cc], .int .i64 (k : Int), .int .i64 0, .slice WP ((Q.innerOf arcs (Q.levelRow cells 1) (k : Int)).map (fun i => (arcs.getD i.toNat Q.z68).f2)).length wcp] wx fun e w' => ∃ P m cp, e = .returned (.tuple #[.agg #[.int .i64 (L : Int), .int .i64 (k : Int), .int .i64 0, .slice P m cp], .int .i64 0]) ∧ w'.ownsRow wx.heap.size 43 1 (.slice P m cp) DW.length (u64s DW) ∧ Below wx.heap.size wx w') := Lib.hid (fun wx WP wcp hb hw => by
                  have hb' : Below w.heap.size w wx := by rw [HGX.out]; exact hb
                  have h0 := HCEK.out
                  rw [HLZ.out] at h0
                  have hdw := HDW.out
                  rw [HLZ.out] at hdw
                  refine (leaf_any n arcs A c BA bc bounds CA cc cells (k : Int) 0 WP wcp _ _ _ _ _ _ wx (Kd.C_below HR.out hb') HC.out (HN.out.below hb') hw (leaf_own HG.out h0)).mono ?_
                  rintro e w' ⟨v, h1, ⟨P, m, cp, h2, h3⟩, h4⟩
                  have e1 : ∀ D : List Nat, (Q.natsI D).map (Value.int .u64) = u64s D := fun D => by unfold Q.natsI u64s; rw [List.map_map]; rfl
                  have e2 : ∀ D : List Nat, (Q.natsI D).length = D.length := fun D => by unfold Q.natsI; rw [List.length_map]
                  have e3 : Q.matOf n arcs (Q.levelRow cells 1) (k : Int) = DW := hdw
                  rw [e1, e2, e3] at h3
                  rw [h2, ← HLZ.out] at h1
                  exact ⟨P, m, cp, h1, h3, h4⟩)
                have HWT : Hid (∀ (wx : World) (IA : Option Addr) (ic : Nat), Below gx w wx → Kd.C (Kd.int .i64) wx IA (Q.innerOf arcs (Q.levelRow cells 1) (k : Int)).length (Q.innerOf arcs (Q.levelRow cells 1) (k : Int)) → Calls Tryz.prog 12 #[.agg #[.int .i64 (n : Int), .slice A arcs.length c], .slice IA (Q.innerOf arcs (Q.levelRow cells 1) (k : Int)).length ic] wx fun e w' => ∃ P cap, e = .returned (.tuple #[.slice P ((Q.innerOf arcs (Q.levelRow cells 1) (k : Int)).map (fun i => (arcs.getD i.toNat Q.z68).f2)).length cap, .int .i64 0]) ∧ Kd.C (Kd.int .u32) w' P ((Q.innerOf arcs (Q.levelRow cells 1) (k : Int)).map (fun i => (arcs.getD i.toNat Q.z68).f2)).length ((Q.innerOf arcs (Q.levelRow cells 1) (k : Int)).map (fun i => (arcs.getD i.toNat Q.z68).f2)) ∧ Below wx.heap.size wx w') := Lib.hid (fun wx IA ic hb hi => by
                  have hb' : Below w.heap.size w wx := by rw [HGX.out]; exact hb
                  exact weightsOwn_any n arcs A c IA ic _ wx HG.out (Kd.C_below HR.out hb') HC.out hi HIDX.out (by have := HIL.out; omega))
                generalize (Q.innerOf arcs (Q.levelRow cells 1) (k : Int)).map (fun i => (arcs.getD i.toNat Q.z68).f2) = ws at *
                generalize Q.innerOf arcs (Q.levelRow cells 1) (k : Int) = idx at *
                clear hLz hL1e
                go_upto_region 19 with (go_at_call 23; go_loud ((with_reducible refine (HIN1.out _ HBWA.out).mono ?_); rintro e w6 ⟨I6, n6, c6, rfl, ⟨P6, hv6, hC6⟩, hb6⟩; have HV6 := Lib.hid hv6; have HC6 := Lib.hid hC6; have HB6 := Lib.hid hb6; clear hv6 hC6 hb6))
                have hv6 := HV6.out
                simp only [Value.slice.injEq] at hv6
                obtain ⟨h61, h62, h63⟩ := hv6
                subst h61
                subst h62
                have HB16 : Hid (Below w1.heap.size w1 w6) := Lib.hid (HB1A.out.trans (HB6.out.mono (by omega)))
                clear x0 x1 x2 x3 h63
                obtain ⟨x0, x1, x2, x3, hbw6⟩ := HBOX.out w6 HB16.out
                have HW6 := Lib.hid (HWT.out w6 I6 c6 hbw6 HC6.out)
                clear hbw6
                go_upto_region 20 with (go_at_call 12; go_loud ((with_reducible refine HW6.out.mono ?_); rintro e w7 ⟨WP, wcp, rfl, hwC, hb7⟩; have HWC := Lib.hid hwC; have HB7 := Lib.hid hb7; clear hwC hb7))
                have HB67 : Hid (Below wa.heap.size wa w7) := Lib.hid (HB6.out.trans (HB7.out.mono HB6.out.size))
                have HB17 : Hid (Below w1.heap.size w1 w7) := Lib.hid (HB1A.out.trans (HB67.out.mono (by omega)))
                clear x0 x1 x2 x3 HW6
                obtain ⟨x0, x1, x2, x3, hbw7⟩ := HBOX.out w7 HB17.out
                have HL7 := Lib.hid (HLF.out w7 WP wcp hbw7 HWC.out)
                clear hbw7
                go_upto_region 21 with (go_at_call 9; go_loud ((with_reducible refine HL7.out.mono ?_); rintro e wI ⟨P, m, cp, rfl, hown, hb8⟩; have HOW := Lib.hid hown; have HB8 : Hid (Below wa.heap.size wa wI) := Lib.hid (HB67.out.trans (hb8.mono HB67.out.size)); clear hown hb8; have qI := (HB8.out.block gm hgma).trans HQM.out; obtain ⟨z0, z1, z2, z3, zf⟩ := cells4 qI; clear qI))
                obtain ⟨wj, hwj, hj1, hj2, hj3, hj4, hj5, hj6⟩ := HSTO.out wI P m cp w7.heap.size HB8.out HOW.out (by have := HB67.out.size; omega)
                have HJB := Lib.hid hj1
                have HJ5 := Lib.hid hj2
                have HJM := Lib.hid hj3
                have HJQ := Lib.hid hj4
                have HJO := Lib.hid hj5
                have HJD := Lib.hid hj6
                rw [← hwj]
                clear x0 x1 x2 x3 z0 z1 z2 z3 zf hj1 hj2 hj3 hj4 hj5 hj6 hwj HL7
                obtain ⟨x0, x1, x2, x3, hbwj⟩ := HBOX.out wj HJB.out
                obtain ⟨p0, p1, p2, p3, -⟩ := cells4 HJM.out
                obtain ⟨q0, q1, q2, q3, -⟩ := cells4 HJQ.out
                obtain ⟨hmm, hcp, hKC⟩ := u64_C HJO.out
                obtain ⟨-, hdc, hKD⟩ := u64_C HJD.out
                have hnl : (Q.natsI DW).length = DW.length := by unfold Q.natsI; rw [List.length_map]
                have hsm := Q.flyoverbook_SameMatrix.calls _ (L : Int) (k : Int) 0 P cp (Q.natsI DW) (L : Int) (k : Int) 0 DP dc (Q.natsI DW) true wj hKC (by rw [hnl]; exact hcp) hKD (by rw [hnl]; exact hdc) (Q.sameMatrix_refl (L : Int) (k : Int) 0 (Q.natsI DW) HDSM.out)
                rw [hnl] at hsm
                have HSM := Lib.hid hsm
                subst hmm
                have HXF : Hid (gx + 2 ≤ w1.heap.size) := Lib.hid (by omega)
                have hs1j : w1.heap.size ≤ wj.heap.size := HJB.out.size
                have hgmj : gm < wj.heap.size := lt_of_block HJM.out
                clear hKC hKD hnl hsm hcp hdc
                go_wp2_with (first
                  | (go_at_call 27; go_loud ((with_reducible refine HSM.out.mono ?_); rintro e wS ⟨rfl, hbS⟩; have HBS := Lib.hid hbS; clear hbS; have e0 := (HBS.out.cell (p := ⟨gx, 0, none⟩) (by show gx < wj.heap.size; omega)).trans x0; have e1 := (HBS.out.cell (p := ⟨gx, 1, none⟩) (by show gx < wj.heap.size; omega)).trans x1; have e2 := (HBS.out.cell (p := ⟨gx + 1, 0, none⟩) (by show gx + 1 < wj.heap.size; omega)).trans x2; have e3 := (HBS.out.cell (p := ⟨gx + 1, 1, none⟩) (by show gx + 1 < wj.heap.size; omega)).trans x3; have r0 := (HBS.out.cell (p := ⟨gm, 0, none⟩) hgmj).trans p0; have r1 := (HBS.out.cell (p := ⟨gm, 1, none⟩) hgmj).trans p1; have r2 := (HBS.out.cell (p := ⟨gm, 2, none⟩) hgmj).trans p2; have r3 := (HBS.out.cell (p := ⟨gm, 3, none⟩) hgmj).trans p3; have HBWS : Hid (Below gx w wS) := Lib.hid (hbwj.trans (HBS.out.mono (by have := hbwj.size; omega)))))
                  | (go_at_call 28; go_loud ((with_reducible refine (HCHK.out wS P cp HBWS.out).mono ?_); rintro e wT ⟨rfl, hbT⟩; have HBT := Lib.hid hbT; clear hbT)))
                have HWK := Lib.hid hwk
                clear hwk
                go_roundg (ps.length - (k + 1))
                case measure => omega
                case rel => exact ⟨k + 1, by omega, Nat.le_refl _, rfl, Lib.hid ((HJ5.out.trans (HBS.out.mono (by have := HJ5.out.size; omega))).trans (HBT.out.mono (by have := HJ5.out.size; have := HBS.out.size; omega)))⟩
              · have hlb : ((L : Int) == 1) = false := by simp; omega
                have hld : decide ((L : Int) = 1) = false := decide_eq_false (by omega)
                obtain ⟨L1, hL1q⟩ : ∃ L1 : Nat, L1 + 1 = L := ⟨L - 1, by omega⟩
                have HL1Q := Lib.hid hL1q
                have hwl1 : IntKind.i64.wrap ((L : Int) - 1) = (L1 : Int) := by rw [IntWalk.i64_in _ (by omega)]; omega
                have hue : Q.upE (n : Int) arcs bounds cells (L : Int) (k : Int) = 0 := by unfold Q.upE; rw [if_pos HCEK.out, if_neg (by omega)]
                have HUE := Lib.hid hue
                have HBT : Hid (∀ wx : World, Below gx w wx → Calls Tryz.prog 24 #[.agg #[.int .i64 (n : Int), .slice A arcs.length c], .agg #[.slice BA bounds.length bc, .slice CA cells.length cc], .int .i64 (L : Int), .int .i64 (k : Int)] wx fun e w' => ∃ A' n' c', e = .returned (.tuple #[.slice A' n' c', .int .i64 0]) ∧ CutV w' (Q.betweenOf arcs (cells.getD ((L : Int) - 1).toNat []) (cells.getD ((L : Int) - 2).toNat []) (k : Int)) (.slice A' n' c') ∧ Below wx.heap.size wx w') := Lib.hid (fun wx hb => by
                  have hb' : Below w.heap.size w wx := by rw [HGX.out]; exact hb
                  refine (between_any n arcs A c BA bc bounds CA cc cells (L : Int) (k : Int) w wx hb' HF.out HR.out HC.out HN.out).mono ?_
                  rintro e w' ⟨A', n', c', h1, h2, h3⟩
                  rw [HUE.out] at h1
                  exact ⟨A', n', c', h1, h2 HUE.out, h3⟩)
                have HCHD : Hid (∀ wx : World, Below gx w wx → Calls Tryz.prog 25 #[.agg #[.int .i64 (n : Int), .slice A arcs.length c], .agg #[.slice BA bounds.length bc, .slice CA cells.length cc], .int .i64 (L : Int), .int .i64 (k : Int)] wx fun e w' => ∃ A' n' c', e = .returned (.tuple #[.slice A' n' c', .int .i64 0]) ∧ CutV w' (Q.kidsOf (cells.getD ((L : Int) - 1).toNat []) (cells.getD ((L : Int) - 2).toNat []) (k : Int)) (.slice A' n' c') ∧ Below wx.heap.size wx w') := Lib.hid (fun wx hb => by
                  have hb' : Below w.heap.size w wx := by rw [HGX.out]; exact hb
                  refine (children_any n arcs A c BA bc bounds CA cc cells (L : Int) (k : Int) w wx hb' HF.out HR.out HC.out HN.out).mono ?_
                  rintro e w' ⟨A', n', c', h1, h2, h3⟩
                  rw [HUE.out] at h1
                  exact ⟨A', n', c', h1, h2 HUE.out, h3⟩)
                have HIDX : Hid (∀ i ∈ Q.betweenOf arcs (cells.getD ((L : Int) - 1).toNat []) (cells.getD ((L : Int) - 2).toNat []) (k : Int), 0 ≤ i ∧ i < (arcs.length : Int)) := Lib.hid (fun i hi => by
                  obtain ⟨j, rfl, hj⟩ := between_in hi
                  omega)
                have HIL : Hid ((Q.betweenOf arcs (cells.getD ((L : Int) - 1).toNat []) (cells.getD ((L : Int) - 2).toNat []) (k : Int)).length ≤ arcs.length) := Lib.hid (Q.pick_len _ arcs arcs.length)
                have HWT : Hid (∀ (wx : World) (IA : Option Addr) (ic : Nat), Below gx w wx → Kd.C (Kd.int .i64) wx IA (Q.betweenOf arcs (cells.getD ((L : Int) - 1).toNat []) (cells.getD ((L : Int) - 2).toNat []) (k : Int)).length (Q.betweenOf arcs (cells.getD ((L : Int) - 1).toNat []) (cells.getD ((L : Int) - 2).toNat []) (k : Int)) → Calls Tryz.prog 12 #[.agg #[.int .i64 (n : Int), .slice A arcs.length c], .slice IA (Q.betweenOf arcs (cells.getD ((L : Int) - 1).toNat []) (cells.getD ((L : Int) - 2).toNat []) (k : Int)).length ic] wx fun e w' => ∃ P cap, e = .returned (.tuple #[.slice P ((Q.betweenOf arcs (cells.getD ((L : Int) - 1).toNat []) (cells.getD ((L : Int) - 2).toNat []) (k : Int)).map (fun i => (arcs.getD i.toNat Q.z68).f2)).length cap, .int .i64 0]) ∧ Kd.C (Kd.int .u32) w' P ((Q.betweenOf arcs (cells.getD ((L : Int) - 1).toNat []) (cells.getD ((L : Int) - 2).toNat []) (k : Int)).map (fun i => (arcs.getD i.toNat Q.z68).f2)).length ((Q.betweenOf arcs (cells.getD ((L : Int) - 1).toNat []) (cells.getD ((L : Int) - 2).toNat []) (k : Int)).map (fun i => (arcs.getD i.toNat Q.z68).f2)) ∧ Below wx.heap.size wx w') := Lib.hid (fun wx IA ic hb hi => by
                  have hb' : Below w.heap.size w wx := by rw [HGX.out]; exact hb
                  exact weightsOwn_any n arcs A c IA ic _ wx HG.out (Kd.C_below HR.out hb') HC.out hi HIDX.out (by have := HIL.out; omega))
                have HUPC : Hid (∀ (wx : World) (WP : Option Addr) (wcp : Nat) (HP : Option Addr) (hcp : Nat), Below gx w wx → Kd.C (Kd.int .u32) wx WP ((Q.betweenOf arcs (cells.getD ((L : Int) - 1).toNat []) (cells.getD ((L : Int) - 2).toNat []) (k : Int)).map (fun i => (arcs.getD i.toNat Q.z68).f2)).length ((Q.betweenOf arcs (cells.getD ((L : Int) - 1).toNat []) (cells.getD ((L : Int) - 2).toNat []) (k : Int)).map (fun i => (arcs.getD i.toNat Q.z68).f2)) → MatsIn wx HP (kidMats n arcs cells (L : Int) (k : Int)) →
                    Calls Tryz.prog 26 #[.agg #[.int .i64 (n : Int), .slice A arcs.length c], .agg #[.slice BA bounds.length bc, .slice CA cells.length cc], .int .i64 (L : Int), .int .i64 (k : Int), .int .i64 0, .slice WP ((Q.betweenOf arcs (cells.getD ((L : Int) - 1).toNat []) (cells.getD ((L : Int) - 2).toNat []) (k : Int)).map (fun i => (arcs.getD i.toNat Q.z68).f2)).length wcp, .slice HP (kidMats n arcs cells (L : Int) (k : Int)).length hcp] wx fun e w' => ∃ P m cp, e = .returned (.tuple #[.agg #[.int .i64 (L : Int), .int .i64 (k : Int), .int .i64 0, .slice P m cp], .int .i64 0]) ∧ w'.ownsRow wx.heap.size 43 1 (.slice P m cp) DW.length (u64s DW) ∧ Below wx.heap.size wx w') := Lib.hid (fun wx WP wcp HP hcp hb hw hms => by
                  have hb' : Below w.heap.size w wx := by rw [HGX.out]; exact hb
                  have h := cliqueUp_any n arcs A c BA bc bounds CA cc cells (L : Int) (k : Int) 0 WP wcp _ HP hcp _ wx HF.out (Kd.C_below HR.out hb') HC.out (HN.out.below hb') hw (own_weights HG.out HIDX.out) hms HUE.out (by omega) (by rw [List.length_map]) (by unfold kidMats; rw [List.length_map]) (kids_ok HF.out HUE.out)
                  rw [Int.toNat_natCast, up_own HF.out HUE.out, HDW.out] at h
                  refine h.mono ?_
                  rintro e w' ⟨v, h1, ⟨P, m, cp, h2, h3⟩, h4⟩
                  have e1 : ∀ D : List Nat, (Q.natsI D).map (Value.int .u64) = u64s D := fun D => by unfold Q.natsI u64s; rw [List.map_map]; rfl
                  have e2 : ∀ D : List Nat, (Q.natsI D).length = D.length := fun D => by unfold Q.natsI; rw [List.length_map]
                  rw [e1, e2] at h3
                  rw [h2] at h1
                  exact ⟨P, m, cp, h1, h3, h4⟩)
                have hL1b : 1 ≤ L1 := by omega
                have hbq : ((L1 : Int) - 1).toNat = ((L : Int) - 2).toNat := by omega
                have HKID : Hid (∀ t, t < (Q.kidsOf (cells.getD ((L : Int) - 1).toNat []) (cells.getD ((L : Int) - 2).toNat []) (k : Int)).length → ∃ x : Nat, (Q.kidsOf (cells.getD ((L : Int) - 1).toNat []) (cells.getD ((L : Int) - 2).toNat []) (k : Int)).getD t 0 = (x : Int) ∧ x < Q.manyOf (cells.getD ((L : Int) - 2).toNat []) ∧ (kidMats n arcs cells (L : Int) (k : Int)).getD t zMat = ⟨(L1 : Int), (x : Int), 0, Q.matOf n arcs (cells.getD ((L : Int) - 2).toNat []) (x : Int)⟩) := Lib.hid (fun t ht => by
                  have hrp := (HROW.out L1 hL1b (by omega)).2
                  rw [hbq] at hrp
                  obtain ⟨x, h1, h2⟩ := Q.kid_many (HRL.out) hrp (get_mem ht)
                  refine ⟨x, h1, h2, ?_⟩
                  have e : (kidMats n arcs cells (L : Int) (k : Int)).getD t zMat = ⟨(L : Int) - 1, (Q.kidsOf (cells.getD ((L : Int) - 1).toNat []) (cells.getD ((L : Int) - 2).toNat []) (k : Int)).getD t 0, 0, Q.matOf n arcs (cells.getD ((L : Int) - 2).toNat []) ((Q.kidsOf (cells.getD ((L : Int) - 1).toNat []) (cells.getD ((L : Int) - 2).toNat []) (k : Int)).getD t 0)⟩ := by
                    unfold kidMats
                    exact getD_map _ _ t 0 zMat ht
                  rw [e, h1, show (L : Int) - 1 = (L1 : Int) by omega])
                have HMSL : Hid ((kidMats n arcs cells (L : Int) (k : Int)).length = (Q.kidsOf (cells.getD ((L : Int) - 1).toNat []) (cells.getD ((L : Int) - 2).toNat []) (k : Int)).length) := Lib.hid (by unfold kidMats; rw [List.length_map])
                have HKL4 : Hid ((Q.kidsOf (cells.getD ((L : Int) - 1).toNat []) (cells.getD ((L : Int) - 2).toNat []) (k : Int)).length ≤ 1024) := Lib.hid (by
                  have h1 : (Q.kidsOf (cells.getD ((L : Int) - 1).toNat []) (cells.getD ((L : Int) - 2).toNat []) (k : Int)).length ≤ (Q.rawOf (cells.getD ((L : Int) - 1).toNat []) (cells.getD ((L : Int) - 2).toNat []) (k : Int)).length := by
                    unfold Q.kidsOf
                    have := Lib.compact_length_le ((Q.rawOf (cells.getD ((L : Int) - 1).toNat []) (cells.getD ((L : Int) - 2).toNat []) (k : Int)).mergeSort (fun x y => decide (x ≤ y)))
                    rw [List.length_mergeSort] at this
                    exact this
                  have h2 : (Q.rawOf (cells.getD ((L : Int) - 1).toNat []) (cells.getD ((L : Int) - 2).toNat []) (k : Int)).length ≤ (cells.getD ((L : Int) - 1).toNat []).length := by
                    unfold Q.rawOf
                    rw [List.length_map]
                    exact Q.mem_len _ _ _
                  have := HRL.out
                  omega)
                have HLVB : Hid (∀ wx : World, Below gx w wx → Calls Tryz.prog 22 #[.agg #[.int .i64 (n : Int), .slice A arcs.length c], .agg #[.slice BA bounds.length bc, .slice CA cells.length cc], .int .i64 (L1 : Int)] wx fun e w' => ∃ v ps, e = .returned (.tuple #[v, .bool true]) ∧ Mrow w' wx.heap.size v ps ∧ ps.length = Q.manyOf (cells.getD ((L : Int) - 2).toNat []) ∧ (∀ i : Nat, i < ps.length → (ps.getD i zP).1 = ⟨(L1 : Int), (i : Int), 0, Q.matOf n arcs (cells.getD ((L : Int) - 2).toNat []) (i : Int)⟩) ∧ Below wx.heap.size wx w') := Lib.hid (fun wx hb => by
                  have h := HLV.out L1 wx hL1b (by omega) hb
                  rw [hbq] at h
                  exact h)
                generalize (Q.betweenOf arcs (cells.getD ((L : Int) - 1).toNat []) (cells.getD ((L : Int) - 2).toNat []) (k : Int)).map (fun i => (arcs.getD i.toNat Q.z68).f2) = ws at *
                generalize Q.betweenOf arcs (cells.getD ((L : Int) - 1).toNat []) (cells.getD ((L : Int) - 2).toNat []) (k : Int) = idx at *
                generalize kidMats n arcs cells (L : Int) (k : Int) = ms at *
                generalize Q.kidsOf (cells.getD ((L : Int) - 1).toNat []) (cells.getD ((L : Int) - 2).toNat []) (k : Int) = kids at *
                generalize cells.getD ((L : Int) - 2).toNat [] = bel at *
                clear hue hL1q hL1e hbq hL1b
                go_upto_region 24 with (go_at_call 24; go_loud ((with_reducible refine (HBT.out _ HBWA.out).mono ?_); rintro e w6 ⟨I6, n6, c6, rfl, ⟨P6, hv6, hC6⟩, hb6⟩; have HV6 := Lib.hid hv6; have HC6 := Lib.hid hC6; have HB6 := Lib.hid hb6; clear hv6 hC6 hb6))
                have hv6 := HV6.out
                simp only [Value.slice.injEq] at hv6
                obtain ⟨h61, h62, h63⟩ := hv6
                subst h61
                subst h62
                have HB16 : Hid (Below w1.heap.size w1 w6) := Lib.hid (HB1A.out.trans (HB6.out.mono (by omega)))
                clear x0 x1 x2 x3 h63
                obtain ⟨x0, x1, x2, x3, hbw6⟩ := HBOX.out w6 HB16.out
                have HW6 := Lib.hid (HWT.out w6 I6 c6 hbw6 HC6.out)
                clear hbw6
                go_upto_region 25 with (go_at_call 12; go_loud ((with_reducible refine HW6.out.mono ?_); rintro e w7 ⟨WP, wcp, rfl, hwC, hb7⟩; have HWC := Lib.hid hwC; have HB7 := Lib.hid hb7; clear hwC hb7))
                have HB67 : Hid (Below wa.heap.size wa w7) := Lib.hid (HB6.out.trans (HB7.out.mono HB6.out.size))
                have HB17 : Hid (Below w1.heap.size w1 w7) := Lib.hid (HB1A.out.trans (HB67.out.mono (by omega)))
                clear x0 x1 x2 x3 HW6
                obtain ⟨x0, x1, x2, x3, hbw7⟩ := HBOX.out w7 HB17.out
                have HC7 := Lib.hid (HCHD.out w7 hbw7)
                clear hbw7
                go_upto_region 26 with (go_at_call 25; go_loud ((with_reducible refine HC7.out.mono ?_); rintro e w8 ⟨I8, n8, c8, rfl, ⟨P8, hv8, hC8⟩, hb8⟩; have HV8 := Lib.hid hv8; have HC8 := Lib.hid hC8; have HB8 := Lib.hid hb8; clear hv8 hC8 hb8))
                have hv8 := HV8.out
                simp only [Value.slice.injEq] at hv8
                obtain ⟨h81, h82, h83⟩ := hv8
                subst h81
                subst h82
                have HB68 : Hid (Below wa.heap.size wa w8) := Lib.hid (HB67.out.trans (HB8.out.mono HB67.out.size))
                have HB18 : Hid (Below w1.heap.size w1 w8) := Lib.hid (HB1A.out.trans (HB68.out.mono (by omega)))
                clear x0 x1 x2 x3 h83 HC7
                obtain ⟨x0, x1, x2, x3, hbw8⟩ := HBOX.out w8 HB18.out
                have HL8 := Lib.hid (HLVB.out w8 hbw8)
                clear hbw8
                go_wp2_with (go_at_call 22; go_loud ((with_reducible refine HL8.out.mono ?_); rintro e w9 ⟨v, qb, rfl, hmr, hql, hqe, hb⟩; obtain ⟨QA, qc, rfl, hmi⟩ := hmr.shape; have HMB := Lib.hid hmr; have HQL := Lib.hid hql; have HQE := Lib.hid hqe; have HB9 := Lib.hid hb; clear hmr hql hqe hmi hb))
                have HB69 : Hid (Below wa.heap.size wa w9) := Lib.hid (HB68.out.trans (HB9.out.mono HB68.out.size))
                have HB89 := HB9.out.size
                have HWC9 := Lib.hid (Kd.C_below (Kd.C_below HWC.out HB8.out) HB9.out)
                have HC89 := Lib.hid (Kd.C_below HC8.out HB9.out)
                clear x0 x1 x2 x3 HL8
                go_loopg [26, 141] kids.length (fun gg s26 s141 wr => ∃ (t : Nat) (qs : List (Mat × Value)), t ≤ kids.length ∧ kids.length - t ≤ gg ∧ s141 = .int .i64 t ∧ Hid (Mrow wr w8.heap.size s26 qs) ∧ Hid (qs.map (·.1) = ms.take t) ∧ Hid (∀ g, s26.ownBlock = some g → w9.heap.size ≤ g) ∧ Hid (Below w9.heap.size w9 wr))
                case atStart => exact ⟨0, [], Nat.zero_le _, by omega, rfl, Lib.hid (Mrow.nil _ _), Lib.hid rfl, Lib.hid (fun g h => by cases h), Lib.hid (Below.refl _ _)⟩
                case round =>
                  obtain ⟨t, qs, ht1, hgg3, rfl, HMS, HQS, HFR, HBL⟩ := hrel
                  have hs9r : w9.heap.size ≤ wr.heap.size := HBL.out.size
                  by_cases hltt : t < kids.length
                  · have httz : (t : Int) < (kids.length : Int) := by omega
                    have hwt : IntKind.i64.wrap ((t : Int) + 1) = ((t + 1 : Nat) : Int) := by rw [IntWalk.i64_in _ (by have := HKL4.out; omega)]; omega
                    obtain ⟨kad, hkad, u0⟩ := Q.int_cell (Kd.C_below HC89.out HBL.out) t hltt
                    subst hkad
                    obtain ⟨x, hx, hxm, hxk⟩ := HKID.out t hltt
                    rw [hx] at u0
                    have hxl : x < qb.length := by rw [HQL.out]; exact hxm
                    have hxz : (x : Int) < (qb.length : Int) := by omega
                    have HMBR := Lib.hid (HMB.out.below HBL.out)
                    obtain ⟨gB, DB, db, hDB, hgB, y0, y1, y2, y3, -⟩ := HMBR.out.mat x hxl
                    have hQA : QA = some ⟨gB, 0, none⟩ := by
                      rcases HMBR.out.row.2 with ⟨_, h0⟩ | ⟨g', cap, cur, h9, _⟩
                      · omega
                      · cases h9
                        have : g' = gB := by simpa [Value.ownBlock] using hgB
                        rw [this]
                    subst hQA
                    have hmemx : qb.getD x zP ∈ qb := by rw [List.getD_eq_getElem?_getD, List.getElem?_eq_getElem hxl]; exact List.getElem_mem hxl
                    have HDB := Lib.hid (HMBR.out.mats _ hmemx)
                    have HDB9 : Hid (∀ g, (qb.getD x zP).2.ownBlock = some g → g < w9.heap.size) := Lib.hid (fun g h => ((HMB.out.mats _ hmemx).lt g h).2)
                    have hp1 : (qb.getD x zP).1 = ms.getD t zMat := by rw [HQE.out x hxl, hxk]
                    have HP1 := Lib.hid hp1
                    have hql4 : qs.length ≤ 1024 := by
                      have h1 := congrArg List.length HQS.out
                      rw [List.length_map, List.length_take] at h1
                      have := HKL4.out
                      omega
                    have HTML : Hid (t < ms.length) := Lib.hid (by rw [HMSL.out]; exact hltt)
                    generalize hpp : qb.getD x zP = pp at *
                    obtain ⟨pm, pv⟩ := pp
                    obtain ⟨plv, pc2, pep, pD⟩ := pm
                    simp only at hDB y0 y1 y2 y3
                    subst hDB
                    clear hx hxm hxk hgB hmemx hp1 hpp
                    go_wp2_with (at_builtin; go_loud (refine wpList_append_own_at _ rfl _ _ 30 rfl w8.heap.size 37 i0 _ 4 48 Tryz.underlying30 hi0 hz0 hz1 hz2 rfl (by decide) _ _ _ rfl (HMS.out.row.alloc _) ⟨wr.heap.size, 0, none⟩ 1 1 [.int .i64 plv, .int .i64 pc2, .int .i64 pep, .slice DB pD.length db] rfl rfl (World.news_of_block (cs := #[.int .i64 plv, .int .i64 pc2, .int .i64 pep, .slice DB pD.length db]) (t := 37) (fr := (0, 0)) (heap_alloc_new wr _)) (by simp [Value.oneCell']) (by unfold maxLen; omega) (by omega) (by simp; omega) ?_); intro v' wv hown5 hg5 hnil5 hat5; go_frame)
                    have HWT2 := Lib.hid hwt
                    clear hwt
                    go_roundg (kids.length - (t + 1))
                    case measure => omega
                    case rel =>
                      have hg6 : wr.grownBy wv u26.ownBlock := ⟨hg5.os, hg5.tape, hg5.output, by have h := hg5.size; simp at h; omega, fun j hj hne => (hg5.block j (by simp; omega) hne).trans (heap_alloc_old wr _ hj)⟩
                      have hat6 : v'.ownBlock = u26.ownBlock ∨ ∃ g, v'.ownBlock = some g ∧ wr.heap.size ≤ g := by
                        rcases hat5 with h | h
                        · exact Or.inl h
                        · exact Or.inr ⟨_, h, by simp⟩
                      have hap : (Value.slice DB pD.length db).ownBlock = none ∨ (Value.slice DB pD.length db).ownBlock ≠ u26.ownBlock := by
                        cases hq : (Value.slice DB pD.length db).ownBlock with
                        | none => exact Or.inl rfl
                        | some g =>
                          right
                          intro e
                          have h1 := HDB9.out g hq
                          have h2 := HFR.out g e.symm
                          omega
                      refine ⟨t + 1, qs ++ [(⟨plv, pc2, pep, pD⟩, .slice DB pD.length db)], by omega, Nat.le_refl _, rfl, Lib.hid (HMS.out.push (⟨plv, pc2, pep, pD⟩, .slice DB pD.length db) HDB.out hap hown5 hg6 hat6), Lib.hid ?_, Lib.hid (fun g h => ?_), Lib.hid (Below.grown HBL.out hg6 (fun j hj => HFR.out j hj) hs9r)⟩
                      · rw [List.map_append, HQS.out, List.take_add_one, List.getElem?_eq_getElem HTML.out]
                        have e : ms[t]'(HTML.out) = ⟨plv, pc2, pep, pD⟩ := by
                          have h1 := HP1.out
                          rw [List.getD_eq_getElem?_getD, List.getElem?_eq_getElem HTML.out] at h1
                          exact h1.symm
                        rw [e]
                        rfl
                      · rcases hat6 with h1 | ⟨g', h1, h2⟩
                        · exact HFR.out g (by rw [← h1]; exact h)
                        · rw [h1] at h
                          cases h
                          omega
                  · have : t = kids.length := by omega
                    subst this
                    have htz : ¬ (kids.length : Int) < (kids.length : Int) := by omega
                    obtain ⟨wz, rfl⟩ : ∃ x : World, x = wr := ⟨_, rfl⟩
                    have hqs := HQS.out
                    rw [← HMSL.out, List.take_length] at hqs
                    obtain ⟨HP, hcp, hus, hmi⟩ := HMS.out.shape
                    have hqsl : qs.length = ms.length := by rw [← hqs, List.length_map]
                    rw [hqs] at hmi
                    rw [hqsl] at hus
                    subst hus
                    have HB6Z : Hid (Below wa.heap.size wa wz) := Lib.hid (HB69.out.trans (HBL.out.mono HB69.out.size))
                    have HB1Z : Hid (Below w1.heap.size w1 wz) := Lib.hid (HB1A.out.trans (HB6Z.out.mono (by omega)))
                    obtain ⟨x0, x1, x2, x3, hbwz⟩ := HBOX.out wz HB1Z.out
                    have HUPZ := Lib.hid (HUPC.out wz WP wcp HP hcp hbwz (Kd.C_below HWC9.out HBL.out) hmi)
                    clear hbwz hmi hqs hqsl
                    go_upto_region 36 with (go_at_call 26; go_loud ((with_reducible refine HUPZ.out.mono ?_); rintro e wI ⟨P, m, cp, rfl, hown, hb8⟩; have HOW := Lib.hid hown; have HBI : Hid (Below wa.heap.size wa wI) := Lib.hid (HB6Z.out.trans (hb8.mono HB6Z.out.size)); clear hown hb8; have qI := (HBI.out.block gm hgma).trans HQM.out; obtain ⟨z0, z1, z2, z3, zf⟩ := cells4 qI; clear qI))
                    obtain ⟨wj, hwj, hj1, hj2, hj3, hj4, hj5, hj6⟩ := HSTO.out wI P m cp wz.heap.size HBI.out HOW.out (by have := HB6Z.out.size; omega)
                    have HJB := Lib.hid hj1
                    have HJ5 := Lib.hid hj2
                    have HJM := Lib.hid hj3
                    have HJQ := Lib.hid hj4
                    have HJO := Lib.hid hj5
                    have HJD := Lib.hid hj6
                    rw [← hwj]
                    clear x0 x1 x2 x3 z0 z1 z2 z3 zf hj1 hj2 hj3 hj4 hj5 hj6 hwj HUPZ
                    obtain ⟨x0, x1, x2, x3, hbwj⟩ := HBOX.out wj HJB.out
                    obtain ⟨p0, p1, p2, p3, -⟩ := cells4 HJM.out
                    obtain ⟨q0, q1, q2, q3, -⟩ := cells4 HJQ.out
                    obtain ⟨hmm, hcp, hKC⟩ := u64_C HJO.out
                    obtain ⟨-, hdc, hKD⟩ := u64_C HJD.out
                    have hnl : (Q.natsI DW).length = DW.length := by unfold Q.natsI; rw [List.length_map]
                    have hsm := Q.flyoverbook_SameMatrix.calls _ (L : Int) (k : Int) 0 P cp (Q.natsI DW) (L : Int) (k : Int) 0 DP dc (Q.natsI DW) true wj hKC (by rw [hnl]; exact hcp) hKD (by rw [hnl]; exact hdc) (Q.sameMatrix_refl (L : Int) (k : Int) 0 (Q.natsI DW) HDSM.out)
                    rw [hnl] at hsm
                    have HSM := Lib.hid hsm
                    subst hmm
                    have HXF : Hid (gx + 2 ≤ w1.heap.size) := Lib.hid (by omega)
                    have hs1j : w1.heap.size ≤ wj.heap.size := HJB.out.size
                    have hgmj : gm < wj.heap.size := lt_of_block HJM.out
                    clear hKC hKD hnl hsm hcp hdc
                    go_wp2_with (first
                      | (go_at_call 27; go_loud ((with_reducible refine HSM.out.mono ?_); rintro e wS ⟨rfl, hbS⟩; have HBS := Lib.hid hbS; clear hbS; have e0 := (HBS.out.cell (p := ⟨gx, 0, none⟩) (by show gx < wj.heap.size; omega)).trans x0; have e1 := (HBS.out.cell (p := ⟨gx, 1, none⟩) (by show gx < wj.heap.size; omega)).trans x1; have e2 := (HBS.out.cell (p := ⟨gx + 1, 0, none⟩) (by show gx + 1 < wj.heap.size; omega)).trans x2; have e3 := (HBS.out.cell (p := ⟨gx + 1, 1, none⟩) (by show gx + 1 < wj.heap.size; omega)).trans x3; have r0 := (HBS.out.cell (p := ⟨gm, 0, none⟩) hgmj).trans p0; have r1 := (HBS.out.cell (p := ⟨gm, 1, none⟩) hgmj).trans p1; have r2 := (HBS.out.cell (p := ⟨gm, 2, none⟩) hgmj).trans p2; have r3 := (HBS.out.cell (p := ⟨gm, 3, none⟩) hgmj).trans p3; have HBWS : Hid (Below gx w wS) := Lib.hid (hbwj.trans (HBS.out.mono (by have := hbwj.size; omega)))))
                      | (go_at_call 28; go_loud ((with_reducible refine (HCHK.out wS P cp HBWS.out).mono ?_); rintro e wT ⟨rfl, hbT⟩; have HBT := Lib.hid hbT; clear hbT)))
                    have HWK := Lib.hid hwk
                    clear hwk
                    go_roundg (ps.length - (k + 1))
                    case measure => omega
                    case rel => exact ⟨k + 1, by omega, Nat.le_refl _, rfl, Lib.hid ((HJ5.out.trans (HBS.out.mono (by have := HJ5.out.size; omega))).trans (HBT.out.mono (by have := HJ5.out.size; have := HBS.out.size; omega)))⟩
            · have : k = ps.length := by omega
              subst this
              have hkz : ¬ (ps.length : Int) < (ps.length : Int) := by omega
              go_wp2_with fail
              have HWL := Lib.hid hwL
              clear hwL
              go_roundg (bounds.length + 1 - (L + 1))
              case measure => omega
              case rel => exact ⟨L + 1, by omega, by omega, Nat.le_refl _, rfl, HB1Q⟩
        · have : L = bounds.length + 1 := by omega
          subst this
          have hkz : ¬ ((bounds.length + 1 : Nat) : Int) ≤ (bounds.length : Int) := by omega
          go_wp2_with fail
          go_ret
          have hgx := HGX.out
          subst hgx
          exact ⟨rfl, hbw⟩
  · go_wp2_with fail
    go_ret
    have hgx := HGX.out
    subst hgx
    exact ⟨rfl, hbw⟩

end Go.Proofs.YtenbcfjfgbpinaaGreat

/- What rows of this seat open: graphs, nests, numbers. -/
namespace Go.Proofs.YtenbcfjfgbpinaaGreat
open Go.ChangeShapes Go.WideShapes Go.ChangeAt Go.RowKit Go.Proofs.YtenbcfjfgbpinaaGreatW.PrintWords Go.Proofs.YtenbcfjfgbpinaaGreatW.PrintLast
open Go.ChangeMaps (open_string shut_string)
set_option linter.unusedVariables false

theorem own13h : ownKnob Tryz.prog.godebug = none := by kernel_rfl
theorem laidOut13h : laidOutB Tryz.prog = true := by kernel_rfl

/-- A list of what each index has. -/
theorem list_of_each {α : Type} {P : Nat → α → Prop} (n : Nat) (d : α) (h : ∀ i, i < n → ∃ x, P i x) : ∃ xs : List α, xs.length = n ∧ ∀ i, i < xs.length → P i (xs.getD i d) := by
  induction n with
  | zero => exact ⟨[], rfl, fun i hi => absurd hi (Nat.not_lt_zero _)⟩
  | succ n ih =>
    obtain ⟨xs, hl, hx⟩ := ih (fun i hi => h i (by omega))
    obtain ⟨x, hp⟩ := h n (by omega)
    refine ⟨xs ++ [x], by simp [hl], fun i hi => ?_⟩
    by_cases hi2 : i < xs.length
    · have := hx i hi2
      rw [List.getD_eq_getElem?_getD, List.getElem?_append_left hi2, ← List.getD_eq_getElem?_getD]
      exact this
    · simp only [List.length_append, List.length_singleton] at hi
      obtain rfl : i = n := by omega
      rw [List.getD_eq_getElem?_getD, List.getElem?_append_right (by omega), hl]
      simpa using hp

section
variable {H : Type} {enc : TypeId × Value → H} {W : World} {base n : Nat} {sp : Nat → Bool} {held : Bool}
theorem fields_of {t e : TypeId} {P : Program} {fs : Array Field} {fuel : Nat} {cs : List Value} {x : DataW H × List MemPlace} (ht : P.underlying t = some (.slice e)) (he : P.underlying e = some (.struct fs))
    (hone : Go.Deep.oneCellFields P fs = true) (hC : P.cellsOf e = fs.size) (h : DataW.trod enc P W base sp held fuel t cs = some x) :
    (cs = [.slice none 0 0] ∧ x = (.nil, [])) ∨
    ∃ (a : Addr) (len cap m : Nat) (D : Nat → DataW H) (Pl : Nat → List MemPlace), cs = [.slice (some a) len cap] ∧ base ≤ a.block ∧ len ≤ cap ∧ cap ≤ maxLen ∧ m = (if sp a.block then cap else len) ∧
      x = (.slice ((List.range len).map D) ((List.range (m - len)).map fun j => D (len + j)), MemPlace.row a (m * fs.size) ++ (List.range m).flatMap Pl) ∧
      ∀ i, i < m → ∃ (ys : List (DataW H × List MemPlace)) (n : Nat), D i = .agg (ys.map (·.1)) ∧ Pl i = ys.flatMap (·.2) ∧ ys.length = fs.size ∧
        ∀ (j : Nat) (f : Field), fs[j]? = some f → ∃ (v : Value) (y : DataW H × List MemPlace), W.cell? (a.add (i * fs.size + j)) = some v ∧ ys[j]? = some y ∧ DataW.trod enc P W base sp held n f.type [v] = some y := by
  rcases Go.Deep.open_slice ht h with h0 | ⟨a, len, cap, m, n, D, Pl, hcs, hb, hl, hm, hmm, hx, hi⟩
  · exact .inl h0
  · refine .inr ⟨a, len, cap, m, D, Pl, hcs, hb, hl, hm, hmm, by rw [hC] at hx; exact hx, fun i him => ?_⟩
    obtain ⟨cs', hc, ht'⟩ := hi i him
    rw [hC] at hc
    obtain ⟨ys, n', hn', hy, hlen, hyl, hf⟩ := DataW.trod_struct he ht'
    obtain ⟨_, hcl, hat⟩ := World.cells?_some hc
    simp only [Prod.mk.injEq] at hy
    refine ⟨ys, n', hy.1, hy.2, hyl, fun j f hj => ?_⟩
    obtain ⟨ho, hk⟩ := Go.Deep.hone_of hone j f hj
    have hjl : j < fs.size := (Array.getElem?_eq_some_iff.1 hj).1
    have hcell := hat j hjl
    have hv : cs'[j]? = some (cs'[j]'(by omega)) := List.getElem?_eq_getElem (by omega)
    have h1 := hf j f hj
    rw [ho, hk] at h1
    have hone' : (cs'.drop j).take 1 = [cs'[j]'(by omega)] := by
      rw [List.drop_eq_getElem_cons (by omega)]
      rfl
    rw [hone'] at h1
    have hys : ys[j]? = some (ys[j]'(by omega)) := List.getElem?_eq_getElem (by omega)
    refine ⟨_, _, ?_, hys, h1.trans hys⟩
    rw [← Go.Deep.add_add, hcell, hv]

/-- Numbers that an argument has. -/
theorem ints_of {k : IntKind} {t e : TypeId} {v : Value} {y : DataW H × List MemPlace} (ht : Tryz.prog.underlying t = some (.slice e)) (he : Tryz.prog.underlying e = some (.int k)) (hc : Tryz.prog.cellsOf e = 1) (h : DataW.trod enc Tryz.prog W base (fun _ => true) held n t [v] = some y) :
    ∃ (A : Option Addr) (c : Nat) (l : List Int), v = .slice A l.length c ∧ l.length ≤ c ∧ Kd.C (Kd.int k) W A l.length l ∧ ∀ x ∈ l, (Lit.int k x).wf = true := by
  rcases open_ints ht he hc h with ⟨hcs, _⟩ | ⟨x, l, c, zs, hcs, _, hl, hm, hz, _, hcell, hwz⟩
  · simp at hcs
    subst hcs
    exact ⟨none, 0, [], rfl, Nat.le_refl _, ⟨rfl, by simp, fun h => by simp at h⟩, fun x hx => by cases hx⟩
  · simp at hcs
    subst hcs
    simp only [if_true] at hz
    have hlen : (zs.take l).length = l := by rw [List.length_take]; omega
    refine ⟨some x, c, zs.take l, by rw [hlen], by omega, ⟨rfl, by rw [hlen]; unfold maxLen at hm; omega, fun _ => ⟨x, rfl, fun j p hj => ?_⟩⟩, fun z hz2 => hwz z (List.mem_of_mem_take hz2)⟩
    have hjl : j < l := by
      rcases Nat.lt_or_ge j (zs.take l).length with h' | h'
      · rw [hlen] at h'; exact h'
      · rw [List.getElem?_eq_none h'] at hj; cases hj
    refine ⟨[.int k p], rfl, rfl, fun i u hu => ?_⟩
    match i, hu with
    | 0, hu =>
      simp at hu
      subst hu
      rw [Nat.add_zero, show (Kd.int k).sz = 1 from rfl, Nat.mul_one, hcell j (by omega)]
      rw [List.getElem?_take, if_pos hjl] at hj
      rw [List.getD_eq_getElem?_getD, hj]
      rfl

theorem arcs_of {v : Value} {y : DataW H × List MemPlace} (h : DataW.trod enc Tryz.prog W base (fun _ => true) held n 22 [v] = some y) :
    ∃ (A : Option Addr) (c : Nat) (l : List Q.S68), v = .slice A l.length c ∧ l.length ≤ c ∧ Kd.C Q.k68 W A l.length l ∧ Q.ArcsFit l := by
  rcases fields_of Tryz.underlying22 Tryz.underlying68 (by kernel_rfl) (by kernel_rfl) h with ⟨hcs, _⟩ | ⟨a, len, cap, m, D, Pl, hcs, _, hl, hm, hmm, hx, hi⟩
  · simp at hcs
    subst hcs
    exact ⟨none, 0, [], rfl, Nat.le_refl _, arcs_C_nil _ _, fun a ha => by cases ha⟩
  · simp at hcs
    subst hcs
    simp only [if_true] at hmm
    subst hmm
    have each : ∀ i, i < len → ∃ x : Q.S68, (W.cell? (a.add (i * 3)) = some (.int .i64 x.f0) ∧ W.cell? (a.add (i * 3 + 1)) = some (.int .i64 x.f1) ∧ W.cell? (a.add (i * 3 + 2)) = some (.int .u32 x.f2)) ∧ ((-9223372036854775808 ≤ x.f0 ∧ x.f0 < 9223372036854775808) ∧ (-9223372036854775808 ≤ x.f1 ∧ x.f1 < 9223372036854775808) ∧ (0 ≤ x.f2 ∧ x.f2 < 4294967296)) := by
      intro i hil
      obtain ⟨ys, n2, hD, _, hyl, hf⟩ := hi i (by omega)
      obtain ⟨v0, y0, g0, e0, t0⟩ := hf 0 _ rfl
      obtain ⟨v1, y1, g1, e1, t1⟩ := hf 1 _ rfl
      obtain ⟨v2, y2, g2, e2, t2⟩ := hf 2 _ rfl
      obtain ⟨k0, q0, r0, wf0⟩ := DataW.trod_int Tryz.underlying3 t0
      obtain ⟨k1, q1, r1, wf1⟩ := DataW.trod_int Tryz.underlying3 t1
      obtain ⟨k2, q2, r2, wf2⟩ := DataW.trod_int Tryz.underlying41 t2
      simp only [List.cons.injEq, and_true] at q0 q1 q2
      subst q0 q1 q2
      have b0 := bounds_i64 wf0
      have b1 := bounds_i64 wf1
      have b2 := bounds_u32 wf2
      exact ⟨⟨k0, k1, k2⟩, ⟨g0, g1, g2⟩, by simp only; omega⟩
    obtain ⟨xs, hl2, hxs⟩ := list_of_each len Q.z68 each
    subst hl2
    refine ⟨some a, _, xs, rfl, by omega, ⟨rfl, by unfold maxLen at hm; omega, fun _ => ⟨a, rfl, fun j p hj => ?_⟩⟩, fun x hx2 => ?_⟩
    · have hjl : j < xs.length := by
        rcases Nat.lt_or_ge j xs.length with h' | h'
        · exact h'
        · rw [List.getElem?_eq_none h'] at hj; cases hj
      have hp : xs.getD j Q.z68 = p := by rw [List.getD_eq_getElem?_getD, hj]; rfl
      obtain ⟨c0, c1, c2⟩ := (hxs j hjl).1
      rw [hp] at c0 c1 c2
      refine ⟨[.int .i64 p.f0, .int .i64 p.f1, .int .u32 p.f2], rfl, Q.k68_mk W p, fun i u hu => ?_⟩
      rw [show Q.k68.sz = 3 from rfl]
      match i, hu with
      | 0, hu => simp at hu; subst hu; exact c0
      | 1, hu => simp at hu; subst hu; exact c1
      | 2, hu => simp at hu; subst hu; exact c2
    · obtain ⟨j, hj, hje⟩ := List.getElem_of_mem hx2
      have c1 := (hxs j hj).2
      have hg : xs.getD j Q.z68 = x := by rw [List.getD_eq_getElem?_getD, List.getElem?_eq_getElem hj, Option.getD_some, hje]
      rw [hg] at c1
      exact c1

theorem rows_of {v : Value} {y : DataW H × List MemPlace} (h : DataW.trod enc Tryz.prog W base (fun _ => true) held n 26 [v] = some y) :
    ∃ (A : Option Addr) (c : Nat) (l : List (List Int)), v = .slice A l.length c ∧ l.length ≤ c ∧ Kd.C (Kd.slice 3 (Kd.int .i64)) W A l.length l := by
  rcases Go.Deep.open_slice1 Tryz.underlying26 (by kernel_rfl) h with ⟨hcs, _⟩ | ⟨a, len, cap, m, n2, V, D, Pl, hcs, _, hl, hm, hmm, hx, hi⟩
  · simp at hcs
    subst hcs
    exact ⟨none, 0, [], rfl, Nat.le_refl _, ⟨rfl, by simp, fun h => by simp at h⟩⟩
  · simp at hcs
    subst hcs
    simp only [if_true] at hmm
    subst hmm
    have each : ∀ i, i < len → ∃ x : List Int, ∃ (A0 : Option Addr) (c0 : Nat), W.cell? (a.add i) = some (.slice A0 x.length c0) ∧ x.length ≤ c0 ∧ Kd.C (Kd.int .i64) W A0 x.length x := by
      intro i hil
      obtain ⟨hcl, htr⟩ := hi i (by omega)
      obtain ⟨A0, c0, x, hv, h1, h2, _⟩ := ints_of Tryz.underlying25 Tryz.underlying3 (by kernel_rfl) htr
      exact ⟨x, A0, c0, by rw [hcl, hv], h1, h2⟩
    obtain ⟨xs, hl2, hxs⟩ := list_of_each len [] each
    subst hl2
    refine ⟨some a, _, xs, rfl, by omega, ⟨rfl, by unfold maxLen at hm; omega, fun _ => ⟨a, rfl, fun j p hj => ?_⟩⟩⟩
    have hjl : j < xs.length := by
      rcases Nat.lt_or_ge j xs.length with h' | h'
      · exact h'
      · rw [List.getElem?_eq_none h'] at hj; cases hj
    have hp : xs.getD j [] = p := by rw [List.getD_eq_getElem?_getD, hj]; rfl
    obtain ⟨A0, c0, g1, g2, g3⟩ := hxs j hjl
    rw [hp] at g1 g2 g3
    refine ⟨[.slice A0 p.length c0], rfl, ⟨A0, c0, rfl, g2, g3⟩, fun i u hu => ?_⟩
    match i, hu with
    | 0, hu =>
      simp at hu
      subst hu
      rw [Nat.add_zero, show (Kd.slice 3 (Kd.int .i64)).sz = 1 from rfl, Nat.mul_one]
      exact g1
theorem int_of {v : Value} {y : DataW H × List MemPlace} (h : DataW.trod enc Tryz.prog W base (fun _ => true) held n 3 [v] = some y) : ∃ x, v = .int .i64 x := by
  obtain ⟨k0, q0, _, _⟩ := DataW.trod_int Tryz.underlying3 h
  simp only [List.cons.injEq, and_true] at q0
  exact ⟨_, q0⟩
end

end Go.Proofs.YtenbcfjfgbpinaaGreat

/- CliqueRises, the given row: from right matrices of children and arcs' own weights comes the right matrix of each cell, level by level. -/
namespace Go.Proofs.YtenbcfjfgbpinaaGreat
open Go.ChangeShapes Go.WideShapes Go.ChangeAt Go.RowKit Go.Proofs.YtenbcfjfgbpinaaGreatW.PrintWords Go.Proofs.YtenbcfjfgbpinaaGreatW.PrintLast
open Go.ChangeMaps (open_string shut_string)
set_option linter.unusedVariables false

set_option maxRecDepth 100000 in
theorem rises_lifted (os : Os) (started : os.Started) (H : Type) (enc : TypeId × Value → H) :
    ReturnsInHanded {} Tryz.checked os 6 .any (Rows.cliqueRisesSpec.pre6 enc Tryz.prog Tryz.f6 Rows.cliqueRisesRow.domain false) (Rows.cliqueRisesSpec.post enc Tryz.prog Tryz.f6 false true false false) := by
  refine returnsInHanded_of_change_sized (C := Tryz.checked) own13h started (by kernel_rfl) Tryz.func6
    (ChangeSpec.witness6 (enc := enc) (C := Tryz.checked) false ⟨#[], #[.agg #[.int .i64 0, .slice none 0 0], .agg #[.slice none 0 0, .slice none 0 0]], []⟩ 8 (by kernel_rfl) (by kernel_rfl) (by kernel_rfl) (by kernel_rfl)) ?_
  intro W base args ds gs before hval0 hW hcnd hsz0 _
  have hsz : (DataW.weightsEach Tryz.prog (Tryz.f6.params.toList ++ Rows.cliqueRisesSpec.plain.varTypes Tryz.prog) (ds ++ gs)).all (· ≤ reachBytes) = true := hsz0
  have hval : ∀ (j : Nat) t v, Tryz.f6.params[j]? = some t → args[j]? = some v → Value.okWide Tryz.prog W .any base t v := hval0
  have hW' := hW
  obtain ⟨p, q, hA0, hV, rfl, hfz, hnd⟩ := hW
  have hA : DataW.TrodAll enc Tryz.prog W 0 (fun _ => true) true Tryz.f6.params.toList args.toList ds p := hA0
  rw [Tryz.params6] at hA hval hsz
  obtain ⟨v0, vs0, d0, ds0, p0, q0, hargs, rfl, rfl, h0, r0⟩ := trodAll_cons hA
  obtain ⟨v1, vs1, d1, ds1, p1, q1, rfl, rfl, rfl, h1, r1⟩ := trodAll_cons r0
  obtain ⟨rfl, rfl, rfl⟩ := trodAll_nil r1
  obtain rfl : args = #[v0, v1] := by cases args; simp_all
  obtain ⟨rfl, rfl⟩ := trodVars_none hV
  have k0 := h0
  have k1 := h1
  have lt0 : ∀ x ∈ p0, x.block < W.heap.size := by obtain ⟨m, hm⟩ := k0; exact DataW.trod_lt m _ _ _ hm
  have lt1 : ∀ x ∈ p1, x.block < W.heap.size := by obtain ⟨m, hm⟩ := k1; exact DataW.trod_lt m _ _ _ hm
  obtain ⟨x0, x1, y0, y1, n0, rfl, hd0, hp0, ha0, ha1⟩ := Go.Joins.open_agg2 Tryz.underlying24 (by kernel_rfl) (by kernel_rfl) (hval 0 24 v0 rfl rfl) h0
  obtain ⟨z0, z1, u0, u1, n1, rfl, hd1, hp1, hb0, hb1⟩ := Go.Joins.open_agg2 Tryz.underlying28 (by kernel_rfl) (by kernel_rfl) (hval 1 28 v1 rfl rfl) h1
  obtain ⟨N, rfl⟩ := int_of ha0
  obtain ⟨A, c, arcs, rfl, hc, hr, hf⟩ := arcs_of ha1
  obtain ⟨BA, bc, bounds, rfl, hbc, hb, _⟩ := ints_of Tryz.underlying25 Tryz.underlying3 (by kernel_rfl) hb0
  obtain ⟨CA, cc, cells, rfl, hcc, hcl⟩ := rows_of hb1
  clear hA0 hval0 hsz0 hsz
  refine (rises_any N arcs A c BA bc bounds CA cc cells W hf hr hc ⟨hb, hbc, hcl, hcc⟩).mono fun e W' ⟨he, bel⟩ => ?_
  subst he
  exact ⟨_, rfl, _, _, _, [], _, [], hW', trodAll_mk1 (shut_bool Tryz.underlying4 _), (trodAll_cons_mk (Below.trod laidOut13h (by kernel_rfl) (of_decide_eq_true (by kernel_rfl)) k0 bel lt0) (trodAll_cons_mk (Below.trod laidOut13h (by kernel_rfl) (of_decide_eq_true (by kernel_rfl)) k1 bel lt1) trodAll_mk0)), rfl, bel.frame _, fun h => by cases h⟩

theorem cliqueRises_holds : Rows.CliqueRisesSaid :=
  OpenClaim.holds_of_wide 6 Tryz.f6 rfl rfl rfl rfl rfl rfl rfl ⟨rfl, rfl, rfl, rfl, rfl⟩ rfl rfl rfl rfl rfl (by kernel_rfl) Tryz.func6 (by kernel_rfl)
    (of_decide_eq_true (by kernel_rfl)) (by unfold Func.isWrapper; first | (rw [if_pos (by decide +kernel)]; kernel_rfl) | (rw [if_neg (by decide +kernel)]; exact ⟨rfl, rfl⟩))
    (fun os started H enc _ => rises_lifted os started H enc)

#print axioms cliqueRises_holds
end Go.Proofs.YtenbcfjfgbpinaaGreat
