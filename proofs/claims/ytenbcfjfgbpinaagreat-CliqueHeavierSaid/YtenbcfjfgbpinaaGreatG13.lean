/- The chapter's example. -/
import Derived.Test.YtenbcfjfgbpinaaGreatG12
import Derived.Test.YtenbcfjfgbpinaaGreatQy4
import Derived.Test.YtenbcfjfgbpinaaGreatRows
import Derived.WalkKit
import Derived.ProofKit
import Derived.OpenShut
import Derived.ShutString
import Derived.ChangeOld
import Derived.Below
import Derived.SizedLaws
import Derived.Lib.SmallJoins
import Derived.Carry
import Derived.ChangeSlices
import Derived.Deep.Slices
import Derived.Deep.Fields
namespace Go.Proofs.YtenbcfjfgbpinaaGreat.Q
open Go.RowKit Go.Proofs.YtenbcfjfgbpinaaGreat Go.Proofs.YtenbcfjfgbpinaaGreatW.PrintWords Go.Proofs.YtenbcfjfgbpinaaGreatW.PrintLast
set_option linter.unusedVariables false
set_option maxRecDepth 100000

def exA : List S68 := [(⟨0, 1, 0⟩ : S68), (⟨1, 2, 0⟩ : S68), (⟨0, 2, 0⟩ : S68)]
def exB : List S68 := [(⟨0, 1, 5⟩ : S68), (⟨1, 2, 0⟩ : S68), (⟨0, 2, 0⟩ : S68)]
theorem ex_fit : ArcsFit exA := by
  intro a ha
  simp only [exA, List.mem_cons, List.not_mem_nil, or_false] at ha
  rcases ha with rfl | rfl | rfl <;> decide
theorem ex_okA : GOk 3 exA := by
  refine ⟨by decide, by decide, by decide, ?_, ?_⟩ <;>
  · intro a ha
    simp only [exA, List.mem_cons, List.not_mem_nil, or_false] at ha
    rcases ha with rfl | rfl | rfl <;> decide
theorem ex_nest : nestE 3 [2] [[0, 0, 1]] = (0, 0) := by decide
theorem ex_cell : cellE 3 exA [2] [[0, 0, 1]] 1 0 = 0 := by
  have hg : graphR 3 exA = (0, 0) := graphR_of ex_okA
  have hc : checkR 3 exA [2] [[0, 0, 1]] = (0, 0) := by
    unfold checkR
    rw [hg, if_pos rfl]
    exact ex_nest
  have hl : lookedE 3 exA [2] [[0, 0, 1]] 1 = 0 := by
    unfold lookedE
    rw [hc]
    decide
  unfold cellE
  rw [hl]
  decide
theorem ex_inner : innerOf exA (levelRow [[0, 0, 1]] 1) 0 = [0] := by decide
theorem ex_weighed : weighedOf exA [0] [5] = exB := rfl
theorem ex_bnd : bndOf exB [0, 0, 1] 0 = [0, 1] := by
  have he : edgeOf exB [0, 0, 1] 0 = [1, 0] := by decide
  unfold bndOf
  rw [he]
  have hm : [(1 : Int), 0].mergeSort (fun x y => decide (x ≤ y)) = [0, 1] := by
    simp [List.mergeSort, List.MergeSort.Internal.splitInTwo]
  rw [hm]
  decide
theorem ex_ok : GOk 3 exB := by
  refine ⟨by decide, by decide, by decide, ?_, ?_⟩ <;>
  · intro a ha
    simp only [exB, List.mem_cons, List.not_mem_nil, or_false] at ha
    rcases ha with rfl | rfl | rfl <;> decide
theorem ex_in : inB [0, 0, 1] 0 = [true, true, false] := by decide
theorem ex_d (s : Nat) (d : List Nat) (hs : s = 0 ∧ d = [0, 5, infN] ∨ s = 1 ∧ d = [infN, 0, infN]) : dOf 3 exB [true, true, false] s = d := by
  refine dOf_eq ?_
  unfold InSol
  have hst : [true, true, false].getD s false = true := by rcases hs with ⟨rfl, _⟩ | ⟨rfl, _⟩ <;> rfl
  rw [if_pos hst]
  have hmay : ∀ i, i < exB.length → inMay exB [true, true, false] i = true → i = 0 := by
    intro i hi hm
    have h3 : i < 3 := hi
    match i, h3, hm with
    | 0, _, _ => rfl
    | 1, _, hm => exact absurd hm (by decide)
    | 2, _, hm => exact absurd hm (by decide)
  have hlt : ∀ u, d.getD u 0 < 18446744073709551616 := by
    intro u
    rcases hs with ⟨_, rfl⟩ | ⟨_, rfl⟩ <;>
    · match u with
      | 0 => decide
      | 1 => decide
      | 2 => decide
      | u + 3 => simp
  refine ⟨?_, hlt, fun u hu => ?_, fun u x hu hr => ?_⟩
  · rcases hs with ⟨_, rfl⟩ | ⟨_, rfl⟩ <;> rfl
  · rcases hs with ⟨rfl, rfl⟩ | ⟨rfl, rfl⟩
    · match u, hu with
      | 0, _ => exact Or.inr .start
      | 1, _ => exact Or.inr (Rch.arc (back := false) (arcs := exB) (may := inMay exB [true, true, false]) (s := 0) 0 0 (by decide) (by decide) .start)
      | 2, _ => exact Or.inl rfl
    · match u, hu with
      | 0, _ => exact Or.inl rfl
      | 1, _ => exact Or.inr .start
      | 2, _ => exact Or.inl rfl
  · induction hr with
    | start => rcases hs with ⟨rfl, rfl⟩ | ⟨rfl, rfl⟩ <;> decide
    | arc x i hi hm hr ih =>
      have h0 := hmay i hi hm
      subst h0
      rcases hs with ⟨rfl, rfl⟩ | ⟨rfl, rfl⟩
      · show 5 ≤ addD x 5
        unfold addD
        split <;> omega
      · exact Nat.zero_le _

theorem leaf_works : clique_Leaf.f 3 exA [2] [[0, 0, 1]] 0 0 [5] = some (1, 0, 0, [0, 5, 18446744073709551615, 0], 0) := by
  have h5 : ∀ x ∈ [(5 : Int)], 0 ≤ x ∧ x < 4294967296 := by intro x hx; simp at hx; subst hx; decide
  rw [leaf_f ex_fit h5, if_pos ex_cell, ex_inner, if_pos (show [(5 : Int)].length = [(0 : Int)].length from rfl), ex_weighed, within_f ex_ok.fit]
  have hA : GOk 3 exA := ex_okA
  rw [show ((3 : Int)) = ((3 : Nat) : Int) from rfl, cellE_swap hA ex_ok, show (((3 : Nat) : Int)) = (3 : Int) from rfl, if_pos ex_cell]
  have hm : matOf (3 : Int).toNat exB (levelRow [[0, 0, 1]] 1) 0 = [0, 5, infN, 0] := by
    have hl : levelRow [[0, 0, 1]] 1 = [0, 0, 1] := rfl
    unfold matOf
    rw [hl, ex_bnd, ex_in]
    show rowOf (dOf 3 exB [true, true, false] 0) [0, 1] ++ (rowOf (dOf 3 exB [true, true, false] 1) [0, 1] ++ []) = _
    rw [ex_d 0 _ (Or.inl ⟨rfl, rfl⟩), ex_d 1 _ (Or.inr ⟨rfl, rfl⟩)]
    rfl
  rw [hm]
  rfl

theorem works_f : flyoverlaw13_works.f 9 = some true := by
  have h : clique_Leaf.f 3 [(⟨0, 1, 0⟩ : S68), (⟨1, 2, 0⟩ : S68), (⟨0, 2, 0⟩ : S68)] [2] [[0, 0, 1]] 0 0 [5] = some (1, 0, 0, [0, 5, 18446744073709551615, 0], 0) := leaf_works
  unfold flyoverlaw13_works.f
  rw [h]
  simp [flyoverbook_SameDists.f, flyoverbook_SameDists.l0, rd, wrap64]

end Go.Proofs.YtenbcfjfgbpinaaGreat.Q

/- CliqueHeavier's walk. -/
namespace Go.Proofs.YtenbcfjfgbpinaaGreat
open Go.RowKit Go.Lib Go.Sort Go.Proofs.YtenbcfjfgbpinaaGreatW.PrintWords Go.Proofs.YtenbcfjfgbpinaaGreatW.PrintLast Go.Proofs.YtenbcfjfgbpinaaGreatW.PrintMore
set_option linter.unusedVariables false
set_option maxRecDepth 100000

namespace Q
theorem ref_loop (N : Int) (arcs : List S68) (hm : arcs.length ≤ 8192) (d : Nat) : ∀ (k n : Nat), n + d = arcs.length → d < k → ∃ r, flyoverref03_Check.l0 k (n : Int) N arcs = some r := by
  induction d with
  | zero =>
    intro k n hn hk
    obtain ⟨k, rfl⟩ : ∃ m, k = m + 1 := ⟨k - 1, by omega⟩
    simp only [flyoverref03_Check.l0]
    rw [if_neg (by omega)]
    exact ⟨_, rfl⟩
  | succ d ih =>
    intro k n hn hk
    obtain ⟨k, rfl⟩ : ∃ m, k = m + 1 := ⟨k - 1, by omega⟩
    have hw : wrap64 ((n : Int) + 1) = ((n + 1 : Nat) : Int) := by unfold wrap64; omega
    simp only [flyoverref03_Check.l0]
    rw [if_pos (by omega), if_pos (by omega), hw]
    split
    · exact ⟨_, rfl⟩
    · split
      · exact ⟨_, rfl⟩
      · split
        · exact ⟨_, rfl⟩
        · split
          · exact ⟨_, rfl⟩
          · exact ih k (n + 1) (by omega) (by omega)
theorem ref_tot (N : Int) (arcs : List S68) : ∃ r, flyoverref03_Check.f (arcs.length + 3) N arcs = some r := by
  unfold flyoverref03_Check.f
  split
  · simp only [flyoverref03_Check.j0]; exact ⟨_, rfl⟩
  · simp only [flyoverref03_Check.j0]
    split
    · exact ⟨_, rfl⟩
    · split
      · exact ⟨_, rfl⟩
      · exact ref_loop N arcs (by omega) arcs.length _ 0 (by omega) (by omega)
theorem large_tot (N : Int) (arcs : List S68) : ∃ b, flyoverlaw13_large.f (arcs.length + 3) N arcs = some b := by
  obtain ⟨r, h⟩ := ref_tot N arcs
  unfold flyoverlaw13_large.f
  rw [h, Option.bind_some]
  split
  · split
    · exact ⟨_, rfl⟩
    · exact ⟨_, rfl⟩
  · exact ⟨_, rfl⟩
theorem leaf_len {a0 : Int} {arcs : List S68} {bounds : List Int} {cells : List (List Int)} {c : Int} {ws : List Int} {r1 r2 r3 : Int} {r4 : List Int} (h : clique_Leaf.f a0 arcs bounds cells c 0 ws = some (r1, r2, r3, r4, 0)) : ws.length ≤ 8192 := by
  unfold clique_Leaf.f at h
  split at h
  · rename_i hf
    split at h
    · rename_i h0
      rw [if_pos (show (0 : Int) ≤ 0 ∧ (0 : Int) ≤ 1073741824 by omega)] at h
      split at h
      · rename_i h1
        have h2 : (innerOf arcs (levelRow cells 1) c).length ≤ arcs.length := inner_len arcs (levelRow cells 1) c arcs.length
        have h3 := (cellE_ok hf.1 h0).1.2.m
        omega
      · simp at h
    · rename_i h0
      injection h with h
      simp only [Prod.mk.injEq] at h
      exact absurd h.2.2.2.2 h0
  · cases h
/-- The weights made heavier. -/
def heav (x : Int) : Int := max x (x / 2 + 1000)
end Q

theorem u32Info : (Tryz.prog.info? 41).map (fun i => (i.zero, i.size, i.bytes)) = some (some (.int .u32 0), 1, 4) := by kernel_rfl

theorem own_set {w : World} {B g n cap i : Nat} {e : TypeId} {xs : List Value} (u : Value) (h : w.ownsRow B e 1 (.slice (some ⟨g, 0, none⟩) n cap) n xs) (hi : i < n) : (w.setCell ⟨g, i, none⟩ u).ownsRow B e 1 (.slice (some ⟨g, 0, none⟩) n cap) n (xs.set i u) := by
  refine ⟨by rw [List.length_set]; exact h.1, ?_⟩
  rcases h.2 with ⟨h1, _⟩ | ⟨g', cap', cur, h1, h2, h3, h4, h5, h6, h7⟩
  · cases h1
  · cases h1
    have h8 := heap_setCell_same w g i _ _ u h3
    refine Or.inr ⟨g, cap, _, rfl, h2, h8, h4, h5, by simpa using h6, ?_⟩
    rw [← h7]
    simp [List.take_set]
theorem u32_own {w : World} {B g n cap : Nat} {l : List Int} (h : w.ownsRow B 41 1 (.slice (some ⟨g, 0, none⟩) n cap) n (l.map (Value.int .u32))) (i : Nat) (hi : i < l.length) : w.cell? ⟨g, i, none⟩ = some (.int .u32 (l.getD i 0)) ∧ w.frozen? ⟨g, i, none⟩ = false ∧ g < w.heap.size := by
  have h1 := h.cells (g := g) rfl i (.int .u32 (l.getD i 0)) (by simp [hi])
  have e : (⟨g, 0, none⟩ : Addr).add i = ⟨g, i, none⟩ := by unfold Addr.add; split <;> simp_all
  rw [e] at h1
  refine ⟨h1, ?_, (h.lt g rfl).2⟩
  rcases h.2 with ⟨h1, _⟩ | ⟨g', cap', cur, h1, h2, h3, _⟩
  · cases h1
  · cases h1
    simp [World.frozen?, h3]
theorem own_shape {w : World} {B n size : Nat} {e : TypeId} {v : Value} {xs : List Value} (h : w.ownsRow B e size v n xs) : ∃ P c, v = .slice P n c := by
  rcases h.2 with ⟨h1, h2⟩ | ⟨g, cap, cur, h1, _⟩
  · exact ⟨none, 0, by rw [h1, h2]⟩
  · exact ⟨_, _, h1⟩
theorem own_spot {w : World} {B n c size : Nat} {e : TypeId} {P : Option Addr} {xs : List Value} (h : w.ownsRow B e size (.slice P n c) n xs) (hn : 0 < n) : ∃ g, P = some ⟨g, 0, none⟩ := by
  rcases h.2 with ⟨h1, h2⟩ | ⟨g, cap, cur, h1, _⟩
  · omega
  · injection h1 with h1; exact ⟨g, h1⟩
theorem u32_C {w : World} {B n cap : Nat} {P : Option Addr} {l : List Int} (h : w.ownsRow B 41 1 (.slice P n cap) n (l.map (Value.int .u32))) (hl : l.length = n) : Kd.C (Kd.int .u32) w P l.length l := by
  subst hl
  exact (Kd.R_reads' (Kd.R_of_own (enc := Value.int .u32) (ok := fun _ => True) h (fun _ _ => trivial))).2.2
theorem u64_own {w : World} {B n cap g : Nat} {D : List Nat} (h : w.ownsRow B 43 1 (.slice (some ⟨g, 0, none⟩) n cap) (Q.natsI D).length ((Q.natsI D).map (Value.int .u64))) (i : Nat) (hi : i < D.length) : w.cell? ⟨g, i, none⟩ = some (.int .u64 (D.getD i 0 : Nat)) := by
  have h1 := h.cells (g := g) rfl i (.int .u64 (D.getD i 0 : Nat)) (by unfold Q.natsI; simp [hi])
  have e : (⟨g, 0, none⟩ : Addr).add i = ⟨g, i, none⟩ := by unfold Addr.add; split <;> simp_all
  rw [e] at h1
  exact h1
theorem u64_len {w : World} {B n cap : Nat} {P : Option Addr} {D : List Nat} (h : w.ownsRow B 43 1 (.slice P n cap) (Q.natsI D).length ((Q.natsI D).map (Value.int .u64))) : n = D.length := by
  have hnl : (Q.natsI D).length = D.length := by unfold Q.natsI; rw [List.length_map]
  rcases h.2 with ⟨h1, h0⟩ | ⟨g, cap', cur, h1, _⟩
  · injection h1 with h1 h2 h3
    omega
  · injection h1 with h1 h2 h3
    omega
/-- Some weights made heavier, k of them. -/
def heavTo (ws : List Int) (k : Nat) : List Int := (ws.take k).map Q.heav ++ ws.drop k
theorem heavTo_len (ws : List Int) (k : Nat) : (heavTo ws k).length = ws.length := by unfold heavTo; rw [List.length_append, List.length_map, List.length_take, List.length_drop]; omega
theorem heavTo_get (ws : List Int) (k : Nat) (hk : k < ws.length) : (heavTo ws k).getD k 0 = ws.getD k 0 := by
  unfold heavTo
  have hl : ((ws.take k).map Q.heav).length = k := by rw [List.length_map, List.length_take]; omega
  rw [List.getD_eq_getElem?_getD, List.getElem?_append_right (by omega), hl, Nat.sub_self, List.getElem?_drop, Nat.add_zero, ← List.getD_eq_getElem?_getD]
theorem heavTo_step (ws : List Int) (k : Nat) (hk : k < ws.length) : (heavTo ws k).set k (Q.heav (ws.getD k 0)) = heavTo ws (k + 1) := by
  unfold heavTo
  have hl : ((ws.take k).map Q.heav).length = k := by rw [List.length_map, List.length_take]; omega
  rw [List.set_append_right _ _ (by omega), hl, Nat.sub_self, List.drop_eq_getElem_cons hk, List.set_cons_zero, List.take_add_one, List.map_append, List.append_assoc, List.getElem?_eq_getElem hk]
  congr 1
  rw [List.getD_eq_getElem?_getD, List.getElem?_eq_getElem hk]
  rfl
theorem heavTo_all (ws : List Int) : heavTo ws ws.length = ws.map Q.heav := by unfold heavTo; rw [List.take_length, List.drop_length, List.append_nil]

set_option maxHeartbeats 4000000 in
theorem heavier_any (N : Int) (arcs : List Q.S68) (A : Option Addr) (c : Nat) (BA : Option Addr) (bc : Nat) (bounds : List Int) (CA : Option Addr) (cc : Nat) (cells : List (List Int)) (a20 cell a22 : Int) (WA : Option Addr) (wcp : Nat) (ws : List Int) (chA : Option Addr) (chn chc : Nat) (w : World)
    (hf : Q.ArcsFit arcs) (hwf : ∀ x ∈ ws, 0 ≤ x ∧ x < 4294967296) (hr : Kd.C Q.k68 w A arcs.length arcs) (hc : arcs.length ≤ c) (hn : NestIn w BA bc bounds CA cc cells) (hw : Kd.C (Kd.int .u32) w WA ws.length ws) (hwc : ws.length ≤ wcp) :
    Calls Tryz.prog 3 #[.agg #[.int .i64 N, .slice A arcs.length c], .agg #[.slice BA bounds.length bc, .slice CA cells.length cc], .agg #[.int .i64 a20, .int .i64 cell, .int .i64 a22, .slice WA ws.length wcp, .slice chA chn chc]] w fun e w' => e = .returned (.bool true) ∧ Below w.heap.size w w' := by
  obtain ⟨i0, hi0, hz0, hz1, hz2⟩ := info_parts u32Info
  have HWK1 : Hid (∀ wx : World, Calls Tryz.prog 7 #[] wx fun e w' => e = .returned (.bool true) ∧ Below wx.heap.size wx w') := Lib.hid (fun wx => Q.flyoverlaw13_works.calls 9 true wx Q.works_f)
  obtain ⟨lb, hlb⟩ := Q.large_tot N arcs
  have HLG : Hid (∀ wx : World, Below w.heap.size w wx → Calls Tryz.prog 8 #[.agg #[.int .i64 N, .slice A arcs.length c]] wx fun e w' => e = .returned (.bool lb) ∧ Below wx.heap.size wx w') := Lib.hid (fun wx hb => Q.flyoverlaw13_large.calls _ N A c arcs lb wx (Kd.C_below hr hb) hc hlb)
  have HLF : Hid (∀ (wx : World) (VA : Option Addr) (vc : Nat) (vs : List Int) (r1 r2 r3 : Int) (r4 : List Int) (r5 : Int), Below w.heap.size w wx → Kd.C (Kd.int .u32) wx VA vs.length vs → Q.clique_Leaf.f N arcs bounds cells cell 0 vs = some (r1, r2, r3, r4, r5) → Calls Tryz.prog 9 #[.agg #[.int .i64 N, .slice A arcs.length c], .agg #[.slice BA bounds.length bc, .slice CA cells.length cc], .int .i64 cell, .int .i64 0, .slice VA vs.length vc] wx fun e w' => ∃ v, e = .returned (.tuple #[v, .int .i64 r5]) ∧ LeafV wx.heap.size w' r1 r2 r3 r4 v ∧ Below wx.heap.size wx w') :=
    Lib.hid (fun wx VA vc vs r1 r2 r3 r4 r5 hb hv h => leaf_any N arcs A c BA bc bounds CA cc cells cell 0 VA vc vs r1 r2 r3 r4 r5 wx (Kd.C_below hr hb) hc (hn.below hb) hv h)
  have HFIT := Lib.hid hf
  have HWF := Lib.hid hwf
  have HW := Lib.hid hw
  have HWC := Lib.hid hwc
  clear hf hwf hr hc hn hw hwc hlb
  go_enter Tryz.func3, Tryz.ntmps3
  go_upto_region 1 with fail
  have hA : (((w.alloc (.cells #[.int .i64 N, .slice A arcs.length c] 24)).alloc (.cells #[.slice BA bounds.length bc, .slice CA cells.length cc] 28)).alloc (.cells #[.int .i64 a20, .int .i64 cell, .int .i64 a22, .slice WA ws.length wcp, .slice chA chn chc] 32)).heap[w.heap.size]? = some (.cells #[.int .i64 N, .slice A arcs.length c] 24 (0, 0)) := by
    rw [heap_alloc_old _ _ (by simp; omega), heap_alloc_old _ _ (by simp), heap_alloc_new]
  have hB : (((w.alloc (.cells #[.int .i64 N, .slice A arcs.length c] 24)).alloc (.cells #[.slice BA bounds.length bc, .slice CA cells.length cc] 28)).alloc (.cells #[.int .i64 a20, .int .i64 cell, .int .i64 a22, .slice WA ws.length wcp, .slice chA chn chc] 32)).heap[w.heap.size + 1]? = some (.cells #[.slice BA bounds.length bc, .slice CA cells.length cc] 28 (0, 0)) := by
    rw [heap_alloc_old _ _ (by simp), heap_alloc2_new]
  have hC : (((w.alloc (.cells #[.int .i64 N, .slice A arcs.length c] 24)).alloc (.cells #[.slice BA bounds.length bc, .slice CA cells.length cc] 28)).alloc (.cells #[.int .i64 a20, .int .i64 cell, .int .i64 a22, .slice WA ws.length wcp, .slice chA chn chc] 32)).heap[w.heap.size + 2]? = some (.cells #[.int .i64 a20, .int .i64 cell, .int .i64 a22, .slice WA ws.length wcp, .slice chA chn chc] 32 (0, 0)) := by
    have h := heap_alloc_new ((w.alloc (.cells #[.int .i64 N, .slice A arcs.length c] 24)).alloc (.cells #[.slice BA bounds.length bc, .slice CA cells.length cc] 28)) (.cells #[.int .i64 a20, .int .i64 cell, .int .i64 a22, .slice WA ws.length wcp, .slice chA chn chc] 32)
    simp only [World.size_alloc] at h
    exact h
  have hb1 : Below w.heap.size w (((w.alloc (.cells #[.int .i64 N, .slice A arcs.length c] 24)).alloc (.cells #[.slice BA bounds.length bc, .slice CA cells.length cc] 28)).alloc (.cells #[.int .i64 a20, .int .i64 cell, .int .i64 a22, .slice WA ws.length wcp, .slice chA chn chc] 32)) := (((Below.refl _ w).alloc (Nat.le_refl _) _).alloc (by rw [World.size_alloc]; omega) _).alloc (by simp; omega) _
  have hs1 : w.heap.size + 3 ≤ (((w.alloc (.cells #[.int .i64 N, .slice A arcs.length c] 24)).alloc (.cells #[.slice BA bounds.length bc, .slice CA cells.length cc] 28)).alloc (.cells #[.int .i64 a20, .int .i64 cell, .int .i64 a22, .slice WA ws.length wcp, .slice chA chn chc] 32)).heap.size := by simp
  generalize (((w.alloc (.cells #[.int .i64 N, .slice A arcs.length c] 24)).alloc (.cells #[.slice BA bounds.length bc, .slice CA cells.length cc] 28)).alloc (.cells #[.int .i64 a20, .int .i64 cell, .int .i64 a22, .slice WA ws.length wcp, .slice chA chn chc] 32)) = w1 at *
  generalize hgx : w.heap.size = gx at *
  have HGX := Lib.hid hgx
  clear hgx
  -- the three boxes in any later world
  have HBOX : Hid (∀ wx : World, Below w1.heap.size w1 wx → wx.cell? ⟨gx, 0, none⟩ = some (.int .i64 N) ∧ wx.cell? ⟨gx, 1, none⟩ = some (.slice A arcs.length c) ∧ wx.cell? ⟨gx + 1, 0, none⟩ = some (.slice BA bounds.length bc) ∧ wx.cell? ⟨gx + 1, 1, none⟩ = some (.slice CA cells.length cc) ∧ wx.cell? ⟨gx + 2, 1, none⟩ = some (.int .i64 cell) ∧ wx.cell? ⟨gx + 2, 3, none⟩ = some (.slice WA ws.length wcp)) := Lib.hid (fun wx hb => by
    have a := (hb.block gx (by omega)).trans hA
    have b := (hb.block (gx + 1) (by omega)).trans hB
    have c := (hb.block (gx + 2) (by omega)).trans hC
    refine ⟨?_, ?_, ?_, ?_, ?_, ?_⟩
    · rw [cell_of_row _ _ 0 _ _ _ a]; rfl
    · rw [cell_of_row _ _ 1 _ _ _ a]; rfl
    · rw [cell_of_row _ _ 0 _ _ _ b]; rfl
    · rw [cell_of_row _ _ 1 _ _ _ b]; rfl
    · rw [cell_of_row _ _ 1 _ _ _ c]; rfl
    · rw [cell_of_row _ _ 3 _ _ _ c]; rfl)
  have HB1 := Lib.hid hb1
  clear hA hB hC hb1
  go_upto_region 3 with (go_at_call 7; (with_reducible refine (HWK1.out _).mono ?_); rintro e w2 ⟨rfl, hb⟩; have HB := Lib.hid hb; clear hb)
  have HB2 : Hid (Below gx w w2) := Lib.hid (HB1.out.trans (HB.out.mono (by omega)))
  obtain ⟨x0, x1, -, -, -, -⟩ := HBOX.out w2 HB.out
  have HLG2 := Lib.hid (HLG.out w2 HB2.out)
  clear HWK1 HLG
  cases lb with
  | true =>
    go_wp2_with (go_at_call 8; (with_reducible refine HLG2.out.mono ?_); rintro e w3 ⟨rfl, hb⟩; have HB3 := Lib.hid hb; clear hb)
    go_ret
    have hgx := HGX.out
    subst hgx
    exact ⟨rfl, HB2.out.trans (HB3.out.mono (by have := HB2.out.size; omega))⟩
  | false =>
    go_upto_region 5 with (go_at_call 8; (with_reducible refine HLG2.out.mono ?_); rintro e w3 ⟨rfl, hb⟩; have HB3 := Lib.hid hb; clear hb)
    have HBW3 : Hid (Below w1.heap.size w1 w3) := Lib.hid (HB.out.trans (HB3.out.mono (by have := HB.out.size; omega)))
    have HBG3 : Hid (Below gx w w3) := Lib.hid (HB1.out.trans (HBW3.out.mono (by omega)))
    clear x0 x1 HLG2 HB HB2 HB3
    obtain ⟨x0, x1, x2, x3, x4, x5⟩ := HBOX.out w3 HBW3.out
    have hvs : ∀ x ∈ ws.map Q.heav, 0 ≤ x ∧ x < 4294967296 := by
      intro x hx
      obtain ⟨y, hy, rfl⟩ := List.mem_map.1 hx
      have := HWF.out y hy
      unfold Q.heav
      omega
    have hle : ∀ k, (ws.getD k 0).toNat ≤ ((ws.map Q.heav).getD k 0).toNat := by
      intro k
      by_cases hk : k < ws.length
      · have e : (ws.map Q.heav).getD k 0 = Q.heav (ws.getD k 0) := by simp [hk]
        rw [e]
        unfold Q.heav
        omega
      · simp [hk]
    obtain ⟨r1, r2, r3, r4, r5, hL, hor⟩ := Q.leaf_heavier (a0 := N) (bounds := bounds) (cells := cells) (c := cell) HFIT.out HWF.out hvs (by simp) hle
    have HLF3 := Lib.hid (HLF.out w3 WA wcp ws r1 r2 r3 (Q.natsI r4) r5 HBG3.out (Kd.C_below HW.out (by rw [HGX.out]; exact HBG3.out)) hL)
    have HOR := Lib.hid hor
    have HL := Lib.hid hL
    clear hvs hle hL hor
    go_upto_region 6 with (go_at_call 9; (with_reducible refine HLF3.out.mono ?_); rintro e w4 ⟨v, rfl, ⟨P, m, cp, rfl, hown⟩, hb⟩; have HO4 := Lib.hid hown; have HB4 := Lib.hid hb; clear hown hb)
    have hm : m = r4.length := by
      have hnl : (Q.natsI r4).length = r4.length := by unfold Q.natsI; rw [List.length_map]
      rcases HO4.out.2 with ⟨h, h0⟩ | ⟨g, cap, cur, h, _⟩
      · injection h with h1 h2 h3
        omega
      · injection h with h1 h2 h3
        omega
    have q7 := heap_alloc_new w4 (.cells #[.int .i64 r1, .int .i64 r2, .int .i64 r3, .slice P m cp] 37)
    have hb5 : Below w4.heap.size w4 (w4.alloc (.cells #[.int .i64 r1, .int .i64 r2, .int .i64 r3, .slice P m cp] 37)) := (Below.refl _ w4).alloc (Nat.le_refl _) _
    have hs5 : w4.heap.size < (w4.alloc (.cells #[.int .i64 r1, .int .i64 r2, .int .i64 r3, .slice P m cp] 37)).heap.size := by simp
    generalize (w4.alloc (.cells #[.int .i64 r1, .int .i64 r2, .int .i64 r3, .slice P m cp] 37)) = w5 at *
    have hs4 := HB4.out.size
    have hs3 := HBW3.out.size
    have HO5 := Lib.hid (own_below HO4.out hb5)
    have HBW5 : Hid (Below w1.heap.size w1 w5) := Lib.hid ((HBW3.out.trans (HB4.out.mono (by omega))).trans (hb5.mono (by omega)))
    have HBG5 : Hid (Below gx w w5) := Lib.hid (HB1.out.trans (HBW5.out.mono (by omega)))
    have HQ7 := Lib.hid q7
    have HM := Lib.hid hm
    generalize hg7 : w4.heap.size = g7 at *
    have hg71 : w1.heap.size ≤ g7 := by omega
    clear x0 x1 x2 x3 x4 x5 q7 hb5 HLF3 HB4 HO4 HBW3 HBG3 hm hg7 hs4 hs3
    obtain ⟨z0, z1, z2, z3, -⟩ := cells4 HQ7.out
    rcases HOR.out with ⟨h5, h4⟩ | ⟨h5, q1, q2, q3, q4, hL2, hLe⟩
    · have hm0 : m = 0 := by rw [HM.out, h4]; rfl
      clear h4
      go_wp2_with fail
      go_ret
      have hgx := HGX.out
      subst hgx
      exact ⟨by rw [hm0]; rfl, HBG5.out⟩
    · subst h5
      have hwl := Q.leaf_len HL.out
      obtain ⟨x0, x1, x2, x3, x4, x5⟩ := HBOX.out w5 HBW5.out
      have HL2 := Lib.hid hL2
      have HLe := Lib.hid hLe
      have y5 : (w5.alloc (.cells #[] 41)).cell? ⟨gx + 2, 3, none⟩ = some (.slice WA ws.length wcp) := (World.cell?_of_block (w := w5) (heap_alloc_old w5 _ (World.block_lt_of_cell? w5 _ x5))).trans x5
      have e5 := World.new_ne w5 _ x5
      clear hL2 hLe HOR
      go_wp2_with (at_builtin; go_loud (refine Kd.R_append_rows (Kd.int .u32) (w0 := w5) w5.heap.size rfl (.tmp 34) (.tmp 36) 29 41 (.int .u32 0) 4 rfl Tryz.underlying29 u32Info rfl (by decide) (by omega) _ ([] : List Int) ws WA ws.length wcp (fun _ => True) (fun _ => False) rfl rfl (Kd.R_of_own (enc := Value.int .u32) (World.ownsRow_made w5 #[] 0 (Nat.le_refl _) (by unfold maxLen; omega) rfl) (fun _ _ => trivial)) (Kd.C_below (Kd.C_below HW.out (by rw [HGX.out]; exact HBG5.out)) ((Below.refl _ w5).alloc (Nat.le_refl _) _)) (fun _ _ h => h) (fun _ h => h.elim) (fun _ _ => trivial) ((Below.refl _ w5).alloc (Nat.le_refl _) _) (by simp) (by simp; omega) ?_); intro v6 w6 ho6 hb6 hg6 hat6; (have HO6 := Lib.hid (Kd.own_of_R (enc := Value.int .u32) ho6)); have HB6 := Lib.hid hb6; obtain ⟨VA, vcp, rfl⟩ := own_shape (Kd.own_of_R (enc := Value.int .u32) ho6); clear ho6 hb6 hg6 hat6; go_frame)
      have HO7 : Hid (w6.ownsRow w5.heap.size 41 1 (.slice VA ws.length vcp) ws.length ((heavTo ws 0).map (Value.int .u32))) := Lib.hid (by
        have e : heavTo ws 0 = ws := by unfold heavTo; simp
        rw [e]
        exact HO6.out)
      clear HO6 y5 e5 x0 x1 x2 x3 x4 x5 z0 z1 z2 z3
      go_loopg [40] ws.length (fun gg s40 wr => ∃ k : Nat, k ≤ ws.length ∧ ws.length - k ≤ gg ∧ s40 = .int .i64 k ∧ Hid (wr.ownsRow w5.heap.size 41 1 (.slice VA ws.length vcp) ws.length ((heavTo ws k).map (Value.int .u32))) ∧ Hid (Below w5.heap.size w5 wr))
      case atStart => exact ⟨0, Nat.zero_le _, by omega, rfl, HO7, HB6⟩
      case round =>
        obtain ⟨k, hk1, hgg, rfl, HO, HB⟩ := hrel
        by_cases hlt : k < ws.length
        · have hltz : (k : Int) < (ws.length : Int) := by omega
          have hwk : IntKind.i64.wrap ((k : Int) + 1) = ((k + 1 : Nat) : Int) := by rw [IntWalk.i64_in _ (by omega)]; omega
          obtain ⟨g, rfl⟩ := own_spot HO.out (by omega)
          obtain ⟨y0, yf, hgl⟩ := u32_own HO.out k (by rw [heavTo_len]; exact hlt)
          rw [heavTo_get ws k hlt] at y0
          have hgb : w5.heap.size ≤ g := (HO.out.lt g rfl).1
          have HSP := Lib.hid (heavTo_step ws k hlt)
          have hmem : ws.getD k 0 ∈ ws := by rw [List.getD_eq_getElem?_getD, List.getElem?_eq_getElem hlt]; exact List.getElem_mem hlt
          obtain ⟨hx0, hx1⟩ := HWF.out _ hmem
          generalize ws.getD k 0 = x at *
          go_wp2_with fail
          go_upto_region 12 with fail
          have dy0 : wr.drew.cell? ⟨g, k, none⟩ = some (.int .u32 x) := y0
          have dyf : wr.drew.frozen? ⟨g, k, none⟩ = false := yf
          go_region
          all_goals
            have ho9 : ((wr.setCell ⟨g, k, none⟩ (.int .u32 (max x (x / 2 + 1000)))).drew).ownsRow w5.heap.size 41 1 (.slice (some ⟨g, 0, none⟩) ws.length vcp) ws.length ((heavTo ws (k + 1)).map (Value.int .u32)) := by
              have h := own_set (.int .u32 (Q.heav x)) HO.out hlt
              rw [← HSP.out, List.map_set]
              exact h
            have hb9 : Below w5.heap.size w5 ((wr.setCell ⟨g, k, none⟩ (.int .u32 (max x (x / 2 + 1000)))).drew) := (HB.out.setCell hgb _).drew
            have HO9 := Lib.hid ho9
            have HB9 := Lib.hid hb9
            clear ho9 hb9 y0 yf dy0 dyf
            generalize ((wr.setCell ⟨g, k, none⟩ (.int .u32 (max x (x / 2 + 1000)))).drew) = wz at *
            go_wp2_with fail
            have HWK := Lib.hid hwk
            clear hwk
            go_roundg (ws.length - (k + 1))
            case measure => omega
            case rel => exact ⟨k + 1, by omega, Nat.le_refl _, rfl, HO9, HB9⟩
        · have : k = ws.length := by omega
          subst this
          obtain ⟨wm, rfl⟩ : ∃ x : World, x = wr := ⟨_, rfl⟩
          have hkz : ¬ (ws.length : Int) < (ws.length : Int) := by omega
          rw [heavTo_all] at HO
          have hs5b := HBW5.out.size
          have HBWm : Hid (Below w1.heap.size w1 wm) := Lib.hid (HBW5.out.trans (HB.out.mono (by omega)))
          have HBGm : Hid (Below gx w wm) := Lib.hid (HB1.out.trans (HBWm.out.mono (by omega)))
          obtain ⟨x0, x1, x2, x3, x4, x5⟩ := HBOX.out wm HBWm.out
          have hvl : (ws.map Q.heav).length = ws.length := by rw [List.length_map]
          have hLF2 := HLF.out wm VA vcp (ws.map Q.heav) q1 q2 q3 (Q.natsI q4) 0 HBGm.out (u32_C HO.out hvl) HL2.out
          rw [hvl] at hLF2
          have HLF2 := Lib.hid hLF2
          have q7m : wm.heap[g7]? = some (.cells #[.int .i64 r1, .int .i64 r2, .int .i64 r3, .slice P m cp] 37 (0, 0)) := (HB.out.block g7 hs5).trans HQ7.out
          have HQ7m := Lib.hid q7m
          have HO5m := Lib.hid (own_below HO5.out HB.out)
          clear hLF2 HLF hvl q7m
          go_upto_region 15 with (go_at_call 9; (with_reducible refine HLF2.out.mono ?_); rintro e wa ⟨v, rfl, ⟨P2, m2, cp2, rfl, hown⟩, hb⟩; have HOa := Lib.hid hown; have HBa := Lib.hid hb; clear hown hb)
          have hmm : m2 = m := by
            have h1 := u64_len HOa.out
            have h2 := HM.out
            have h3 := HLe.out.all.1
            omega
          subst hmm
          have q11 := heap_alloc_new wa (.cells #[.int .i64 q1, .int .i64 q2, .int .i64 q3, .slice P2 m2 cp2] 37)
          have hb11 : Below wa.heap.size wa (wa.alloc (.cells #[.int .i64 q1, .int .i64 q2, .int .i64 q3, .slice P2 m2 cp2] 37)) := (Below.refl _ wa).alloc (Nat.le_refl _) _
          generalize (wa.alloc (.cells #[.int .i64 q1, .int .i64 q2, .int .i64 q3, .slice P2 m2 cp2] 37)) = wb at *
          have hsa := HBa.out.size
          have hsm := HB.out.size
          have hbmb : Below wm.heap.size wm wb := HBa.out.trans (hb11.mono hsa)
          have q7b := (hbmb.block g7 (by omega)).trans HQ7m.out
          obtain ⟨-, -, -, z3, -⟩ := cells4 q7b
          obtain ⟨-, -, -, y3, -⟩ := cells4 q11
          have HOA := Lib.hid (own_below HO5m.out hbmb)
          have HOB := Lib.hid (own_below HOa.out hb11)
          have HBG : Hid (Below gx w wb) := Lib.hid (HBGm.out.trans (hbmb.mono (by have := HBGm.out.size; have := HBWm.out.size; omega)))
          generalize hg11 : wa.heap.size = g11 at *
          have HZ3 := Lib.hid z3
          have HY3 := Lib.hid y3
          clear x0 x1 x2 x3 x4 x5 q11 hb11 q7b hbmb HLF2 HBa HOa HO5m HQ7m hg11 hsa hsm
          go_wp2_with fail
          clear z3 y3
          have hmr : m2 = r4.length := HM.out
          have HMR := Lib.hid hmr
          have hsmall : m2 ≤ 9223372036854775807 := by
            rcases HOA.out.2 with ⟨h1, h0⟩ | ⟨g, cap', cur, h1, h2, h3, h4, h5, _⟩
            · injection h1 with h1 h2 h3; omega
            · injection h1 with h1 h2 h3; unfold maxLen at h5; omega
          clear hmr
          go_loopg [81] m2 (fun gg s81 wr => ∃ i : Nat, i ≤ m2 ∧ m2 - i ≤ gg ∧ s81 = .int .i64 i ∧ Hid (Below wb.heap.size wb wr))
          case atStart => exact ⟨0, Nat.zero_le _, by omega, rfl, Lib.hid (Below.refl _ _)⟩
          case round =>
            obtain ⟨i, hi1, hgg, rfl, HBL⟩ := hrel
            by_cases hlt : i < m2
            · have hltz : (i : Int) < (m2 : Int) := by omega
              have hwk : IntKind.i64.wrap ((i : Int) + 1) = ((i + 1 : Nat) : Int) := by rw [IntWalk.i64_in _ (by omega)]; omega
              have hlA := u64_len HOA.out
              have hlB := u64_len HOB.out
              obtain ⟨ga, hga⟩ : ∃ g, P = some ⟨g, 0, none⟩ := by
                rcases HOA.out.2 with ⟨h1, h0⟩ | ⟨g, cap', cur, h1, _⟩
                · injection h1 with h1 h2 h3; omega
                · injection h1 with h1; exact ⟨g, h1⟩
              obtain ⟨gb, hgb2⟩ : ∃ g, P2 = some ⟨g, 0, none⟩ := by
                rcases HOB.out.2 with ⟨h1, h0⟩ | ⟨g, cap', cur, h1, _⟩
                · injection h1 with h1 h2 h3; omega
                · injection h1 with h1; exact ⟨g, h1⟩
              have hA2 := own_below HOA.out HBL.out
              have hB2 := own_below HOB.out HBL.out
              rw [hga] at hA2
              rw [hgb2] at hB2
              have a1 := u64_own hA2 i (by omega)
              have b1 := u64_own hB2 i (by omega)
              have a3 := (HBL.out.cell (World.block_lt_of_cell? wb _ HZ3.out)).trans HZ3.out
              have b3 := (HBL.out.cell (World.block_lt_of_cell? wb _ HY3.out)).trans HY3.out
              rw [hga] at a3
              rw [hgb2] at b3
              have hno : ¬ ((q4.getD i 0 : Nat) : Int) < ((r4.getD i 0 : Nat) : Int) := by have := HLe.out.all.2 i; omega
              clear hlA hlB hA2 hB2 hga hgb2
              generalize r4.getD i 0 = ra at *
              generalize q4.getD i 0 = qb at *
              go_wp2_with fail
              go_cut [94] (fun s94 wx => s94 = .bool false ∧ Hid (Below wb.heap.size wb wx))
              case first =>
                have da1 : wr.drew.cell? ⟨ga, i, none⟩ = some (.int .u64 (ra : Int)) := a1
                have db1 : wr.drew.cell? ⟨gb, i, none⟩ = some (.int .u64 (qb : Int)) := b1
                have da3 : wr.drew.cell? ⟨g7, 3, none⟩ = some (.slice (some ⟨ga, 0, none⟩) m2 cp) := a3
                have db3 : wr.drew.cell? ⟨g11, 3, none⟩ = some (.slice (some ⟨gb, 0, none⟩) m2 cp2) := b3
                go_region
                all_goals
                  go_wp2_with fail
                  go_meet
                  exact ⟨by first | rfl | (simp; omega), Lib.hid HBL.out.drew⟩
              case rest =>
                obtain ⟨rfl, HBL2⟩ := hcut
                clear a1 b1 a3 b3 hno
                go_wp2_with fail
                have HWK := Lib.hid hwk
                clear hwk
                go_roundg (m2 - (i + 1))
                case measure => omega
                case rel => exact ⟨i + 1, by omega, Nat.le_refl _, rfl, HBL2⟩
            · have : i = m2 := by omega
              subst this
              have hkz2 : ¬ (i : Int) < (i : Int) := by omega
              go_wp2_with fail
              go_ret
              have hgx := HGX.out
              subst hgx
              exact ⟨rfl, HBG.out.trans (HBL.out.mono (by have := HBG.out.size; omega))⟩

end Go.Proofs.YtenbcfjfgbpinaaGreat

/- CliqueHeavier, the given row: with weights that are no less, no member of a cell's matrix is less. -/
namespace Go.Proofs.YtenbcfjfgbpinaaGreat
open Go.ChangeShapes Go.WideShapes Go.ChangeAt Go.RowKit Go.Proofs.YtenbcfjfgbpinaaGreatW.PrintWords Go.Proofs.YtenbcfjfgbpinaaGreatW.PrintLast
open Go.ChangeMaps (open_string shut_string)
set_option linter.unusedVariables false

theorem own13h : ownKnob Tryz.prog.godebug = none := by kernel_rfl
theorem laidOut13h : laidOutB Tryz.prog = true := by kernel_rfl

/-- A list of what each index has. -/
theorem list_of_each {α : Type} {P : Nat → α → Prop} (n : Nat) (d : α) (h : ∀ i, i < n → ∃ x, P i x) : ∃ xs : List α, xs.length = n ∧ ∀ i, i < xs.length → P i (xs.getD i d) := by
  induction n with
  | zero => exact ⟨[], rfl, fun i hi => absurd hi (Nat.not_lt_zero _)⟩
  | succ n ih =>
    obtain ⟨xs, hl, hx⟩ := ih (fun i hi => h i (by omega))
    obtain ⟨x, hp⟩ := h n (by omega)
    refine ⟨xs ++ [x], by simp [hl], fun i hi => ?_⟩
    by_cases hi2 : i < xs.length
    · have := hx i hi2
      rw [List.getD_eq_getElem?_getD, List.getElem?_append_left hi2, ← List.getD_eq_getElem?_getD]
      exact this
    · simp only [List.length_append, List.length_singleton] at hi
      obtain rfl : i = n := by omega
      rw [List.getD_eq_getElem?_getD, List.getElem?_append_right (by omega), hl]
      simpa using hp

section
variable {H : Type} {enc : TypeId × Value → H} {W : World} {base n : Nat} {sp : Nat → Bool} {held : Bool}
theorem weights_all {P : Program} {e : TypeId} : ∀ {l : List (DataW H)} {d : DataW H} {n : Nat}, d ∈ l → n ∈ d.weights P e → n ∈ DataW.weightsAll P e l
  | x :: r, d, n, hd, hn => by
    simp only [DataW.weightsAll, List.mem_append]
    rcases List.mem_cons.1 hd with rfl | h
    · exact Or.inl hn
    · exact Or.inr (weights_all h hn)
  | [], _, _, hd, _ => by cases hd

theorem fields_of {t e : TypeId} {P : Program} {fs : Array Field} {fuel : Nat} {cs : List Value} {x : DataW H × List MemPlace} (ht : P.underlying t = some (.slice e)) (he : P.underlying e = some (.struct fs))
    (hone : Go.Deep.oneCellFields P fs = true) (hC : P.cellsOf e = fs.size) (h : DataW.trod enc P W base sp held fuel t cs = some x) :
    (cs = [.slice none 0 0] ∧ x = (.nil, [])) ∨
    ∃ (a : Addr) (len cap m : Nat) (D : Nat → DataW H) (Pl : Nat → List MemPlace), cs = [.slice (some a) len cap] ∧ base ≤ a.block ∧ len ≤ cap ∧ cap ≤ maxLen ∧ m = (if sp a.block then cap else len) ∧
      x = (.slice ((List.range len).map D) ((List.range (m - len)).map fun j => D (len + j)), MemPlace.row a (m * fs.size) ++ (List.range m).flatMap Pl) ∧
      ∀ i, i < m → ∃ (ys : List (DataW H × List MemPlace)) (n : Nat), D i = .agg (ys.map (·.1)) ∧ Pl i = ys.flatMap (·.2) ∧ ys.length = fs.size ∧
        ∀ (j : Nat) (f : Field), fs[j]? = some f → ∃ (v : Value) (y : DataW H × List MemPlace), W.cell? (a.add (i * fs.size + j)) = some v ∧ ys[j]? = some y ∧ DataW.trod enc P W base sp held n f.type [v] = some y := by
  rcases Go.Deep.open_slice ht h with h0 | ⟨a, len, cap, m, n, D, Pl, hcs, hb, hl, hm, hmm, hx, hi⟩
  · exact .inl h0
  · refine .inr ⟨a, len, cap, m, D, Pl, hcs, hb, hl, hm, hmm, by rw [hC] at hx; exact hx, fun i him => ?_⟩
    obtain ⟨cs', hc, ht'⟩ := hi i him
    rw [hC] at hc
    obtain ⟨ys, n', hn', hy, hlen, hyl, hf⟩ := DataW.trod_struct he ht'
    obtain ⟨_, hcl, hat⟩ := World.cells?_some hc
    simp only [Prod.mk.injEq] at hy
    refine ⟨ys, n', hy.1, hy.2, hyl, fun j f hj => ?_⟩
    obtain ⟨ho, hk⟩ := Go.Deep.hone_of hone j f hj
    have hjl : j < fs.size := (Array.getElem?_eq_some_iff.1 hj).1
    have hcell := hat j hjl
    have hv : cs'[j]? = some (cs'[j]'(by omega)) := List.getElem?_eq_getElem (by omega)
    have h1 := hf j f hj
    rw [ho, hk] at h1
    have hone' : (cs'.drop j).take 1 = [cs'[j]'(by omega)] := by
      rw [List.drop_eq_getElem_cons (by omega)]
      rfl
    rw [hone'] at h1
    have hys : ys[j]? = some (ys[j]'(by omega)) := List.getElem?_eq_getElem (by omega)
    refine ⟨_, _, ?_, hys, h1.trans hys⟩
    rw [← Go.Deep.add_add, hcell, hv]

/-- A struct of five fields of one cell each, by value, opened. -/
theorem open_agg5 {P : Program} {r : Reach} {b0 : Nat} {t : TypeId} {f0 f1 f2 f3 f4 : Field} {v : Value} {d : DataW H} {p : List MemPlace} (hs : P.underlying t = some (.struct #[f0, f1, f2, f3, f4])) (hone : Go.Deep.oneCellFields P #[f0, f1, f2, f3, f4] = true) (hC : P.cellsOf t = 5)
    (hv : Value.okWide P W r b0 t v) (h : DataW.Trod enc P W base sp held t v d p) :
    ∃ (v0 v1 v2 v3 v4 : Value) (y0 y1 y2 y3 y4 : DataW H × List MemPlace) (n : Nat), v = .agg #[v0, v1, v2, v3, v4] ∧
      DataW.trod enc P W base sp held n f0.type [v0] = some y0 ∧ DataW.trod enc P W base sp held n f1.type [v1] = some y1 ∧ DataW.trod enc P W base sp held n f2.type [v2] = some y2 ∧ DataW.trod enc P W base sp held n f3.type [v3] = some y3 ∧ DataW.trod enc P W base sp held n f4.type [v4] = some y4 := by
  obtain ⟨cs, rfl, hsz⟩ := okWide_struct hs hv
  have hsz5 : cs.size = 5 := hsz.trans hC
  obtain ⟨c0, c1, c2, c3, c4, rfl⟩ : ∃ a b c d e, cs = #[a, b, c, d, e] := by
    obtain ⟨l⟩ := cs
    match l, hsz5 with
    | [a, b, c, d, e], _ => exact ⟨a, b, c, d, e, rfl⟩
  obtain ⟨fuel, hf⟩ := h
  obtain ⟨ys, n, _, _, _, hyl, hff⟩ := DataW.trod_struct hs hf
  have hyl5 : ys.length = 5 := hyl
  obtain ⟨o0, k0⟩ := Go.Deep.hone_of hone 0 f0 rfl
  obtain ⟨o1, k1⟩ := Go.Deep.hone_of hone 1 f1 rfl
  obtain ⟨o2, k2⟩ := Go.Deep.hone_of hone 2 f2 rfl
  obtain ⟨o3, k3⟩ := Go.Deep.hone_of hone 3 f3 rfl
  obtain ⟨o4, k4⟩ := Go.Deep.hone_of hone 4 f4 rfl
  have g0 := hff 0 f0 rfl
  have g1 := hff 1 f1 rfl
  have g2 := hff 2 f2 rfl
  have g3 := hff 3 f3 rfl
  have g4 := hff 4 f4 rfl
  rw [o0, k0, List.getElem?_eq_getElem (by omega)] at g0
  rw [o1, k1, List.getElem?_eq_getElem (by omega)] at g1
  rw [o2, k2, List.getElem?_eq_getElem (by omega)] at g2
  rw [o3, k3, List.getElem?_eq_getElem (by omega)] at g3
  rw [o4, k4, List.getElem?_eq_getElem (by omega)] at g4
  exact ⟨c0, c1, c2, c3, c4, _, _, _, _, _, n, rfl, by simpa [Value.cells] using g0, by simpa [Value.cells] using g1, by simpa [Value.cells] using g2, by simpa [Value.cells] using g3, by simpa [Value.cells] using g4⟩

/-- Numbers that an argument has. -/
theorem ints_of {k : IntKind} {t e : TypeId} {v : Value} {y : DataW H × List MemPlace} (ht : Tryz.prog.underlying t = some (.slice e)) (he : Tryz.prog.underlying e = some (.int k)) (hc : Tryz.prog.cellsOf e = 1) (h : DataW.trod enc Tryz.prog W base (fun _ => true) held n t [v] = some y) :
    ∃ (A : Option Addr) (c : Nat) (l : List Int), v = .slice A l.length c ∧ l.length ≤ c ∧ Kd.C (Kd.int k) W A l.length l ∧ ∀ x ∈ l, (Lit.int k x).wf = true := by
  rcases open_ints ht he hc h with ⟨hcs, _⟩ | ⟨x, l, c, zs, hcs, _, hl, hm, hz, _, hcell, hwz⟩
  · simp at hcs
    subst hcs
    exact ⟨none, 0, [], rfl, Nat.le_refl _, ⟨rfl, by simp, fun h => by simp at h⟩, fun x hx => by cases hx⟩
  · simp at hcs
    subst hcs
    simp only [if_true] at hz
    have hlen : (zs.take l).length = l := by rw [List.length_take]; omega
    refine ⟨some x, c, zs.take l, by rw [hlen], by omega, ⟨rfl, by rw [hlen]; unfold maxLen at hm; omega, fun _ => ⟨x, rfl, fun j p hj => ?_⟩⟩, fun z hz2 => hwz z (List.mem_of_mem_take hz2)⟩
    have hjl : j < l := by
      rcases Nat.lt_or_ge j (zs.take l).length with h' | h'
      · rw [hlen] at h'; exact h'
      · rw [List.getElem?_eq_none h'] at hj; cases hj
    refine ⟨[.int k p], rfl, rfl, fun i u hu => ?_⟩
    match i, hu with
    | 0, hu =>
      simp at hu
      subst hu
      rw [Nat.add_zero, show (Kd.int k).sz = 1 from rfl, Nat.mul_one, hcell j (by omega)]
      rw [List.getElem?_take, if_pos hjl] at hj
      rw [List.getD_eq_getElem?_getD, hj]
      rfl

theorem arcs_of {v : Value} {y : DataW H × List MemPlace} (h : DataW.trod enc Tryz.prog W base (fun _ => true) held n 22 [v] = some y) :
    ∃ (A : Option Addr) (c : Nat) (l : List Q.S68), v = .slice A l.length c ∧ l.length ≤ c ∧ Kd.C Q.k68 W A l.length l ∧ Q.ArcsFit l := by
  rcases fields_of Tryz.underlying22 Tryz.underlying68 (by kernel_rfl) (by kernel_rfl) h with ⟨hcs, _⟩ | ⟨a, len, cap, m, D, Pl, hcs, _, hl, hm, hmm, hx, hi⟩
  · simp at hcs
    subst hcs
    exact ⟨none, 0, [], rfl, Nat.le_refl _, arcs_C_nil _ _, fun a ha => by cases ha⟩
  · simp at hcs
    subst hcs
    simp only [if_true] at hmm
    subst hmm
    have each : ∀ i, i < len → ∃ x : Q.S68, (W.cell? (a.add (i * 3)) = some (.int .i64 x.f0) ∧ W.cell? (a.add (i * 3 + 1)) = some (.int .i64 x.f1) ∧ W.cell? (a.add (i * 3 + 2)) = some (.int .u32 x.f2)) ∧ ((-9223372036854775808 ≤ x.f0 ∧ x.f0 < 9223372036854775808) ∧ (-9223372036854775808 ≤ x.f1 ∧ x.f1 < 9223372036854775808) ∧ (0 ≤ x.f2 ∧ x.f2 < 4294967296)) := by
      intro i hil
      obtain ⟨ys, n2, hD, _, hyl, hf⟩ := hi i (by omega)
      obtain ⟨v0, y0, g0, e0, t0⟩ := hf 0 _ rfl
      obtain ⟨v1, y1, g1, e1, t1⟩ := hf 1 _ rfl
      obtain ⟨v2, y2, g2, e2, t2⟩ := hf 2 _ rfl
      obtain ⟨k0, q0, r0, wf0⟩ := DataW.trod_int Tryz.underlying3 t0
      obtain ⟨k1, q1, r1, wf1⟩ := DataW.trod_int Tryz.underlying3 t1
      obtain ⟨k2, q2, r2, wf2⟩ := DataW.trod_int Tryz.underlying41 t2
      simp only [List.cons.injEq, and_true] at q0 q1 q2
      subst q0 q1 q2
      have b0 := bounds_i64 wf0
      have b1 := bounds_i64 wf1
      have b2 := bounds_u32 wf2
      exact ⟨⟨k0, k1, k2⟩, ⟨g0, g1, g2⟩, by simp only; omega⟩
    obtain ⟨xs, hl2, hxs⟩ := list_of_each len Q.z68 each
    subst hl2
    refine ⟨some a, _, xs, rfl, by omega, ⟨rfl, by unfold maxLen at hm; omega, fun _ => ⟨a, rfl, fun j p hj => ?_⟩⟩, fun x hx2 => ?_⟩
    · have hjl : j < xs.length := by
        rcases Nat.lt_or_ge j xs.length with h' | h'
        · exact h'
        · rw [List.getElem?_eq_none h'] at hj; cases hj
      have hp : xs.getD j Q.z68 = p := by rw [List.getD_eq_getElem?_getD, hj]; rfl
      obtain ⟨c0, c1, c2⟩ := (hxs j hjl).1
      rw [hp] at c0 c1 c2
      refine ⟨[.int .i64 p.f0, .int .i64 p.f1, .int .u32 p.f2], rfl, Q.k68_mk W p, fun i u hu => ?_⟩
      rw [show Q.k68.sz = 3 from rfl]
      match i, hu with
      | 0, hu => simp at hu; subst hu; exact c0
      | 1, hu => simp at hu; subst hu; exact c1
      | 2, hu => simp at hu; subst hu; exact c2
    · obtain ⟨j, hj, hje⟩ := List.getElem_of_mem hx2
      have c1 := (hxs j hj).2
      have hg : xs.getD j Q.z68 = x := by rw [List.getD_eq_getElem?_getD, List.getElem?_eq_getElem hj, Option.getD_some, hje]
      rw [hg] at c1
      exact c1

theorem rows_of {v : Value} {y : DataW H × List MemPlace} (h : DataW.trod enc Tryz.prog W base (fun _ => true) held n 26 [v] = some y) :
    ∃ (A : Option Addr) (c : Nat) (l : List (List Int)), v = .slice A l.length c ∧ l.length ≤ c ∧ Kd.C (Kd.slice 3 (Kd.int .i64)) W A l.length l := by
  rcases Go.Deep.open_slice1 Tryz.underlying26 (by kernel_rfl) h with ⟨hcs, _⟩ | ⟨a, len, cap, m, n2, V, D, Pl, hcs, _, hl, hm, hmm, hx, hi⟩
  · simp at hcs
    subst hcs
    exact ⟨none, 0, [], rfl, Nat.le_refl _, ⟨rfl, by simp, fun h => by simp at h⟩⟩
  · simp at hcs
    subst hcs
    simp only [if_true] at hmm
    subst hmm
    have each : ∀ i, i < len → ∃ x : List Int, ∃ (A0 : Option Addr) (c0 : Nat), W.cell? (a.add i) = some (.slice A0 x.length c0) ∧ x.length ≤ c0 ∧ Kd.C (Kd.int .i64) W A0 x.length x := by
      intro i hil
      obtain ⟨hcl, htr⟩ := hi i (by omega)
      obtain ⟨A0, c0, x, hv, h1, h2, _⟩ := ints_of Tryz.underlying25 Tryz.underlying3 (by kernel_rfl) htr
      exact ⟨x, A0, c0, by rw [hcl, hv], h1, h2⟩
    obtain ⟨xs, hl2, hxs⟩ := list_of_each len [] each
    subst hl2
    refine ⟨some a, _, xs, rfl, by omega, ⟨rfl, by unfold maxLen at hm; omega, fun _ => ⟨a, rfl, fun j p hj => ?_⟩⟩⟩
    have hjl : j < xs.length := by
      rcases Nat.lt_or_ge j xs.length with h' | h'
      · exact h'
      · rw [List.getElem?_eq_none h'] at hj; cases hj
    have hp : xs.getD j [] = p := by rw [List.getD_eq_getElem?_getD, hj]; rfl
    obtain ⟨A0, c0, g1, g2, g3⟩ := hxs j hjl
    rw [hp] at g1 g2 g3
    refine ⟨[.slice A0 p.length c0], rfl, ⟨A0, c0, rfl, g2, g3⟩, fun i u hu => ?_⟩
    match i, hu with
    | 0, hu =>
      simp at hu
      subst hu
      rw [Nat.add_zero, show (Kd.slice 3 (Kd.int .i64)).sz = 1 from rfl, Nat.mul_one]
      exact g1
theorem slice_of {t e : TypeId} {v : Value} {y : DataW H × List MemPlace} (ht : Tryz.prog.underlying t = some (.slice e)) (h : DataW.trod enc Tryz.prog W base (fun _ => true) held n t [v] = some y) : ∃ A m c, v = .slice A m c := by
  rcases DataW.trod_slice ht h with ⟨q4, _⟩ | ⟨a4, l4, c4, _, _, _, _, q4, _⟩
  · simp only [List.cons.injEq, and_true] at q4
    exact ⟨_, _, _, q4⟩
  · simp only [List.cons.injEq, and_true] at q4
    exact ⟨_, _, _, q4⟩
theorem int_of {v : Value} {y : DataW H × List MemPlace} (h : DataW.trod enc Tryz.prog W base (fun _ => true) held n 3 [v] = some y) : ∃ x, v = .int .i64 x := by
  obtain ⟨k0, q0, _, _⟩ := DataW.trod_int Tryz.underlying3 h
  simp only [List.cons.injEq, and_true] at q0
  exact ⟨_, q0⟩
end

set_option maxRecDepth 100000 in
theorem heavier_lifted (os : Os) (started : os.Started) (H : Type) (enc : TypeId × Value → H) :
    ReturnsInHanded {} Tryz.checked os 3 .any (Rows.cliqueHeavierSpec.pre6 enc Tryz.prog Tryz.f3 Rows.cliqueHeavierRow.domain false) (Rows.cliqueHeavierSpec.post enc Tryz.prog Tryz.f3 false true false false) := by
  refine returnsInHanded_of_change_sized (C := Tryz.checked) own13h started (by kernel_rfl) Tryz.func3
    (ChangeSpec.witness6 (enc := enc) (C := Tryz.checked) false ⟨#[], #[.agg #[.int .i64 0, .slice none 0 0], .agg #[.slice none 0 0, .slice none 0 0], .agg #[.int .i64 0, .int .i64 0, .int .i64 0, .slice none 0 0, .slice none 0 0]], []⟩ 8 (by kernel_rfl) (by kernel_rfl) (by kernel_rfl) (by kernel_rfl)) ?_
  intro W base args ds gs before hval0 hW hcnd hsz0 _
  have hsz : (DataW.weightsEach Tryz.prog (Tryz.f3.params.toList ++ Rows.cliqueHeavierSpec.plain.varTypes Tryz.prog) (ds ++ gs)).all (· ≤ reachBytes) = true := hsz0
  have hval : ∀ (j : Nat) t v, Tryz.f3.params[j]? = some t → args[j]? = some v → Value.okWide Tryz.prog W .any base t v := hval0
  have hW' := hW
  obtain ⟨p, q, hA0, hV, rfl, hfz, hnd⟩ := hW
  have hA : DataW.TrodAll enc Tryz.prog W 0 (fun _ => true) true Tryz.f3.params.toList args.toList ds p := hA0
  rw [Tryz.params3] at hA hval hsz
  obtain ⟨v0, vs0, d0, ds0, p0, q0, hargs, rfl, rfl, h0, r0⟩ := trodAll_cons hA
  obtain ⟨v1, vs1, d1, ds1, p1, q1, rfl, rfl, rfl, h1, r1⟩ := trodAll_cons r0
  obtain ⟨v2, vs2, d2, ds2, p2, q2, rfl, rfl, rfl, h2, r2⟩ := trodAll_cons r1
  obtain ⟨rfl, rfl, rfl⟩ := trodAll_nil r2
  obtain rfl : args = #[v0, v1, v2] := by cases args; simp_all
  obtain ⟨rfl, rfl⟩ := trodVars_none hV
  have k0 := h0
  have k1 := h1
  have k2 := h2
  have lt0 : ∀ x ∈ p0, x.block < W.heap.size := by obtain ⟨m, hm⟩ := k0; exact DataW.trod_lt m _ _ _ hm
  have lt1 : ∀ x ∈ p1, x.block < W.heap.size := by obtain ⟨m, hm⟩ := k1; exact DataW.trod_lt m _ _ _ hm
  have lt2 : ∀ x ∈ p2, x.block < W.heap.size := by obtain ⟨m, hm⟩ := k2; exact DataW.trod_lt m _ _ _ hm
  obtain ⟨x0, x1, y0, y1, n0, rfl, hd0, hp0, ha0, ha1⟩ := Go.Joins.open_agg2 Tryz.underlying24 (by kernel_rfl) (by kernel_rfl) (hval 0 24 v0 rfl rfl) h0
  obtain ⟨z0, z1, u0, u1, n1, rfl, hd1, hp1, hb0, hb1⟩ := Go.Joins.open_agg2 Tryz.underlying28 (by kernel_rfl) (by kernel_rfl) (hval 1 28 v1 rfl rfl) h1
  obtain ⟨q0, q1, q2, q3, q4, e0, e1, e2, e3, e4, n2, rfl, f0, f1, f2, f3, f4⟩ := open_agg5 Tryz.underlying32 (by kernel_rfl) (by kernel_rfl) (hval 2 32 v2 rfl rfl) h2
  obtain ⟨N, rfl⟩ := int_of ha0
  obtain ⟨A, c, arcs, rfl, hc, hr, hf⟩ := arcs_of ha1
  obtain ⟨BA, bc, bounds, rfl, hbc, hb, _⟩ := ints_of Tryz.underlying25 Tryz.underlying3 (by kernel_rfl) hb0
  obtain ⟨CA, cc, cells, rfl, hcc, hcl⟩ := rows_of hb1
  obtain ⟨a20, rfl⟩ := int_of f0
  obtain ⟨cell, rfl⟩ := int_of f1
  obtain ⟨a22, rfl⟩ := int_of f2
  obtain ⟨WA, wcp, ws, rfl, hwc, hw, hwf⟩ := ints_of Tryz.underlying29 Tryz.underlying41 (by kernel_rfl) f3
  obtain ⟨chA, chn, chc, rfl⟩ := slice_of Tryz.underlying30 f4
  clear hA0 hval0 hsz0 hsz
  refine (heavier_any N arcs A c BA bc bounds CA cc cells a20 cell a22 WA wcp ws chA chn chc W hf (fun x hx => by have := bounds_u32 (hwf x hx); omega) hr hc ⟨hb, hbc, hcl, hcc⟩ hw hwc).mono fun e W' ⟨he, bel⟩ => ?_
  subst he
  exact ⟨_, rfl, _, _, _, [], _, [], hW', trodAll_mk1 (shut_bool Tryz.underlying4 _), (trodAll_cons_mk (Below.trod laidOut13h (by kernel_rfl) (of_decide_eq_true (by kernel_rfl)) k0 bel lt0) (trodAll_cons_mk (Below.trod laidOut13h (by kernel_rfl) (of_decide_eq_true (by kernel_rfl)) k1 bel lt1) (trodAll_cons_mk (Below.trod laidOut13h (by kernel_rfl) (of_decide_eq_true (by kernel_rfl)) k2 bel lt2) trodAll_mk0))), rfl, bel.frame _, fun h => by cases h⟩

theorem cliqueHeavier_holds : Rows.CliqueHeavierSaid :=
  OpenClaim.holds_of_wide 3 Tryz.f3 rfl rfl rfl rfl rfl rfl rfl ⟨rfl, rfl, rfl, rfl, rfl⟩ rfl rfl rfl rfl rfl (by kernel_rfl) Tryz.func3 (by kernel_rfl)
    (of_decide_eq_true (by kernel_rfl)) (by unfold Func.isWrapper; first | (rw [if_pos (by decide +kernel)]; kernel_rfl) | (rw [if_neg (by decide +kernel)]; exact ⟨rfl, rfl⟩))
    (fun os started H enc _ => heavier_lifted os started H enc)

#print axioms cliqueHeavier_holds
end Go.Proofs.YtenbcfjfgbpinaaGreat
