/- The weights of arcs: what the program and the document's answer say (plain). -/
import Derived.Test.YtenbcfjfgbpinaaGreatZG09
import Derived.Test.YtenbcfjfgbpinaaGreatZQx3
import Derived.Test.YtenbcfjfgbpinaaGreatZH01
import Derived.Deep.RegionHeld3
import Derived.Test.YtenbcfjfgbpinaaGreatZG12
import Derived.WalkKit
import Derived.ProofKit
import Derived.OpenShut
import Derived.ShutString
import Derived.ChangeOld
import Derived.Below
import Derived.SizedLaws
import Derived.Lib.SmallJoins
import Derived.Carry
import Derived.ChangeSlices
import Derived.Deep.Slices
import Derived.Deep.Fields
import Derived.Test.YtenbcfjfgbpinaaGreatRows
import Derived.Test.YtenbcfjfgbpinaaGreatWSized
namespace Go.Proofs.YtenbcfjfgbpinaaGreat.Q
open Go.RowKit Go.Proofs.YtenbcfjfgbpinaaGreatW.PrintWords Go.Proofs.YtenbcfjfgbpinaaGreatW.PrintLast
set_option linter.unusedVariables false
set_option maxRecDepth 100000

theorem both_loop (N : Int) (hN : 0 ≤ N ∧ N ≤ 1024) (arcs : List S68) (hf : ArcsFit arcs) (hm : arcs.length ≤ 8192) (d : Nat) : ∀ (k n : Nat), n + d = arcs.length → d < k →
    ∃ x y e, graph_Check.l0 k arcs (arcs.length : Int) (n : Int) N arcs = some (x, e) ∧ flyoverref03_Check.l0 k (n : Int) N arcs = some (y, e) := by
  induction d with
  | zero =>
    intro k n hn hk
    obtain ⟨k, rfl⟩ : ∃ m, k = m + 1 := ⟨k - 1, by omega⟩
    simp only [graph_Check.l0, flyoverref03_Check.l0]
    rw [if_neg (by omega), if_neg (by omega)]
    exact ⟨0, 0, 0, rfl, rfl⟩
  | succ d ih =>
    intro k n hn hk
    obtain ⟨k, rfl⟩ : ∃ m, k = m + 1 := ⟨k - 1, by omega⟩
    have hlt : n < arcs.length := by omega
    have hr : rd_T68 arcs (n : Int) = arcs[n] := by unfold rd_T68; simp [hlt]
    obtain ⟨p0, p1, p2⟩ := hf _ (List.getElem_mem hlt)
    have hw : wrap64 ((n : Int) + 1) = ((n + 1 : Nat) : Int) := by unfold wrap64; omega
    have hu : ∀ x : Int, (-9223372036854775808 ≤ x ∧ x < 9223372036854775808) → (IntKind.u64.wrap x ≥ IntKind.u64.wrap N ↔ (x < 0 ∨ x ≥ N)) := by
      intro x hx
      constructor
      · intro h
        by_cases h0 : x < 0
        · exact Or.inl h0
        · right
          rw [IntWalk.u64_in _ (by omega), IntWalk.u64_in _ (by omega)] at h
          exact h
      · intro h
        by_cases hc : IntKind.u64.wrap x ≥ IntKind.u64.wrap N
        · exact hc
        · have := u64_ge x N hx hN hc
          omega
    simp only [graph_Check.l0, flyoverref03_Check.l0]
    have q1 : (n : Int) < (arcs.length : Int) := by omega
    have q2 : (0 : Int) ≤ (n : Int) := by omega
    simp only [if_pos q1, if_pos q2, hr, hw]
    have e0 := hu _ p0
    have e1 := hu _ p1
    by_cases a0 : (arcs[n]).f0 < 0
    · simp only [if_pos (e0.2 (Or.inl a0)), if_pos a0]
      exact ⟨_, _, _, rfl, rfl⟩
    · by_cases a1 : (arcs[n]).f0 ≥ N
      · simp only [if_pos (e0.2 (Or.inr a1)), if_neg a0, if_pos a1]
        exact ⟨_, _, _, rfl, rfl⟩
      · have a2 : ¬ IntKind.u64.wrap (arcs[n]).f0 ≥ IntKind.u64.wrap N := fun h => (e0.1 h).elim a0 a1
        by_cases b0 : (arcs[n]).f1 < 0
        · simp only [if_neg a2, if_neg a0, if_neg a1, if_pos (e1.2 (Or.inl b0)), if_pos b0]
          exact ⟨_, _, _, rfl, rfl⟩
        · by_cases b1 : (arcs[n]).f1 ≥ N
          · simp only [if_neg a2, if_neg a0, if_neg a1, if_pos (e1.2 (Or.inr b1)), if_neg b0, if_pos b1]
            exact ⟨_, _, _, rfl, rfl⟩
          · have b2 : ¬ IntKind.u64.wrap (arcs[n]).f1 ≥ IntKind.u64.wrap N := fun h => (e1.1 h).elim b0 b1
            simp only [if_neg a2, if_neg a0, if_neg a1, if_neg b2, if_neg b0, if_neg b1]
            exact ih k (n + 1) (by omega) (by omega)
theorem ref_eq (N : Int) (arcs : List S68) (hf : ArcsFit arcs) : ∃ y, flyoverref03_Check.f (arcs.length + 3) N arcs = some (y, (graphR N arcs).2) := by
  have h : ∃ x y e, graph_Check.f (arcs.length + 3) N arcs = some (x, e) ∧ flyoverref03_Check.f (arcs.length + 3) N arcs = some (y, e) := by
    unfold graph_Check.f flyoverref03_Check.f
    by_cases h1 : N < 1
    · rw [if_pos h1, if_pos h1]
      simp only [graph_Check.j0, flyoverref03_Check.j0]
      exact ⟨_, _, _, rfl, rfl⟩
    · rw [if_neg h1, if_neg h1]
      by_cases h2 : N > 1024
      · rw [decide_eq_true h2]
        simp only [graph_Check.j0, flyoverref03_Check.j0]
        exact ⟨_, _, _, rfl, rfl⟩
      · rw [decide_eq_false h2]
        simp only [graph_Check.j0, flyoverref03_Check.j0]
        have hft : ¬ (false = true) := by simp
        simp only [if_neg hft]
        by_cases h3 : (arcs.length : Int) > 8192
        · rw [if_pos h3, if_pos h3]
          exact ⟨_, _, _, rfl, rfl⟩
        · rw [if_neg h3, if_neg h3]
          exact both_loop N (by omega) arcs hf (by omega) arcs.length (arcs.length + 2) 0 (by omega) (by omega)
  obtain ⟨x, y, e, h1, h2⟩ := h
  refine ⟨y, ?_⟩
  rw [h2]
  unfold graphR
  rw [h1]
  rfl

/-- Whether all are indices of arcs. -/
def idxOk (arcs : List S68) (idx : List Int) : Bool := idx.all (fun i => decide (0 ≤ i) && decide (i < (arcs.length : Int)))
/-- What is said of the weights of arcs. -/
def weightsR (N : Int) (arcs : List S68) (idx : List Int) : List Int × Int :=
  if (graphR N arcs).2 = 0 then (if (idx.length : Int) > 16384 then ([], 2) else if idxOk arcs idx = true then (idx.map (fun i => (arcs.getD i.toNat z68).f2), 0) else ([], 5)) else ([], (graphR N arcs).2)

theorem of_loop (N : Int) (arcs : List S68) (idx : List Int) (hl : idx.length ≤ 16384) (hok : idxOk arcs idx = true) (d : Nat) : ∀ (k n : Nat), n + d = idx.length → d < k →
    flyoverref13_Of.l0 k idx ((idx.take n).map (fun i => (arcs.getD i.toNat z68).f2)) (n : Int) N arcs = some (idx.map (fun i => (arcs.getD i.toNat z68).f2)) := by
  induction d with
  | zero =>
    intro k n hn hk
    obtain ⟨k, rfl⟩ : ∃ m, k = m + 1 := ⟨k - 1, by omega⟩
    simp only [flyoverref13_Of.l0]
    rw [if_neg (by omega), List.take_of_length_le (by omega)]
  | succ d ih =>
    intro k n hn hk
    obtain ⟨k, rfl⟩ : ∃ m, k = m + 1 := ⟨k - 1, by omega⟩
    have hlt : n < idx.length := by omega
    have hr : rd idx (n : Int) = idx[n] := by unfold rd; simp [hlt]
    have hb := List.all_eq_true.1 hok _ (List.getElem_mem hlt)
    simp only [Bool.and_eq_true, decide_eq_true_eq] at hb
    have hr2 : rd_T68 arcs idx[n] = arcs.getD (idx[n]).toNat z68 := by unfold rd_T68; rfl
    have hw : wrap64 ((n : Int) + 1) = ((n + 1 : Nat) : Int) := by unfold wrap64; omega
    simp only [flyoverref13_Of.l0]
    rw [if_pos (by omega), if_pos (by omega), hr, if_pos hb.1, if_pos hb.2, if_pos (by rw [List.length_map, List.length_take]; omega), hr2, hw]
    have hs : (idx.take n).map (fun i => (arcs.getD i.toNat z68).f2) ++ [(arcs.getD (idx[n]).toNat z68).f2] = (idx.take (n + 1)).map (fun i => (arcs.getD i.toNat z68).f2) := by
      rw [List.take_add_one, List.map_append, List.getElem?_eq_getElem hlt]
      rfl
    rw [hs]
    exact ih k (n + 1) (by omega) (by omega)
theorem refw_loop (N : Int) (arcs : List S68) (idx : List Int) (hl : idx.length ≤ 16384) (d : Nat) : ∀ (k n : Nat), n + d = idx.length → d + idx.length + 1 < k → idxOk arcs (idx.take n) = true →
    flyoverref13_Weights.l0 k idx (n : Int) N arcs = some (if idxOk arcs idx = true then (idx.map (fun i => (arcs.getD i.toNat z68).f2), 0) else ([], 5)) := by
  induction d with
  | zero =>
    intro k n hn hk hp
    obtain ⟨k, rfl⟩ : ∃ m, k = m + 1 := ⟨k - 1, by omega⟩
    rw [List.take_of_length_le (by omega)] at hp
    simp only [flyoverref13_Weights.l0]
    rw [if_neg (by omega), if_pos hp]
    have h := of_loop N arcs idx hl hp idx.length k 0 (by omega) (by omega)
    unfold flyoverref13_Of.f
    rw [List.take_zero, List.map_nil] at h
    rw [show ((0 : Nat) : Int) = 0 from rfl] at h
    rw [h]
    rfl
  | succ d ih =>
    intro k n hn hk hp
    obtain ⟨k, rfl⟩ : ∃ m, k = m + 1 := ⟨k - 1, by omega⟩
    have hlt : n < idx.length := by omega
    have hr : rd idx (n : Int) = idx[n] := by unfold rd; simp [hlt]
    have hw : wrap64 ((n : Int) + 1) = ((n + 1 : Nat) : Int) := by unfold wrap64; omega
    have hno : ¬ (0 ≤ idx[n] ∧ idx[n] < (arcs.length : Int)) → idxOk arcs idx = false := by
      intro h
      cases he : idxOk arcs idx with
      | false => rfl
      | true =>
        have hb := List.all_eq_true.1 he _ (List.getElem_mem hlt)
        simp only [Bool.and_eq_true, decide_eq_true_eq] at hb
        exact absurd hb h
    simp only [flyoverref13_Weights.l0]
    rw [if_pos (by omega), if_pos (by omega), hr]
    by_cases h0 : idx[n] < 0
    · rw [if_pos h0, hno (by omega)]
      rfl
    · rw [if_neg h0]
      by_cases h1 : idx[n] ≥ (arcs.length : Int)
      · rw [if_pos h1, hno (by omega)]
        rfl
      · rw [if_neg h1, hw]
        refine ih k (n + 1) (by omega) (by omega) ?_
        unfold idxOk at hp ⊢
        rw [List.take_add_one, List.getElem?_eq_getElem hlt, List.all_append, hp]
        simp
        omega
theorem refw_f (N : Int) (arcs : List S68) (idx : List Int) (hf : ArcsFit arcs) : ∃ k, flyoverref13_Weights.f k N arcs idx = some ((weightsR N arcs idx).1, (weightsR N arcs idx).2) := by
  obtain ⟨y, hy⟩ := ref_eq N arcs hf
  have hmono : ∀ m, flyoverref03_Check.f (arcs.length + 3 + m) N arcs = some (y, (graphR N arcs).2) := by
    intro m
    induction m with
    | zero => exact hy
    | succ m ih => exact flyoverref03_Check.mono _ _ _ _ ih
  refine ⟨arcs.length + 3 + (2 * idx.length + 2), ?_⟩
  unfold flyoverref13_Weights.f weightsR
  rw [hmono, Option.bind_some]
  by_cases h0 : (graphR N arcs).2 = 0
  · rw [if_pos h0, if_pos h0]
    by_cases h1 : (idx.length : Int) > 16384
    · rw [if_pos h1, if_pos h1]
    · rw [if_neg h1, if_neg h1]
      exact refw_loop N arcs idx (by omega) idx.length _ 0 (by omega) (by omega) (by simp [idxOk])
  · rw [if_neg h0, if_neg h0]

theorem same_loop (l : List Int) (hl : l.length ≤ 16384) (d : Nat) : ∀ (k n : Nat), n + d = l.length → d < k → flyoverbook_SameWeights.l0 k l l (n : Int) = some true := by
  induction d with
  | zero =>
    intro k n hn hk
    obtain ⟨k, rfl⟩ : ∃ m, k = m + 1 := ⟨k - 1, by omega⟩
    simp only [flyoverbook_SameWeights.l0]
    rw [if_neg (by omega)]
  | succ d ih =>
    intro k n hn hk
    obtain ⟨k, rfl⟩ : ∃ m, k = m + 1 := ⟨k - 1, by omega⟩
    have hw : wrap64 ((n : Int) + 1) = ((n + 1 : Nat) : Int) := by unfold wrap64; omega
    simp only [flyoverbook_SameWeights.l0]
    have q1 : (n : Int) < (l.length : Int) := by omega
    have q2 : (0 : Int) ≤ (n : Int) := by omega
    simp only [if_pos q1, if_pos q2, if_true, hw]
    exact ih k (n + 1) (by omega) (by omega)
theorem same_f (l : List Int) (hl : l.length ≤ 16384) : flyoverbook_SameWeights.f (l.length + 1) l l = some true := by
  unfold flyoverbook_SameWeights.f
  rw [if_pos rfl]
  exact same_loop l hl l.length _ 0 (by omega) (by omega)
theorem weightsR_len (N : Int) (arcs : List S68) (idx : List Int) : (weightsR N arcs idx).1.length ≤ 16384 := by
  unfold weightsR
  split
  · split
    · simp
    · split
      · simp; omega
      · simp
  · simp

end Go.Proofs.YtenbcfjfgbpinaaGreat.Q

/- flyoverbook.LendInts, KeptInts. -/
namespace Go.Proofs.YtenbcfjfgbpinaaGreat
open Go.RowKit Go.Lib Go.Sort Go.Proofs.YtenbcfjfgbpinaaGreatW.PrintWords Go.Proofs.YtenbcfjfgbpinaaGreatW.PrintLast Go.Proofs.YtenbcfjfgbpinaaGreatW.PrintMore
set_option linter.unusedVariables false
set_option maxRecDepth 100000

/-- Numbers that are lent: behind their end the mark. -/
structure LentI (w : World) (B : Nat) (l : List Int) (v : Value) : Prop where
  spot : ∃ g cap, v = .slice (some ⟨g, 0, none⟩) l.length cap ∧ l.length + 1 ≤ cap ∧ w.ownsRow B 3 1 (.slice (some ⟨g, 0, none⟩) (l.length + 1) cap) (l.length + 1) ((l ++ [-77]).map (Value.int .i64))

theorem lent_cap {w : World} {base : Nat} {e : TypeId} {size : Nat} {A : Addr} {n cap m : Nat} {xs : List Value} (h : w.ownsRow base e size (.slice (some A) n cap) m xs) : m ≤ cap := by
  rcases h.2 with ⟨h1, _⟩ | ⟨g', cap', cur, h1, _, _, h4, _⟩
  · cases h1
  · cases h1; omega

set_option maxHeartbeats 2000000 in
theorem lendInts_any (A : Option Addr) (c : Nat) (l : List Int) (w : World) (hr : Kd.C (Kd.int .i64) w A l.length l) (hl : l.length ≤ 17592186044000) :
    Calls Tryz.prog 11 #[.slice A l.length c] w fun e w' => ∃ v, e = .returned v ∧ LentI w' w.heap.size l v ∧ Below w.heap.size w w' := by
  obtain ⟨i0, hi0, hz0, hz1, hz2⟩ := info_parts intInfo
  have HR := Lib.hid hr
  clear hr
  go_enter Tryz.func11, Tryz.ntmps11
  go_upto_region 1 with fail
  go_wp2_with (first
    | (at_builtin; refine Kd.R_append_rows (Kd.int .i64) (w0 := w) w.heap.size rfl (.tmp 4) (.tmp 5) 25 3 (.int .i64 0) 8 rfl Tryz.underlying25 intInfo rfl (by decide) (by omega) _ ([] : List Int) l A l.length c (fun _ => True) (fun _ => False) rfl rfl (Kd.R_of_own (enc := Value.int .i64) (World.ownsRow_made w #[] 0 (Nat.le_refl _) (by unfold maxLen; omega) rfl) (fun _ _ => trivial)) (Kd.C_below HR.out ((Below.refl _ w).alloc (Nat.le_refl _) _)) (fun _ _ h => h) (fun _ h => h.elim) (fun _ _ => trivial) ((Below.refl _ w).alloc (Nat.le_refl _) _) (by simp) (by simp; omega) ?_; intro v6 w6 ho6 hb6 hg6 hat6; (have HO6 := Lib.hid (Kd.own_of_R (enc := Value.int .i64) ho6)); have HB6 := Lib.hid hb6; obtain ⟨VA, vcp, rfl⟩ := own_shape (Kd.own_of_R (enc := Value.int .i64) ho6); clear ho6 hb6 hg6 hat6; go_frame)
    | (at_builtin; refine wpList_append_own _ rfl _ _ 25 rfl w.heap.size 3 i0 _ 1 8 Tryz.underlying25 hi0 hz0 hz1 hz2 rfl (by decide) _ _ _ rfl (HO6.out.alloc _) ⟨w6.heap.size, 0, none⟩ 1 1 [.int .i64 (-77)] rfl rfl (cell_one_new _ _ _) (by intro q hq; simp at hq; subst hq; rfl) (by unfold maxLen; simp; omega) (by simp; omega) (by have := HB6.out.size; simp; omega) ?_; intro v7 w7 ho7 hg7 hnil7; obtain ⟨VB, vcb, rfl⟩ := own_shape ho7; (have hO7 : w7.ownsRow w.heap.size 3 1 (.slice VB (l.length + 1) vcb) (l.length + 1) (encs (Value.int .i64) l ++ [Value.int .i64 (-77)]) := ho7); clear ho7; obtain ⟨g, rfl⟩ := own_spot hO7 (by omega); have hcb := lent_cap hO7; (have h0 : l.length ≤ vcb := Nat.le_of_succ_le hcb); (have HO7 := Lib.hid hO7); (have HG7 := Lib.hid hg7); clear hO7 hg7 hnil7; go_frame))
  go_ret
  have hb : Below w.heap.size w w7 := Below.grown (HB6.out.alloc (HB6.out.size) _) HG7.out (fun k hk => (HO6.out.lt k hk).1) (by have := HB6.out.size; simp; omega)
  refine ⟨_, rfl, ⟨g, vcb, rfl, hcb, ?_⟩, hb⟩
  have h := HO7.out
  rw [List.map_append]
  exact h

/-- The same numbers. -/
theorem sameInts_any (A B : Option Addr) (c d : Nat) (l : List Int) (w : World) (ha : Kd.C (Kd.int .i64) w A l.length l) (hb : Kd.C (Kd.int .i64) w B l.length l) (hl : l.length ≤ 9223372036854775806) :
    Calls Tryz.prog 37 #[.slice A l.length c, .slice B l.length d] w fun e w' => e = .returned (.bool true) ∧ Below w.heap.size w w' := by
  have HA := Lib.hid ha
  have HB := Lib.hid hb
  clear ha hb
  go_enter Tryz.func37, Tryz.ntmps37
  go_wp2_with fail
  go_loopg [5] l.length (fun gg s5 wr => ∃ i : Nat, i ≤ l.length ∧ l.length - i ≤ gg ∧ s5 = .int .i64 i ∧ Hid (Below w.heap.size w wr))
  case atStart => exact ⟨0, Nat.zero_le _, by omega, rfl, Lib.hid (Below.refl _ _)⟩
  case round =>
    obtain ⟨i, hi1, hgg, rfl, HBL⟩ := hrel
    by_cases hlt : i < l.length
    · have hltz : (i : Int) < (l.length : Int) := by omega
      have hwk : IntKind.i64.wrap ((i : Int) + 1) = ((i + 1 : Nat) : Int) := by rw [IntWalk.i64_in _ (by omega)]; omega
      obtain ⟨aa, rfl, x0⟩ := Q.int_cell (Kd.C_below HA.out HBL.out) i hlt
      obtain ⟨bb, rfl, y0⟩ := Q.int_cell (Kd.C_below HB.out HBL.out) i hlt
      generalize l.getD i 0 = x at *
      go_wp2_with fail
      go_cut [25] (fun s25 wx => s25 = .bool false ∧ Hid (Below w.heap.size w wx))
      case first =>
        have dx0 : wr.drew.cell? (aa.add i) = some (.int .i64 x) := x0
        have dy0 : wr.drew.cell? (bb.add i) = some (.int .i64 x) := y0
        go_region
        all_goals
          go_wp2_with fail
          go_meet
          exact ⟨by first | rfl | (simp; done), Lib.hid HBL.out.drew⟩
      case rest =>
        obtain ⟨rfl, HBL2⟩ := hcut
        clear x0 y0
        go_wp2_with fail
        have HWK := Lib.hid hwk
        clear hwk
        go_roundg (l.length - (i + 1))
        case measure => omega
        case rel => exact ⟨i + 1, by omega, Nat.le_refl _, rfl, HBL2⟩
    · have : i = l.length := by omega
      have hkz : ¬ (i : Int) < (l.length : Int) := by omega
      go_wp2_with fail
      go_ret
      exact ⟨rfl, HBL.out⟩

end Go.Proofs.YtenbcfjfgbpinaaGreat

/- flyoverbook.LendGraph. -/
namespace Go.Proofs.YtenbcfjfgbpinaaGreat
open Go.RowKit Go.Lib Go.Sort Go.Proofs.YtenbcfjfgbpinaaGreatW.PrintWords Go.Proofs.YtenbcfjfgbpinaaGreatW.PrintLast Go.Proofs.YtenbcfjfgbpinaaGreatW.PrintMore
set_option linter.unusedVariables false
set_option maxRecDepth 100000

theorem C_prefix {α : Type} {d : Kd α} {w : World} {A : Option Addr} {xs ys : List α} (h : Kd.C d w A (xs ++ ys).length (xs ++ ys)) : Kd.C d w A xs.length xs := by
  obtain ⟨_, h2, h3⟩ := h
  rw [List.length_append] at h2 h3
  refine ⟨rfl, by omega, fun h0 => ?_⟩
  obtain ⟨ad, hA, hc⟩ := h3 (by omega)
  refine ⟨ad, hA, fun j p hj => hc j p ?_⟩
  have hjl : j < xs.length := by
    rcases Nat.lt_or_ge j xs.length with h' | h'
    · exact h'
    · rw [List.getElem?_eq_none h'] at hj; cases hj
  rw [List.getElem?_append_left hjl]
  exact hj

theorem arcInfo2 : (Tryz.prog.info? 68).map (fun i => (i.zero, i.size, i.bytes)) = some (some (.agg #[.int .i64 0, .int .i64 0, .int .u32 0]), Q.k68.sz, 24) := by kernel_rfl


theorem cell_same {w w' : World} {a : Addr} (h : w'.heap[a.block]? = w.heap[a.block]?) : w'.cell? a = w.cell? a := by
  unfold World.cell?
  rw [h]
theorem arcs_C_kept {w w' : World} {A : Option Addr} {l : List Q.S68} (h : Kd.C Q.k68 w A l.length l) (hk : ∀ ad, A = some ad → w'.heap[ad.block]? = w.heap[ad.block]?) : Kd.C Q.k68 w' A l.length l := by
  obtain ⟨h1, h2, h3⟩ := h
  refine ⟨h1, h2, fun h0 => ?_⟩
  obtain ⟨ad, hA, hc⟩ := h3 h0
  refine ⟨ad, hA, fun j p hj => ?_⟩
  obtain ⟨cs, hl, hK, hcell⟩ := hc j p hj
  refine ⟨cs, hl, ?_, fun i u hu => ?_⟩
  · rw [Q.k68_open hK]; exact Q.k68_mk w' p
  · rw [← hcell i u hu]
    refine cell_same ?_
    have hb : (ad.add (j * Q.k68.sz + i)).block = ad.block := by unfold Addr.add; split <;> rfl
    rw [hb]
    exact hk ad hA

def m68 : Q.S68 := ⟨-77, 0, 0⟩
/-- A graph that is lent: its arcs in memory, behind them the mark. -/
def LentG (w : World) (N : Int) (l : List Q.S68) (v : Value) : Prop := ∃ A cap, v = .agg #[.int .i64 N, .slice A l.length cap] ∧ l.length + 1 ≤ cap ∧ Kd.C Q.k68 w A (l ++ [m68]).length (l ++ [m68])

set_option maxHeartbeats 2000000 in
theorem lendGraph_any (N : Int) (A : Option Addr) (c : Nat) (l : List Q.S68) (w : World) (hr : Kd.C Q.k68 w A l.length l) (hl : l.length ≤ 5864062014640) :
    Calls Tryz.prog 10 #[.agg #[.int .i64 N, .slice A l.length c]] w fun e w' => ∃ v, e = .returned v ∧ LentG w' N l v ∧ Below w.heap.size w w' := by
  obtain ⟨i0, hi0, hz0, hz1, hz2⟩ := info_parts arcInfo2
  obtain ⟨c0, c1, n0, n1, hsz, hb1⟩ := two_boxes w (.int .i64 N) (.slice A l.length c) (.int .i64 0) (.slice none 0 0) 24 24
  have hr0 : ((w.alloc (.cells #[.int .i64 N, .slice A l.length c] 24)).alloc (.cells #[.int .i64 0, .slice none 0 0] 24)).heap[w.heap.size + 1]? = some (.cells #[.int .i64 0, .slice none 0 0] 24 (0, 0)) := heap_alloc2_new _ _ _
  have HR := Lib.hid (Kd.C_below hr hb1)
  clear hr
  go_enter Tryz.func10, Tryz.ntmps10
  go_upto_region 1 with fail
  generalize ((w.alloc (.cells #[.int .i64 N, .slice A l.length c] 24)).alloc (.cells #[.int .i64 0, .slice none 0 0] 24)) = w1 at *
  have HB1 := Lib.hid hb1
  have HR0 := Lib.hid hr0
  have hs1 : w.heap.size + 2 ≤ w1.heap.size := by omega
  generalize hgx : w.heap.size = gx at *
  have HGX := Lib.hid hgx
  have hs2 : gx < w1.heap.size := by omega
  have c1' : (w1.alloc (.cells #[] 68)).cell? ⟨gx, 1, none⟩ = some (.slice A l.length c) := (alloc_cell_old _ _ _ _ hs2).trans c1
  clear hb1 hsz hgx hr0 n0 n1
  go_upto_region 2 with (at_builtin; refine Kd.R_append_rows Q.k68 (w0 := w1) w1.heap.size rfl (.tmp 4) (.tmp 6) 22 68 (.agg #[.int .i64 0, .int .i64 0, .int .u32 0]) 24 rfl Tryz.underlying22 arcInfo2 rfl (by decide) (by omega) _ ([] : List Q.S68) l A l.length c (fun _ => True) (fun _ => False) rfl rfl ⟨fun _ _ => trivial, [], World.ownsRow_made w1 #[] 0 (Nat.le_refl _) (by unfold maxLen; omega) rfl, Reps.none _ _⟩ (Kd.C_below HR.out ((Below.refl _ w1).alloc (Nat.le_refl _) _)) (fun x cs hk => by rw [Q.k68_open hk]; exact Q.k68_mkM _ _ _ x) (fun _ h => h.elim) (fun _ _ => trivial) ((Below.refl _ w1).alloc (Nat.le_refl _) _) (by simp) (by simp; omega) ?_; intro v6 w6 ho6 hb6 hg6 hat6; rw [List.nil_append] at ho6; obtain ⟨VA, vcp, rfl⟩ := Kd.R_slice ho6; (have HO6 := Lib.hid ho6); have HB6 := Lib.hid hb6; (have d0 := (hb6.cell (p := ⟨gx, 0, none⟩) (by show gx < w1.heap.size; omega)).trans c0); (have d1 := (hb6.cell (p := ⟨gx, 1, none⟩) (by show gx < w1.heap.size; omega)).trans c1); clear ho6 hb6 hg6 hat6; go_frame)
  have HB7 := Lib.hid (HB1.out.trans (HB6.out.mono (by omega)))
  have HR7 := Lib.hid ((HB6.out.block (gx + 1) (by omega)).trans HR0.out)
  have hs6 : gx + 2 ≤ w6.heap.size := by have := HB6.out.size; omega
  clear c0 c1 HR0
  go_upto_region 3 with (at_builtin; go_loud (refine Kd.R_append Q.k68 (w0 := w6) w1.heap.size rfl (.tmp 8) (.tmp 10) 22 68 (.agg #[.int .i64 0, .int .i64 0, .int .u32 0]) 24 rfl Tryz.underlying22 arcInfo2 rfl (by decide) (by omega) (.slice VA l.length vcp) l m68 [.int .i64 (-77), .int .i64 0, .int .u32 0] (fun _ => True) (fun _ => False) rfl rfl (Q.k68_mkM _ _ _ m68) (fun _ h => h.elim) (fun _ _ => trivial) HO6.out ((Below.refl _ w6).mono (by have := HB6.out.size; omega)) HB6.out.size (by omega) ?_; intro v8 w8 ho8 hb8 hg8 hat8; obtain ⟨VB, vcb, rfl⟩ := Kd.R_slice ho8; (have HO8 := Lib.hid ho8); have HB8 := Lib.hid hb8; clear ho8 hb8 hg8 hat8; go_frame))
  have hcb : l.length + 1 ≤ vcb := by
    have h := (Kd.R_reads' HO8.out).2.1
    simpa using h
  have hCC : Kd.C Q.k68 w8 VB (l ++ [m68]).length (l ++ [m68]) := (Kd.R_reads' HO8.out).2.2
  have h0 : l.length ≤ vcb := by omega
  have e0 : w8.cell? ⟨gx, 0, none⟩ = some (.int .i64 N) := (HB8.out.cell (p := ⟨gx, 0, none⟩) (by show gx < w1.heap.size; omega)).trans d0
  have e1 : w8.cell? ⟨gx, 1, none⟩ = some (.slice A l.length c) := (HB8.out.cell (p := ⟨gx, 1, none⟩) (by show gx < w1.heap.size; omega)).trans d1
  have HBT := Lib.hid (HB7.out.trans (HB8.out.mono (by omega)))
  have hR8 := (HB8.out.block (gx + 1) (by omega)).trans HR7.out
  have HR8 := Lib.hid hR8
  have rc0 : w8.cell? ⟨gx + 1, 0, none⟩ = some (.int .i64 0) := by rw [cell_of_row _ _ 0 _ _ _ hR8]; rfl
  have rc1 : w8.cell? ⟨gx + 1, 1, none⟩ = some (.slice none 0 0) := by rw [cell_of_row _ _ 1 _ _ _ hR8]; rfl
  have rf : ∀ o, w8.frozen? ⟨gx + 1, o, none⟩ = false := fun o => by simp [World.frozen?, hR8]
  have e0' : w8.drew.cell? ⟨gx, 0, none⟩ = some (.int .i64 N) := e0
  have e1' : w8.drew.cell? ⟨gx, 1, none⟩ = some (.slice A l.length c) := e1
  have rc0' : w8.drew.cell? ⟨gx + 1, 0, none⟩ = some (.int .i64 0) := rc0
  have rc1' : w8.drew.cell? ⟨gx + 1, 1, none⟩ = some (.slice none 0 0) := rc1
  have rf' : ∀ o, w8.drew.frozen? ⟨gx + 1, o, none⟩ = false := rf
  have HCC := Lib.hid hCC
  have hVB : ∀ ad, VB = some ad → gx + 2 ≤ ad.block := by
    intro ad he
    obtain ⟨_, _, ho, _⟩ := HO8.out
    rcases ho.2 with ⟨h, _⟩ | ⟨g, cap, cur, h, hb, _⟩
    · simp only [Value.slice.injEq] at h
      rw [h.1] at he; cases he
    · simp only [Value.slice.injEq] at h
      rw [h.1] at he
      cases he
      show gx + 2 ≤ g
      omega
  have HVB := Lib.hid hVB
  clear hVB
  clear hR8 hCC HO6 HO8 HB1 HB6 HB7 HB8 HR7 c1' d0 d1 HR
  have hlm : (l ++ [m68]).length = l.length + 1 := by simp
  rw [hlm]
  go_region
  all_goals
    go_wp2_with fail
    ((try simp only [Exit.inBlock, Exit.then]); refine bodyPost_ret (results_cell_row rfl _ _ (gx + 1) 24 #[.int .i64 N, .slice VB l.length vcb] (0, 0) _ rfl (heap_set2 (w := w8.drew) HR8.out) Tryz.underlying24 rfl (by kernel_rfl)) rfl ?_)
    have hgx := HGX.out
    subst hgx
    refine ⟨_, rfl, ⟨VB, vcb, rfl, hcb, ?_⟩, ((HBT.out.drew).setCell (by show w.heap.size ≤ w.heap.size + 1; omega) _).setCell (by show w.heap.size ≤ w.heap.size + 1; omega) _⟩
    refine arcs_C_kept HCC.out (fun ad he => ?_)
    have hne := HVB.out ad he
    show ((w8.setCell ⟨w.heap.size + 1, 0, none⟩ (.int .i64 N)).setCell ⟨w.heap.size + 1, 1, none⟩ (.slice VB l.length vcb)).heap[ad.block]? = w8.heap[ad.block]?
    rw [heap_setCell_other _ _ ad.block _ (by show ad.block ≠ w.heap.size + 1; omega), heap_setCell_other _ _ ad.block _ (by show ad.block ≠ w.heap.size + 1; omega)]

end Go.Proofs.YtenbcfjfgbpinaaGreat

/- clique.Weights. -/
namespace Go.Proofs.YtenbcfjfgbpinaaGreat
open Go.RowKit Go.Lib Go.Sort Go.Proofs.YtenbcfjfgbpinaaGreatW.PrintWords Go.Proofs.YtenbcfjfgbpinaaGreatW.PrintLast Go.Proofs.YtenbcfjfgbpinaaGreatW.PrintMore
set_option linter.unusedVariables false
set_option maxRecDepth 100000

namespace Q
theorem idx_no {arcs : List S68} {idx : List Int} {i : Nat} (hi : i < idx.length) (h : ¬ (0 ≤ idx.getD i 0 ∧ idx.getD i 0 < (arcs.length : Int))) : idxOk arcs idx = false := by
  cases he : idxOk arcs idx with
  | false => rfl
  | true =>
    have hb := List.all_eq_true.1 he _ (List.getElem_mem hi)
    simp only [Bool.and_eq_true, decide_eq_true_eq] at hb
    rw [List.getD_eq_getElem?_getD, List.getElem?_eq_getElem hi] at h
    exact absurd hb h
def wtTo (arcs : List S68) (idx : List Int) (k : Nat) : List Int := (idx.take k).map (fun i => (arcs.getD i.toNat z68).f2)
theorem wt_step (arcs : List S68) (idx : List Int) (k : Nat) (hk : k < idx.length) : wtTo arcs idx (k + 1) = wtTo arcs idx k ++ [(arcs.getD (idx.getD k 0).toNat z68).f2] := by
  unfold wtTo
  rw [List.take_add_one, List.map_append, List.getElem?_eq_getElem hk, List.getD_eq_getElem?_getD (l := idx), List.getElem?_eq_getElem hk]
  rfl
theorem wt_len (arcs : List S68) (idx : List Int) (k : Nat) : (wtTo arcs idx k).length ≤ k := by unfold wtTo; rw [List.length_map, List.length_take]; omega
theorem idx_yes {arcs : List S68} {idx : List Int} {k : Nat} (hk : k < idx.length) (h : idxOk arcs (idx.take k) = true) (hi : 0 ≤ idx.getD k 0 ∧ idx.getD k 0 < (arcs.length : Int)) : idxOk arcs (idx.take (k + 1)) = true := by
  rw [List.getD_eq_getElem?_getD, List.getElem?_eq_getElem hk] at hi
  unfold idxOk at h ⊢
  rw [List.take_add_one, List.getElem?_eq_getElem hk, List.all_append, h]
  simp
  exact hi
end Q

theorem make_cap (n : Nat) (hn : n ≤ 16384) (w : World) : (Instr.makeSlice 29 (.int .i64 0) (.int .i64 n)).run Tryz.prog w = .ok (.slice (some ⟨w.heap.size, 0, none⟩) 0 n) (w.alloc (.cells (madeCells #[Value.int .u32 0] n) 41)) := by
  obtain ⟨i0, hi, hz0, hz1, hz2⟩ := info_parts u32Info
  have h := run_make (P := Tryz.prog) w 29 41 i0 (.int .u32 0) Tryz.underlying29 hi hz0 .i64 .i64 0 n (by omega) (by omega) (by rw [hz2]; omega) (by omega)
  rw [hz1, Int.toNat_natCast, Nat.mul_one] at h
  exact h
theorem own_made_of (w : World) (n : Nat) (hn : n ≤ 16384) : (w.alloc (.cells (madeCells #[Value.int .u32 0] n) 41)).ownsRow w.heap.size 41 1 (.slice (some ⟨w.heap.size, 0, none⟩) 0 n) 0 [] :=
  World.ownsRow_made w _ n (Nat.le_refl _) (by unfold maxLen; omega) (by rw [← Array.length_toList, toList_madeCells_one]; simp)

set_option maxHeartbeats 4000000 in
theorem weights_any (N : Int) (arcs : List Q.S68) (A : Option Addr) (c : Nat) (IA : Option Addr) (ic : Nat) (idx : List Int) (w : World) (hf : Q.ArcsFit arcs) (hr : Kd.C Q.k68 w A arcs.length arcs) (hc : arcs.length ≤ c) (hi : Kd.C (Kd.int .i64) w IA idx.length idx) :
    Calls Tryz.prog 12 #[.agg #[.int .i64 N, .slice A arcs.length c], .slice IA idx.length ic] w fun e w' => ∃ P cap, e = .returned (.tuple #[.slice P (Q.weightsR N arcs idx).1.length cap, .int .i64 (Q.weightsR N arcs idx).2]) ∧ w'.ownsRow w.heap.size 41 1 (.slice P (Q.weightsR N arcs idx).1.length cap) (Q.weightsR N arcs idx).1.length ((Q.weightsR N arcs idx).1.map (Value.int .u32)) ∧ Below w.heap.size w w' := by
  obtain ⟨i0, hi0, hz0, hz1, hz2⟩ := info_parts u32Info
  have hb1 : Below w.heap.size w (w.alloc (.cells #[.int .i64 N, .slice A arcs.length c] 24)) := (Below.refl _ w).alloc (Nat.le_refl _) _
  have HG := Lib.hid (graph_e N arcs A c (w.alloc (.cells #[.int .i64 N, .slice A arcs.length c] 24)) hf (Kd.C_below hr hb1) hc)
  have HW : Hid (Q.weightsR N arcs idx = if (Q.graphR N arcs).2 = 0 then (if (idx.length : Int) > 16384 then ([], 2) else if Q.idxOk arcs idx = true then (idx.map (fun i => (arcs.getD i.toNat Q.z68).f2), 0) else ([], 5)) else ([], (Q.graphR N arcs).2)) := Lib.hid rfl
  have HGK : Hid ((Q.graphR N arcs).2 = 0 → arcs.length ≤ 8192) := Lib.hid (fun h => (Q.graphR_ok hf h).2.m)
  have HR := Lib.hid hr
  have HI := Lib.hid hi
  have c0 : (w.alloc (.cells #[.int .i64 N, .slice A arcs.length c] 24)).cell? ⟨w.heap.size, 0, none⟩ = some (.int .i64 N) := by simp
  have c1 : (w.alloc (.cells #[.int .i64 N, .slice A arcs.length c] 24)).cell? ⟨w.heap.size, 1, none⟩ = some (.slice A arcs.length c) := by simp
  have hs1 : w.heap.size < (w.alloc (.cells #[.int .i64 N, .slice A arcs.length c] 24)).heap.size := by simp
  clear hf hr hc hi
  generalize Q.weightsR N arcs idx = res at *
  obtain ⟨rl, re⟩ := res
  simp only at *
  generalize (Q.graphR N arcs).2 = ge at *
  generalize (Q.graphR N arcs).1 = gl at *
  go_enter Tryz.func12, Tryz.ntmps12
  go_upto_region 1 with fail
  generalize (w.alloc (.cells #[.int .i64 N, .slice A arcs.length c] 24)) = w1 at *
  have HB1 := Lib.hid hb1
  generalize hgx : w.heap.size = gx at *
  have HGX := Lib.hid hgx
  clear hb1 hgx
  go_upto_region 2 with (go_at_call 34; (with_reducible refine HG.out.mono ?_); rintro e w2 ⟨rfl, hb⟩; have HB := Lib.hid hb; clear hb)
  have d0 := (HB.out.cell (p := ⟨gx, 0, none⟩) hs1).trans c0
  have d1 := (HB.out.cell (p := ⟨gx, 1, none⟩) hs1).trans c1
  have HB2 := Lib.hid (HB1.out.trans (HB.out.mono (by omega)))
  have hs2 : gx < w2.heap.size := by have := HB.out.size; omega
  clear c0 c1 HG HB HB1
  by_cases hge : ge = 0
  · by_cases hbig : (idx.length : Int) > 16384
    · have hres := HW.out
      rw [if_pos hge, if_pos hbig] at hres
      simp only [Prod.mk.injEq] at hres
      obtain ⟨rfl, rfl⟩ := hres
      have hbig2 : (16384 : Int) < (idx.length : Int) := hbig
      go_wp2_with fail
      go_ret2
      have hgx := HGX.out
      subst hgx
      exact ⟨none, 0, rfl, World.ownsRow_nil _ _ _ _, HB2.out⟩
    · have hnb : ¬ (16384 : Int) < (idx.length : Int) := hbig
      have HM := Lib.hid (HGK.out hge)
      have HW2 : Hid ((rl, re) = if Q.idxOk arcs idx = true then (idx.map (fun i => (arcs.getD i.toNat Q.z68).f2), 0) else ([], 5)) := Lib.hid (by have h := HW.out; rw [if_pos hge, if_neg hbig] at h; exact h)
      have HIT := Lib.hid (Kd.C_below (Kd.C_below HI.out (by rw [HGX.out]; exact HB2.out)) (Below.refl w2.heap.size w2))
      have HAT := Lib.hid (Kd.C_below HR.out (by rw [HGX.out]; exact HB2.out : Below w.heap.size w w2))
      clear HW HI HR HGK
      have hil : idx.length ≤ 16384 := by omega
      have hmk := make_cap idx.length hil w2
      go_wp2_with fail
      go_loopg [8, 27] idx.length (fun gg s8 s27 wr => ∃ k : Nat, k ≤ idx.length ∧ idx.length - k ≤ gg ∧ s27 = .int .i64 k ∧ Hid (wr.ownsRow w2.heap.size 41 1 s8 (Q.wtTo arcs idx k).length ((Q.wtTo arcs idx k).map (Value.int .u32))) ∧ Hid (Q.idxOk arcs (idx.take k) = true) ∧ Hid (Below w2.heap.size w2 wr))
      case atStart => exact ⟨0, Nat.zero_le _, by omega, rfl, Lib.hid (own_made_of w2 idx.length hil), Lib.hid rfl, Lib.hid ((Below.refl _ w2).alloc (Nat.le_refl _) _)⟩
      case round =>
        obtain ⟨k, hk1, hgg, rfl, HO, HOK, HB⟩ := hrel
        by_cases hlt : k < idx.length
        · have hltz : (k : Int) < (idx.length : Int) := by omega
          have hwk : IntKind.i64.wrap ((k : Int) + 1) = ((k + 1 : Nat) : Int) := by rw [IntWalk.i64_in _ (by omega)]; omega
          obtain ⟨iad, rfl, x0⟩ := Q.int_cell (Kd.C_below HIT.out HB.out) k hlt
          have f0 := (HB.out.cell (p := ⟨gx, 0, none⟩) hs2).trans d0
          have f1 := (HB.out.cell (p := ⟨gx, 1, none⟩) hs2).trans d1
          have HNO : Hid (¬ (0 ≤ idx.getD k 0 ∧ idx.getD k 0 < (arcs.length : Int)) → Q.idxOk arcs idx = false) := Lib.hid (Q.idx_no hlt)
          have HST := Lib.hid (Q.wt_step arcs idx k hlt)
          have HOS : Hid (0 ≤ idx.getD k 0 ∧ idx.getD k 0 < (arcs.length : Int) → Q.idxOk arcs (idx.take (k + 1)) = true) := Lib.hid (Q.idx_yes hlt HOK.out)
          have hln := Q.wt_len arcs idx k
          generalize hii : idx.getD k 0 = i at *
          clear hii
          by_cases hneg : i < 0
          · have hres := HW2.out
            rw [HNO.out (by omega), if_neg (by simp)] at hres
            simp only [Prod.mk.injEq] at hres
            obtain ⟨rfl, rfl⟩ := hres
            go_wp2_with fail
            go_ret2
            have hgx := HGX.out
            subst hgx
            exact ⟨none, 0, rfl, World.ownsRow_nil _ _ _ _, HB2.out.trans (HB.out.mono (by omega))⟩
          · by_cases hbg : i < (arcs.length : Int)
            · obtain ⟨j, rfl⟩ : ∃ j : Nat, i = (j : Int) := ⟨i.toNat, (Int.toNat_of_nonneg (by omega)).symm⟩
              have hjl : j < arcs.length := by omega
              obtain ⟨ad, rfl, g0, g1, g2⟩ := arc_at (Kd.C_below HAT.out HB.out) j hjl
              have hst := HST.out
              rw [Int.toNat_natCast] at hst
              have HST2 := Lib.hid hst
              have HOK2 := Lib.hid (HOS.out ⟨by omega, hbg⟩)
              generalize (arcs.getD j Q.z68).f2 = wt at *
              generalize (arcs.getD j Q.z68).f1 = wt1 at *
              generalize (arcs.getD j Q.z68).f0 = wt0 at *
              clear hst HST HOS HNO g0 g1
              go_wp2_with (at_builtin; go_loud (refine wpList_append_own _ rfl _ _ 29 rfl w2.heap.size 41 i0 _ 1 4 Tryz.underlying29 hi0 hz0 hz1 hz2 rfl (by decide) _ _ _ rfl (HO.out.alloc _) ⟨wr.heap.size, 0, none⟩ 1 1 [.int .u32 wt] rfl rfl (cell_one_new _ _ _) (by intro q hq; simp at hq; subst hq; rfl) (by unfold maxLen; omega) (by omega) (by have := HB.out.size; simp; omega) ?_; intro v7 w7 ho7 hg7 hnil7; (have HO7 := Lib.hid ho7); (have HG7 := Lib.hid hg7); clear ho7 hg7 hnil7; go_frame))
              have HWK := Lib.hid hwk
              clear hwk
              go_roundg (idx.length - (k + 1))
              case measure => omega
              case rel =>
                refine ⟨k + 1, by omega, Nat.le_refl _, rfl, Lib.hid ?_, HOK2, Lib.hid (Below.grown (HB.out.alloc HB.out.size _) HG7.out (fun k hk => (HO.out.lt k hk).1) (by have := HB.out.size; simp; omega))⟩
                rw [HST2.out, List.map_append, List.length_append]
                exact HO7.out
            · have hres := HW2.out
              rw [HNO.out (by omega), if_neg (by simp)] at hres
              simp only [Prod.mk.injEq] at hres
              obtain ⟨rfl, rfl⟩ := hres
              have hge2 : ¬ i < (arcs.length : Int) := hbg
              go_wp2_with fail
              go_ret2
              have hgx := HGX.out
              subst hgx
              exact ⟨none, 0, rfl, World.ownsRow_nil _ _ _ _, HB2.out.trans (HB.out.mono (by omega))⟩
        · have hke : k = idx.length := by omega
          subst hke
          have hkz : ¬ (idx.length : Int) < (idx.length : Int) := by omega
          have hres := HW2.out
          have hok := HOK.out
          rw [List.take_of_length_le (Nat.le_refl _)] at hok
          rw [if_pos hok] at hres
          simp only [Prod.mk.injEq] at hres
          obtain ⟨hrl, rfl⟩ := hres
          have hO := HO.out
          have hwe : Q.wtTo arcs idx idx.length = idx.map (fun i => (arcs.getD i.toNat Q.z68).f2) := by unfold Q.wtTo; rw [List.take_of_length_le (Nat.le_refl _)]
          rw [hwe, ← hrl] at hO
          obtain ⟨P, cap, rfl⟩ := own_shape hO
          have HO2 := Lib.hid hO
          clear hO HO hwe hok HOK HW2 hrl
          go_wp2_with fail
          go_ret2
          have hgx := HGX.out
          subst hgx
          exact ⟨P, cap, rfl, own_lower HO2.out (Nat.le_of_lt hs2), HB2.out.trans (HB.out.mono (by omega))⟩
  · have hres := HW.out
    rw [if_neg hge] at hres
    simp only [Prod.mk.injEq] at hres
    obtain ⟨rfl, rfl⟩ := hres
    go_wp2_with fail
    go_ret2
    have hgx := HGX.out
    subst hgx
    exact ⟨none, 0, rfl, World.ownsRow_nil _ _ _ _, HB2.out⟩

end Go.Proofs.YtenbcfjfgbpinaaGreat

/- flyoverbook.KeptInts, SameGraph, KeptGraph. -/
namespace Go.Proofs.YtenbcfjfgbpinaaGreat
open Go.RowKit Go.Lib Go.Sort Go.Proofs.YtenbcfjfgbpinaaGreatW.PrintWords Go.Proofs.YtenbcfjfgbpinaaGreatW.PrintLast Go.Proofs.YtenbcfjfgbpinaaGreatW.PrintMore
set_option linter.unusedVariables false
set_option maxRecDepth 100000

/-- Numbers that are lent, read: behind them lies the mark. -/
def LentI2 (w : World) (l : List Int) (A : Option Addr) (cap : Nat) : Prop := l.length + 1 ≤ cap ∧ Kd.C (Kd.int .i64) w A (l ++ [-77]).length (l ++ [-77])
theorem int_prefix {w : World} {A : Option Addr} {xs ys : List Int} (h : Kd.C (Kd.int .i64) w A (xs ++ ys).length (xs ++ ys)) : Kd.C (Kd.int .i64) w A xs.length xs := C_prefix h

set_option maxHeartbeats 2000000 in
theorem keptInts_any (A B : Option Addr) (cap d : Nat) (l : List Int) (w : World) (ha : LentI2 w l A cap) (hb : Kd.C (Kd.int .i64) w B l.length l) (hl : l.length ≤ 17592186044000) :
    Calls Tryz.prog 16 #[.slice A l.length cap, .slice B l.length d] w fun e w' => e = .returned (.bool true) ∧ Below w.heap.size w w' := by
  obtain ⟨hcap, hA⟩ := ha
  have HS := Lib.hid (sameInts_any A B cap d l w (int_prefix hA) hb (by omega))
  obtain ⟨aa, rfl, x0⟩ := Q.int_cell hA l.length (by simp)
  have hx : (l ++ [-77]).getD l.length 0 = -77 := by simp
  rw [hx] at x0
  have hwk : IntKind.i64.wrap ((l.length : Int) + 1) = ((l.length + 1 : Nat) : Int) := by rw [IntWalk.i64_in _ (by omega)]; omega
  have hlz : (l.length : Int) < ((l.length + 1 : Nat) : Int) := by omega
  clear hb hx hA
  go_enter Tryz.func16, Tryz.ntmps16
  go_wp2_with (go_at_call 37; (with_reducible refine HS.out.mono ?_); rintro e w2 ⟨rfl, hb⟩; have HB := Lib.hid hb; have y0 := (hb.cell (World.block_lt_of_cell? w _ x0)).trans x0; clear hb)
  go_ret
  exact ⟨rfl, HB.out⟩

theorem eqIn_arc (a b c d e f : Int) (w : World) : (Op.equalIn 10000 68 (.agg #[.int .i64 a, .int .i64 b, .int .u32 c]) (.agg #[.int .i64 d, .int .i64 e, .int .u32 f])).run Tryz.prog w = .ok (a == d && (b == e && c == f)) w := by
  have u3 := Tryz.underlying3
  have a3 := Tryz.isAgg3
  have z3 := Tryz.sizeOf3
  have u4 := Tryz.underlying41
  have a4 := Tryz.isAgg41
  have z4 := Tryz.sizeOf41
  have hS : Tryz.prog.underlying 68 = some (.struct (Tryz.prog.fieldsOf 68)) := by kernel_rfl
  have hp : Tryz.prog.stoodInHeld 68 = false := by kernel_rfl
  rw [show (10000 : Nat) = 9999 + 1 from rfl, run_equalIn_agg w 9999 68 _ _ hS hp]
  simp only [Program.fieldsOf, Tryz.underlying68]
  go_simp
  by_cases h1 : a = d <;> by_cases h2 : b = e <;> by_cases h3 : c = f <;> simp [h1, h2, h3]
theorem neq_arc (a b c : Int) (w : World) : (binOp .neq 68 (.agg #[.int .i64 a, .int .i64 b, .int .u32 c]) (.agg #[.int .i64 a, .int .i64 b, .int .u32 c])).run Tryz.prog w = .ok (.bool false) w := by
  rw [run_neq_struct, eqIn_arc]; simp
theorem guard_arc (op : BinOp) (x y : Operand) (xs ys : Array Value) (w : World) : (eqGuard op 68 x y (.agg xs) (.agg ys)).run Tryz.prog w = .ok () w := run_eqGuard_agg (P := Tryz.prog) w op 68 x y xs ys (by kernel_rfl)

set_option maxHeartbeats 2000000 in
theorem sameGraph_any (N : Int) (A B : Option Addr) (c d : Nat) (l : List Q.S68) (w : World) (ha : Kd.C Q.k68 w A l.length l) (hb : Kd.C Q.k68 w B l.length l) (hl : l.length ≤ 17592186044000) :
    Calls Tryz.prog 36 #[.agg #[.int .i64 N, .slice A l.length c], .agg #[.int .i64 N, .slice B l.length d]] w fun e w' => e = .returned (.bool true) ∧ Below w.heap.size w w' := by
  obtain ⟨c0, c1, n0, n1, hsz, hb1⟩ := two_boxes w (.int .i64 N) (.slice A l.length c) (.int .i64 N) (.slice B l.length d) 24 24
  have HA := Lib.hid (Kd.C_below ha hb1)
  have HB := Lib.hid (Kd.C_below hb hb1)
  clear ha hb
  go_enter Tryz.func36, Tryz.ntmps36
  go_upto_region 1 with fail
  generalize ((w.alloc (.cells #[.int .i64 N, .slice A l.length c] 24)).alloc (.cells #[.int .i64 N, .slice B l.length d] 24)) = w1 at *
  have HB1 := Lib.hid hb1
  have hs1 : w.heap.size + 2 ≤ w1.heap.size := by omega
  generalize hgx : w.heap.size = gx at *
  have HGX := Lib.hid hgx
  clear hb1 hsz hgx
  go_wp2_with fail
  go_loopg [5] l.length (fun gg s5 wr => ∃ i : Nat, i ≤ l.length ∧ l.length - i ≤ gg ∧ s5 = .int .i64 i ∧ Hid (Below w1.heap.size w1 wr))
  case atStart => exact ⟨0, Nat.zero_le _, by omega, rfl, Lib.hid (Below.refl _ _)⟩
  case round =>
    obtain ⟨i, hi1, hgg, rfl, HBL⟩ := hrel
    have e0 := (HBL.out.cell (p := ⟨gx, 1, none⟩) (by show gx < w1.heap.size; omega)).trans c1
    have e1 := (HBL.out.cell (p := ⟨gx + 1, 1, none⟩) (by show gx + 1 < w1.heap.size; omega)).trans n1
    by_cases hlt : i < l.length
    · have hltz : (i : Int) < (l.length : Int) := by omega
      have hwk : IntKind.i64.wrap ((i : Int) + 1) = ((i + 1 : Nat) : Int) := by rw [IntWalk.i64_in _ (by omega)]; omega
      obtain ⟨aa, rfl, x0, x1, x2⟩ := arc_at (Kd.C_below HA.out HBL.out) i hlt
      obtain ⟨bb, rfl, y0, y1, y2⟩ := arc_at (Kd.C_below HB.out HBL.out) i hlt
      generalize (l.getD i Q.z68).f0 = q0 at *
      generalize (l.getD i Q.z68).f1 = q1 at *
      generalize (l.getD i Q.z68).f2 = q2 at *
      have hq1 := neq_arc q0 q1 q2
      have hq2 := guard_arc
      go_wp2_with fail
      go_cut [37] (fun s37 wx => s37 = .bool false ∧ Hid (Below w1.heap.size w1 wx))
      case first =>
        have de0 : wr.drew.cell? ⟨gx, 1, none⟩ = some (.slice (some aa) l.length c) := e0
        have de1 : wr.drew.cell? ⟨gx + 1, 1, none⟩ = some (.slice (some bb) l.length d) := e1
        go_region
        all_goals
          go_wp2_with fail
          go_meet
          exact ⟨rfl, Lib.hid HBL.out.drew⟩
      case rest =>
        obtain ⟨rfl, HBL2⟩ := hcut
        clear x0 y0 x1 y1 x2 y2 e0 e1
        go_wp2_with fail
        have HWK := Lib.hid hwk
        clear hwk
        go_roundg (l.length - (i + 1))
        case measure => omega
        case rel => exact ⟨i + 1, by omega, Nat.le_refl _, rfl, HBL2⟩
    · have : i = l.length := by omega
      subst this
      have hkz : ¬ (l.length : Int) < (l.length : Int) := by omega
      go_wp2_with fail
      go_ret
      have hgx := HGX.out
      subst hgx
      exact ⟨rfl, HB1.out.trans (HBL.out.mono (by omega))⟩

end Go.Proofs.YtenbcfjfgbpinaaGreat

/- flyoverbook.KeptGraph. -/
namespace Go.Proofs.YtenbcfjfgbpinaaGreat
open Go.RowKit Go.Lib Go.Sort Go.Proofs.YtenbcfjfgbpinaaGreatW.PrintWords Go.Proofs.YtenbcfjfgbpinaaGreatW.PrintLast Go.Proofs.YtenbcfjfgbpinaaGreatW.PrintMore
set_option linter.unusedVariables false
set_option maxRecDepth 100000

set_option maxHeartbeats 2000000 in
theorem keptGraph_any (N : Int) (A B : Option Addr) (cap d : Nat) (l : List Q.S68) (w : World) (hcap : l.length + 1 ≤ cap) (ha : Kd.C Q.k68 w A (l ++ [m68]).length (l ++ [m68])) (hb : Kd.C Q.k68 w B l.length l) (hl : l.length ≤ 5864062014640) :
    Calls Tryz.prog 15 #[.agg #[.int .i64 N, .slice A l.length cap], .agg #[.int .i64 N, .slice B l.length d]] w fun e w' => e = .returned (.bool true) ∧ Below w.heap.size w w' := by
  obtain ⟨c0, c1, n0, n1, hsz, hb1⟩ := two_boxes w (.int .i64 N) (.slice A l.length cap) (.int .i64 N) (.slice B l.length d) 24 24
  have HS : Hid (∀ wx : World, Below w.heap.size w wx → Calls Tryz.prog 36 #[.agg #[.int .i64 N, .slice A l.length cap], .agg #[.int .i64 N, .slice B l.length d]] wx fun e w' => e = .returned (.bool true) ∧ Below wx.heap.size wx w') :=
    Lib.hid (fun wx h => sameGraph_any N A B cap d l wx (C_prefix (Kd.C_below ha h)) (Kd.C_below hb h) (by omega))
  obtain ⟨aa, rfl, x0, _, _⟩ := arc_at (Kd.C_below ha hb1) l.length (by simp)
  have hx : (l ++ [m68]).getD l.length Q.z68 = m68 := by simp
  rw [hx] at x0
  have hwk : IntKind.i64.wrap ((l.length : Int) + 1) = ((l.length + 1 : Nat) : Int) := by rw [IntWalk.i64_in _ (by omega)]; omega
  have hlz : (l.length : Int) < ((l.length + 1 : Nat) : Int) := by omega
  have hl0 : (0 : Int) ≤ (l.length : Int) := by omega
  have hm0 : (0 : Int) ≤ ((l.length + 1 : Nat) : Int) := by omega
  have hm1 : ((l.length + 1 : Nat) : Int) ≤ (cap : Int) := by omega
  generalize hmm : l.length + 1 = m at *
  have hmt : ((m : Nat) : Int).toNat = m := Int.toNat_natCast m
  have HMM := Lib.hid hmm
  clear hmm hx ha hb
  go_enter Tryz.func15, Tryz.ntmps15
  go_upto_region 1 with fail
  generalize ((w.alloc (.cells #[.int .i64 N, .slice (some aa) l.length cap] 24)).alloc (.cells #[.int .i64 N, .slice B l.length d] 24)) = w1 at *
  have HB1 := Lib.hid hb1
  have hs1 : w.heap.size + 2 ≤ w1.heap.size := by omega
  generalize hgx : w.heap.size = gx at *
  have HGX := Lib.hid hgx
  clear hb1 hsz hgx
  have x0' : w1.cell? (aa.add (l.length * 3)) = some (.int .i64 (-77)) := x0
  clear x0
  go_region_held3 (fun w' => w'.cell? ⟨gx, 0, none⟩ = some (.int .i64 N) ∧ w'.cell? ⟨gx, 1, none⟩ = some (.slice (some aa) l.length cap) ∧ w'.cell? ⟨gx + 1, 0, none⟩ = some (.int .i64 N) ∧ w'.cell? ⟨gx + 1, 1, none⟩ = some (.slice B l.length d) ∧ w'.cell? (aa.add (l.length * 3)) = some (.int .i64 (-77))) (first | (refine ⟨?_, ?_, ?_, ?_, ?_⟩ <;> (repeat (first | assumption | (simp; done) | (simp [*]; done) | rw [drew_cell_all]))) | (go_keep; done))
    (first | (go_at_call 36; (with_reducible refine (HS.out _ ?hra).mono ?_); (case hra => exact (HB1.out.drew)); rintro e wF ⟨rfl, hbF⟩; have f0 := (hbF.cell (p := ⟨gx, 0, none⟩) (by show gx < w1.heap.size; omega)).trans c0; have f1 := (hbF.cell (p := ⟨gx, 1, none⟩) (by show gx < w1.heap.size; omega)).trans c1; have f2 := (hbF.cell (p := ⟨gx + 1, 0, none⟩) (by show gx + 1 < w1.heap.size; omega)).trans n0; have f3 := (hbF.cell (p := ⟨gx + 1, 1, none⟩) (by show gx + 1 < w1.heap.size; omega)).trans n1; have f4 := (hbF.cell (p := aa.add (l.length * 3)) (World.block_lt_of_cell? w1 _ x0')).trans x0'))
  all_goals
    go_wp2_with fail
    go_ret
    have hgx := HGX.out
    subst hgx
    exact ⟨rfl, (HB1.out.drew).trans (hbF.mono (by simp; omega))⟩

end Go.Proofs.YtenbcfjfgbpinaaGreat

/- CliqueWeighs: the law's walk. -/
namespace Go.Proofs.YtenbcfjfgbpinaaGreat
open Go.RowKit Go.Lib Go.Sort Go.Proofs.YtenbcfjfgbpinaaGreatW.PrintWords Go.Proofs.YtenbcfjfgbpinaaGreatW.PrintLast Go.Proofs.YtenbcfjfgbpinaaGreatW.PrintMore
set_option linter.unusedVariables false
set_option maxRecDepth 100000

theorem lent_read {w : World} {B : Nat} {l : List Int} {v : Value} (h : LentI w B l v) : ∃ A cap, v = .slice A l.length cap ∧ LentI2 w l A cap := by
  obtain ⟨g, cap, rfl, hcap, ho⟩ := h
  refine ⟨_, cap, rfl, hcap, ?_⟩
  have e : l.length + 1 = (l ++ [-77]).length := by simp
  have ho2 : w.ownsRow B 3 1 (.slice (some ⟨g, 0, none⟩) (l ++ [-77]).length cap) (l ++ [-77]).length (encs (Value.int .i64) (l ++ [-77])) := by rw [← e]; exact ho
  exact (Kd.R_reads' (Kd.R_of_own (enc := Value.int .i64) (ok := fun _ => True) ho2 (fun _ _ => trivial))).2.2

set_option maxHeartbeats 4000000 in
theorem weighs_any (N : Int) (arcs : List Q.S68) (A : Option Addr) (c : Nat) (IA : Option Addr) (ic : Nat) (idx : List Int) (w : World) (hf : Q.ArcsFit arcs) (hr : Kd.C Q.k68 w A arcs.length arcs) (hc : arcs.length ≤ c) (hi : Kd.C (Kd.int .i64) w IA idx.length idx) (hic : idx.length ≤ ic) (hl : arcs.length ≤ 5864062014640) (hl2 : idx.length ≤ 17592186044000) :
    Calls Tryz.prog 4 #[.agg #[.int .i64 N, .slice A arcs.length c], .slice IA idx.length ic] w fun e w' => e = .returned (.bool true) ∧ Below w.heap.size w w' := by
  have hb1 : Below w.heap.size w (w.alloc (.cells #[.int .i64 N, .slice A arcs.length c] 24)) := (Below.refl _ w).alloc (Nat.le_refl _) _
  have c0 : (w.alloc (.cells #[.int .i64 N, .slice A arcs.length c] 24)).cell? ⟨w.heap.size, 0, none⟩ = some (.int .i64 N) := by simp
  have c1 : (w.alloc (.cells #[.int .i64 N, .slice A arcs.length c] 24)).cell? ⟨w.heap.size, 1, none⟩ = some (.slice A arcs.length c) := by simp
  have hs1 : w.heap.size < (w.alloc (.cells #[.int .i64 N, .slice A arcs.length c] 24)).heap.size := by simp
  have HR : Hid (∀ wx : World, Below w.heap.size w wx → Kd.C Q.k68 wx A arcs.length arcs) := Lib.hid (fun wx h => Kd.C_below hr h)
  have HI : Hid (∀ wx : World, Below w.heap.size w wx → Kd.C (Kd.int .i64) wx IA idx.length idx) := Lib.hid (fun wx h => Kd.C_below hi h)
  have HF := Lib.hid hf
  have HC := Lib.hid hc
  have HIC := Lib.hid hic
  clear hf hr hi hc hic
  go_enter Tryz.func4, Tryz.ntmps4
  go_upto_region 1 with fail
  generalize (w.alloc (.cells #[.int .i64 N, .slice A arcs.length c] 24)) = w1 at *
  have HB1 := Lib.hid hb1
  generalize hgx : w.heap.size = gx at *
  have HGX := Lib.hid hgx
  clear hb1 hgx
  go_upto_region 2 with (first
    | (go_at_call 10; go_loud ((with_reducible refine (lendGraph_any N A c arcs w1 (HR.out _ HB1.out) hl).mono ?_); rintro e w2 ⟨v, rfl, ⟨A', cap', rfl, hcap', hC'⟩, hb2⟩; have HB2 := Lib.hid hb2; have HLG := Lib.hid hC'; have HCP := Lib.hid hcap'; clear hb2 hC' hcap'))
    | (go_at_call 11; go_loud ((with_reducible refine (lendInts_any IA ic idx w2 (HI.out _ (HB1.out.trans (HB2.out.mono (by omega)))) hl2).mono ?_); rintro e w3 ⟨v, rfl, hv, hb3⟩; obtain ⟨IA', icap', rfl, hli⟩ := lent_read hv; have HB3 := Lib.hid hb3; have HLI := Lib.hid hli; clear hb3 hv hli)))
  have sz2 := HB2.out.size
  have sz3 := HB3.out.size
  have hb4 : Below w3.heap.size w3 (w3.alloc (.cells #[.int .i64 N, .slice A' arcs.length cap'] 24)) := (Below.refl _ w3).alloc (Nat.le_refl _) _
  have d0 : (w3.alloc (.cells #[.int .i64 N, .slice A' arcs.length cap'] 24)).cell? ⟨gx, 0, none⟩ = some (.int .i64 N) := (hb4.cell (p := ⟨gx, 0, none⟩) (by show gx < w3.heap.size; omega)).trans ((HB3.out.cell (p := ⟨gx, 0, none⟩) (by show gx < w2.heap.size; omega)).trans ((HB2.out.cell (p := ⟨gx, 0, none⟩) hs1).trans c0))
  have d1 : (w3.alloc (.cells #[.int .i64 N, .slice A' arcs.length cap'] 24)).cell? ⟨gx, 1, none⟩ = some (.slice A arcs.length c) := (hb4.cell (p := ⟨gx, 1, none⟩) (by show gx < w3.heap.size; omega)).trans ((HB3.out.cell (p := ⟨gx, 1, none⟩) (by show gx < w2.heap.size; omega)).trans ((HB2.out.cell (p := ⟨gx, 1, none⟩) hs1).trans c1))
  have e0 : (w3.alloc (.cells #[.int .i64 N, .slice A' arcs.length cap'] 24)).cell? ⟨w3.heap.size, 0, none⟩ = some (.int .i64 N) := by simp
  have e1 : (w3.alloc (.cells #[.int .i64 N, .slice A' arcs.length cap'] 24)).cell? ⟨w3.heap.size, 1, none⟩ = some (.slice A' arcs.length cap') := by simp
  have hs4 : w3.heap.size < (w3.alloc (.cells #[.int .i64 N, .slice A' arcs.length cap'] 24)).heap.size := by simp
  have HLG4 := Lib.hid (Kd.C_below (Kd.C_below HLG.out HB3.out) hb4)
  have HLI4 := Lib.hid (Kd.C_below HLI.out.2 hb4)
  have HIP := Lib.hid HLI.out.1
  have HB4 := Lib.hid ((HB1.out.trans (HB2.out.mono (by omega))).trans ((HB3.out.mono (by omega)).trans (hb4.mono (by omega))))
  clear hb4 c0 c1 HLG HLI HB1 HB2 HB3
  generalize (w3.alloc (.cells #[.int .i64 N, .slice A' arcs.length cap'] 24)) = w4 at *
  generalize hg3 : w3.heap.size = g3 at *
  have hg3x : gx < g3 := by omega
  clear sz2 sz3 hg3
  have HW5 := Lib.hid (weights_any N arcs A' cap' IA' icap' idx w4 HF.out (C_prefix HLG4.out) (by have := HCP.out; omega) (int_prefix HLI4.out))
  obtain ⟨kf, hkf⟩ := Q.refw_f N arcs idx HF.out
  have HW6 : Hid (∀ wx : World, Below gx w wx → Calls Tryz.prog 13 #[.agg #[.int .i64 N, .slice A arcs.length c], .slice IA idx.length ic] wx fun e w' => ∃ v0_ : Value, e = .returned (.tuple #[v0_, .int .i64 (Q.weightsR N arcs idx).2]) ∧ Kd.R (Kd.int .u32) 41 w' wx.heap.size (fun _ => True) v0_ (Q.weightsR N arcs idx).1 ∧ Below wx.heap.size wx w') :=
    Lib.hid (fun wx h => Q.flyoverref13_Weights.calls kf N A c arcs IA ic idx _ _ wx (HR.out wx h) HC.out (HI.out wx h) HIC.out hkf)
  have hrl := Q.weightsR_len N arcs idx
  clear hkf
  generalize (Q.weightsR N arcs idx).1 = rl at *
  generalize (Q.weightsR N arcs idx).2 = re at *
  go_upto_region 3 with (go_at_call 12; go_loud ((with_reducible refine HW5.out.mono ?_); rintro e w5 ⟨P, pc, rfl, hO, hb⟩; have HB5 := Lib.hid hb; have HO5 := Lib.hid hO; have f0 := (hb.cell (p := ⟨gx, 0, none⟩) (by show gx < w4.heap.size; omega)).trans d0; have f1 := (hb.cell (p := ⟨gx, 1, none⟩) (by show gx < w4.heap.size; omega)).trans d1; clear hb hO))
  have HB5B := Lib.hid (HB4.out.trans (HB5.out.mono (by omega)))
  have sz5 := HB5.out.size
  have g0 := (HB5.out.cell (p := ⟨g3, 0, none⟩) (by show g3 < w4.heap.size; omega)).trans e0
  have g1 := (HB5.out.cell (p := ⟨g3, 1, none⟩) (by show g3 < w4.heap.size; omega)).trans e1
  have HLG5 := Lib.hid (Kd.C_below HLG4.out HB5.out)
  have HLI5 := Lib.hid (Kd.C_below HLI4.out HB5.out)
  clear d0 d1 e0 e1 HW5 HLG4 HLI4
  go_upto_region 4 with (go_at_call 13; go_loud ((with_reducible refine (HW6.out _ HB5B.out).mono ?_); rintro e w6 ⟨v0, rfl, hR, hb⟩; obtain ⟨VB, vcb, rfl⟩ := Kd.R_slice hR; have HB6 := Lib.hid hb; have HR6 := Lib.hid hR; have h0 := (hb.cell (p := ⟨gx, 0, none⟩) (by show gx < w5.heap.size; omega)).trans f0; have h1 := (hb.cell (p := ⟨gx, 1, none⟩) (by show gx < w5.heap.size; omega)).trans f1; clear hb hR))
  have sz6 := HB6.out.size
  have HB6B := Lib.hid (HB5B.out.trans (HB6.out.mono (by omega)))
  have k0 := (HB6.out.cell (p := ⟨g3, 0, none⟩) (by show g3 < w5.heap.size; omega)).trans g0
  have k1 := (HB6.out.cell (p := ⟨g3, 1, none⟩) (by show g3 < w5.heap.size; omega)).trans g1
  have HLG6 := Lib.hid (Kd.C_below HLG5.out HB6.out)
  have HLI6 := Lib.hid (Kd.C_below HLI5.out HB6.out)
  have HPC : Hid (rl.length ≤ pc ∧ rl.length ≤ vcb ∧ Kd.C (Kd.int .u32) w6 P rl.length rl ∧ Kd.C (Kd.int .u32) w6 VB rl.length rl) := by
    have h3 : Kd.R (Kd.int .u32) 41 w5 w4.heap.size (fun _ => True) (.slice P rl.length pc) rl := Kd.R_of_own (enc := Value.int .u32) (ok := fun _ => True) HO5.out (fun _ _ => trivial)
    have h1 := Kd.R_reads' h3
    have h2 := Kd.R_reads' HR6.out
    exact Lib.hid ⟨h1.2.1, h2.2.1, Kd.C_below h1.2.2 HB6.out, h2.2.2⟩
  have HSW := Lib.hid (Q.flyoverbook_SameWeights.calls (rl.length + 1) P pc rl VB vcb rl true w6 HPC.out.2.2.1 HPC.out.1 HPC.out.2.2.2 HPC.out.2.1 (Q.same_f rl hrl))
  have HKG : Hid (∀ wx : World, Below w6.heap.size w6 wx → Calls Tryz.prog 15 #[.agg #[.int .i64 N, .slice A' arcs.length cap'], .agg #[.int .i64 N, .slice A arcs.length c]] wx fun e w' => e = .returned (.bool true) ∧ Below wx.heap.size wx w') :=
    Lib.hid (fun wx h => keptGraph_any N A' A cap' c arcs wx HCP.out (Kd.C_below HLG6.out h) (HR.out wx (HB6B.out.trans (h.mono (by omega)))) hl)
  have HKI : Hid (∀ wx : World, Below w6.heap.size w6 wx → Calls Tryz.prog 16 #[.slice IA' idx.length icap', .slice IA idx.length ic] wx fun e w' => e = .returned (.bool true) ∧ Below wx.heap.size wx w') :=
    Lib.hid (fun wx h => keptInts_any IA' IA icap' ic idx wx ⟨HIP.out, Kd.C_below HLI6.out h⟩ (HI.out wx (HB6B.out.trans (h.mono (by omega)))) hl2)
  have HWK1 : Hid (∀ wx : World, Calls Tryz.prog 7 #[] wx fun e w' => e = .returned (.bool true) ∧ Below wx.heap.size wx w') := Lib.hid (fun wx => Q.flyoverlaw13_works.calls 9 true wx Q.works_f)
  clear f0 f1 g0 g1 HW6 HLG5 HLI5 HLG6 HLI6 HO5 HR6 HPC
  go_wp2_with (first
    | (go_at_call 14; go_loud ((with_reducible refine HSW.out.mono ?_); rintro e w7 ⟨rfl, nd, rfl⟩; have hb7 : Below w6.heap.size w6 (w6.drewN nd) := Below.drewN_ (Below.refl _ _) nd; have HB7 := Lib.hid hb7; have q0 := (hb7.cell (p := ⟨gx, 0, none⟩) (by show gx < w6.heap.size; omega)).trans h0; have q1 := (hb7.cell (p := ⟨gx, 1, none⟩) (by show gx < w6.heap.size; omega)).trans h1; have q2 := (hb7.cell (p := ⟨g3, 0, none⟩) (by show g3 < w6.heap.size; omega)).trans k0; have q3 := (hb7.cell (p := ⟨g3, 1, none⟩) (by show g3 < w6.heap.size; omega)).trans k1; clear hb7))
    | (go_at_call 15; go_loud ((with_reducible refine (HKG.out _ HB7.out).mono ?_); rintro e w8 ⟨rfl, hb8⟩; have HB8 := Lib.hid (HB7.out.trans (hb8.mono (by simp))); clear hb8))
    | (go_at_call 16; go_loud ((with_reducible refine (HKI.out _ HB8.out).mono ?_); rintro e w9 ⟨rfl, hb9⟩; have HB9 := Lib.hid (HB8.out.trans (hb9.mono (by have := HB8.out.size; omega))); clear hb9))
    | (go_at_call 7; go_loud ((with_reducible refine (HWK1.out _).mono ?_); rintro e w10 ⟨rfl, hb10⟩; have HB10 := Lib.hid (HB9.out.trans (hb10.mono (by have := HB9.out.size; omega))); clear hb10)))
  go_ret
  have hgx := HGX.out
  subst hgx
  exact ⟨rfl, HB6B.out.trans (HB10.out.mono (by omega))⟩

end Go.Proofs.YtenbcfjfgbpinaaGreat

/- What rows of this seat open: graphs, nests, numbers. -/
namespace Go.Proofs.YtenbcfjfgbpinaaGreat
open Go.ChangeShapes Go.WideShapes Go.ChangeAt Go.RowKit Go.Proofs.YtenbcfjfgbpinaaGreatW.PrintWords Go.Proofs.YtenbcfjfgbpinaaGreatW.PrintLast
open Go.ChangeMaps (open_string shut_string)
set_option linter.unusedVariables false

theorem own13h : ownKnob Tryz.prog.godebug = none := by kernel_rfl
theorem laidOut13h : laidOutB Tryz.prog = true := by kernel_rfl

/-- A list of what each index has. -/
theorem list_of_each {α : Type} {P : Nat → α → Prop} (n : Nat) (d : α) (h : ∀ i, i < n → ∃ x, P i x) : ∃ xs : List α, xs.length = n ∧ ∀ i, i < xs.length → P i (xs.getD i d) := by
  induction n with
  | zero => exact ⟨[], rfl, fun i hi => absurd hi (Nat.not_lt_zero _)⟩
  | succ n ih =>
    obtain ⟨xs, hl, hx⟩ := ih (fun i hi => h i (by omega))
    obtain ⟨x, hp⟩ := h n (by omega)
    refine ⟨xs ++ [x], by simp [hl], fun i hi => ?_⟩
    by_cases hi2 : i < xs.length
    · have := hx i hi2
      rw [List.getD_eq_getElem?_getD, List.getElem?_append_left hi2, ← List.getD_eq_getElem?_getD]
      exact this
    · simp only [List.length_append, List.length_singleton] at hi
      obtain rfl : i = n := by omega
      rw [List.getD_eq_getElem?_getD, List.getElem?_append_right (by omega), hl]
      simpa using hp

section
variable {H : Type} {enc : TypeId × Value → H} {W : World} {base n : Nat} {sp : Nat → Bool} {held : Bool}
theorem fields_of {t e : TypeId} {P : Program} {fs : Array Field} {fuel : Nat} {cs : List Value} {x : DataW H × List MemPlace} (ht : P.underlying t = some (.slice e)) (he : P.underlying e = some (.struct fs))
    (hone : Go.Deep.oneCellFields P fs = true) (hC : P.cellsOf e = fs.size) (h : DataW.trod enc P W base sp held fuel t cs = some x) :
    (cs = [.slice none 0 0] ∧ x = (.nil, [])) ∨
    ∃ (a : Addr) (len cap m : Nat) (D : Nat → DataW H) (Pl : Nat → List MemPlace), cs = [.slice (some a) len cap] ∧ base ≤ a.block ∧ len ≤ cap ∧ cap ≤ maxLen ∧ m = (if sp a.block then cap else len) ∧
      x = (.slice ((List.range len).map D) ((List.range (m - len)).map fun j => D (len + j)), MemPlace.row a (m * fs.size) ++ (List.range m).flatMap Pl) ∧
      ∀ i, i < m → ∃ (ys : List (DataW H × List MemPlace)) (n : Nat), D i = .agg (ys.map (·.1)) ∧ Pl i = ys.flatMap (·.2) ∧ ys.length = fs.size ∧
        ∀ (j : Nat) (f : Field), fs[j]? = some f → ∃ (v : Value) (y : DataW H × List MemPlace), W.cell? (a.add (i * fs.size + j)) = some v ∧ ys[j]? = some y ∧ DataW.trod enc P W base sp held n f.type [v] = some y := by
  rcases Go.Deep.open_slice ht h with h0 | ⟨a, len, cap, m, n, D, Pl, hcs, hb, hl, hm, hmm, hx, hi⟩
  · exact .inl h0
  · refine .inr ⟨a, len, cap, m, D, Pl, hcs, hb, hl, hm, hmm, by rw [hC] at hx; exact hx, fun i him => ?_⟩
    obtain ⟨cs', hc, ht'⟩ := hi i him
    rw [hC] at hc
    obtain ⟨ys, n', hn', hy, hlen, hyl, hf⟩ := DataW.trod_struct he ht'
    obtain ⟨_, hcl, hat⟩ := World.cells?_some hc
    simp only [Prod.mk.injEq] at hy
    refine ⟨ys, n', hy.1, hy.2, hyl, fun j f hj => ?_⟩
    obtain ⟨ho, hk⟩ := Go.Deep.hone_of hone j f hj
    have hjl : j < fs.size := (Array.getElem?_eq_some_iff.1 hj).1
    have hcell := hat j hjl
    have hv : cs'[j]? = some (cs'[j]'(by omega)) := List.getElem?_eq_getElem (by omega)
    have h1 := hf j f hj
    rw [ho, hk] at h1
    have hone' : (cs'.drop j).take 1 = [cs'[j]'(by omega)] := by
      rw [List.drop_eq_getElem_cons (by omega)]
      rfl
    rw [hone'] at h1
    have hys : ys[j]? = some (ys[j]'(by omega)) := List.getElem?_eq_getElem (by omega)
    refine ⟨_, _, ?_, hys, h1.trans hys⟩
    rw [← Go.Deep.add_add, hcell, hv]

/-- Numbers that an argument has. -/
theorem ints_of {k : IntKind} {t e : TypeId} {v : Value} {y : DataW H × List MemPlace} (ht : Tryz.prog.underlying t = some (.slice e)) (he : Tryz.prog.underlying e = some (.int k)) (hc : Tryz.prog.cellsOf e = 1) (h : DataW.trod enc Tryz.prog W base (fun _ => true) held n t [v] = some y) :
    ∃ (A : Option Addr) (c : Nat) (l : List Int), v = .slice A l.length c ∧ l.length ≤ c ∧ Kd.C (Kd.int k) W A l.length l ∧ ∀ x ∈ l, (Lit.int k x).wf = true := by
  rcases open_ints ht he hc h with ⟨hcs, _⟩ | ⟨x, l, c, zs, hcs, _, hl, hm, hz, _, hcell, hwz⟩
  · simp at hcs
    subst hcs
    exact ⟨none, 0, [], rfl, Nat.le_refl _, ⟨rfl, by simp, fun h => by simp at h⟩, fun x hx => by cases hx⟩
  · simp at hcs
    subst hcs
    simp only [if_true] at hz
    have hlen : (zs.take l).length = l := by rw [List.length_take]; omega
    refine ⟨some x, c, zs.take l, by rw [hlen], by omega, ⟨rfl, by rw [hlen]; unfold maxLen at hm; omega, fun _ => ⟨x, rfl, fun j p hj => ?_⟩⟩, fun z hz2 => hwz z (List.mem_of_mem_take hz2)⟩
    have hjl : j < l := by
      rcases Nat.lt_or_ge j (zs.take l).length with h' | h'
      · rw [hlen] at h'; exact h'
      · rw [List.getElem?_eq_none h'] at hj; cases hj
    refine ⟨[.int k p], rfl, rfl, fun i u hu => ?_⟩
    match i, hu with
    | 0, hu =>
      simp at hu
      subst hu
      rw [Nat.add_zero, show (Kd.int k).sz = 1 from rfl, Nat.mul_one, hcell j (by omega)]
      rw [List.getElem?_take, if_pos hjl] at hj
      rw [List.getD_eq_getElem?_getD, hj]
      rfl

theorem arcs_of {v : Value} {y : DataW H × List MemPlace} (h : DataW.trod enc Tryz.prog W base (fun _ => true) held n 22 [v] = some y) :
    ∃ (A : Option Addr) (c : Nat) (l : List Q.S68), v = .slice A l.length c ∧ l.length ≤ c ∧ Kd.C Q.k68 W A l.length l ∧ Q.ArcsFit l := by
  rcases fields_of Tryz.underlying22 Tryz.underlying68 (by kernel_rfl) (by kernel_rfl) h with ⟨hcs, _⟩ | ⟨a, len, cap, m, D, Pl, hcs, _, hl, hm, hmm, hx, hi⟩
  · simp at hcs
    subst hcs
    exact ⟨none, 0, [], rfl, Nat.le_refl _, arcs_C_nil _ _, fun a ha => by cases ha⟩
  · simp at hcs
    subst hcs
    simp only [if_true] at hmm
    subst hmm
    have each : ∀ i, i < len → ∃ x : Q.S68, (W.cell? (a.add (i * 3)) = some (.int .i64 x.f0) ∧ W.cell? (a.add (i * 3 + 1)) = some (.int .i64 x.f1) ∧ W.cell? (a.add (i * 3 + 2)) = some (.int .u32 x.f2)) ∧ ((-9223372036854775808 ≤ x.f0 ∧ x.f0 < 9223372036854775808) ∧ (-9223372036854775808 ≤ x.f1 ∧ x.f1 < 9223372036854775808) ∧ (0 ≤ x.f2 ∧ x.f2 < 4294967296)) := by
      intro i hil
      obtain ⟨ys, n2, hD, _, hyl, hf⟩ := hi i (by omega)
      obtain ⟨v0, y0, g0, e0, t0⟩ := hf 0 _ rfl
      obtain ⟨v1, y1, g1, e1, t1⟩ := hf 1 _ rfl
      obtain ⟨v2, y2, g2, e2, t2⟩ := hf 2 _ rfl
      obtain ⟨k0, q0, r0, wf0⟩ := DataW.trod_int Tryz.underlying3 t0
      obtain ⟨k1, q1, r1, wf1⟩ := DataW.trod_int Tryz.underlying3 t1
      obtain ⟨k2, q2, r2, wf2⟩ := DataW.trod_int Tryz.underlying41 t2
      simp only [List.cons.injEq, and_true] at q0 q1 q2
      subst q0 q1 q2
      have b0 := bounds_i64 wf0
      have b1 := bounds_i64 wf1
      have b2 := bounds_u32 wf2
      exact ⟨⟨k0, k1, k2⟩, ⟨g0, g1, g2⟩, by simp only; omega⟩
    obtain ⟨xs, hl2, hxs⟩ := list_of_each len Q.z68 each
    subst hl2
    refine ⟨some a, _, xs, rfl, by omega, ⟨rfl, by unfold maxLen at hm; omega, fun _ => ⟨a, rfl, fun j p hj => ?_⟩⟩, fun x hx2 => ?_⟩
    · have hjl : j < xs.length := by
        rcases Nat.lt_or_ge j xs.length with h' | h'
        · exact h'
        · rw [List.getElem?_eq_none h'] at hj; cases hj
      have hp : xs.getD j Q.z68 = p := by rw [List.getD_eq_getElem?_getD, hj]; rfl
      obtain ⟨c0, c1, c2⟩ := (hxs j hjl).1
      rw [hp] at c0 c1 c2
      refine ⟨[.int .i64 p.f0, .int .i64 p.f1, .int .u32 p.f2], rfl, Q.k68_mk W p, fun i u hu => ?_⟩
      rw [show Q.k68.sz = 3 from rfl]
      match i, hu with
      | 0, hu => simp at hu; subst hu; exact c0
      | 1, hu => simp at hu; subst hu; exact c1
      | 2, hu => simp at hu; subst hu; exact c2
    · obtain ⟨j, hj, hje⟩ := List.getElem_of_mem hx2
      have c1 := (hxs j hj).2
      have hg : xs.getD j Q.z68 = x := by rw [List.getD_eq_getElem?_getD, List.getElem?_eq_getElem hj, Option.getD_some, hje]
      rw [hg] at c1
      exact c1

theorem int_of {v : Value} {y : DataW H × List MemPlace} (h : DataW.trod enc Tryz.prog W base (fun _ => true) held n 3 [v] = some y) : ∃ x, v = .int .i64 x := by
  obtain ⟨k0, q0, _, _⟩ := DataW.trod_int Tryz.underlying3 h
  simp only [List.cons.injEq, and_true] at q0
  exact ⟨_, q0⟩
end

end Go.Proofs.YtenbcfjfgbpinaaGreat

/- CliqueWeighs, the given row: the weights of arcs are as the document has them. -/
namespace Go.Proofs.YtenbcfjfgbpinaaGreat
open Go.ChangeShapes Go.WideShapes Go.ChangeAt Go.RowKit Go.Proofs.YtenbcfjfgbpinaaGreatW.PrintWords Go.Proofs.YtenbcfjfgbpinaaGreatW.PrintLast
open Go.ChangeMaps (open_string shut_string)
set_option linter.unusedVariables false

section
variable {H : Type} {enc : TypeId × Value → H} {W : World} {base n : Nat} {sp : Nat → Bool} {held : Bool}
theorem arcs_len {v : Value} {y : DataW H × List MemPlace} (h : DataW.trod enc Tryz.prog W base (fun _ => true) held n 22 [v] = some y) (hw : ∀ k ∈ y.1.weights Tryz.prog 22, k ≤ reachBytes) {A : Option Addr} {m c : Nat} (hv : v = .slice A m c) : m ≤ 5864062014640 := by
  rcases fields_of Tryz.underlying22 Tryz.underlying68 (by kernel_rfl) (by kernel_rfl) h with ⟨hcs, _⟩ | ⟨a, len, cap, m2, D, Pl, hcs, _, hl, hm, hmm, hx, hi⟩
  · simp [hv] at hcs
    omega
  · simp only [hv, List.cons.injEq, and_true, Value.slice.injEq] at hcs
    obtain ⟨_, rfl, rfl⟩ := hcs
    simp only [if_true] at hmm
    subst hmm
    have hk := hw ((m + (m2 - m)) * Tryz.prog.bytesOf 68) (by
      rw [hx]
      simp only [DataW.weights, Tryz.underlying22, List.mem_cons, List.length_map, List.length_range]
      exact Or.inl trivial)
    have hby : Tryz.prog.bytesOf 68 = 24 := by kernel_rfl
    rw [hby] at hk
    unfold reachBytes at hk
    omega
end

set_option maxRecDepth 100000 in
theorem weighs_lifted (os : Os) (started : os.Started) (H : Type) (enc : TypeId × Value → H) :
    ReturnsInHanded {} Tryz.checked os 4 .any (Rows.cliqueWeighsSpec.pre6 enc Tryz.prog Tryz.f4 Rows.cliqueWeighsRow.domain false) (Rows.cliqueWeighsSpec.post enc Tryz.prog Tryz.f4 false true false false) := by
  refine returnsInHanded_of_change_sized (C := Tryz.checked) own13h started (by kernel_rfl) Tryz.func4
    (ChangeSpec.witness6 (enc := enc) (C := Tryz.checked) false ⟨#[], #[.agg #[.int .i64 0, .slice none 0 0], .slice none 0 0], []⟩ 8 (by kernel_rfl) (by kernel_rfl) (by kernel_rfl) (by kernel_rfl)) ?_
  intro W base args ds gs before hval0 hW hcnd hsz0 _
  have hsz : (DataW.weightsEach Tryz.prog (Tryz.f4.params.toList ++ Rows.cliqueWeighsSpec.plain.varTypes Tryz.prog) (ds ++ gs)).all (· ≤ reachBytes) = true := hsz0
  have hval : ∀ (j : Nat) t v, Tryz.f4.params[j]? = some t → args[j]? = some v → Value.okWide Tryz.prog W .any base t v := hval0
  have hW' := hW
  obtain ⟨p, q, hA0, hV, rfl, hfz, hnd⟩ := hW
  have hA : DataW.TrodAll enc Tryz.prog W 0 (fun _ => true) true Tryz.f4.params.toList args.toList ds p := hA0
  rw [Tryz.params4] at hA hval hsz
  obtain ⟨v0, vs0, d0, ds0, p0, q0, hargs, rfl, rfl, h0, r0⟩ := trodAll_cons hA
  obtain ⟨v1, vs1, d1, ds1, p1, q1, rfl, rfl, rfl, h1, r1⟩ := trodAll_cons r0
  obtain ⟨rfl, rfl, rfl⟩ := trodAll_nil r1
  obtain rfl : args = #[v0, v1] := by cases args; simp_all
  obtain ⟨rfl, rfl⟩ := trodVars_none hV
  have k0 := h0
  have k1 := h1
  have lt0 : ∀ x ∈ p0, x.block < W.heap.size := by obtain ⟨m, hm⟩ := k0; exact DataW.trod_lt m _ _ _ hm
  have lt1 : ∀ x ∈ p1, x.block < W.heap.size := by obtain ⟨m, hm⟩ := k1; exact DataW.trod_lt m _ _ _ hm
  obtain ⟨x0, x1, y0, y1, n0, rfl, hd0, hp0, ha0, ha1⟩ := Go.Joins.open_agg2 Tryz.underlying24 (by kernel_rfl) (by kernel_rfl) (hval 0 24 v0 rfl rfl) h0
  obtain ⟨n1, hb1⟩ := h1
  obtain ⟨IA0, IM0, IC0, rfl⟩ := okWide_slice Tryz.underlying25 (hval 1 25 v1 rfl rfl)
  have hb2 : DataW.trod enc Tryz.prog W 0 (fun _ => true) true n1 25 [.slice IA0 IM0 IC0] = some (d1, p1) := hb1
  obtain ⟨N, rfl⟩ := int_of ha0
  obtain ⟨A, c, arcs, hax, hc, hr, hf⟩ := arcs_of ha1
  have hal := arcs_len ha1 (fun k hk => by
    have h3 : k ∈ d0.weights Tryz.prog 24 := by
      rw [hd0]
      simp only [DataW.weights, Tryz.underlying24]
      exact DataW.weights_mem_each (j := 1) (t := 22) (d := y1.1) rfl rfl k hk
    have h4 := List.all_eq_true.1 hsz _ (DataW.weights_mem_each (j := 0) (t := 24) (d := d0) rfl rfl k h3)
    simpa using h4) hax
  subst hax
  obtain ⟨IA, ic, idx, hix, hic, hi, _⟩ := ints_of Tryz.underlying25 Tryz.underlying3 (by kernel_rfl) hb2
  have hil : IM0 * 8 ≤ 140737488351232 := Go.Proofs.YtenbcfjfgbpinaaGreatW.PrintWords.sized_ints hsz (j := 1) (t := 25) rfl rfl Tryz.underlying25 Tryz.underlying3 (by kernel_rfl) (by kernel_rfl) k1
  simp only [Value.slice.injEq] at hix
  obtain ⟨rfl, rfl, rfl⟩ := hix
  clear hA0 hval0 hsz0 hsz
  refine (weighs_any N arcs A c IA0 IC0 idx W hf hr hc hi hic hal (by omega)).mono fun e W' ⟨he, bel⟩ => ?_
  subst he
  exact ⟨_, rfl, _, _, _, [], _, [], hW', trodAll_mk1 (shut_bool Tryz.underlying4 _), (trodAll_cons_mk (Below.trod laidOut13h (by kernel_rfl) (of_decide_eq_true (by kernel_rfl)) k0 bel lt0) (trodAll_cons_mk (Below.trod laidOut13h (by kernel_rfl) (of_decide_eq_true (by kernel_rfl)) k1 bel lt1) trodAll_mk0)), rfl, bel.frame _, fun h => by cases h⟩

theorem cliqueWeighs_holds : Rows.CliqueWeighsSaid :=
  OpenClaim.holds_of_wide 4 Tryz.f4 rfl rfl rfl rfl rfl rfl rfl ⟨rfl, rfl, rfl, rfl, rfl⟩ rfl rfl rfl rfl rfl (by kernel_rfl) Tryz.func4 (by kernel_rfl)
    (of_decide_eq_true (by kernel_rfl)) (by unfold Func.isWrapper; first | (rw [if_pos (by decide +kernel)]; kernel_rfl) | (rw [if_neg (by decide +kernel)]; exact ⟨rfl, rfl⟩))
    (fun os started H enc _ => weighs_lifted os started H enc)

#print axioms cliqueWeighs_holds
end Go.Proofs.YtenbcfjfgbpinaaGreat
