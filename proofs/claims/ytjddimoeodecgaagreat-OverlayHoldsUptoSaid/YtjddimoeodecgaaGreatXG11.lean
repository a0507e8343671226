/- Arcs with other weights (plain; in memory). -/
import Derived.Test.YtjddimoeodecgaaGreatXG10
import Derived.Test.YtjddimoeodecgaaGreatXG06
import Derived.Test.YtjddimoeodecgaaGreatXG03
namespace Go.Proofs.YtjddimoeodecgaaGreat
open Go.RowKit Go.Lib Go.Sort Go.Proofs.YtjddimoeodecgaaGreatW.PrintWords Go.Proofs.YtjddimoeodecgaaGreatW.PrintLast Go.Proofs.YtjddimoeodecgaaGreatW.PrintMore
set_option linter.unusedVariables false
set_option maxRecDepth 100000

namespace Q
/-- Arcs of which some have weights, k of them. -/
def weighTo (arcs : List S95) (inner ws : List Int) : Nat → List S95
  | 0 => arcs
  | k + 1 => (weighTo arcs inner ws k).set (inner.getD k 0).toNat ⟨((weighTo arcs inner ws k).getD (inner.getD k 0).toNat z95).f0, ((weighTo arcs inner ws k).getD (inner.getD k 0).toNat z95).f1, ws.getD k 0⟩
def weighedOf (arcs : List S95) (inner ws : List Int) : List S95 := weighTo arcs inner ws inner.length
theorem weighTo_len (arcs : List S95) (inner ws : List Int) : ∀ k, (weighTo arcs inner ws k).length = arcs.length
  | 0 => rfl
  | k + 1 => by unfold weighTo; rw [List.length_set]; exact weighTo_len arcs inner ws k
/-- Arcs as values in a row. -/
def flatA (arcs : List S95) : List Value := arcs.flatMap (fun a => [.int .i64 a.f0, .int .i64 a.f1, .int .u32 a.f2])
theorem flatA_len (arcs : List S95) : (flatA arcs).length = arcs.length * 3 := by
  unfold flatA
  induction arcs with
  | nil => rfl
  | cons a r ih => rw [List.flatMap_cons, List.length_append, ih]; simp; omega
theorem flatA_get : ∀ (arcs : List S95) (i : Nat), i < arcs.length → (flatA arcs)[i * 3]? = some (.int .i64 (arcs.getD i z95).f0) ∧ (flatA arcs)[i * 3 + 1]? = some (.int .i64 (arcs.getD i z95).f1) ∧ (flatA arcs)[i * 3 + 2]? = some (.int .u32 (arcs.getD i z95).f2)
  | [], i, h => by simp at h
  | a :: r, 0, _ => by simp [flatA]
  | a :: r, i + 1, h => by
    have ih := flatA_get r i (by simpa using h)
    have e1 : (i + 1) * 3 = i * 3 + 3 := by omega
    unfold flatA at ih ⊢
    rw [List.flatMap_cons, e1]
    simpa using ih
end Q

/-- Arcs that lie in a block of their own. -/
def ArcsAt (w : World) (g : Nat) (l : List Q.S95) : Prop := ∀ i, i < l.length → w.cell? ⟨g, i * 3, none⟩ = some (.int .i64 (l.getD i Q.z95).f0) ∧ w.cell? ⟨g, i * 3 + 1, none⟩ = some (.int .i64 (l.getD i Q.z95).f1) ∧ w.cell? ⟨g, i * 3 + 2, none⟩ = some (.int .u32 (l.getD i Q.z95).f2) ∧ w.frozen? ⟨g, i * 3 + 2, none⟩ = false
theorem ArcsAt.kept {w w' : World} {g : Nat} {l : List Q.S95} (h : ArcsAt w g l) (hb : w'.heap[g]? = w.heap[g]?) : ArcsAt w' g l := fun i hi => by
  obtain ⟨h1, h2, h3, h4⟩ := h i hi
  exact ⟨(World.cell?_of_block (w := w) hb).trans h1, (World.cell?_of_block (w := w) hb).trans h2, (World.cell?_of_block (w := w) hb).trans h3, (World.frozen?_of_block (w := w) hb).trans h4⟩
theorem ArcsAt.set {w : World} {g : Nat} {l : List Q.S95} (h : ArcsAt w g l) (i : Nat) (x : Int) (hi : i < l.length) : ArcsAt (w.setCell ⟨g, i * 3 + 2, none⟩ (.int .u32 x)) g (l.set i ⟨(l.getD i Q.z95).f0, (l.getD i Q.z95).f1, x⟩) := by
  intro j hj
  rw [List.length_set] at hj
  obtain ⟨h1, h2, h3, h4⟩ := h j hj
  obtain ⟨_, _, g3, _⟩ := h i hi
  have n1 : j * 3 ≠ i * 3 + 2 := by omega
  have n2 : j * 3 + 1 ≠ i * 3 + 2 := by omega
  by_cases e : i = j
  · subst e
    have hget : (l.set i ⟨(l.getD i Q.z95).f0, (l.getD i Q.z95).f1, x⟩).getD i Q.z95 = ⟨(l.getD i Q.z95).f0, (l.getD i Q.z95).f1, x⟩ := by rw [List.getD_eq_getElem?_getD, List.getElem?_set_self hi]; rfl
    rw [hget]
    refine ⟨?_, ?_, World.cell?_setCell_same (h := g3) .., by simp [h4]⟩
    · rw [World.cell?_setCell_other (h := by simp <;> omega) ..]; exact h1
    · rw [World.cell?_setCell_other (h := by simp <;> omega) ..]; exact h2
  · have hget : (l.set i ⟨(l.getD i Q.z95).f0, (l.getD i Q.z95).f1, x⟩).getD j Q.z95 = l.getD j Q.z95 := by rw [List.getD_eq_getElem?_getD, List.getElem?_set_ne e, ← List.getD_eq_getElem?_getD]
    rw [hget]
    have n3 : j * 3 + 2 ≠ i * 3 + 2 := by omega
    refine ⟨?_, ?_, ?_, by simp [h4]⟩
    · rw [World.cell?_setCell_other (h := by simp <;> omega) ..]; exact h1
    · rw [World.cell?_setCell_other (h := by simp <;> omega) ..]; exact h2
    · rw [World.cell?_setCell_other (h := by simp <;> omega) ..]; exact h3
theorem ArcsAt.c {w : World} {g : Nat} {l : List Q.S95} (h : ArcsAt w g l) (hl : l.length ≤ 1000000) : Kd.C Q.k95 w (some ⟨g, 0, none⟩) l.length l := by
  refine ⟨rfl, by omega, fun _ => ⟨_, rfl, fun j p hj => ?_⟩⟩
  have hjl : j < l.length := by
    rcases Nat.lt_or_ge j l.length with h' | h'
    · exact h'
    · rw [List.getElem?_eq_none h'] at hj; cases hj
  have hp : l.getD j Q.z95 = p := by rw [List.getD_eq_getElem?_getD, hj]; rfl
  obtain ⟨h1, h2, h3, _⟩ := h j hjl
  rw [hp] at h1 h2 h3
  have ea : ∀ i, ((⟨g, 0, none⟩ : Addr).add (j * Q.k95.sz + i)) = ⟨g, j * 3 + i, none⟩ := fun i => by
    rw [show Q.k95.sz = 3 from rfl]
    unfold Addr.add
    split <;> simp_all
  refine ⟨[.int .i64 p.f0, .int .i64 p.f1, .int .u32 p.f2], rfl, Q.k95_mk w p, fun i u hu => ?_⟩
  rw [ea]
  match i, hu with
  | 0, hu => simp at hu; subst hu; exact h1
  | 1, hu => simp at hu; subst hu; exact h2
  | 2, hu => simp at hu; subst hu; exact h3
theorem arcs_C_nil (w : World) (A : Option Addr) : Kd.C Q.k95 w A ([] : List Q.S95).length [] := ⟨rfl, by simp, fun h => by simp at h⟩

/-- Where arcs lie that are read. -/
theorem arcs_spot {w : World} {A : Option Addr} {l : List Q.S95} (h : Kd.C Q.k95 w A l.length l) (h0 : 0 < l.length) : ∃ b o, A = some ⟨b, o, none⟩ ∧ ∀ i, i < l.length → w.cell? ⟨b, o + i * 3, none⟩ = some (.int .i64 (l.getD i Q.z95).f0) ∧ w.cell? ⟨b, o + i * 3 + 1, none⟩ = some (.int .i64 (l.getD i Q.z95).f1) ∧ w.cell? ⟨b, o + i * 3 + 2, none⟩ = some (.int .u32 (l.getD i Q.z95).f2) := by
  obtain ⟨ad, rfl, c0, _, _⟩ := arc_at h 0 h0
  obtain ⟨b, o, sp⟩ := ad
  have hs : sp = none := by
    cases sp with
    | none => rfl
    | some q =>
      simp [Addr.add, World.cell?] at c0
      split at c0 <;> simp at c0
  subst hs
  refine ⟨b, o, rfl, fun i hi => ?_⟩
  obtain ⟨ad, hA, d0, d1, d2⟩ := arc_at h i hi
  cases hA
  have ea : (⟨b, o, none⟩ : Addr).add (i * 3) = ⟨b, o + i * 3, none⟩ := by unfold Addr.add; split <;> simp_all
  rw [ea] at d0 d1 d2
  exact ⟨d0, d1, d2⟩

theorem arcInfo : (Tryz.prog.info? 95).map (fun i => (i.zero, i.size, i.bytes)) = some (some (.agg #[.int .i64 0, .int .i64 0, .int .u32 0]), 3, 24) := by kernel_rfl

/-- slices.Clone of arcs. -/
theorem clone_any (arcs : List Q.S95) (A : Option Addr) (c : Nat) (w : World) (hr : Kd.C Q.k95 w A arcs.length arcs) (hm : arcs.length ≤ 8192) (h0 : 0 < arcs.length) :
    Calls Tryz.prog 93 #[.slice A arcs.length c] w fun e w' => ∃ g cap, e = .returned (.slice (some ⟨g, 0, none⟩) arcs.length cap) ∧ arcs.length ≤ cap ∧ ArcsAt w' g arcs ∧ w.heap.size ≤ g ∧ g < w'.heap.size ∧ Below w.heap.size w w' := by
  obtain ⟨i0, hi, hz0, hz1, hz2⟩ := info_parts arcInfo
  obtain ⟨b, o, rfl, hcell⟩ := arcs_spot hr h0
  have h := Tryz.slices_Clone_f93 i0 _ 3 24 hi hz0 hz1 hz2 rfl (by decide) (fun w => Tryz.sizeOf95 w) b o arcs.length c (Q.flatA arcs) w (Q.flatA_len arcs) (by unfold maxLen; omega) (by omega) (fun j u hu => by
    have hj : j < arcs.length * 3 := by
      rcases Nat.lt_or_ge j (Q.flatA arcs).length with h' | h'
      · rw [Q.flatA_len] at h'; exact h'
      · rw [List.getElem?_eq_none h'] at hu; cases hu
    obtain ⟨h1, h2, h3⟩ := hcell (j / 3) (by omega)
    obtain ⟨f1, f2, f3⟩ := Q.flatA_get arcs (j / 3) (by omega)
    have hj3 : j % 3 = 0 ∨ j % 3 = 1 ∨ j % 3 = 2 := by omega
    rcases hj3 with e | e | e
    · have ej : j = j / 3 * 3 := by omega
      rw [← ej] at f1
      rw [show o + j / 3 * 3 = o + j by omega] at h1
      rw [hu] at f1
      rw [h1]; exact f1.symm
    · have ej : j = j / 3 * 3 + 1 := by omega
      rw [← ej] at f2
      rw [show o + j / 3 * 3 + 1 = o + j by omega] at h2
      rw [hu] at f2
      rw [h2]; exact f2.symm
    · have ej : j = j / 3 * 3 + 2 := by omega
      rw [← ej] at f3
      rw [show o + j / 3 * 3 + 2 = o + j by omega] at h3
      rw [hu] at f3
      rw [h3]; exact f3.symm) (fun u hu => by
    unfold Q.flatA at hu
    simp only [List.mem_flatMap, List.mem_cons, List.not_mem_nil, or_false] at hu
    obtain ⟨a, _, rfl | rfl | rfl⟩ := hu <;> rfl)
  refine h.mono ?_
  rintro e w' ⟨v', rfl, hown, hne, hb⟩
  obtain ⟨hlen, ⟨rfl, hn0⟩ | ⟨g, cap, cur, rfl, hbase, hgb, h1, h2, h3, h4⟩⟩ := hown
  · exact absurd rfl hne
  · refine ⟨g, cap, rfl, h1, fun i hi => ?_, hbase, (Array.getElem?_eq_some_iff.1 hgb).1, hb⟩
    obtain ⟨f1, f2, f3⟩ := Q.flatA_get arcs i hi
    rw [← h4] at f1 f2 f3
    rw [List.getElem?_take, if_pos (by omega), Array.getElem?_toList] at f1 f2 f3
    refine ⟨?_, ?_, ?_, by simp [World.frozen?, hgb]⟩
    · rw [cell_of_row _ _ _ _ _ _ hgb]; exact f1
    · rw [cell_of_row _ _ _ _ _ _ hgb]; exact f2
    · rw [cell_of_row _ _ _ _ _ _ hgb]; exact f3

theorem clone_nil (A : Option Addr) (c : Nat) (w : World) :
    Calls Tryz.prog 93 #[.slice A 0 c] w fun e w' => ∃ A' c', e = .returned (.slice A' 0 c') ∧ Below w.heap.size w w' := by
  cases A with
  | none =>
    refine (Tryz.slices_Clone_nil_f93 0 c w).mono ?_
    rintro e w' ⟨rfl, rfl⟩
    exact ⟨none, 0, rfl, Below.refl _ _⟩
  | some ad =>
    obtain ⟨i0, hi, hz0, hz1, hz2⟩ := info_parts arcInfo
    have q22 : ∀ (w : World) (a : Option Addr) (n c n' c' : Nat), (binOp .eql 22 (.slice a n c) (.slice none n' c')).run Tryz.prog w = .ok (.bool a.isNone) w := fun w a n c n' c' => Lib.run_eql_slice_nil w _ _ a n c n' c' Tryz.underlying22
    go_enter Tryz.func93, Tryz.ntmps93
    go_wp2_with (at_builtin; refine wpList_append_own _ rfl _ _ 22 rfl w.heap.size 95 i0 _ 3 24 Tryz.underlying22 hi hz0 hz1 hz2 rfl (by decide) _ 0 [] rfl (World.ownsRow_made w #[] 0 (Nat.le_refl _) (by unfold maxLen; omega) rfl) ad 0 c [] rfl rfl (fun j u hu => by simp at hu) (fun u hu => by simp at hu) (by unfold maxLen; omega) (by omega) (by simp) ?_; intro v' w3 hown' hg3 hnil3; go_frame)
    go_ret
    have hb : Below w.heap.size w w3 := ((Below.refl _ w).alloc (Nat.le_refl _) _).grown hg3 (by simp) (by intro k hk; have hk2 : some w.heap.size = some k := hk; injection hk2 with hk3; omega)
    obtain ⟨hlen, ⟨rfl, hn0⟩ | ⟨g, cap, cur, rfl, hbase, hgb, h1, h2, h3, h4⟩⟩ := hown'
    · exact ⟨⟨_, _, rfl⟩, hb⟩
    · exact ⟨⟨_, _, rfl⟩, hb⟩

end Go.Proofs.YtjddimoeodecgaaGreat

/- clique.weighed. -/
namespace Go.Proofs.YtjddimoeodecgaaGreat
open Go.RowKit Go.Lib Go.Sort Go.Proofs.YtjddimoeodecgaaGreatW.PrintWords Go.Proofs.YtjddimoeodecgaaGreatW.PrintLast Go.Proofs.YtjddimoeodecgaaGreatW.PrintMore
set_option linter.unusedVariables false
set_option maxRecDepth 100000

/-- Arcs of the call's own, where a slice points. -/
def ArcsP (B : Nat) (w : World) (P : Option Addr) (l : List Q.S95) : Prop := l = [] ∨ ∃ g, P = some ⟨g, 0, none⟩ ∧ ArcsAt w g l ∧ B ≤ g ∧ g < w.heap.size
theorem ArcsP.kept {B B' : Nat} {w w' : World} {P : Option Addr} {l : List Q.S95} (h : ArcsP B w P l) (hB : B' ≤ B) (hs : w.heap.size ≤ w'.heap.size) (hk : ∀ g, B ≤ g → g < w.heap.size → w'.heap[g]? = w.heap[g]?) : ArcsP B' w' P l := by
  rcases h with h | ⟨g, h1, h2, h3, h4⟩
  · exact Or.inl h
  · exact Or.inr ⟨g, h1, h2.kept (hk g h3 h4), by omega, by omega⟩
theorem clone_all (arcs : List Q.S95) (A : Option Addr) (c : Nat) (w : World) (hr : Kd.C Q.k95 w A arcs.length arcs) (hm : arcs.length ≤ 8192) :
    Calls Tryz.prog 93 #[.slice A arcs.length c] w fun e w' => ∃ P cap, e = .returned (.slice P arcs.length cap) ∧ arcs.length ≤ cap ∧ ArcsP w.heap.size w' P arcs ∧ Below w.heap.size w w' := by
  by_cases h0 : 0 < arcs.length
  · refine (clone_any arcs A c w hr hm h0).mono ?_
    rintro e w' ⟨g, cap, rfl, h1, h2, h3, h4, h5⟩
    exact ⟨_, cap, rfl, h1, Or.inr ⟨g, rfl, h2, h3, h4⟩, h5⟩
  · have he : arcs = [] := List.length_eq_zero_iff.1 (by omega)
    subst he
    refine (clone_nil A c w).mono ?_
    rintro e w' ⟨A', c', rfl, hb⟩
    exact ⟨A', c', rfl, Nat.zero_le _, Or.inl rfl, hb⟩

theorem u32_cell {w : World} {A : Option Addr} {l : List Int} (h : Kd.C (Kd.int .u32) w A l.length l) (j : Nat) (hj : j < l.length) : ∃ ad, A = some ad ∧ w.cell? (ad.add j) = some (.int .u32 (l.getD j 0)) := by
  obtain ⟨ad', c, e, h1, h2, h3⟩ := Kd.C_get h 0 (j : Int) (by omega) (by omega)
  rw [Int.toNat_natCast] at h2 h3
  have e2 : c = [Value.int .u32 (l.getD j 0)] := h2
  subst e2
  have h4 := h3 0 _ rfl
  rw [Nat.add_zero, show (Kd.int .u32).sz = 1 from rfl, Nat.mul_one] at h4
  exact ⟨ad', e, h4⟩

set_option maxHeartbeats 4000000 in
theorem weighed_any (N : Int) (arcs : List Q.S95) (A : Option Addr) (c : Nat) (IA : Option Addr) (ic : Nat) (inner : List Int) (WA : Option Addr) (wc' : Nat) (ws : List Int) (w : World) (hr : Kd.C Q.k95 w A arcs.length arcs) (hm : arcs.length ≤ 8192)
    (hi : Kd.C (Kd.int .i64) w IA inner.length inner) (hw : Kd.C (Kd.int .u32) w WA ws.length ws) (hl : ws.length = inner.length) (hil : inner.length ≤ 8192) (hidx : ∀ i ∈ inner, 0 ≤ i ∧ i < (arcs.length : Int)) :
    Calls Tryz.prog 54 #[.agg #[.int .i64 N, .slice A arcs.length c], .slice IA inner.length ic, .slice WA ws.length wc'] w fun e w' => ∃ P cap, e = .returned (.agg #[.int .i64 N, .slice P arcs.length cap]) ∧ arcs.length ≤ cap ∧ ArcsP w.heap.size w' P (Q.weighedOf arcs inner ws) ∧ Below w.heap.size w w' := by
  obtain ⟨c0, c1, n0, n1, hsz, hb1⟩ := two_boxes w (.int .i64 N) (.slice A arcs.length c) (.int .i64 0) (.slice none 0 0) 24 24
  have hr0 : ((w.alloc (.cells #[.int .i64 N, .slice A arcs.length c] 24)).alloc (.cells #[.int .i64 0, .slice none 0 0] 24)).heap[w.heap.size + 1]? = some (.cells #[.int .i64 0, .slice none 0 0] 24 (0, 0)) := heap_alloc2_new _ _ _
  have HCL : Hid (∀ wx : World, Below w.heap.size w wx → Calls Tryz.prog 93 #[.slice A arcs.length c] wx fun e w' => ∃ P cap, e = .returned (.slice P arcs.length cap) ∧ arcs.length ≤ cap ∧ ArcsP wx.heap.size w' P arcs ∧ Below wx.heap.size wx w') := Lib.hid (fun wx hb => clone_all arcs A c wx (Kd.C_below hr hb) hm)
  have HI := Lib.hid hi
  have HW := Lib.hid hw
  have HIDX := Lib.hid hidx
  have HLL := Lib.hid hl
  clear hr hi hw hidx hl
  go_enter Tryz.func54, Tryz.ntmps54
  go_upto_region 1 with fail
  generalize ((w.alloc (.cells #[.int .i64 N, .slice A arcs.length c] 24)).alloc (.cells #[.int .i64 0, .slice none 0 0] 24)) = w1 at *
  have HB1 := Lib.hid hb1
  have HR0 := Lib.hid hr0
  have hs1 : w.heap.size + 2 ≤ w1.heap.size := by omega
  generalize hgx : w.heap.size = gx at *
  have HGX := Lib.hid hgx
  clear hb1 hsz hgx hr0 n0 n1
  go_cut [7] (fun s7 wx => ∃ q P cap, s7 = .pointer (some ⟨q, 0, none⟩) ∧ arcs.length ≤ cap ∧ Hid (wx.heap[q]? = some (.cells #[.int .i64 N, .slice P arcs.length cap] 24 (0, 0))) ∧ w1.heap.size ≤ q ∧ Hid (∀ g, P = some ⟨g, 0, none⟩ → arcs ≠ [] → g ≠ q) ∧ Hid (ArcsP w1.heap.size wx P arcs) ∧ Hid (Below w1.heap.size w1 wx))
  case first =>
    go_region_held3 (fun w' => w'.cell? ⟨gx, 0, none⟩ = some (.int .i64 N) ∧ w'.cell? ⟨gx, 1, none⟩ = some (.slice A arcs.length c)) (first | (refine ⟨?_, ?_⟩ <;> (repeat (first | assumption | (simp; done) | (simp [*]; done) | rw [World.cell?_setCell_other (h := by first | (simp; done) | (simp; omega))] | rw [hbF.cell (by first | omega | (simp; done) | (simp; omega))] | rw [alloc_cell_old _ _ _ _ (by first | omega | (simp; done) | (simp; omega))] | rw [drew_cell_all]))) | (go_keep; done))
      (first | (go_at_call 93; (with_reducible refine (HCL.out _ ?hra).mono ?_); (case hra => repeat (first | exact HB1.out | refine Below.drew ?_ | refine Below.alloc ?_ (by first | omega | (simp; done) | (simp; omega)) _)); rintro e wF ⟨P, cap, rfl, hcap, hap, hbF⟩; have sF := hbF.size; (try simp at sF); (try (have zq : wF.heap[w1.heap.size]? = some (.cells #[.int .i64 0, .slice none 0 0] 24 (0, 0)) := (hbF.block w1.heap.size (by simp)).trans (heap_alloc_new w1.drew _); have z0 : wF.cell? ⟨w1.heap.size, 0, none⟩ = some (.int .i64 0) := (by rw [cell_of_row _ _ 0 _ _ _ zq]; rfl); have z1 : wF.cell? ⟨w1.heap.size, 1, none⟩ = some (.slice none 0 0) := (by rw [cell_of_row _ _ 1 _ _ _ zq]; rfl); have zf : ∀ o, wF.frozen? ⟨w1.heap.size, o, none⟩ = false := (fun o => by simp [World.frozen?, zq])))))
    all_goals
      go_wp2_with fail
      go_meet
      first
        | exact ⟨_, P, cap, rfl, hcap, Lib.hid (heap_alloc_new _ _), hbF.size, Lib.hid (fun g hg hne => by rcases hap with h | ⟨g', h1, _, _, h4⟩; (· exact absurd h hne); (· rw [hg] at h1; cases h1; omega)), Lib.hid (hap.kept (Nat.le_refl _) (by simp) (fun g _ hg => heap_alloc_old _ _ hg)), Lib.hid (((Below.refl _ w1).drew.trans hbF).alloc hbF.size _)⟩
        | (have sz2 : w1.heap.size + 1 ≤ wF.heap.size := by { have := hbF.size; simp at this; omega }
           refine ⟨_, P, cap, rfl, hcap, Lib.hid (heap_set2 zq), Nat.le_refl _, Lib.hid (fun g hg hne => ?_), Lib.hid ?_, Lib.hid ?_⟩
           · rcases hap with h | ⟨g', h1, _, h3, h4⟩
             · exact absurd h hne
             · rw [hg] at h1
               cases h1
               simp at h3
               omega
           · refine hap.kept (by simp) (by simp) (fun g h3 hg => ?_)
             simp at h3
             rw [heap_setCell_other _ _ g _ (by show g ≠ w1.heap.size; omega), heap_setCell_other _ _ g _ (by show g ≠ w1.heap.size; omega)]
           · exact ((((Below.refl _ w1).drew.alloc (Nat.le_refl _) _).trans (hbF.mono (by simp))).setCell (Nat.le_refl _) _).setCell (Nat.le_refl _) _)
  case rest =>
    obtain ⟨q, P, cap, rfl, hcap, HQ, hq1, HNE, HA, HB⟩ := hcut
    have HR1 := Lib.hid ((HB.out.block (gx + 1) (by omega)).trans HR0.out)
    have HBC : Hid (Below gx w wc) := Lib.hid (HB1.out.trans (HB.out.mono (by omega)))
    have HP : Hid (∀ _ : Nat, ∀ g, P = some ⟨g, 0, none⟩ → arcs ≠ [] → g ≠ q ∧ w1.heap.size ≤ g) := Lib.hid (fun _ g hg hne => ⟨HNE.out g hg hne, by
      rcases HA.out with h | ⟨g', h1, _, h3, _⟩
      · exact absurd h hne
      · rw [hg] at h1; cases h1; exact h3⟩)
    clear c0 c1 HB HR0
    go_wp2_with fail
    go_loopg [18] inner.length (fun gg s18 wr => ∃ k : Nat, k ≤ inner.length ∧ inner.length - k ≤ gg ∧ s18 = .int .i64 k ∧ Hid (wr.heap[q]? = some (.cells #[.int .i64 N, .slice P arcs.length cap] 24 (0, 0))) ∧ Hid (wr.heap[gx + 1]? = some (.cells #[.int .i64 0, .slice none 0 0] 24 (0, 0))) ∧ Hid (ArcsP w1.heap.size wr P (Q.weighTo arcs inner ws k)) ∧ Hid (Below gx w wr))
    case atStart => exact ⟨0, Nat.zero_le _, by omega, rfl, HQ, HR1, HA, HBC⟩
    case round =>
      obtain ⟨k, hk1, hgg, rfl, HQ2, HR2, HA2, HB2⟩ := hrel
      by_cases hlt : k < inner.length
      · have hltz : (k : Int) < (inner.length : Int) := by omega
        have hwk : IntKind.i64.wrap ((k : Int) + 1) = ((k + 1 : Nat) : Int) := by rw [IntWalk.i64_in _ (by omega)]; omega
        have hbw : Below w.heap.size w wr := by rw [HGX.out]; exact HB2.out
        obtain ⟨iad, rfl, x0⟩ := Q.int_cell (Kd.C_below HI.out hbw) k hlt
        have hkw : k < ws.length := by rw [HLL.out]; exact hlt
        obtain ⟨wad, rfl, y0⟩ := u32_cell (Kd.C_below HW.out hbw) k hkw
        have hkwz : (k : Int) < (ws.length : Int) := by omega
        have hmem : inner.getD k 0 ∈ inner := by rw [List.getD_eq_getElem?_getD, List.getElem?_eq_getElem hlt]; exact List.getElem_mem hlt
        obtain ⟨hi0, hi1⟩ := HIDX.out _ hmem
        obtain ⟨i, hi⟩ : ∃ i : Nat, inner.getD k 0 = (i : Int) := ⟨_, (Int.toNat_of_nonneg hi0).symm⟩
        have hil2 : i < arcs.length := by omega
        have hiz : (i : Int) < (arcs.length : Int) := by omega
        have hne : arcs ≠ [] := by intro e; rw [e] at hil2; simp at hil2
        have HST : Hid (Q.weighTo arcs inner ws (k + 1) = (Q.weighTo arcs inner ws k).set i ⟨((Q.weighTo arcs inner ws k).getD i Q.z95).f0, ((Q.weighTo arcs inner ws k).getD i Q.z95).f1, ws.getD k 0⟩) := Lib.hid (by
          show (Q.weighTo arcs inner ws k).set (inner.getD k 0).toNat _ = _
          rw [hi, Int.toNat_natCast])
        have hwl := Q.weighTo_len arcs inner ws k
        rw [hi] at x0
        rcases HA2.out with he | ⟨g, rfl, hat, hg1, hg2⟩
        · rw [he] at hwl; simp at hwl; omega
        obtain ⟨hgq, _⟩ := HP.out 0 g rfl hne
        obtain ⟨_, _, z2, zf⟩ := hat i (by rw [hwl]; exact hil2)
        have HAT := Lib.hid hat
        have HWL := Lib.hid hwl
        have q1c : wr.cell? ⟨q, 1, none⟩ = some (.slice (some ⟨g, 0, none⟩) arcs.length cap) := by rw [cell_of_row _ _ 1 _ _ _ HQ2.out]; rfl
        generalize ws.getD k 0 = xw at *
        generalize ((Q.weighTo arcs inner ws k).getD i Q.z95).f2 = old at *
        clear hat hwl hi0 hi1 hi hmem hbw hkw
        go_upto_region 5 with fail
        have dy0 : wr.drew.cell? (wad.add k) = some (.int .u32 xw) := y0
        have dq1 : wr.drew.cell? ⟨q, 1, none⟩ = some (.slice (some ⟨g, 0, none⟩) arcs.length cap) := q1c
        have dz2 : wr.drew.cell? ⟨g, i * 3 + 2, none⟩ = some (.int .u32 old) := z2
        have dzf : wr.drew.frozen? ⟨g, i * 3 + 2, none⟩ = false := zf
        go_region
        all_goals
          have hbs : Below gx w ((wr.setCell ⟨g, i * 3 + 2, none⟩ (.int .u32 xw)).drew) := (HB2.out.setCell (by show gx ≤ g; omega) _).drew
          have hq3 : ((wr.setCell ⟨g, i * 3 + 2, none⟩ (.int .u32 xw)).drew).heap[q]? = some (.cells #[.int .i64 N, .slice (some ⟨g, 0, none⟩) arcs.length cap] 24 (0, 0)) := (heap_setCell_other wr ⟨g, i * 3 + 2, none⟩ q _ (by show q ≠ g; omega)).trans HQ2.out
          have hr3 : ((wr.setCell ⟨g, i * 3 + 2, none⟩ (.int .u32 xw)).drew).heap[gx + 1]? = some (.cells #[.int .i64 0, .slice none 0 0] 24 (0, 0)) := (heap_setCell_other wr ⟨g, i * 3 + 2, none⟩ (gx + 1) _ (by show gx + 1 ≠ g; omega)).trans HR2.out
          have ha3 : ArcsP w1.heap.size ((wr.setCell ⟨g, i * 3 + 2, none⟩ (.int .u32 xw)).drew) (some ⟨g, 0, none⟩) (Q.weighTo arcs inner ws (k + 1)) := by
            rw [HST.out]
            refine Or.inr ⟨g, rfl, ?_, hg1, by simpa using hg2⟩
            exact (ArcsAt.set HAT.out i xw (by rw [HWL.out]; exact hil2)).kept rfl
          have HQ3 := Lib.hid hq3
          have HR3 := Lib.hid hr3
          have HA3 := Lib.hid ha3
          have HB3 := Lib.hid hbs
          clear x0 y0 q1c z2 zf hq3 hr3 ha3 hbs dy0 dq1 dz2 dzf
          generalize ((wr.setCell ⟨g, i * 3 + 2, none⟩ (.int .u32 xw)).drew) = wz at *
          go_wp2_with fail
          have HWK := Lib.hid hwk
          clear hwk
          go_roundg (inner.length - (k + 1))
          case measure => omega
          case rel => exact ⟨k + 1, by omega, Nat.le_refl _, rfl, HQ3, HR3, HA3, HB3⟩
      · have : k = inner.length := by omega
        subst this
        have hkz : ¬ (inner.length : Int) < (inner.length : Int) := by omega
        have qc0 : wr.cell? ⟨q, 0, none⟩ = some (.int .i64 N) := by rw [cell_of_row _ _ 0 _ _ _ HQ2.out]; rfl
        have qc1 : wr.cell? ⟨q, 1, none⟩ = some (.slice P arcs.length cap) := by rw [cell_of_row _ _ 1 _ _ _ HQ2.out]; rfl
        have rc0 : wr.cell? ⟨gx + 1, 0, none⟩ = some (.int .i64 0) := by rw [cell_of_row _ _ 0 _ _ _ HR2.out]; rfl
        have rc1 : wr.cell? ⟨gx + 1, 1, none⟩ = some (.slice none 0 0) := by rw [cell_of_row _ _ 1 _ _ _ HR2.out]; rfl
        have rf : ∀ o, wr.frozen? ⟨gx + 1, o, none⟩ = false := fun o => by simp [World.frozen?, HR2.out]
        go_wp2_with fail
        ((try simp only [Exit.inBlock, Exit.then]); refine bodyPost_ret (results_cell_row rfl _ _ (gx + 1) 24 #[.int .i64 N, .slice P arcs.length cap] (0, 0) _ rfl (heap_set2 HR2.out) Tryz.underlying24 rfl (by kernel_rfl)) rfl ?_)
        have hgx := HGX.out
        subst hgx
        refine ⟨P, cap, rfl, hcap, ?_, (HB2.out.setCell (by show w.heap.size ≤ w.heap.size + 1; omega) _).setCell (by show w.heap.size ≤ w.heap.size + 1; omega) _⟩
        refine HA2.out.kept (by omega) (by simp) (fun g h3 hg => ?_)
        rw [heap_setCell_other _ _ g _ (by show g ≠ w.heap.size + 1; omega), heap_setCell_other _ _ g _ (by show g ≠ w.heap.size + 1; omega)]

end Go.Proofs.YtjddimoeodecgaaGreat

/- clique.within's closure: a row of the matrix. -/
namespace Go.Proofs.YtjddimoeodecgaaGreat
open Go.RowKit Go.Lib Go.Sort Go.Proofs.YtjddimoeodecgaaGreatW.PrintWords Go.Proofs.YtjddimoeodecgaaGreatW.PrintLast Go.Proofs.YtjddimoeodecgaaGreatW.PrintMore
set_option linter.unusedVariables false
set_option maxRecDepth 100000

theorem InSol.unique {N : Nat} {arcs : List Q.S95} {l : List Bool} {s : Nat} {d e : List Nat} (h : InSol N arcs l s d) (k : InSol N arcs l s e) : d = e := by
  unfold InSol at h k
  split at h
  · rename_i hs
    rw [if_pos hs] at k
    exact Sol.unique h k
  · rename_i hs
    rw [if_neg hs] at k
    rw [h, k]
open Classical in
/-- The distances within some vertices. -/
noncomputable def dOf (N : Nat) (arcs : List Q.S95) (l : List Bool) (s : Nat) : List Nat := if h : ∃ d, InSol N arcs l s d then Classical.choose h else []
theorem dOf_eq {N : Nat} {arcs : List Q.S95} {l : List Bool} {s : Nat} {d : List Nat} (h : InSol N arcs l s d) : dOf N arcs l s = d := by
  have hx : ∃ d, InSol N arcs l s d := ⟨d, h⟩
  unfold dOf
  rw [dif_pos hx]
  exact (Classical.choose_spec hx).unique h
def rowOf (d : List Nat) (l : List Int) : List Nat := l.map (fun u => d.getD u.toNat 0)

def u64s (D : List Nat) : List Value := D.map (fun x : Nat => Value.int .u64 (x : Int))

/-- A matrix under way. -/
structure MatAt (w0 : World) (gm : Nat) (lv c ep : Int) (w : World) (D : List Nat) (Dv : Value) : Prop where
  box : w.heap[gm]? = some (.cells #[.int .i64 lv, .int .i64 c, .int .i64 ep, Dv] 37 (0, 0))
  row : w.ownsRow (gm + 1) 43 1 Dv D.length (u64s D)
  below : Below gm w0 w

theorem distInfo : (Tryz.prog.info? 43).map (fun i => (i.zero, i.size, i.bytes)) = some (some (.int .u64 0), 1, 8) := by kernel_rfl

set_option maxHeartbeats 4000000 in
theorem row_any (N : Nat) (arcs : List Q.S95) (A : Option Addr) (c : Nat) (inl : List Bool) (ib : Option Addr) (ic : Nat) (LP : Option Addr) (l : List Int) (g5 g14 g12 gm : Nat) (lv cc ep : Int) (v : Nat) (D : List Nat) (Dv : Value) (w0 w : World)
    (hg : Q.GOk N arcs) (hr : Kd.C Q.k95 w0 A arcs.length arcs) (hc : arcs.length ≤ c) (hi : Kd.C Kd.bool w0 ib inl.length inl) (hic : inl.length ≤ ic) (hin : inl.length = N) (hl : Kd.C (Kd.int .i64) w0 LP l.length l) (hll : l.length ≤ 16384) (hlr : ∀ u ∈ l, 0 ≤ u ∧ u < (N : Int)) (hv : v < N)
    (hgm : w0.heap.size = gm) (e50 : w0.cell? ⟨g5, 0, none⟩ = some (.int .i64 (N : Int))) (e51 : w0.cell? ⟨g5, 1, none⟩ = some (.slice A arcs.length c)) (e14 : w0.cell? ⟨g14, 0, none⟩ = some (.slice ib inl.length ic)) (e12 : w0.cell? ⟨g12, 0, none⟩ = some (.slice LP l.length l.length))
    (hD : D.length ≤ 1000000000) (hm : MatAt w0 gm lv cc ep w D Dv) :
    Calls Tryz.prog 97 #[.int .i64 (v : Int), .pointer (some ⟨g5, 0, none⟩), .pointer (some ⟨g14, 0, none⟩), .pointer (some ⟨g12, 0, none⟩), .pointer (some ⟨gm, 0, none⟩)] w fun e w' => e = .returned (.int .i64 0) ∧ ∃ Dv', MatAt w0 gm lv cc ep w' (D ++ rowOf (dOf N arcs inl v) l) Dv' := by
  obtain ⟨i0, hi0, hz0, hz1, hz2⟩ := info_parts distInfo
  have hbw : Below w0.heap.size w0 w := by rw [hgm]; exact hm.below
  have hgw : gm < w.heap.size := lt_of_block hm.box
  have b5 := World.block_lt_of_cell? w0 _ e50
  have b14 := World.block_lt_of_cell? w0 _ e14
  have b12 := World.block_lt_of_cell? w0 _ e12
  have k50 := (hbw.cell b5).trans e50
  have k51 := (hbw.cell (World.block_lt_of_cell? w0 _ e51)).trans e51
  have k14 := (hbw.cell b14).trans e14
  have k12 := (hbw.cell b12).trans e12
  have HWI := Lib.hid (within_any N arcs A c v ib inl ic w hg (Kd.C_below hr hbw) hc (Kd.C_below hi hbw) hic hin hv)
  have HN2 := Lib.hid hg.n2
  have HL := Lib.hid hl
  have HLR := Lib.hid hlr
  have HM := Lib.hid hm
  have HGM := Lib.hid hgm
  have HB12 : Hid (g12 < w.heap.size) := Lib.hid (by have h := b12; simp at h; omega)
  clear hg hr hc hi hic hin hl hlr hm hbw e50 e51 e14 e12 b5 b14 b12 hgm
  go_enter Tryz.func97, Tryz.ntmps97
  go_upto_region 4 with (go_at_call 98; (with_reducible refine HWI.out.mono ?_); rintro e w1 ⟨d, qd, rfl, hsol, hqd, hrow, hb1⟩; have HSOL := Lib.hid hsol; have HQD := Lib.hid hrow; have HB1 := Lib.hid hb1; clear hsol hrow hb1)
  have f12 := (HB1.out.cell (p := ⟨g12, 0, none⟩) HB12.out).trans k12
  have HM1 : Hid (MatAt w0 gm lv cc ep w1 D Dv) := Lib.hid ⟨(HB1.out.block gm hgw).trans HM.out.box, own_below HM.out.row HB1.out, HM.out.below.trans (HB1.out.mono (by omega))⟩
  have HDV : Hid (Dv.ownBlock ≠ some qd) := Lib.hid (fun h => by have := (HM.out.row.lt qd h).2; omega)
  have HDO : Hid (dOf N arcs inl v = d) := Lib.hid (dOf_eq HSOL.out)
  have HDL : Hid (d.length = N) := Lib.hid HSOL.out.len
  clear k50 k51 k14 k12 HWI HB1 HM HSOL
  go_wp2_with fail
  clear f12
  generalize hLL : l.length = ll at *
  have HLL := Lib.hid hLL
  clear hLL
  go_loopg [23] ll (fun gg s23 wr => ∃ (k : Nat) (Dw : Value), k ≤ ll ∧ ll - k ≤ gg ∧ s23 = .int .i64 k ∧ Hid (MatAt w0 gm lv cc ep wr (D ++ rowOf d (l.take k)) Dw) ∧ Hid (Dw.ownBlock ≠ some qd) ∧ Hid (wr.heap[qd]? = some (.cells (d.map (fun x : Nat => Value.int .u64 (x : Int))).toArray 43 (0, 0))) ∧ Hid (gm < wr.heap.size))
  case atStart => exact ⟨0, Dv, Nat.zero_le _, by omega, rfl, by simpa [rowOf] using HM1, HDV, HQD, Lib.hid (lt_of_block HM1.out.box)⟩
  case round =>
    obtain ⟨k, Dw, hk1, hgg, rfl, HMK, HDW, HQK, HGK⟩ := hrel
    by_cases hlt : k < ll
    · have hltz : (k : Int) < (ll : Int) := by omega
      have hltl : k < l.length := by rw [HLL.out]; exact hlt
      have hwk : IntKind.i64.wrap ((k : Int) + 1) = ((k + 1 : Nat) : Int) := by rw [IntWalk.i64_in _ (by omega)]; omega
      have hbw : Below w0.heap.size w0 wr := by rw [HGM.out]; exact HMK.out.below
      have hLK := HL.out
      rw [← HLL.out] at hLK
      obtain ⟨lad, rfl, x0⟩ := Q.int_cell (Kd.C_below hLK hbw) k hltl
      have hmem : l.getD k 0 ∈ l := by rw [List.getD_eq_getElem?_getD, List.getElem?_eq_getElem hltl]; exact List.getElem_mem hltl
      obtain ⟨hu0, hu1⟩ := HLR.out _ hmem
      obtain ⟨u, hu⟩ : ∃ u : Nat, l.getD k 0 = (u : Int) := ⟨_, (Int.toNat_of_nonneg hu0).symm⟩
      have HTK : Hid (rowOf d (l.take (k + 1)) = rowOf d (l.take k) ++ [d.getD u 0]) := Lib.hid (by
        unfold rowOf
        rw [List.take_add_one, List.map_append]
        have : l[k]? = some (l.getD k 0) := by rw [List.getD_eq_getElem?_getD, List.getElem?_eq_getElem hltl]; rfl
        rw [this, hu]
        simp)
      rw [hu] at x0 hu1
      have hud : u < d.length := by rw [HDL.out]; omega
      have y0 : wr.cell? ⟨qd, u, none⟩ = some (.int .u64 (d.getD u 0 : Nat)) := by
        rw [cell_of_row _ _ u _ _ _ HQK.out]
        simp [hud]
      have m3 : wr.cell? ⟨gm, 3, none⟩ = some Dw := by rw [cell_of_row _ _ 3 _ _ _ HMK.out.box]; rfl
      have hrd := HMK.out.row
      have hqs : qd < wr.heap.size := lt_of_block HQK.out
      have hgs := HGK.out
      have hrl : (D ++ rowOf d (l.take k)).length ≤ 1000000000 + 16384 := by
        simp only [List.length_append, rowOf, List.length_map, List.length_take]
        omega
      generalize hDK : D ++ rowOf d (l.take k) = DK at *
      have HDK := Lib.hid hDK
      clear hDK hbw hLK hmem hu0 hu hltl
      generalize d.getD u 0 = du at *
      go_upto_region 7 with fail
      go_region_law (refine step_append_lies _ (by rfl) _ _ _ (by rfl) (gm + 1) 43 i0 _ 1 8 Tryz.underlying35 hi0 hz0 hz1 hz2 rfl (by omega) _ _ _ (by rfl) (((hrd).alloc _).drew) ⟨wr.heap.size, 0, none⟩ 1 1 [.int .u64 (du : Int)] (by rfl) (by rfl) (World.news_of_block (cs := #[.int .u64 (du : Int)]) (t := 43) (fr := (0, 0)) (heap_alloc_new wr _)) (by simp [Value.oneCell']) (by omega) (by unfold maxLen; omega) (by omega) (by simp; omega) (wr.heap.size + 1) (by simp) ?_; intro gg cap3 w3 hown hgrow hat hlt3; have hT3 : w3.heap[gm]? = some (.cells #[.int .i64 lv, .int .i64 cc, .int .i64 ep, Dw] 37 (0, 0)) := ((hgrow.block gm (by simp; omega) (fun e => by have := (hrd.lt gm e.symm).1; omega)).trans (heap_alloc_old wr _ hgs)).trans HMK.out.box; have cT3 : w3.cell? ⟨gm, 3, none⟩ = some Dw := (by rw [cell_of_row _ _ 3 _ _ _ hT3]; rfl); have fT3 : w3.frozen? ⟨gm, 3, none⟩ = false := (by simp [World.frozen?, hT3]); have HT3 := Lib.hid hT3; have HO3 := Lib.hid hown; have HG3 := Lib.hid hgrow; have HA3 := Lib.hid hat; clear hown hgrow hat hT3)
      all_goals
        go_wp2_with fail
        have hggm : gg ≠ gm := fun e => by
          rcases HA3.out with h1 | h1
          · have := (hrd.lt gg h1).1; omega
          · omega
        have hT4 := heap_setCell_same w3 gm 3 _ _ (.slice (some ⟨gg, 0, none⟩) (DK.length + 1) cap3) HT3.out
        have HWK := Lib.hid hwk
        clear hwk
        go_roundg (ll - (k + 1))
        case measure => omega
        case rel =>
          refine ⟨k + 1, _, by omega, Nat.le_refl _, rfl, Lib.hid ⟨hT4, ?_, ?_⟩, Lib.hid ?_, Lib.hid ?_, Lib.hid ?_⟩
          · have e1 : D ++ rowOf d (l.take (k + 1)) = DK ++ [du] := by rw [HTK.out, ← List.append_assoc, HDK.out]
            rw [e1, List.length_append]
            have h5 : w3.ownsRow (gm + 1) 43 1 (.slice (some ⟨gg, 0, none⟩) (DK.length + 1) cap3) (DK.length + 1) (u64s DK ++ [.int .u64 (du : Int)]) := HO3.out
            have e2 : u64s (DK ++ [du]) = u64s DK ++ [.int .u64 (du : Int)] := by simp [u64s]
            rw [e2]
            exact row_stays h5 (fun j hj => heap_setCell_other w3 ⟨gm, 3, none⟩ j _ (fun e => hggm (by simp [Value.ownBlock] at hj; rw [hj, e])))
          · have hb5 : Below gm w0 ((wr.alloc (.cells #[.int .u64 (du : Int)] 43)).drew) := (HMK.out.below.alloc (by omega) _).drew
            exact (Below.grown hb5 HG3.out (fun j hj => by have := (hrd.lt j hj).1; omega) (by simp; omega)).setCell (Nat.le_refl _) _
          · simp only [Value.ownBlock]
            intro e
            injection e with e
            rcases HA3.out with h1 | h1
            · exact HDW.out (by rw [h1, e])
            · omega
          · rw [heap_setCell_other w3 ⟨gm, 3, none⟩ qd _ (by show qd ≠ gm; omega)]
            exact ((HG3.out.block qd (by simp; omega) (fun e => HDW.out e.symm)).trans (heap_alloc_old wr _ hqs)).trans HQK.out
          · have := HG3.out.size; simp at this ⊢; omega
    · have : k = ll := by omega
      subst this
      have hkz : ¬ (k : Int) < (k : Int) := by omega
      have hres : D ++ rowOf d (l.take k) = D ++ rowOf (dOf N arcs inl v) l := by rw [HDO.out, ← HLL.out, List.take_length]
      rw [hres] at HMK
      clear hres
      go_wp2_with fail
      go_ret
      exact ⟨rfl, Dw, HMK.out⟩

end Go.Proofs.YtjddimoeodecgaaGreat

/- What clique.within and clique.Leaf answer (plain). -/
namespace Go.Proofs.YtjddimoeodecgaaGreat.Q
open Go.RowKit Go.Proofs.YtjddimoeodecgaaGreatW.PrintWords Go.Proofs.YtjddimoeodecgaaGreatW.PrintLast Go.Proofs.YtjddimoeodecgaaGreat
set_option linter.unusedVariables false
set_option maxRecDepth 100000

/-- Which vertices lie in a cell. -/
def inB (cs : List Int) (c : Int) : List Bool := cs.map (fun x => decide (x = c))
/-- A cell's matrix. -/
noncomputable def matOf (N : Nat) (arcs : List S95) (cs : List Int) (c : Int) : List Nat := (bndOf arcs cs c).flatMap (fun v => rowOf (dOf N arcs (inB cs c) v.toNat) (bndOf arcs cs c))
def natsI (l : List Nat) : List Int := l.map (fun x : Nat => (x : Int))
def levelRow (cells : List (List Int)) (level : Int) : List Int := cells.getD (level - 1).toNat []

open Classical in
noncomputable def clique_within.f (a0 : Int) (arcs : List S95) (bounds : List Int) (cells : List (List Int)) (level c epoch : Int) : Option (Int × Int × Int × List Int × Int) :=
  if ArcsFit arcs then (if cellE a0 arcs bounds cells level c = 0 then some (level, c, epoch, natsI (matOf a0.toNat arcs (levelRow cells level) c), 0) else some (0, 0, 0, [], cellE a0 arcs bounds cells level c)) else none

open Classical in
noncomputable def clique_Leaf.f (a0 : Int) (arcs : List S95) (bounds : List Int) (cells : List (List Int)) (c epoch : Int) (ws : List Int) : Option (Int × Int × Int × List Int × Int) :=
  if ArcsFit arcs ∧ ∀ x ∈ ws, 0 ≤ x ∧ x < 4294967296 then
    (if cellE a0 arcs bounds cells 1 c = 0 then
      (if 0 ≤ epoch ∧ epoch ≤ 1073741824 then
        (if ws.length = (innerOf arcs (levelRow cells 1) c).length then clique_within.f a0 (weighedOf arcs (innerOf arcs (levelRow cells 1) c) ws) bounds cells 1 c epoch else some (0, 0, 0, [], 4))
      else some (0, 0, 0, [], 1))
    else some (0, 0, 0, [], cellE a0 arcs bounds cells 1 c))
  else none

end Go.Proofs.YtjddimoeodecgaaGreat.Q

/- clique.within: the matrix of a cell. -/
namespace Go.Proofs.YtjddimoeodecgaaGreat
open Go.RowKit Go.Lib Go.Sort Go.Proofs.YtjddimoeodecgaaGreatW.PrintWords Go.Proofs.YtjddimoeodecgaaGreatW.PrintLast Go.Proofs.YtjddimoeodecgaaGreatW.PrintMore
set_option linter.unusedVariables false
set_option maxRecDepth 100000

theorem heap_set4 {w : World} {g : Nat} {x y z u a b c d : Value} {t : TypeId} (h : w.heap[g]? = some (.cells #[x, y, z, u] t (0, 0))) : ((((w.setCell ⟨g, 0, none⟩ a).setCell ⟨g, 1, none⟩ b).setCell ⟨g, 2, none⟩ c).setCell ⟨g, 3, none⟩ d).heap[g]? = some (.cells #[a, b, c, d] t (0, 0)) := by
  have h1 := heap_setCell_same w g 0 _ _ a h
  have h2 := heap_setCell_same (w.setCell ⟨g, 0, none⟩ a) g 1 _ _ b h1
  have h3 := heap_setCell_same ((w.setCell ⟨g, 0, none⟩ a).setCell ⟨g, 1, none⟩ b) g 2 _ _ c h2
  have h4 := heap_setCell_same (((w.setCell ⟨g, 0, none⟩ a).setCell ⟨g, 1, none⟩ b).setCell ⟨g, 2, none⟩ c) g 3 _ _ d h3
  rw [h4]
  rfl
theorem cells4 {w : World} {g : Nat} {x y z u : Value} {t : TypeId} (h : w.heap[g]? = some (.cells #[x, y, z, u] t (0, 0))) : w.cell? ⟨g, 0, none⟩ = some x ∧ w.cell? ⟨g, 1, none⟩ = some y ∧ w.cell? ⟨g, 2, none⟩ = some z ∧ w.cell? ⟨g, 3, none⟩ = some u ∧ ∀ o, w.frozen? ⟨g, o, none⟩ = false := by
  refine ⟨?_, ?_, ?_, ?_, fun o => by simp [World.frozen?, h]⟩
  · rw [cell_of_row _ _ 0 _ _ _ h]; rfl
  · rw [cell_of_row _ _ 1 _ _ _ h]; rfl
  · rw [cell_of_row _ _ 2 _ _ _ h]; rfl
  · rw [cell_of_row _ _ 3 _ _ _ h]; rfl
theorem below_set4 {B : Nat} {w0 w : World} {g : Nat} {a b c d : Value} (h : Below B w0 w) (hg : B ≤ g) : Below B w0 ((((w.setCell ⟨g, 0, none⟩ a).setCell ⟨g, 1, none⟩ b).setCell ⟨g, 2, none⟩ c).setCell ⟨g, 3, none⟩ d) := (((h.setCell hg _).setCell hg _).setCell hg _).setCell hg _

/-- Two new blocks of two cells, one of four. -/
theorem boxes224 (w : World) (a b x y p q r s : Value) (t u v : TypeId) :
    let w1 := ((w.alloc (.cells #[a, b] t)).alloc (.cells #[x, y] u)).alloc (.cells #[p, q, r, s] v)
    w1.cell? ⟨w.heap.size, 0, none⟩ = some a ∧ w1.cell? ⟨w.heap.size, 1, none⟩ = some b ∧ w1.cell? ⟨w.heap.size + 1, 0, none⟩ = some x ∧ w1.cell? ⟨w.heap.size + 1, 1, none⟩ = some y ∧ w1.heap[w.heap.size + 2]? = some (.cells #[p, q, r, s] v (0, 0)) ∧ w1.heap.size = w.heap.size + 3 ∧ Below w.heap.size w w1 := by
  intro w1
  have hA : w1.heap[w.heap.size]? = some (.cells #[a, b] t (0, 0)) := by
    show (((w.alloc (.cells #[a, b] t)).alloc (.cells #[x, y] u)).alloc (.cells #[p, q, r, s] v)).heap[w.heap.size]? = _
    rw [heap_alloc_old _ _ (by simp; omega), heap_alloc_old _ _ (by simp), heap_alloc_new]
  have hB : w1.heap[w.heap.size + 1]? = some (.cells #[x, y] u (0, 0)) := by
    show (((w.alloc (.cells #[a, b] t)).alloc (.cells #[x, y] u)).alloc (.cells #[p, q, r, s] v)).heap[w.heap.size + 1]? = _
    rw [heap_alloc_old _ _ (by simp), heap_alloc2_new]
  have hC : w1.heap[w.heap.size + 2]? = some (.cells #[p, q, r, s] v (0, 0)) := by
    have h := heap_alloc_new ((w.alloc (.cells #[a, b] t)).alloc (.cells #[x, y] u)) (.cells #[p, q, r, s] v)
    simp only [World.size_alloc] at h
    exact h
  refine ⟨?_, ?_, ?_, ?_, hC, by simp [w1], ?_⟩
  · rw [cell_of_row _ _ 0 _ _ _ hA]; rfl
  · rw [cell_of_row _ _ 1 _ _ _ hA]; rfl
  · rw [cell_of_row _ _ 0 _ _ _ hB]; rfl
  · rw [cell_of_row _ _ 1 _ _ _ hB]; rfl
  · exact (((Below.refl _ w).alloc (Nat.le_refl _) _).alloc (by rw [World.size_alloc]; omega) _).alloc (by simp; omega) _

/-- A matrix as it is handed back. -/
def MatV (B : Nat) (w : World) (lv c ep : Int) (D : List Nat) (v : Value) : Prop := ∃ Dv, v = .agg #[.int .i64 lv, .int .i64 c, .int .i64 ep, Dv] ∧ w.ownsRow B 43 1 Dv D.length (u64s D)

/-- A truth's row. -/
theorem bools_C (w : World) (b : Nat) (l : List Bool) (t : TypeId) (h : w.heap[b]? = some (.cells (l.map Value.bool).toArray t (0, 0))) (hl : l.length ≤ 1000000) : Kd.C Kd.bool w (some ⟨b, 0, none⟩) l.length l := by
  refine ⟨rfl, by omega, fun _ => ⟨_, rfl, fun j p hj => ?_⟩⟩
  refine ⟨[.bool p], rfl, rfl, fun i u hu => ?_⟩
  match i, hu with
  | 0, hu =>
    simp at hu
    subst hu
    have e : ((⟨b, 0, none⟩ : Addr).add (j * (Kd.bool).sz + 0)) = ⟨b, j, none⟩ := by
      rw [Nat.add_zero, show (Kd.bool).sz = 1 from rfl, Nat.mul_one]
      unfold Addr.add
      split <;> simp_all
    rw [e, cell_of_row _ _ j _ _ _ h]
    simp [hj]
def inTo (row : List Int) (c : Int) (k : Nat) : List Bool := (row.take k).map (fun x => decide (x = c)) ++ List.replicate (row.length - k) false
theorem inTo_len (row : List Int) (c : Int) (k : Nat) (hk : k ≤ row.length) : (inTo row c k).length = row.length := by
  unfold inTo
  rw [List.length_append, List.length_map, List.length_take, List.length_replicate]
  omega
theorem inTo_step (row : List Int) (c : Int) (k : Nat) (hk : k < row.length) : (inTo row c k).set k (decide (row.getD k 0 = c)) = inTo row c (k + 1) := by
  unfold inTo
  have hl : ((row.take k).map (fun x => decide (x = c))).length = k := by rw [List.length_map, List.length_take]; omega
  rw [List.set_append_right _ _ (by omega), hl, Nat.sub_self, show row.length - k = (row.length - (k + 1)) + 1 by omega, List.replicate_succ, List.set_cons_zero, List.take_add_one, List.map_append, List.append_assoc]
  congr 1
  rw [List.getD_eq_getElem?_getD, List.getElem?_eq_getElem hk]
  rfl
theorem inTo_all (row : List Int) (c : Int) : inTo row c row.length = Q.inB row c := by
  unfold inTo Q.inB
  rw [Nat.sub_self, List.replicate_zero, List.append_nil, List.take_length]
theorem boolInfo : (Tryz.prog.info? 4).map (fun i => (i.zero, i.size, i.bytes)) = some (some (.bool false), 1, 1) := by kernel_rfl
theorem make_bools (n : Nat) (hn : n ≤ 1000000) (w : World) : (Instr.makeSlice 137 (.int .i64 n) (.int .i64 n)).run Tryz.prog w = .ok (.slice (some ⟨w.heap.size, 0, none⟩) n n) (w.alloc (.cells ((List.replicate n false).map Value.bool).toArray 4)) := by
  obtain ⟨i0, hi, hz0, hz1, hz2⟩ := info_parts boolInfo
  have h := run_make (P := Tryz.prog) w 137 4 i0 (.bool false) Tryz.underlying137 hi hz0 .i64 .i64 n n (by omega) (Int.le_refl _) (by rw [hz2]; omega) (by omega)
  rw [hz1, Int.toNat_natCast, Nat.mul_one] at h
  rw [h]
  congr 2
  have e : (madeCells (Value.bool false).cells n) = ((List.replicate n false).map Value.bool).toArray := by
    apply Array.toList_inj.1
    rw [List.map_replicate]
    exact toList_madeCells_one _ n
  rw [e]

end Go.Proofs.YtjddimoeodecgaaGreat
