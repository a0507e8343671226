/- What of a graph a cell's matrix hangs on (plain); right overlays. -/
import Derived.Test.YtjddimoeodecgaaGreatXH07
import Derived.Lib.BufferWrite
import Derived.Lib.SmallJoins
import Derived.Test.YtjddimoeodecgaaGreatXH06
namespace Go.Proofs.YtjddimoeodecgaaGreat
open Go.RowKit Go.Proofs.YtjddimoeodecgaaGreatW.PrintWords Go.Proofs.YtjddimoeodecgaaGreatW.PrintLast
set_option linter.unusedVariables false
set_option maxRecDepth 100000

/-- Arcs of one shape. -/
structure Shape (a b : List Q.S95) : Prop where
  len : a.length = b.length
  f0 : ∀ i, (a.getD i Q.z95).f0 = (b.getD i Q.z95).f0
  f1 : ∀ i, (a.getD i Q.z95).f1 = (b.getD i Q.z95).f1
theorem Shape.refl (a : List Q.S95) : Shape a a := ⟨rfl, fun _ => rfl, fun _ => rfl⟩
theorem Shape.symm {a b : List Q.S95} (h : Shape a b) : Shape b a := ⟨h.len.symm, fun i => (h.f0 i).symm, fun i => (h.f1 i).symm⟩
theorem Shape.trans {a b c : List Q.S95} (h : Shape a b) (k : Shape b c) : Shape a c := ⟨h.len.trans k.len, fun i => (h.f0 i).trans (k.f0 i), fun i => (h.f1 i).trans (k.f1 i)⟩
theorem Shape.hd {a b : List Q.S95} (h : Shape a b) (i : Nat) : Q.hd false (a.getD i Q.z95) = Q.hd false (b.getD i Q.z95) := by unfold Q.hd; rw [h.f0, h.f1]
theorem Shape.tl {a b : List Q.S95} (h : Shape a b) (i : Nat) : Q.tl false (a.getD i Q.z95) = Q.tl false (b.getD i Q.z95) := by unfold Q.tl; rw [h.f0, h.f1]
theorem Shape.inside {a b : List Q.S95} (h : Shape a b) (cs : List Int) (c : Int) (i : Nat) : Q.insideB cs c (a.getD i Q.z95) = Q.insideB cs c (b.getD i Q.z95) := by
  unfold Q.insideB Q.cellF Q.cellT
  rw [h.f0, h.f1]
/-- The arcs inside of a cell weigh the same. -/
def SameIn (a b : List Q.S95) (cs : List Int) (c : Int) : Prop := ∀ i, i < a.length → Q.insideB cs c (a.getD i Q.z95) = true → (a.getD i Q.z95).f2 = (b.getD i Q.z95).f2
theorem SameIn.symm {a b : List Q.S95} {cs : List Int} {c : Int} (hs : Shape a b) (h : SameIn a b cs c) : SameIn b a cs c := fun i hi hb =>
  (h i (by rw [hs.len]; exact hi) (by rw [hs.inside]; exact hb)).symm
theorem mem_getD {a : List Q.S95} {i : Nat} (hi : i < a.length) : a.getD i Q.z95 ∈ a := by rw [List.getD_eq_getElem?_getD, List.getElem?_eq_getElem hi]; exact List.getElem_mem hi

theorem rch_local {N : Nat} {a b : List Q.S95} (ha : Q.GOk N a) (h : Shape a b) {cs : List Int} (hl : cs.length = N) {c : Int} (hs : SameIn a b cs c) {s u x : Nat} (hsc : (Q.inB cs c).getD s false = true) (hr : Rch false a (inMay a (Q.inB cs c)) s u x) :
    (Q.inB cs c).getD u false = true ∧ Rch false b (inMay b (Q.inB cs c)) s u x := by
  induction hr with
  | start => exact ⟨hsc, .start⟩
  | arc x i hi hm _ ih =>
    obtain ⟨h1, h2⟩ := ih
    have hm2 := hm
    unfold inMay at hm2
    refine ⟨hm2, ?_⟩
    have he := ha.ends _ (mem_getD hi)
    have i1 : (a.getD i Q.z95).f0.toNat < cs.length := by omega
    have i2 : (a.getD i Q.z95).f1.toNat < cs.length := by omega
    have e0 : Q.hd false (a.getD i Q.z95) = (a.getD i Q.z95).f0.toNat := rfl
    have e1 : Q.tl false (a.getD i Q.z95) = (a.getD i Q.z95).f1.toNat := rfl
    rw [e0, inB_get _ _ _ i1] at h1
    have hm3 := hm2
    rw [e1, inB_get _ _ _ i2] at hm3
    have hw := hs i hi (by unfold Q.insideB Q.cellF Q.cellT; rw [h1, hm3]; rfl)
    rw [hw, h.tl i]
    refine .arc x i (by rw [← h.len]; exact hi) ?_ (by rw [← h.hd i]; exact h2)
    unfold inMay
    rw [← h.tl i]
    exact hm2

theorem dOf_local {N : Nat} {a b : List Q.S95} (ha : Q.GOk N a) (hb : Q.GOk N b) (h : Shape a b) {cs : List Int} (hl : cs.length = N) {c : Int} (hs : SameIn a b cs c) {s : Nat} (hsN : s < N) (hsc : (Q.inB cs c).getD s false = true) : dOf N a (Q.inB cs c) s = dOf N b (Q.inB cs c) s := by
  have h2 := dOf_spec hb (Q.inB cs c) s hsN
  refine dOf_eq ?_
  unfold InSol at h2 ⊢
  rw [if_pos hsc] at h2 ⊢
  refine ⟨h2.len, h2.lt, fun u hu => ?_, fun u x hu hr => h2.low u x hu (rch_local ha h hl hs hsc hr).2⟩
  rcases h2.rch u hu with h3 | h3
  · exact Or.inl h3
  · exact Or.inr (rch_local hb h.symm hl (hs.symm h) hsc h3).2

theorem bnd_shape {a b : List Q.S95} (h : Shape a b) (cs : List Int) (c : Int) : Q.bndOf a cs c = Q.bndOf b cs c := by
  have he : Q.edgeOf a cs c = Q.edgeOf b cs c := by
    unfold Q.edgeOf
    have hm : a.map (Q.endsOf cs c) = b.map (Q.endsOf cs c) := by
      apply List.ext_getElem
      · rw [List.length_map, List.length_map, h.len]
      · intro i h1 h2
        rw [List.length_map] at h1 h2
        rw [List.getElem_map, List.getElem_map]
        have e0 := h.f0 i
        have e1 := h.f1 i
        rw [List.getD_eq_getElem?_getD, List.getD_eq_getElem?_getD, List.getElem?_eq_getElem h1, List.getElem?_eq_getElem h2] at e0 e1
        simp only [Option.getD_some] at e0 e1
        unfold Q.endsOf Q.cellF Q.cellT
        rw [e0, e1]
    rw [List.flatMap_def, List.flatMap_def, hm]
  unfold Q.bndOf
  rw [he]

/-- A cell's matrix hangs on the arcs inside of it alone. -/
theorem matOf_local {N : Nat} {a b : List Q.S95} (ha : Q.GOk N a) (hb : Q.GOk N b) (h : Shape a b) {cs : List Int} (hl : cs.length = N) {c : Int} (hs : SameIn a b cs c) : Q.matOf N a cs c = Q.matOf N b cs c := by
  have hin := bnd_in hb cs c
  have hic := bnd_inB hb cs c hl
  unfold Q.matOf
  rw [bnd_shape h]
  generalize Q.bndOf b cs c = l at *
  have key : ∀ m : List Int, (∀ v ∈ m, v ∈ l) → m.flatMap (fun v => rowOf (dOf N a (Q.inB cs c) v.toNat) l) = m.flatMap (fun v => rowOf (dOf N b (Q.inB cs c) v.toNat) l) := by
    intro m
    induction m with
    | nil => intro _; rfl
    | cons v r ih =>
      intro hm
      have hv := hm v List.mem_cons_self
      have hvN := hin v hv
      rw [List.flatMap_cons, List.flatMap_cons, ih (fun x hx => hm x (List.mem_cons_of_mem _ hx)), dOf_local ha hb h hl hs (by omega) (hic v hv)]
  exact key l (fun _ hv => hv)

namespace Q
/-- The cells of a level that arcs lie in. -/
def touchOf (arcs : List S95) (cs ids : List Int) : List Int := ids.flatMap (fun i => if cellF cs (arcs.getD i.toNat z95) = cellT cs (arcs.getD i.toNat z95) then [cellF cs (arcs.getD i.toNat z95)] else [])
def staleOf (arcs : List S95) (cs ids : List Int) : List Int := Lib.compact ((touchOf arcs cs ids).mergeSort (fun x y => decide (x ≤ y)))
def isStale (arcs : List S95) (cs ids : List Int) (c : Int) : Bool := decide (c ∈ staleOf arcs cs ids)
theorem mem_touch {arcs : List S95} {cs ids : List Int} {c : Int} : c ∈ touchOf arcs cs ids ↔ ∃ i ∈ ids, insideB cs c (arcs.getD i.toNat z95) = true := by
  unfold touchOf
  rw [List.mem_flatMap]
  constructor
  · rintro ⟨i, hi, h⟩
    split at h
    · rename_i he
      simp at h
      subst h
      exact ⟨i, hi, by unfold insideB; rw [← he]; simp⟩
    · cases h
  · rintro ⟨i, hi, h⟩
    unfold insideB at h
    have h1 : cellF cs (arcs.getD i.toNat z95) = c ∧ cellT cs (arcs.getD i.toNat z95) = c := by simpa using h
    refine ⟨i, hi, ?_⟩
    rw [if_pos (h1.1.trans h1.2.symm), h1.1]
    simp
theorem mem_stale {arcs : List S95} {cs ids : List Int} {c : Int} : c ∈ staleOf arcs cs ids ↔ ∃ i ∈ ids, insideB cs c (arcs.getD i.toNat z95) = true := by
  unfold staleOf
  rw [mem_sorted, mem_touch]
theorem touch_shape {a b : List S95} (h : Shape a b) (cs ids : List Int) : touchOf a cs ids = touchOf b cs ids := by
  unfold touchOf
  have e : ∀ i : Int, cellF cs (a.getD i.toNat z95) = cellF cs (b.getD i.toNat z95) ∧ cellT cs (a.getD i.toNat z95) = cellT cs (b.getD i.toNat z95) := fun i => by unfold cellF cellT; rw [h.f0, h.f1]; exact ⟨rfl, rfl⟩
  congr 1
  funext i
  rw [(e i).1, (e i).2]
theorem stale_shape {a b : List S95} (h : Shape a b) (cs ids : List Int) : staleOf a cs ids = staleOf b cs ids := by unfold staleOf; rw [touch_shape h]
end Q

/-- Arcs of other numbers weigh the same. -/
def SameBut (a b : List Q.S95) (ids : List Int) : Prop := ∀ i : Nat, i < a.length → (i : Int) ∉ ids → (a.getD i Q.z95).f2 = (b.getD i Q.z95).f2
theorem same_in {a b : List Q.S95} {ids : List Int} (h : SameBut a b ids) {cs : List Int} {c : Int} (hc : Q.isStale a cs ids c = false) : SameIn a b cs c := fun i hi hin => by
  refine h i hi (fun hm => ?_)
  have h1 : c ∈ Q.staleOf a cs ids := Q.mem_stale.2 ⟨(i : Int), hm, by rw [Int.toNat_natCast]; exact hin⟩
  unfold Q.isStale at hc
  rw [decide_eq_false_iff_not] at hc
  exact hc h1
theorem matOf_kept {N : Nat} {a b : List Q.S95} (ha : Q.GOk N a) (hb : Q.GOk N b) (h : Shape a b) {ids : List Int} (hd : SameBut a b ids) {cs : List Int} (hl : cs.length = N) {c : Int} (hc : Q.isStale a cs ids c = false) : Q.matOf N a cs c = Q.matOf N b cs c :=
  matOf_local ha hb h hl (same_in hd hc)

end Go.Proofs.YtjddimoeodecgaaGreat

/- Overlays in memory: rows of rows of matrices. -/
namespace Go.Proofs.YtjddimoeodecgaaGreat
open Go.RowKit Go.Lib Go.Maps Go.Proofs.YtjddimoeodecgaaGreatW.PrintWords Go.Proofs.YtjddimoeodecgaaGreatW.PrintLast Go.Proofs.YtjddimoeodecgaaGreatW.PrintMore
set_option linter.unusedVariables false
set_option maxRecDepth 100000

theorem dC_of {w : World} {B n cap : Nat} {P : Option Addr} {D : List Nat} (h : w.ownsRow B 43 1 (.slice P n cap) D.length (u64s D)) : n = D.length ∧ D.length ≤ cap ∧ Kd.C (Kd.int .u64) w P (Q.natsI D).length (Q.natsI D) := by
  have e1 : (Q.natsI D).map (Value.int .u64) = u64s D := by unfold Q.natsI u64s; rw [List.map_map]; rfl
  have e2 : (Q.natsI D).length = D.length := by unfold Q.natsI; rw [List.length_map]
  have hn : n = D.length ∧ D.length ≤ cap := by
    rcases h.2 with ⟨h1, h0⟩ | ⟨g, cap', cur, h1, _, _, h4, _⟩
    · injection h1 with h1 h2 h3
      omega
    · injection h1 with h1 h2 h3
      omega
  obtain ⟨rfl, hc⟩ := hn
  rw [← e1, ← e2] at h
  exact ⟨rfl, hc, (Kd.R_reads' (Kd.R_of_own (enc := Value.int .u64) (ok := fun _ => True) h (fun _ _ => trivial))).2.2⟩
theorem own_cap {w : World} {B : Nat} {e : TypeId} {size n : Nat} {v : Value} {xs : List Value} (h : w.ownsRow B e size v n xs) : ∃ A c, v = .slice A n c ∧ n ≤ c ∧ (A = none ∨ ∃ g, A = some ⟨g, 0, none⟩) := by
  rcases h.2 with ⟨h1, h0⟩ | ⟨g, cap, cur, h1, _, _, h4, _⟩
  · exact ⟨none, 0, by rw [h1, h0], by omega, Or.inl rfl⟩
  · exact ⟨_, _, h1, h4, Or.inr ⟨g, rfl⟩⟩

/-- A matrix lies at a place of a row. -/
def MatC (w : World) (HA : Option Addr) (i : Nat) (m : Mat) : Prop := ∃ g DP dc, HA = some ⟨g, 0, none⟩ ∧ w.cell? ⟨g, i * 4, none⟩ = some (.int .i64 m.lv) ∧ w.cell? ⟨g, i * 4 + 1, none⟩ = some (.int .i64 m.c) ∧ w.cell? ⟨g, i * 4 + 2, none⟩ = some (.int .i64 m.ep) ∧ w.cell? ⟨g, i * 4 + 3, none⟩ = some (.slice DP m.D.length dc) ∧ m.D.length ≤ dc ∧ (DP = none ∨ ∃ gd, DP = some ⟨gd, 0, none⟩) ∧ Kd.C (Kd.int .u64) w DP (Q.natsI m.D).length (Q.natsI m.D) ∧ ∀ j, j < m.D.length → ∃ gd, DP = some ⟨gd, 0, none⟩ ∧ w.cell? ⟨gd, j, none⟩ = some (.int .u64 (m.D.getD j 0 : Nat))
theorem MatC.below {w w' : World} {HA : Option Addr} {i : Nat} {m : Mat} (h : MatC w HA i m) (hb : Below w.heap.size w w') : MatC w' HA i m := by
  obtain ⟨g, DP, dc, h0, h1, h2, h3, h4, h5, hf, h6, h7⟩ := h
  refine ⟨g, DP, dc, h0, (hb.cell (World.block_lt_of_cell? w _ h1)).trans h1, (hb.cell (World.block_lt_of_cell? w _ h2)).trans h2, (hb.cell (World.block_lt_of_cell? w _ h3)).trans h3, (hb.cell (World.block_lt_of_cell? w _ h4)).trans h4, h5, hf, Kd.C_below h6 hb, fun j hj => ?_⟩
  obtain ⟨gd, h8, h9⟩ := h7 j hj
  exact ⟨gd, h8, (hb.cell (World.block_lt_of_cell? w _ h9)).trans h9⟩
def MatsC (w : World) (HA : Option Addr) (ms : List Mat) : Prop := ∀ i, i < ms.length → MatC w HA i (ms.getD i zMat)
theorem MatsC.below {w w' : World} {HA : Option Addr} {ms : List Mat} (h : MatsC w HA ms) (hb : Below w.heap.size w w') : MatsC w' HA ms := fun i hi => (h i hi).below hb
theorem MatsC.mats {w : World} {HA : Option Addr} {ms : List Mat} (h : MatsC w HA ms) : MatsIn w HA ms := fun i hi => by
  obtain ⟨g, DP, dc, h0, h1, h2, h3, h4, _, _, _, h7⟩ := h i hi
  exact ⟨g, DP, dc, h0, h1, h2, h3, h4, h7⟩
/-- An overlay lies in block g. -/
def OverIn (w : World) (g : Nat) (os : List (List Mat)) : Prop := ∀ k, k < os.length → ∃ HA hc, w.cell? ⟨g, k, none⟩ = some (.slice HA (os.getD k []).length hc) ∧ (os.getD k []).length ≤ hc ∧ MatsC w HA (os.getD k [])
theorem OverIn.below {w w' : World} {g : Nat} {os : List (List Mat)} (h : OverIn w g os) (hb : Below w.heap.size w w') : OverIn w' g os := fun k hk => by
  obtain ⟨HA, hc, h1, h2, h3⟩ := h k hk
  exact ⟨HA, hc, (hb.cell (World.block_lt_of_cell? w _ h1)).trans h1, h2, h3.below hb⟩

/-- A matrix's members as a value; of no members nothing is known but the length. -/
structure DV (w : World) (B : Nat) (v : Value) (D : List Nat) : Prop where
  shape : ∃ A c, v = .slice A D.length c ∧ D.length ≤ c ∧ (A = none ∨ ∃ g, A = some ⟨g, 0, none⟩)
  own : D ≠ [] → w.ownsRow B 43 1 v D.length (u64s D)
section
variable {w w' : World} {B : Nat} {v : Value} {D : List Nat}
theorem DV.of (h : w.ownsRow B 43 1 v D.length (u64s D)) : DV w B v D := ⟨own_cap h, fun _ => h⟩
theorem DV.below (h : DV w B v D) (hb : Below w.heap.size w w') : DV w' B v D := ⟨h.shape, fun hd => own_below (h.own hd) hb⟩
theorem DV.lower {B' : Nat} (h : DV w B v D) (hB : B' ≤ B) : DV w B' v D := ⟨h.shape, fun hd => own_lower (h.own hd) hB⟩
theorem DV.kept {row : Option Nat} (h : DV w B v D) (hg : w.grownBy w' row) (hne : D ≠ [] → v.ownBlock = none ∨ v.ownBlock ≠ row) : DV w' B v D := ⟨h.shape, fun hd => (h.own hd).kept hg (hne hd)⟩
theorem DV.lt (h : DV w B v D) (hd : D ≠ []) (b : Nat) (hb : v.ownBlock = some b) : B ≤ b ∧ b < w.heap.size := (h.own hd).lt b hb
theorem DV.read (h : DV w B v D) : ∃ DP dc, v = .slice DP D.length dc ∧ D.length ≤ dc ∧ (DP = none ∨ ∃ gd, DP = some ⟨gd, 0, none⟩) ∧ Kd.C (Kd.int .u64) w DP (Q.natsI D).length (Q.natsI D) ∧ ∀ j, j < D.length → ∃ gd, DP = some ⟨gd, 0, none⟩ ∧ w.cell? ⟨gd, j, none⟩ = some (.int .u64 (D.getD j 0 : Nat)) := by
  obtain ⟨DP, dc, hv, hc, hf⟩ := h.shape
  by_cases hd : D = []
  · subst hd
    exact ⟨DP, dc, hv, hc, hf, ⟨rfl, by simp [Q.natsI], fun h => by simp [Q.natsI] at h⟩, fun j hj => absurd hj (by simp)⟩
  · have ho := h.own hd
    have h1 := ho
    rw [hv] at h1
    exact ⟨DP, dc, hv, hc, hf, (dC_of h1).2.2, (u64s_at ho hv).2⟩
end

/-- A row of matrices of the call's own. -/
structure Orow (w : World) (B : Nat) (v : Value) (ps : List (Mat × Value)) : Prop where
  row : w.ownsRow B 37 4 v ps.length (encM ps)
  mats : ∀ p ∈ ps, DV w B p.2 p.1.D
  apart : ∀ p ∈ ps, p.1.D ≠ [] → p.2.ownBlock = none ∨ p.2.ownBlock ≠ v.ownBlock
theorem Orow.below {w w' : World} {B : Nat} {v : Value} {ps : List (Mat × Value)} (h : Orow w B v ps) (hb : Below w.heap.size w w') : Orow w' B v ps := ⟨own_below h.row hb, fun p hp => (h.mats p hp).below hb, h.apart⟩
theorem Orow.lower {w : World} {B B' : Nat} {v : Value} {ps : List (Mat × Value)} (h : Orow w B v ps) (hB : B' ≤ B) : Orow w B' v ps := ⟨own_lower h.row hB, fun p hp => (h.mats p hp).lower hB, h.apart⟩
theorem Orow.nil (w : World) (B : Nat) : Orow w B (.slice none 0 0) [] := ⟨World.ownsRow_nil _ _ _ _, fun p hp => (by cases hp), fun p hp => (by cases hp)⟩
theorem Orow.kept {w w' : World} {B : Nat} {v : Value} {ps : List (Mat × Value)} {row : Option Nat} (h : Orow w B v ps) (hg : w.grownBy w' row) (h1 : v.ownBlock = none ∨ v.ownBlock ≠ row) (h2 : ∀ p ∈ ps, p.1.D ≠ [] → p.2.ownBlock = none ∨ p.2.ownBlock ≠ row) : Orow w' B v ps :=
  ⟨h.row.kept hg h1, fun p hp => (h.mats p hp).kept hg (h2 p hp), h.apart⟩
theorem Orow.shapeC {w : World} {B : Nat} {v : Value} {ps : List (Mat × Value)} (h : Orow w B v ps) : ∃ HA hc, v = .slice HA ps.length hc ∧ ps.length ≤ hc ∧ MatsC w HA (ps.map (·.1)) := by
  obtain ⟨HA, hc, hv, hcap, -⟩ := own_cap h.row
  refine ⟨HA, hc, hv, hcap, fun i hi => ?_⟩
  rw [List.length_map] at hi
  have e : (ps.map (·.1)).getD i zMat = (ps.getD i zP).1 := by simp [hi]
  have hmem : ps.getD i zP ∈ ps := by rw [List.getD_eq_getElem?_getD, List.getElem?_eq_getElem hi]; exact List.getElem_mem hi
  obtain ⟨DP, dc, hs, hdc, hf, hkc, h7⟩ := (h.mats _ hmem).read
  obtain ⟨e0, e1, e2, e3⟩ := encM_at ps i hi
  obtain ⟨g, h8⟩ : ∃ g, HA = some ⟨g, 0, none⟩ := by
    rcases h.row.2 with ⟨_, h0⟩ | ⟨g', cap, cur, h9, _⟩
    · omega
    · rw [h9] at hv
      cases hv
      exact ⟨g', rfl⟩
  have hg : v.ownBlock = some g := by rw [hv, h8]; rfl
  have ea : ∀ k : Nat, (⟨g, 0, none⟩ : Addr).add k = ⟨g, k, none⟩ := fun k => by unfold Addr.add; split <;> simp_all
  have q0 := h.row.cells hg _ _ e0
  have q1 := h.row.cells hg _ _ e1
  have q2 := h.row.cells hg _ _ e2
  have q3 := h.row.cells hg _ _ e3
  rw [ea] at q0 q1 q2 q3
  rw [hs] at q3
  rw [e]
  exact ⟨g, DP, dc, h8, q0, q1, q2, q3, hdc, hf, hkc, h7⟩
/-- One matrix more. -/
theorem Orow.push {w w2 : World} {B : Nat} {v v' : Value} {ps : List (Mat × Value)} (h : Orow w B v ps) (p : Mat × Value) (hp : DV w B p.2 p.1.D) (hpa : p.1.D ≠ [] → p.2.ownBlock = none ∨ p.2.ownBlock ≠ v.ownBlock)
    (hown : w2.ownsRow B 37 4 v' (ps.length + 1) (encM ps ++ [.int .i64 p.1.lv, .int .i64 p.1.c, .int .i64 p.1.ep, p.2])) (hg : w.grownBy w2 v.ownBlock) (hat : v'.ownBlock = v.ownBlock ∨ ∃ g, v'.ownBlock = some g ∧ w.heap.size ≤ g) : Orow w2 B v' (ps ++ [p]) := by
  have hall : ∀ q ∈ ps ++ [p], DV w B q.2 q.1.D ∧ (q.1.D ≠ [] → q.2.ownBlock = none ∨ q.2.ownBlock ≠ v.ownBlock) := fun q hq => by
    rcases List.mem_append.1 hq with h1 | h1
    · exact ⟨h.mats q h1, h.apart q h1⟩
    · simp at h1
      subst h1
      exact ⟨hp, hpa⟩
  refine ⟨?_, fun q hq => (hall q hq).1.kept hg (hall q hq).2, fun q hq hd => ?_⟩
  · rw [encM_app, List.length_append]
    exact hown
  · rcases (hall q hq).2 hd with h1 | h1
    · exact Or.inl h1
    · rcases hat with h2 | ⟨g, h2, h3⟩
      · right; rw [h2]; exact h1
      · right
        rw [h2]
        intro e
        have := ((hall q hq).1.lt hd g e).2
        omega

def nilV : Value := .slice none 0 0
/-- An overlay of the call's own, under way. -/
structure Over (w : World) (B g : Nat) (vs : List Value) (pss : List (List (Mat × Value))) : Prop where
  len : vs.length = pss.length
  ge : B ≤ g
  box : w.heap[g]? = some (.cells vs.toArray 30 (0, 0))
  rows : ∀ k, k < vs.length → Orow w B (vs.getD k nilV) (pss.getD k [])
  apG : ∀ k, k < vs.length → (vs.getD k nilV).ownBlock ≠ some g
  apD : ∀ k, k < vs.length → ∀ p ∈ pss.getD k [], p.1.D ≠ [] → p.2.ownBlock ≠ some g
  apR : ∀ i j, i < vs.length → j < vs.length → i ≠ j → (vs.getD i nilV).ownBlock = none ∨ (vs.getD i nilV).ownBlock ≠ (vs.getD j nilV).ownBlock
  apM : ∀ i j, i < vs.length → j < vs.length → ∀ p ∈ pss.getD i [], p.1.D ≠ [] → p.2.ownBlock = none ∨ p.2.ownBlock ≠ (vs.getD j nilV).ownBlock

section
variable {w : World} {B g : Nat} {vs : List Value} {pss : List (List (Mat × Value))}
theorem Over.below {w' : World} (h : Over w B g vs pss) (hb : Below w.heap.size w w') : Over w' B g vs pss :=
  ⟨h.len, h.ge, (hb.block g (Array.getElem?_eq_some_iff.1 h.box).1).trans h.box, fun k hk => (h.rows k hk).below hb, h.apG, h.apD, h.apR, h.apM⟩
theorem Over.lower {B' : Nat} (h : Over w B g vs pss) (hB : B' ≤ B) : Over w B' g vs pss :=
  ⟨h.len, by have := h.ge; omega, h.box, fun k hk => (h.rows k hk).lower hB, h.apG, h.apD, h.apR, h.apM⟩
theorem rep_get (K k : Nat) : (List.replicate K nilV).getD k nilV = nilV := by
  rw [List.getD_eq_getElem?_getD, List.getElem?_replicate]
  split <;> rfl
theorem repE_get (K k : Nat) : (List.replicate K ([] : List (Mat × Value))).getD k [] = [] := by
  rw [List.getD_eq_getElem?_getD, List.getElem?_replicate]
  split <;> rfl
theorem Over.made (w : World) (K : Nat) {w' : World} (hbox : w'.heap[w.heap.size]? = some (.cells (List.replicate K nilV).toArray 30 (0, 0))) : Over w' w.heap.size w.heap.size (List.replicate K nilV) (List.replicate K []) := by
  refine ⟨by simp, Nat.le_refl _, hbox, fun k hk => ?_, fun k hk => ?_, fun k hk p hp _ => ?_, fun i j hi hj hne => ?_, fun i j hi hj p hp _ => ?_⟩
  · rw [rep_get, repE_get]; exact Orow.nil _ _
  · rw [rep_get]; simp [nilV, Value.ownBlock]
  · rw [repE_get] at hp; cases hp
  · rw [rep_get]; exact Or.inl rfl
  · rw [repE_get] at hp; cases hp
theorem Over.cell (h : Over w B g vs pss) (k : Nat) (hk : k < vs.length) : w.cell? ⟨g, k, none⟩ = some (vs.getD k nilV) := by
  rw [cell_of_row w g k vs.toArray 30 (0, 0) h.box]
  simp [hk]
theorem Over.lt (h : Over w B g vs pss) : g < w.heap.size := (Array.getElem?_eq_some_iff.1 h.box).1
theorem Over.fresh (h : Over w B g vs pss) {b : Nat} (hb : w.heap.size ≤ b) : b ≠ g ∧ ∀ j, j < vs.length → (vs.getD j nilV).ownBlock ≠ some b := by
  refine ⟨by have := h.lt; omega, fun j hj e => ?_⟩
  have := ((h.rows j hj).row.lt b e).2
  omega
theorem set_get (vs : List Value) (k j : Nat) (v' : Value) (hk : k < vs.length) : (vs.set k v').getD j nilV = if j = k then v' else vs.getD j nilV := by
  by_cases e : j = k
  · subst e
    rw [if_pos rfl, List.getD_eq_getElem?_getD, List.getElem?_set_self hk]
    rfl
  · rw [if_neg e, List.getD_eq_getElem?_getD, List.getElem?_set_ne (fun z => e z.symm), ← List.getD_eq_getElem?_getD]
theorem setE_get (pss : List (List (Mat × Value))) (k j : Nat) (qs : List (Mat × Value)) (hk : k < pss.length) : (pss.set k qs).getD j [] = if j = k then qs else pss.getD j [] := by
  by_cases e : j = k
  · subst e
    rw [if_pos rfl, List.getD_eq_getElem?_getD, List.getElem?_set_self hk]
    rfl
  · rw [if_neg e, List.getD_eq_getElem?_getD, List.getElem?_set_ne (fun z => e z.symm), ← List.getD_eq_getElem?_getD]

/-- 'out[k] = append(out[k], m)'. -/
theorem Over.push {w2 : World} (h : Over w B g vs pss) (k : Nat) (hk : k < vs.length) (p : Mat × Value) (v' : Value)
    (hp : DV w B p.2 p.1.D) (hpf : p.1.D ≠ [] → ∀ b, p.2.ownBlock = some b → b ≠ g ∧ ∀ j, j < vs.length → (vs.getD j nilV).ownBlock ≠ some b)
    (hown : w2.ownsRow B 37 4 v' ((pss.getD k []).length + 1) (encM (pss.getD k []) ++ [.int .i64 p.1.lv, .int .i64 p.1.c, .int .i64 p.1.ep, p.2]))
    (hg : w.grownBy w2 (vs.getD k nilV).ownBlock) (hat : v'.ownBlock = (vs.getD k nilV).ownBlock ∨ ∃ b, v'.ownBlock = some b ∧ w.heap.size ≤ b) :
    Over (w2.setCell ⟨g, k, none⟩ v') B g (vs.set k v') (pss.set k (pss.getD k [] ++ [p])) := by
  have hkp : k < pss.length := by rw [← h.len]; exact hk
  have hpa : p.1.D ≠ [] → p.2.ownBlock = none ∨ p.2.ownBlock ≠ (vs.getD k nilV).ownBlock := by
    intro hd
    cases hq : p.2.ownBlock with
    | none => exact Or.inl rfl
    | some b => exact Or.inr (fun e => (hpf hd b hq).2 k hk e.symm)
  have hM2 := (h.rows k hk).push p hp hpa hown hg hat
  have hg3 : w2.grownBy (w2.setCell ⟨g, k, none⟩ v') (some g) := grownBy_setCell w2 g k v'
  have hvg : v'.ownBlock ≠ some g := by
    rcases hat with e | ⟨b, e, hb⟩
    · rw [e]; exact h.apG k hk
    · rw [e]; intro e2; have := h.lt; simp at e2; omega
  have hnew : ∀ x : Option Nat, (x = none ∨ x ≠ (vs.getD k nilV).ownBlock) → (∀ b, x = some b → b < w.heap.size) → x = none ∨ x ≠ v'.ownBlock := by
    intro x hx hl
    rcases hat with e | ⟨b, e, hb⟩
    · rw [e]; exact hx
    · rw [e]
      cases x with
      | none => exact Or.inl rfl
      | some y =>
        right
        intro e2
        have := hl y rfl
        simp at e2
        omega
  have hnew2 : ∀ j, j < vs.length → j ≠ k → v'.ownBlock = none ∨ v'.ownBlock ≠ (vs.getD j nilV).ownBlock := by
    intro j hj hne
    rcases hat with e | ⟨b, e, hb⟩
    · rw [e]; exact h.apR k j hk hj (fun z => hne z.symm)
    · right
      rw [e]
      intro e2
      have := ((h.rows j hj).row.lt b e2.symm).2
      omega
  have hlt : ∀ i, i < vs.length → ∀ b, (vs.getD i nilV).ownBlock = some b → b < w.heap.size := fun i hi b e => ((h.rows i hi).row.lt b e).2
  have hltM : ∀ i, i < vs.length → ∀ q ∈ pss.getD i [], q.1.D ≠ [] → ∀ b, q.2.ownBlock = some b → b < w.heap.size := fun i hi q hq hd b e => (((h.rows i hi).mats q hq).lt hd b e).2
  have hpd : ∀ q ∈ pss.getD k [] ++ [p], q.1.D ≠ [] → q.2.ownBlock ≠ some g := fun q hq hd => by
    rcases List.mem_append.1 hq with h1 | h1
    · exact h.apD k hk q h1 hd
    · simp at h1
      subst h1
      exact fun e => (hpf hd g e).1 rfl
  refine ⟨by simp [h.len], h.ge, ?_, fun j hj => ?_, fun j hj => ?_, fun j hj q hq hd => ?_, fun i j hi hj hne => ?_, fun i j hi hj q hq hd => ?_⟩
  · have h1 : w2.heap[g]? = some (.cells vs.toArray 30 (0, 0)) := (hg.block g h.lt (fun e => h.apG k hk e.symm)).trans h.box
    rw [Go.Joins.block_setCell h1]
    simp
  · rw [List.length_set] at hj
    rw [set_get _ _ _ _ hk, setE_get _ _ _ _ hkp]
    by_cases e : j = k
    · subst e
      rw [if_pos rfl, if_pos rfl]
      exact hM2.kept hg3 (Or.inr hvg) (fun q hq hd => Or.inr (hpd q hq hd))
    · rw [if_neg e, if_neg e]
      exact ((h.rows j hj).kept hg (h.apR j k hj hk e) (h.apM j k hj hk)).kept hg3 (Or.inr (h.apG j hj)) (fun q hq hd => Or.inr (h.apD j hj q hq hd))
  · rw [List.length_set] at hj
    rw [set_get _ _ _ _ hk]
    split
    · exact hvg
    · exact h.apG j hj
  · rw [List.length_set] at hj
    rw [setE_get _ _ _ _ hkp] at hq
    split at hq
    · exact hpd q hq hd
    · exact h.apD j hj q hq hd
  · rw [List.length_set] at hi hj
    rw [set_get _ _ _ _ hk, set_get _ _ _ _ hk]
    by_cases ei : i = k
    · rw [if_pos ei, if_neg (by omega)]
      exact hnew2 j hj (by omega)
    · rw [if_neg ei]
      by_cases ej : j = k
      · rw [if_pos ej]
        exact hnew _ (h.apR i k hi hk ei) (hlt i hi)
      · rw [if_neg ej]
        exact h.apR i j hi hj hne
  · rw [List.length_set] at hi hj
    rw [set_get _ _ _ _ hk]
    rw [setE_get _ _ _ _ hkp] at hq
    have hpj : p.1.D ≠ [] → p.2.ownBlock = none ∨ p.2.ownBlock ≠ (vs.getD j nilV).ownBlock := by
      intro hd2
      cases hq2 : p.2.ownBlock with
      | none => exact Or.inl rfl
      | some b => exact Or.inr (fun e => (hpf hd2 b hq2).2 j hj e.symm)
    have hq1 : (q ∈ pss.getD i []) ∨ q = p := by
      split at hq
      · rename_i e
        subst e
        rcases List.mem_append.1 hq with h1 | h1
        · exact Or.inl h1
        · simp at h1; exact Or.inr h1
      · exact Or.inl hq
    by_cases ej : j = k
    · rw [if_pos ej]
      rcases hq1 with h1 | h1
      · exact hnew _ (h.apM i k hi hk q h1 hd) (hltM i hi q h1 hd)
      · subst h1
        exact hnew _ (hpa hd) (fun b e => (hp.lt hd b e).2)
    · rw [if_neg ej]
      rcases hq1 with h1 | h1
      · exact h.apM i j hi hj q h1 hd
      · subst h1
        exact hpj hd
theorem Over.inn (h : Over w B g vs pss) : OverIn w g (pss.map (fun ps => ps.map (·.1))) := fun k hk => by
  rw [List.length_map] at hk
  have hkv : k < vs.length := by rw [h.len]; exact hk
  have e : (pss.map (fun ps => ps.map (·.1))).getD k [] = (pss.getD k []).map (·.1) := by simp [hk]
  obtain ⟨HA, hc, h1, h2, h3⟩ := (h.rows k hkv).shapeC
  refine ⟨HA, hc, ?_, ?_, ?_⟩
  · rw [h.cell k hkv, e, h1, List.length_map]
  · rw [e, List.length_map]; exact h2
  · rw [e]; exact h3
end

end Go.Proofs.YtjddimoeodecgaaGreat

/- Right overlays as plain data, and those under way. -/
namespace Go.Proofs.YtjddimoeodecgaaGreat
open Go.RowKit Go.Lib Go.Maps Go.Proofs.YtjddimoeodecgaaGreatW.PrintWords Go.Proofs.YtjddimoeodecgaaGreatW.PrintLast Go.Proofs.YtjddimoeodecgaaGreatW.PrintMore
set_option linter.unusedVariables false
set_option maxRecDepth 100000

/-- The right matrix of a cell. -/
noncomputable def overM (n : Nat) (arcs : List Q.S95) (cells : List (List Int)) (ep : Nat → Nat → Int) (k c : Nat) : Mat := ⟨((k + 1 : Nat) : Int), (c : Int), ep k c, Q.matOf n arcs (cells.getD k []) (c : Int)⟩
/-- A level's right matrices. -/
noncomputable def overRow (n : Nat) (arcs : List Q.S95) (cells : List (List Int)) (ep : Nat → Nat → Int) (k : Nat) : List Mat := (List.range (Q.manyOf (cells.getD k []))).map (overM n arcs cells ep k)
noncomputable def overO (n : Nat) (arcs : List Q.S95) (cells : List (List Int)) (K : Nat) (ep : Nat → Nat → Int) : List (List Mat) := (List.range K).map (overRow n arcs cells ep)
section
variable {n : Nat} {arcs : List Q.S95} {cells : List (List Int)} {ep : Nat → Nat → Int}
theorem overRow_len (k : Nat) : (overRow n arcs cells ep k).length = Q.manyOf (cells.getD k []) := by unfold overRow; simp
theorem overRow_get (k c : Nat) (hc : c < Q.manyOf (cells.getD k [])) : (overRow n arcs cells ep k).getD c zMat = overM n arcs cells ep k c := by
  unfold overRow
  generalize Q.manyOf (cells.getD k []) = m at *
  simp [hc]
theorem overRow_take (k c : Nat) (hc : c < Q.manyOf (cells.getD k [])) : (overRow n arcs cells ep k).take (c + 1) = (overRow n arcs cells ep k).take c ++ [overM n arcs cells ep k c] := by
  rw [List.take_add_one]
  congr 1
  unfold overRow
  generalize Q.manyOf (cells.getD k []) = m at *
  simp [hc]
theorem overO_len (K : Nat) : (overO n arcs cells K ep).length = K := by unfold overO; simp
theorem overO_get (K k : Nat) (hk : k < K) : (overO n arcs cells K ep).getD k [] = overRow n arcs cells ep k := by unfold overO; simp [hk]
end
/-- An overlay under way: the rows ahead of k whole, c members of row k. -/
structure Part (R : Nat → List Mat) (K k c : Nat) (pss : List (List (Mat × Value))) : Prop where
  len : pss.length = K
  old : ∀ j, j < k → (pss.getD j []).map (·.1) = R j
  now : (pss.getD k []).map (·.1) = (R k).take c
  new : ∀ j, k < j → pss.getD j [] = []
theorem Part.zero (R : Nat → List Mat) (K : Nat) : Part R K 0 0 (List.replicate K []) := by
  refine ⟨by simp, fun j hj => by omega, by rw [repE_get]; simp, fun j hj => by rw [repE_get]⟩
theorem Part.next {R : Nat → List Mat} {K k c : Nat} {pss : List (List (Mat × Value))} (h : Part R K k c pss) (hc : (R k).length = c) : Part R K (k + 1) 0 pss := by
  refine ⟨h.len, fun j hj => ?_, ?_, fun j hj => h.new j (by omega)⟩
  · by_cases e : j = k
    · subst e
      rw [h.now, ← hc, List.take_length]
    · exact h.old j (by omega)
  · rw [h.new (k + 1) (by omega)]
    simp
theorem Part.push {R : Nat → List Mat} {K k c : Nat} {pss : List (List (Mat × Value))} (h : Part R K k c pss) (hk : k < K) (p : Mat × Value) (hp : (R k).take (c + 1) = (R k).take c ++ [p.1]) : Part R K k (c + 1) (pss.set k (pss.getD k [] ++ [p])) := by
  have hkp : k < pss.length := by rw [h.len]; exact hk
  refine ⟨by simp [h.len], fun j hj => ?_, ?_, fun j hj => ?_⟩
  · rw [setE_get _ _ _ _ hkp, if_neg (by omega)]
    exact h.old j hj
  · rw [setE_get _ _ _ _ hkp, if_pos rfl, List.map_append, h.now, hp]
    rfl
  · rw [setE_get _ _ _ _ hkp, if_neg (by omega)]
    exact h.new j hj
theorem Part.all {R : Nat → List Mat} {K : Nat} {pss : List (List (Mat × Value))} (h : Part R K K 0 pss) : pss.map (fun ps => ps.map (·.1)) = (List.range K).map R := by
  apply List.ext_getElem
  · simp [h.len]
  · intro i h1 h2
    rw [List.length_map] at h1
    have hi : i < K := by rw [← h.len]; exact h1
    rw [List.getElem_map, List.getElem_map, List.getElem_range]
    have e := h.old i hi
    rw [List.getD_eq_getElem?_getD, List.getElem?_eq_getElem h1] at e
    exact e

/-- How many are made anew. -/
def anewK (f : Nat → Nat → Nat) (k m : Nat) : Nat := ((List.range m).filter (fun c => decide (f k c ≠ 0))).length
theorem anewK_step (f : Nat → Nat → Nat) (k m : Nat) : anewK f k (m + 1) = anewK f k m + (if f k m = 0 then 0 else 1) := by
  unfold anewK
  rw [List.range_succ, List.filter_append, List.length_append]
  congr 1
  by_cases h : f k m = 0
  · simp [h]
  · simp [h]
def anewT (f : Nat → Nat → Nat) (M : Nat → Nat) (k : Nat) : Nat := ((List.range k).map (fun j => anewK f j (M j))).sum
theorem anewT_step (f : Nat → Nat → Nat) (M : Nat → Nat) (k : Nat) : anewT f M (k + 1) = anewT f M k + anewK f k (M k) := by
  unfold anewT
  rw [List.range_succ, List.map_append, List.sum_append]
  simp
end Go.Proofs.YtjddimoeodecgaaGreat

/- What the overlay calls for a cell of a right nest, with the arcs' own weights. -/
namespace Go.Proofs.YtjddimoeodecgaaGreat
open Go.RowKit Go.Lib Go.Maps Go.Proofs.YtjddimoeodecgaaGreatW.PrintWords Go.Proofs.YtjddimoeodecgaaGreatW.PrintLast Go.Proofs.YtjddimoeodecgaaGreatW.PrintMore
set_option linter.unusedVariables false
set_option maxRecDepth 100000

/-- A right graph and a right nest in memory. -/
structure GN (w : World) (n : Nat) (arcs : List Q.S95) (A : Option Addr) (c : Nat) (BA : Option Addr) (bc : Nat) (bounds : List Int) (CA : Option Addr) (cc : Nat) (cells : List (List Int)) : Prop where
  g : Q.GOk n arcs
  r : Kd.C Q.k95 w A arcs.length arcs
  c : arcs.length ≤ c
  nest : NestIn w BA bc bounds CA cc cells
  ck : (Q.checkR (n : Int) arcs bounds cells).2 = 0
section
variable {w : World} {n : Nat} {arcs : List Q.S95} {A : Option Addr} {c : Nat} {BA : Option Addr} {bc : Nat} {bounds : List Int} {CA : Option Addr} {cc : Nat} {cells : List (List Int)}
theorem GN.below {w' : World} (h : GN w n arcs A c BA bc bounds CA cc cells) (hb : Below w.heap.size w w') : GN w' n arcs A c BA bc bounds CA cc cells := ⟨h.g, Kd.C_below h.r hb, h.c, h.nest.below hb, h.ck⟩
theorem GN.ok (h : GN w n arcs A c BA bc bounds CA cc cells) : Q.NestOk n bounds cells := by
  have h1 := (Q.checkR_ok h.g.fit h.ck).2
  rwa [Int.toNat_natCast] at h1
theorem GN.look (h : GN w n arcs A c BA bc bounds CA cc cells) (k : Nat) (hk : k < bounds.length) : Q.lookedE (n : Int) arcs bounds cells ((k + 1 : Nat) : Int) = 0 := looked_of h.ck (by omega) (by omega)
theorem lv1 (k : Nat) : (((k + 1 : Nat) : Int) - 1).toNat = k := by omega
theorem GN.cellE (h : GN w n arcs A c BA bc bounds CA cc cells) (k x : Nat) (hk : k < bounds.length) (hx : x < Q.manyOf (cells.getD k [])) : Q.cellE (n : Int) arcs bounds cells ((k + 1 : Nat) : Int) (x : Int) = 0 :=
  cellE_looked (h.look k hk) x (by rw [lv1]; exact hx)
theorem GN.row (h : GN w n arcs A c BA bc bounds CA cc cells) (k : Nat) (hk : k < bounds.length) : (cells.getD k []).length = n ∧ Q.rightP n (cells.getD k []) = true ∧ Q.manyOf (cells.getD k []) ≤ 1024 := by
  have h1 := h.ok.right hk
  exact ⟨(Q.rightP_in h1).1, h1, Nat.le_trans (Q.many_le h.g.n1 h1) h.g.n2⟩
end

theorem leaf_ownE {n : Nat} {arcs : List Q.S95} (hg : Q.GOk n arcs) {bounds : List Int} {cells : List (List Int)} {c epoch : Int} (h0 : Q.cellE (n : Int) arcs bounds cells 1 c = 0) (hep : 0 ≤ epoch ∧ epoch ≤ 1073741824) :
    Q.clique_Leaf.f (n : Int) arcs bounds cells c epoch ((Q.innerOf arcs (Q.levelRow cells 1) c).map (fun i => (arcs.getD i.toNat Q.z95).f2)) = some (1, c, epoch, Q.natsI (Q.matOf n arcs (Q.levelRow cells 1) c), 0) := by
  have hin := inner_idx arcs (Q.levelRow cells 1) c
  unfold Q.clique_Leaf.f
  rw [if_pos ⟨hg.fit, own_weights hg hin⟩, if_pos h0, if_pos hep, if_pos (by rw [List.length_map])]
  unfold Q.weighedOf
  rw [Q.weigh_own arcs _ hin _ (Nat.le_refl _), Q.within_f hg.fit, if_pos h0, Int.toNat_natCast]

theorem natsI_u64 (D : List Nat) : (Q.natsI D).map (Value.int .u64) = u64s D ∧ (Q.natsI D).length = D.length := by
  constructor
  · unfold Q.natsI u64s; rw [List.map_map]; rfl
  · unfold Q.natsI; rw [List.length_map]

theorem ownWeights_any (n : Nat) (arcs : List Q.S95) (A : Option Addr) (c : Nat) (BA : Option Addr) (bc : Nat) (bounds : List Int) (CA : Option Addr) (cc : Nat) (cells : List (List Int)) (w : World) (h : GN w n arcs A c BA bc bounds CA cc cells) (IA : Option Addr) (ic : Nat) (idx : List Int) (hi : Kd.C (Kd.int .i64) w IA idx.length idx) (hin : ∀ i ∈ idx, 0 ≤ i ∧ i < (arcs.length : Int)) (hl : idx.length ≤ 16384) :
    Calls Tryz.prog 17 #[.agg #[.int .i64 (n : Int), .slice A arcs.length c], .slice IA idx.length ic] w fun e w' => ∃ P cap, e = .returned (.tuple #[.slice P (idx.map (fun i => (arcs.getD i.toNat Q.z95).f2)).length cap, .int .i64 0]) ∧ Kd.C (Kd.int .u32) w' P (idx.map (fun i => (arcs.getD i.toNat Q.z95).f2)).length (idx.map (fun i => (arcs.getD i.toNat Q.z95).f2)) ∧ Below w.heap.size w w' := by
  have h := weights_any (n : Int) arcs A c IA ic idx w h.g.fit h.r h.c hi
  rw [Q.weightsR_own ‹GN w n arcs A c BA bc bounds CA cc cells›.g hin hl] at h
  refine h.mono ?_
  rintro e w' ⟨P, cap, h1, h2, h3⟩
  exact ⟨P, cap, h1, u32_C h2 rfl, h3⟩

/-- clique.Leaf. -/
theorem ownLeaf_any (n : Nat) (arcs : List Q.S95) (A : Option Addr) (c : Nat) (BA : Option Addr) (bc : Nat) (bounds : List Int) (CA : Option Addr) (cc : Nat) (cells : List (List Int)) (w : World) (h : GN w n arcs A c BA bc bounds CA cc cells) (x : Nat) (hx : x < Q.manyOf (cells.getD 0 [])) (epoch : Int) (hep : 0 ≤ epoch ∧ epoch ≤ 1073741824) (WP : Option Addr) (wcp : Nat)
    (hw : Kd.C (Kd.int .u32) w WP ((Q.innerOf arcs (cells.getD 0 []) (x : Int)).map (fun i => (arcs.getD i.toNat Q.z95).f2)).length ((Q.innerOf arcs (cells.getD 0 []) (x : Int)).map (fun i => (arcs.getD i.toNat Q.z95).f2))) :
    Calls Tryz.prog 14 #[.agg #[.int .i64 (n : Int), .slice A arcs.length c], .agg #[.slice BA bounds.length bc, .slice CA cells.length cc], .int .i64 (x : Int), .int .i64 epoch, .slice WP ((Q.innerOf arcs (cells.getD 0 []) (x : Int)).map (fun i => (arcs.getD i.toNat Q.z95).f2)).length wcp] w fun e w' => ∃ P m cp, e = .returned (.tuple #[.agg #[.int .i64 1, .int .i64 (x : Int), .int .i64 epoch, .slice P m cp], .int .i64 0]) ∧ w'.ownsRow w.heap.size 43 1 (.slice P m cp) (Q.matOf n arcs (cells.getD 0 []) (x : Int)).length (u64s (Q.matOf n arcs (cells.getD 0 []) (x : Int))) ∧ Below w.heap.size w w' := by
  have h0 := h.cellE 0 x (by have := h.ok.b1; omega) hx
  refine (leaf_any n arcs A c BA bc bounds CA cc cells (x : Int) epoch WP wcp _ _ _ _ _ _ w h.r h.c h.nest hw (leaf_ownE h.g h0 hep)).mono ?_
  rintro e w' ⟨v, h1, ⟨P, m, cp, h2, h3⟩, h4⟩
  rw [(natsI_u64 _).1, (natsI_u64 _).2] at h3
  rw [h2] at h1
  exact ⟨P, m, cp, h1, h3, h4⟩

end Go.Proofs.YtjddimoeodecgaaGreat

/- What Renew makes (plain). -/
namespace Go.Proofs.YtjddimoeodecgaaGreat
open Go.RowKit Go.Lib Go.Maps Go.Proofs.YtjddimoeodecgaaGreatW.PrintWords Go.Proofs.YtjddimoeodecgaaGreatW.PrintLast Go.Proofs.YtjddimoeodecgaaGreatW.PrintMore
set_option linter.unusedVariables false
set_option maxRecDepth 100000

namespace Q
def staleE (arcs : List S95) (ids : List Int) : Int := if ids.length > 16384 then 2 else if idxOk arcs ids = true then 0 else 5
/-- What becomes of a cell: 0 stays, 1 leaf, 2 higher. -/
def fateF (arcs : List S95) (cells : List (List Int)) (ids : List Int) (k c : Nat) : Nat := if isStale arcs (cells.getD k []) ids (c : Int) = true then (if k = 0 then 1 else 2) else 0
def fateA (k c : Nat) : Nat := if k = 0 then 1 else 2
end Q
/-- The epochs behind a change. -/
def epF (f : Nat → Nat → Nat) (ep : Nat → Nat → Int) (epoch : Int) (k c : Nat) : Int := if f k c = 0 then ep k c else epoch
theorem epF_stays {f : Nat → Nat → Nat} {ep : Nat → Nat → Int} {epoch : Int} {k c : Nat} (h : f k c = 0) : epF f ep epoch k c = ep k c := by unfold epF; rw [if_pos h]
theorem epF_anew {f : Nat → Nat → Nat} {ep : Nat → Nat → Int} {epoch : Int} {k c : Nat} (h : f k c ≠ 0) : epF f ep epoch k c = epoch := by unfold epF; rw [if_neg h]
theorem fateF_zero {arcs : List Q.S95} {cells : List (List Int)} {ids : List Int} {k c : Nat} (h : Q.fateF arcs cells ids k c = 0) : Q.isStale arcs (cells.getD k []) ids (c : Int) = false := by
  unfold Q.fateF at h
  split at h
  · split at h <;> omega
  · rename_i h1
    simpa using h1
/-- What stays of a right overlay is right. -/
theorem overM_kept {n : Nat} {a b : List Q.S95} {cells : List (List Int)} {ep : Nat → Nat → Int} {epoch : Int} (ha : Q.GOk n a) (hb : Q.GOk n b) (h : Shape a b) {ids : List Int} (hd : SameBut a b ids) {k c : Nat} (hl : (cells.getD k []).length = n) (hf : Q.fateF b cells ids k c = 0) :
    overM n a cells ep k c = overM n b cells (epF (Q.fateF b cells ids) ep epoch) k c := by
  have h1 := fateF_zero hf
  have h2 : Q.isStale a (cells.getD k []) ids (c : Int) = false := by
    unfold Q.isStale at h1 ⊢
    rw [Q.stale_shape h]
    exact h1
  unfold overM
  rw [matOf_kept ha hb h hd hl h2, epF_stays hf]
/-- The greatest epoch of rows of matrices. -/
structure IsLate (os : List (List Mat)) (L : Int) : Prop where
  ge : ∀ l ∈ os, ∀ m ∈ l, m.ep ≤ L
  z : 0 ≤ L
  at' : L = 0 ∨ ∃ l ∈ os, ∃ m ∈ l, m.ep = L
theorem overO_mem {n : Nat} {arcs : List Q.S95} {cells : List (List Int)} {K : Nat} {ep : Nat → Nat → Int} {P : Mat → Prop} : (∀ l ∈ overO n arcs cells K ep, ∀ m ∈ l, P m) ↔ ∀ k c, k < K → c < Q.manyOf (cells.getD k []) → P (overM n arcs cells ep k c) := by
  constructor
  · intro h k c hk hc
    refine h (overRow n arcs cells ep k) ?_ _ ?_
    · unfold overO; exact List.mem_map.2 ⟨k, List.mem_range.2 hk, rfl⟩
    · unfold overRow; exact List.mem_map.2 ⟨c, List.mem_range.2 hc, rfl⟩
  · intro h l hl m hm
    unfold overO at hl
    obtain ⟨k, hk, rfl⟩ := List.mem_map.1 hl
    unfold overRow at hm
    obtain ⟨c, hc, rfl⟩ := List.mem_map.1 hm
    exact h k c (List.mem_range.1 hk) (List.mem_range.1 hc)
/-- No arcs make no cell stale. -/
theorem fateF_nil (arcs : List Q.S95) (cells : List (List Int)) (k c : Nat) : Q.fateF arcs cells [] k c = 0 := by
  unfold Q.fateF Q.isStale
  rw [if_neg]
  intro h
  have h1 : (c : Int) ∈ Q.staleOf arcs (cells.getD k []) [] := by simpa using h
  obtain ⟨i, hi, _⟩ := Q.mem_stale.1 h1
  cases hi
theorem anewK_none (f : Nat → Nat → Nat) (h : ∀ k c, f k c = 0) (k : Nat) : ∀ m, anewK f k m = 0
  | 0 => rfl
  | m + 1 => by rw [anewK_step, anewK_none f h k m, if_pos (h k m)]
theorem anewT_none (f : Nat → Nat → Nat) (M : Nat → Nat) (h : ∀ k c, f k c = 0) : ∀ k, anewT f M k = 0
  | 0 => rfl
  | k + 1 => by rw [anewT_step, anewT_none f M h k, anewK_none f h]
theorem IsLate.nil : IsLate [] 0 := ⟨fun l hl => (by cases hl), Int.le_refl 0, Or.inl rfl⟩
theorem IsLate.start {os : List (List Mat)} {L : Int} (h : IsLate os L) : IsLate (os ++ [[]]) L := by
  refine ⟨fun l hl m hm => ?_, h.z, ?_⟩
  · rcases List.mem_append.1 hl with h1 | h1
    · exact h.ge l h1 m hm
    · simp at h1
      subst h1
      cases hm
  · rcases h.at' with h1 | ⟨l, hl, m, hm, he⟩
    · exact Or.inl h1
    · exact Or.inr ⟨l, List.mem_append_left _ hl, m, hm, he⟩
theorem IsLate.step {os : List (List Mat)} {l : List Mat} {j : Nat} {L : Int} (h : IsLate (os ++ [l.take j]) L) (hj : j < l.length) : IsLate (os ++ [l.take (j + 1)]) (max L (l.getD j zMat).ep) := by
  have hg : l.getD j zMat = l[j] := by rw [List.getD_eq_getElem?_getD, List.getElem?_eq_getElem hj]; rfl
  have ht : l.take (j + 1) = l.take j ++ [l[j]] := by rw [List.take_add_one, List.getElem?_eq_getElem hj]; rfl
  rw [hg, ht]
  refine ⟨fun k hk m hm => ?_, Int.le_trans h.z (Int.le_max_left _ _), ?_⟩
  · rcases List.mem_append.1 hk with h1 | h1
    · exact Int.le_trans (h.ge k (List.mem_append_left _ h1) m hm) (Int.le_max_left _ _)
    · simp only [List.mem_singleton] at h1
      subst h1
      rcases List.mem_append.1 hm with h2 | h2
      · exact Int.le_trans (h.ge _ (List.mem_append_right _ (by simp)) m h2) (Int.le_max_left _ _)
      · simp only [List.mem_singleton] at h2
        subst h2
        exact Int.le_max_right _ _
  · by_cases hc : L ≤ l[j].ep
    · right
      refine ⟨_, List.mem_append_right _ (List.mem_singleton.2 rfl), l[j], List.mem_append_right _ (List.mem_singleton.2 rfl), ?_⟩
      rw [Int.max_eq_right hc]
    · have e : max L l[j].ep = L := Int.max_eq_left (by omega)
      rw [e]
      rcases h.at' with h1 | ⟨k, hk, m, hm, he⟩
      · exact Or.inl h1
      · right
        rcases List.mem_append.1 hk with h1 | h1
        · exact ⟨k, List.mem_append_left _ h1, m, hm, he⟩
        · simp only [List.mem_singleton] at h1
          subst h1
          exact ⟨_, List.mem_append_right _ (List.mem_singleton.2 rfl), m, List.mem_append_left _ hm, he⟩
theorem IsLate.next {os : List (List Mat)} {k : Nat} {L : Int} (h : IsLate (os.take k ++ [(os.getD k []).take (os.getD k []).length]) L) (hk : k < os.length) : IsLate (os.take (k + 1)) L := by
  rw [List.take_length] at h
  have ht : os.take (k + 1) = os.take k ++ [os.getD k []] := by
    rw [List.take_add_one, List.getElem?_eq_getElem hk, List.getD_eq_getElem?_getD, List.getElem?_eq_getElem hk]
    rfl
  rw [ht]
  exact h

end Go.Proofs.YtjddimoeodecgaaGreat

/- clique.Up with the arcs' own weights, and right matrices of children. -/
namespace Go.Proofs.YtjddimoeodecgaaGreat
open Go.RowKit Go.Lib Go.Maps Go.Proofs.YtjddimoeodecgaaGreatW.PrintWords Go.Proofs.YtjddimoeodecgaaGreatW.PrintLast Go.Proofs.YtjddimoeodecgaaGreatW.PrintMore
set_option linter.unusedVariables false
set_option maxRecDepth 100000

/-- The matrices of a cell's children. -/
noncomputable def kidsM (n : Nat) (arcs : List Q.S95) (cells : List (List Int)) (ep : Nat → Nat → Int) (k : Nat) (x : Int) : List Mat := (Q.kidsOf (cells.getD (k + 1) []) (cells.getD k []) x).map (fun i => overM n arcs cells ep k i.toNat)

/-- clique.Up. -/
theorem ownUp_any (n : Nat) (arcs : List Q.S95) (A : Option Addr) (c : Nat) (BA : Option Addr) (bc : Nat) (bounds : List Int) (CA : Option Addr) (cc : Nat) (cells : List (List Int)) (w : World) (h : GN w n arcs A c BA bc bounds CA cc cells) (k x : Nat) (lw : Int) (hlw : lw = (k : Int) + 2) (hk : k + 1 < bounds.length) (hx : x < Q.manyOf (cells.getD (k + 1) [])) (ep : Nat → Nat → Int) (epoch : Int) (hep : 0 ≤ epoch ∧ epoch ≤ 1073741824) (hek : ∀ y, y < Q.manyOf (cells.getD k []) → 0 ≤ ep k y ∧ ep k y ≤ epoch) (WP : Option Addr) (wcp : Nat) (HA : Option Addr) (hcp : Nat)
    (hw : Kd.C (Kd.int .u32) w WP ((Q.betweenOf arcs (cells.getD (k + 1) []) (cells.getD k []) (x : Int)).map (fun i => (arcs.getD i.toNat Q.z95).f2)).length ((Q.betweenOf arcs (cells.getD (k + 1) []) (cells.getD k []) (x : Int)).map (fun i => (arcs.getD i.toNat Q.z95).f2)))
    (hm : MatsIn w HA (kidsM n arcs cells ep k (x : Int))) :
    Calls Tryz.prog 31 #[.agg #[.int .i64 (n : Int), .slice A arcs.length c], .agg #[.slice BA bounds.length bc, .slice CA cells.length cc], .int .i64 lw, .int .i64 (x : Int), .int .i64 epoch, .slice WP ((Q.betweenOf arcs (cells.getD (k + 1) []) (cells.getD k []) (x : Int)).map (fun i => (arcs.getD i.toNat Q.z95).f2)).length wcp, .slice HA (kidsM n arcs cells ep k (x : Int)).length hcp] w fun e w' => ∃ P m cp, e = .returned (.tuple #[.agg #[.int .i64 lw, .int .i64 (x : Int), .int .i64 epoch, .slice P m cp], .int .i64 0]) ∧ w'.ownsRow w.heap.size 43 1 (.slice P m cp) (Q.matOf n arcs (cells.getD (k + 1) []) (x : Int)).length (u64s (Q.matOf n arcs (cells.getD (k + 1) []) (x : Int))) ∧ Below w.heap.size w w' := by
  obtain rfl : lw = ((k + 2 : Nat) : Int) := by omega
  have e1 : (((k + 2 : Nat) : Int) - 1).toNat = k + 1 := by omega
  have e2 : (((k + 2 : Nat) : Int) - 2).toNat = k := by omega
  have hce := h.cellE (k + 1) x hk hx
  have hup : Q.upE (n : Int) arcs bounds cells ((k + 2 : Nat) : Int) (x : Int) = 0 := by
    unfold Q.upE
    rw [if_pos hce, if_neg (by omega)]
  have hin : ∀ i ∈ Q.betweenOf arcs (cells.getD (k + 1) []) (cells.getD k []) (x : Int), 0 ≤ i ∧ i < (arcs.length : Int) := fun i hi => by
    obtain ⟨j, hj, hjl⟩ := between_in hi
    omega
  have hkl : (kidsM n arcs cells ep k (x : Int)).length = (kidMats n arcs cells ((k + 2 : Nat) : Int) (x : Int)).length := by
    unfold kidsM kidMats
    rw [e1, e2, List.length_map, List.length_map]
  have hbp := (h.row k (by omega)).2.1
  have hrow := (h.row (k + 1) hk).1
  have hget : ∀ i, i < (Q.kidsOf (cells.getD (k + 1) []) (cells.getD k []) (x : Int)).length → ∃ y : Nat, (Q.kidsOf (cells.getD (k + 1) []) (cells.getD k []) (x : Int)).getD i 0 = (y : Int) ∧ y < Q.manyOf (cells.getD k []) ∧ (kidsM n arcs cells ep k (x : Int)).getD i zMat = overM n arcs cells ep k y ∧ (kidMats n arcs cells ((k + 2 : Nat) : Int) (x : Int)).getD i zMat = ⟨((k + 2 : Nat) : Int) - 1, (y : Int), 0, Q.matOf n arcs (cells.getD k []) (y : Int)⟩ := fun i hi => by
    obtain ⟨y, hy, hym⟩ := Q.kid_many hrow hbp (get_mem hi)
    refine ⟨y, hy, hym, ?_, ?_⟩
    · unfold kidsM
      rw [getD_map _ _ i 0 zMat hi, hy, Int.toNat_natCast]
    · unfold kidMats
      rw [e1, e2, getD_map _ _ i 0 zMat hi, hy]
  have hD : (kidsM n arcs cells ep k (x : Int)).map (·.D) = (kidMats n arcs cells ((k + 2 : Nat) : Int) (x : Int)).map (·.D) := by
    apply List.ext_getElem
    · rw [List.length_map, List.length_map, hkl]
    · intro i h1 h2
      rw [List.length_map] at h1 h2
      have hi : i < (Q.kidsOf (cells.getD (k + 1) []) (cells.getD k []) (x : Int)).length := by unfold kidsM at h1; rwa [List.length_map] at h1
      obtain ⟨y, hy, hym, g1, g2⟩ := hget i hi
      rw [List.getD_eq_getElem?_getD, List.getElem?_eq_getElem h1] at g1
      rw [List.getD_eq_getElem?_getD, List.getElem?_eq_getElem h2] at g2
      rw [List.getElem_map, List.getElem_map]
      simp only [Option.getD_some] at g1 g2
      rw [g1, g2]
      rfl
  have hown := up_own h.g.fit hup
  rw [← hD] at hown
  have hU := cliqueUp_any (n : Int) arcs A c BA bc bounds CA cc cells ((k + 2 : Nat) : Int) (x : Int) epoch WP wcp ((Q.betweenOf arcs (cells.getD (k + 1) []) (cells.getD k []) (x : Int)).map (fun i => (arcs.getD i.toNat Q.z95).f2)) HA hcp (kidsM n arcs cells ep k (x : Int)) w
    h.g.fit h.r h.c h.nest hw (own_weights h.g hin) hm hup hep (by rw [e1, e2, List.length_map]) (by rw [e1, e2]; unfold kidsM; rw [List.length_map]) (fun i hi => by
      have hi2 : i < (Q.kidsOf (cells.getD (k + 1) []) (cells.getD k []) (x : Int)).length := by unfold kidsM at hi; rwa [List.length_map] at hi
      obtain ⟨y, hy, hym, g1, g2⟩ := hget i hi2
      have hq := kids_ok h.g.fit hup i (by rw [← hkl]; exact hi)
      rw [e1, e2, hy, g2] at hq
      rw [e1, e2, hy, g1]
      have he := hek y hym
      exact ⟨by show (((k + 1 : Nat) : Int)) = _; omega, rfl, by show 0 ≤ ep k y ∧ ep k y ≤ 1073741824; omega, he.2, hq.len, hq.cell, hq.lt⟩)
  rw [e1, e2] at hU hown
  rw [Int.toNat_natCast] at hU
  refine hU.mono ?_
  rintro e w' ⟨v, h1, ⟨P, m, cp, h2, h3⟩, h4⟩
  rw [hown, (natsI_u64 _).1, (natsI_u64 _).2] at h3
  rw [h2] at h1
  exact ⟨P, m, cp, h1, h3, h4⟩

end Go.Proofs.YtjddimoeodecgaaGreat

/- The overlay chapter's example (plain). -/
namespace Go.Proofs.YtjddimoeodecgaaGreat.Q
open Go.RowKit Go.Proofs.YtjddimoeodecgaaGreat Go.Proofs.YtjddimoeodecgaaGreatW.PrintWords Go.Proofs.YtjddimoeodecgaaGreatW.PrintLast
set_option linter.unusedVariables false
set_option maxRecDepth 100000

def exW (x : Nat) : List S95 := [(⟨0, 1, (x : Int)⟩ : S95), (⟨1, 2, 0⟩ : S95), (⟨0, 2, 0⟩ : S95)]
theorem exW_ok (x : Nat) (hx : x < 4294967296) : GOk 3 (exW x) := by
  refine ⟨by decide, by decide, by show 3 ≤ 8192; omega, ?_, ?_⟩ <;>
  · intro a ha
    simp only [exW, List.mem_cons, List.not_mem_nil, or_false] at ha
    rcases ha with rfl | rfl | rfl <;> simp <;> omega
theorem exW_nest : nestE 3 [2] [[0, 0, 1]] = (0, 0) := by decide
theorem exW_check (x : Nat) (hx : x < 4294967296) : checkR 3 (exW x) [2] [[0, 0, 1]] = (0, 0) := by
  have hg : graphR 3 (exW x) = (0, 0) := graphR_of (exW_ok x hx)
  unfold checkR
  rw [hg, if_pos rfl]
  exact exW_nest
theorem exW_bnd (x : Nat) : bndOf (exW x) [0, 0, 1] 0 = [0, 1] := by
  have he : edgeOf (exW x) [0, 0, 1] 0 = [1, 0] := rfl
  unfold bndOf
  rw [he]
  have hm : [(1 : Int), 0].mergeSort (fun x y => decide (x ≤ y)) = [0, 1] := by
    simp [List.mergeSort, List.MergeSort.Internal.splitInTwo]
  rw [hm]
  decide
theorem exW_in : inB [0, 0, 1] 0 = [true, true, false] := by decide
theorem exW_d (w s : Nat) (hw : w < 4294967296) (d : List Nat) (hs : s = 0 ∧ d = [0, w, infN] ∨ s = 1 ∧ d = [infN, 0, infN]) : dOf 3 (exW w) [true, true, false] s = d := by
  refine dOf_eq ?_
  unfold InSol
  have hst : [true, true, false].getD s false = true := by rcases hs with ⟨rfl, _⟩ | ⟨rfl, _⟩ <;> rfl
  rw [if_pos hst]
  have hmay : ∀ i, i < (exW w).length → inMay (exW w) [true, true, false] i = true → i = 0 := by
    intro i hi hm
    have h3 : i < 3 := hi
    match i, h3, hm with
    | 0, _, _ => rfl
    | 1, _, hm => exact absurd hm (by intro h; cases h)
    | 2, _, hm => exact absurd hm (by intro h; cases h)
  have hI : infN < 18446744073709551616 := by decide
  have hlt : ∀ u, d.getD u 0 < 18446744073709551616 := by
    intro u
    rcases hs with ⟨_, rfl⟩ | ⟨_, rfl⟩
    · match u with
      | 0 => show (0 : Nat) < _; omega
      | 1 => show w < _; omega
      | 2 => exact hI
      | u + 3 => simp
    · match u with
      | 0 => exact hI
      | 1 => show (0 : Nat) < _; omega
      | 2 => exact hI
      | u + 3 => simp
  have hadd : addD 0 ((exW w).getD 0 z95).f2.toNat = w := by
    show addD 0 ((w : Int).toNat) = w
    rw [Int.toNat_natCast]
    unfold addD
    rw [if_pos (by omega), Nat.zero_add]
  refine ⟨?_, hlt, fun u hu => ?_, fun u x hu hr => ?_⟩
  · rcases hs with ⟨_, rfl⟩ | ⟨_, rfl⟩ <;> rfl
  · rcases hs with ⟨rfl, rfl⟩ | ⟨rfl, rfl⟩
    · match u, hu with
      | 0, _ => exact Or.inr .start
      | 1, _ =>
        right
        have h := Rch.arc (back := false) (arcs := exW w) (may := inMay (exW w) [true, true, false]) (s := 0) 0 0 (by show 0 < 3; omega) rfl .start
        rw [hadd] at h
        exact h
      | 2, _ => exact Or.inl rfl
    · match u, hu with
      | 0, _ => exact Or.inl rfl
      | 1, _ => exact Or.inr .start
      | 2, _ => exact Or.inl rfl
  · induction hr with
    | start => rcases hs with ⟨rfl, rfl⟩ | ⟨rfl, rfl⟩ <;> exact Nat.le_refl _
    | arc x i hi hm hr ih =>
      have h0 := hmay i hi hm
      subst h0
      rcases hs with ⟨rfl, rfl⟩ | ⟨rfl, rfl⟩
      · show w ≤ addD x ((w : Int).toNat)
        rw [Int.toNat_natCast]
        unfold addD
        split <;> omega
      · exact Nat.zero_le _
theorem exW_mat (w : Nat) (hw : w < 4294967296) : matOf 3 (exW w) [0, 0, 1] 0 = [0, w, infN, 0] := by
  unfold matOf
  rw [exW_bnd, exW_in]
  show rowOf (dOf 3 (exW w) [true, true, false] 0) [0, 1] ++ (rowOf (dOf 3 (exW w) [true, true, false] 1) [0, 1] ++ []) = _
  rw [exW_d w 0 hw _ (Or.inl ⟨rfl, rfl⟩), exW_d w 1 hw _ (Or.inr ⟨rfl, rfl⟩)]
  rfl
theorem exW_many : manyOf [0, 0, 1] = 2 := by decide
theorem exW_stale (x : Nat) : staleOf (exW x) [0, 0, 1] [0] = [0] := by
  have he : touchOf (exW x) [0, 0, 1] [0] = [0] := rfl
  unfold staleOf
  rw [he]
  have hm : [(0 : Int)].mergeSort (fun x y => decide (x ≤ y)) = [0] := by simp
  rw [hm]
  decide
theorem exW_shape (x y : Nat) : Shape (exW x) (exW y) := by
  refine ⟨rfl, fun i => ?_, fun i => ?_⟩ <;>
  · match i with
    | 0 => rfl
    | 1 => rfl
    | 2 => rfl
    | i + 3 => rfl
theorem exW_but (x y : Nat) : SameBut (exW x) (exW y) [0] := fun i hi hn => by
  match i, hn with
  | 0, hn => exact absurd (by simp) hn
  | 1, _ => rfl
  | 2, _ => rfl
  | i + 3, _ => rfl

end Go.Proofs.YtjddimoeodecgaaGreat.Q
