/- LEVEL BY LEVEL (plain): least lengths over children's matrices and the arcs between are those within the cell. -/
import Derived.Test.YtjddimoeodecgaaGreatXH04
namespace Go.Proofs.YtjddimoeodecgaaGreat
open Go.RowKit
set_option linter.unusedVariables false
set_option maxRecDepth 100000

theorem mem_compactUpTo (d : Array Int) : ∀ (m j : Nat), j < m → d[j]! ∈ Lib.compactUpTo d m
  | 0, j, h => by omega
  | m + 1, j, h => by
    rw [Lib.compactUpTo_succ]
    by_cases e : j = m
    · subst e
      by_cases hk : Lib.keeps d j = true
      · rw [if_pos hk]; simp
      · rw [if_neg hk, List.append_nil]
        by_cases h0 : j = 0
        · subst h0
          simp [Lib.keeps] at hk
        · have h1 : d[j]! = d[j - 1]! := by
            have h2 : ¬ (j = 0 ∨ d[j]! ≠ d[j - 1]!) := by simpa [Lib.keeps] using hk
            exact Classical.byContradiction (fun q => h2 (Or.inr q))
          rw [h1]
          exact mem_compactUpTo d j (j - 1) (by omega)
    · exact List.mem_append_left _ (mem_compactUpTo d m j (by omega))
theorem mem_compact {x : Int} {zs : List Int} : x ∈ Lib.compact zs ↔ x ∈ zs := by
  constructor
  · intro h
    unfold Lib.compact Lib.compactUpTo at h
    simp only [List.mem_map, List.mem_filter, List.mem_range] at h
    obtain ⟨j, ⟨hj, _⟩, rfl⟩ := h
    have hj' : j < zs.toArray.size := by simpa using hj
    rw [getElem!_pos _ j hj']
    simp
  · intro h
    obtain ⟨j, hj, rfl⟩ := List.getElem_of_mem h
    have h1 := mem_compactUpTo zs.toArray zs.length j hj
    rw [getElem!_pos _ j (by simpa using hj)] at h1
    simpa [Lib.compact] using h1
theorem mem_sorted {x : Int} {zs : List Int} : x ∈ Lib.compact (zs.mergeSort (fun x y => decide (x ≤ y))) ↔ x ∈ zs := by rw [mem_compact, List.mem_mergeSort]

/-- A boundary vertex: an end of an arc of which the other end lies in another cell. -/
theorem bnd_of {arcs : List Q.S95} {cs : List Int} {i : Nat} (hi : i < arcs.length) (hne : cs.getD (Q.hd false (arcs.getD i Q.z95)) 0 ≠ cs.getD (Q.tl false (arcs.getD i Q.z95)) 0) (h0 : 0 ≤ (arcs.getD i Q.z95).f0 ∧ 0 ≤ (arcs.getD i Q.z95).f1) :
    ((Q.hd false (arcs.getD i Q.z95) : Nat) : Int) ∈ Q.bndOf arcs cs (cs.getD (Q.hd false (arcs.getD i Q.z95)) 0) ∧ ((Q.tl false (arcs.getD i Q.z95) : Nat) : Int) ∈ Q.bndOf arcs cs (cs.getD (Q.tl false (arcs.getD i Q.z95)) 0) := by
  have hmem : arcs.getD i Q.z95 ∈ arcs := by rw [List.getD_eq_getElem?_getD, List.getElem?_eq_getElem hi]; exact List.getElem_mem hi
  generalize arcs.getD i Q.z95 = a at *
  have hne' : cs.getD a.f0.toNat 0 ≠ cs.getD a.f1.toNat 0 := hne
  show ((a.f0.toNat : Nat) : Int) ∈ Q.bndOf arcs cs (cs.getD a.f0.toNat 0) ∧ ((a.f1.toNat : Nat) : Int) ∈ Q.bndOf arcs cs (cs.getD a.f1.toNat 0)
  unfold Q.bndOf
  refine ⟨mem_sorted.2 (List.mem_flatMap.2 ⟨a, hmem, ?_⟩), mem_sorted.2 (List.mem_flatMap.2 ⟨a, hmem, ?_⟩)⟩
  · unfold Q.endsOf Q.cellF Q.cellT
    rw [if_neg hne']
    refine List.mem_append_left _ ?_
    rw [if_pos rfl, Int.toNat_of_nonneg h0.1]
    simp
  · unfold Q.endsOf Q.cellF Q.cellT
    rw [if_neg hne']
    refine List.mem_append_right _ ?_
    rw [if_pos rfl, Int.toNat_of_nonneg h0.2]
    simp
theorem bnd_inv {arcs : List Q.S95} {cs : List Int} {c u : Int} (h : u ∈ Q.bndOf arcs cs c) : ∃ a ∈ arcs, cs.getD a.f0.toNat 0 ≠ cs.getD a.f1.toNat 0 ∧ ((u = a.f0 ∧ cs.getD a.f0.toNat 0 = c) ∨ (u = a.f1 ∧ cs.getD a.f1.toNat 0 = c)) := by
  unfold Q.bndOf at h
  obtain ⟨a, ha, hu⟩ := List.mem_flatMap.1 (mem_sorted.1 h)
  unfold Q.endsOf Q.cellF Q.cellT at hu
  split at hu
  · cases hu
  · rename_i hne
    refine ⟨a, ha, hne, ?_⟩
    rcases List.mem_append.1 hu with h | h
    · split at h
      · rename_i hc; simp at h; exact Or.inl ⟨h, hc⟩
      · cases h
    · split at h
      · rename_i hc; simp at h; exact Or.inr ⟨h, hc⟩
      · cases h

/-- Cells of one level within those of the next. -/
def Nested (N : Nat) (row bel : List Int) : Prop := ∀ u v, u < N → v < N → bel.getD u 0 = bel.getD v 0 → row.getD u 0 = row.getD v 0
theorem nestGo_law : ∀ (l : List (Int × Int)) (m : Int → Option Int), Q.nestGo m l = true → ∀ c a, (c, a) ∈ l → (∀ p, m c = some p → p = a) ∧ ∀ a', (c, a') ∈ l → a' = a
  | [], m, _, c, a, h => by cases h
  | (c0, a0) :: t, m, hg, c, a, h => by
    have hp : (∀ p, m c0 = some p → p = a0) ∧ Q.nestGo (putI m c0 a0) t = true := by
      simp only [Q.nestGo] at hg
      split at hg
      · rename_i hq
        exact ⟨fun p hp => (by rw [hq] at hp; cases hp), hg⟩
      · rename_i q hq
        split at hg
        · rename_i he
          exact ⟨fun p hp => (by rw [hq] at hp; cases hp; exact he), hg⟩
        · cases hg
    have ih := nestGo_law t (putI m c0 a0) hp.2
    have hput : putI m c0 a0 c0 = some a0 := by unfold putI; rw [if_pos rfl]
    rcases List.mem_cons.1 h with h1 | h1
    · cases h1
      refine ⟨hp.1, fun a' h2 => ?_⟩
      rcases List.mem_cons.1 h2 with h3 | h3
      · cases h3; rfl
      · exact ((ih c0 a' h3).1 a0 hput).symm
    · refine ⟨fun p hpm => ?_, fun a' h2 => ?_⟩
      · by_cases e : c = c0
        · subst e
          rw [hp.1 p hpm]
          exact (ih c a h1).1 a0 hput
        · exact (ih c a h1).1 p (by unfold putI; rw [if_neg e]; exact hpm)
      · rcases List.mem_cons.1 h2 with h3 | h3
        · cases h3
          exact (ih c0 a h1).1 a0 hput
        · exact (ih c a h1).2 a' h3
theorem zip_mem (a b : List Int) (x : Nat) (ha : x < a.length) (hb : x < b.length) : (a.getD x 0, b.getD x 0) ∈ a.zip b := by
  have hz : x < (a.zip b).length := by rw [List.length_zip]; omega
  have h := List.getElem_mem hz
  rw [List.getElem_zip] at h
  rw [List.getD_eq_getElem?_getD, List.getElem?_eq_getElem ha, List.getD_eq_getElem?_getD, List.getElem?_eq_getElem hb]
  exact h
theorem nested_of {N : Nat} {bounds : List Int} {cells : List (List Int)} (h : Q.NestOk N bounds cells) {j : Nat} (hj : j + 1 < bounds.length) : Nested N (cells.getD (j + 1) []) (cells.getD j []) := by
  have h1 := h.nested (j := j + 1) hj
  unfold Q.nestedB at h1
  rw [if_neg (by omega), Nat.add_sub_cancel] at h1
  have l0 := (Q.rightP_in (h.right (j := j) (by omega))).1
  have l1 := (Q.rightP_in (h.right (j := j + 1) hj)).1
  intro u v hu hv he
  have mem : ∀ x, x < N → ((cells.getD j []).getD x 0, (cells.getD (j + 1) []).getD x 0) ∈ (cells.getD j []).zip (cells.getD (j + 1) []) := fun x hx => by
    exact zip_mem _ _ x (by omega) (by omega)
  have h2 := mem u hu
  have h3 := mem v hv
  rw [he] at h2
  exact (nestGo_law _ _ h1 _ _ h3).2 _ h2

/-- What the links of a higher cell are. -/
structure LinksOf (N : Nat) (arcs : List Q.S95) (row bel : List Int) (c : Int) (F : Nat → List (Nat × Nat)) : Prop where
  ok : LinkOk N F
  mat : ∀ k, k ∈ Q.kidsOf row bel c → ∀ p t : Int, p ∈ Q.bndOf arcs bel k → t ∈ Q.bndOf arcs bel k → (dOf N arcs (Q.inB bel k) p.toNat).getD t.toNat 0 < infN → (t.toNat, (dOf N arcs (Q.inB bel k) p.toNat).getD t.toNat 0) ∈ F p.toNat
  arc : ∀ i : Nat, (i : Int) ∈ Q.betweenOf arcs row bel c → (Q.tl false (arcs.getD i Q.z95), (arcs.getD i Q.z95).f2.toNat) ∈ F (Q.hd false (arcs.getD i Q.z95))
  inv : ∀ v e, e ∈ F v → (∃ k, k ∈ Q.kidsOf row bel c ∧ ∃ p t : Int, p ∈ Q.bndOf arcs bel k ∧ t ∈ Q.bndOf arcs bel k ∧ (dOf N arcs (Q.inB bel k) p.toNat).getD t.toNat 0 < infN ∧ v = p.toNat ∧ e = (t.toNat, (dOf N arcs (Q.inB bel k) p.toNat).getD t.toNat 0)) ∨
    (∃ i : Nat, (i : Int) ∈ Q.betweenOf arcs row bel c ∧ v = Q.hd false (arcs.getD i Q.z95) ∧ e = (Q.tl false (arcs.getD i Q.z95), (arcs.getD i Q.z95).f2.toNat))

theorem between_iff {arcs : List Q.S95} {row bel : List Int} {c : Int} {i : Nat} : (i : Int) ∈ Q.betweenOf arcs row bel c ↔ i < arcs.length ∧ Q.betweenB row bel c (arcs.getD i Q.z95) = true := by
  unfold Q.betweenOf Q.pickTo
  constructor
  · intro h
    obtain ⟨k, hk, he⟩ := List.mem_map.1 h
    have h1 := List.mem_filter.1 hk
    have h2 := List.mem_range.1 h1.1
    have h3 : k = i := by omega
    subst h3
    exact ⟨h2, h1.2⟩
  · intro ⟨h1, h2⟩
    exact List.mem_map.2 ⟨i, List.mem_filter.2 ⟨List.mem_range.2 h1, h2⟩, rfl⟩

theorem inB_true {cs : List Int} {c : Int} {u N : Nat} (hl : cs.length = N) (hu : u < N) : (Q.inB cs c).getD u false = true ↔ cs.getD u 0 = c := by
  rw [inB_get _ _ _ (by omega)]
  simp

section
variable {N : Nat} {arcs : List Q.S95} {row bel : List Int} {c : Int} {F : Nat → List (Nat × Nat)}
theorem dOf_sol (hg : Q.GOk N arcs) {cs : List Int} (hl : cs.length = N) {k : Int} {p : Nat} (hp : p < N) (hpk : cs.getD p 0 = k) : Sol false N arcs (inMay arcs (Q.inB cs k)) p (dOf N arcs (Q.inB cs k) p) := by
  have h2 := dOf_spec hg (Q.inB cs k) p hp
  unfold InSol at h2
  rw [if_pos ((inB_true hl hp).2 hpk)] at h2
  exact h2
theorem kid_in (hrow : row.length = N) (hbel : bel.length = N) (hn : Nested N row bel) {k : Int} (hk : k ∈ Q.kidsOf row bel c) {t : Nat} (ht : t < N) (htk : bel.getD t 0 = k) : row.getD t 0 = c := by
  unfold Q.kidsOf Q.rawOf at hk
  obtain ⟨v, hv, rfl⟩ := List.mem_map.1 (mem_sorted.1 hk)
  obtain ⟨h1, h2, h3⟩ := Q.mem_in hv
  rw [← h3]
  exact hn t v.toNat ht (by omega) htk
theorem kid_of (hrow : row.length = N) {t : Nat} (ht : t < N) (htc : row.getD t 0 = c) : bel.getD t 0 ∈ Q.kidsOf row bel c := by
  unfold Q.kidsOf Q.rawOf
  exact mem_sorted.2 (List.mem_map.2 ⟨(t : Int), Q.mem_of (by omega) htc, by rw [Int.toNat_natCast]⟩)

/-- A way over links is a walk within the cell. -/
theorem links_rch (hg : Q.GOk N arcs) (hrow : row.length = N) (hbel : bel.length = N) (hn : Nested N row bel) (hF : LinksOf N arcs row bel c F) {s u x : Nat} (h : LRch F s u x) : Rch false arcs (inMay arcs (Q.inB row c)) s u x := by
  induction h with
  | start => exact .start
  | link v x e he h ih =>
    rcases hF.inv v e he with ⟨k, hk, p, t, hp, ht, hlt, rfl, rfl⟩ | ⟨i, hi, rfl, rfl⟩
    · have hpN := bnd_in hg bel k p hp
      have htN := bnd_in hg bel k t ht
      have hpk := bnd_cell arcs bel k p hp
      have hs := dOf_sol hg hbel (k := k) (p := p.toNat) (by omega) hpk
      rcases hs.rch t.toNat (by omega) with h1 | h1
      · omega
      · refine ih.trans hg (h1.more (fun i hi => ?_))
        unfold inMay at hi ⊢
        by_cases hil : Q.tl false (arcs.getD i Q.z95) < N
        · exact (inB_true hrow hil).2 (kid_in hrow hbel hn hk hil ((inB_true hbel hil).1 hi))
        · rw [List.getD_eq_getElem?_getD, List.getElem?_eq_none (by unfold Q.inB; rw [List.length_map]; omega)] at hi
          simp at hi
    · obtain ⟨hil, hb⟩ := between_iff.1 hi
      have hmem : arcs.getD i Q.z95 ∈ arcs := by rw [List.getD_eq_getElem?_getD, List.getElem?_eq_getElem hil]; exact List.getElem_mem hil
      have htl := hg.tl false hmem
      refine .arc x i hil ?_ ih
      unfold inMay
      refine (inB_true hrow htl).2 ?_
      unfold Q.betweenB Q.insideB Q.cellT at hb
      simp only [Bool.and_eq_true, decide_eq_true_eq] at hb
      exact hb.1.2

/-- A boundary vertex of a cell is one of its child. -/
theorem bnd_below (hg : Q.GOk N arcs) (hn : Nested N row bel) {u : Int} (h : u ∈ Q.bndOf arcs row c) : u ∈ Q.bndOf arcs bel (bel.getD u.toNat 0) := by
  obtain ⟨a, ha, hne, hor⟩ := bnd_inv h
  obtain ⟨i, hi, rfl⟩ := List.getElem_of_mem ha
  have e : arcs.getD i Q.z95 = arcs[i] := by rw [List.getD_eq_getElem?_getD, List.getElem?_eq_getElem hi]; rfl
  have he := hg.ends _ ha
  have h0 : Q.hd false arcs[i] < N := hg.hd false ha
  have h1 : Q.tl false arcs[i] < N := hg.tl false ha
  have hb : bel.getD (Q.hd false (arcs.getD i Q.z95)) 0 ≠ bel.getD (Q.tl false (arcs.getD i Q.z95)) 0 := by
    rw [e]
    intro q
    exact hne (hn _ _ h0 h1 q)
  have h2 := bnd_of hi hb (by rw [e]; exact ⟨he.1.1, he.2.1⟩)
  rw [e] at h2
  have e0 : ((Q.hd false arcs[i] : Nat) : Int) = arcs[i].f0 := Int.toNat_of_nonneg he.1.1
  have e1 : ((Q.tl false arcs[i] : Nat) : Int) = arcs[i].f1 := Int.toNat_of_nonneg he.2.1
  rw [e0, e1] at h2
  rcases hor with ⟨rfl, _⟩ | ⟨rfl, _⟩
  · exact h2.1
  · exact h2.2

/-- What is relaxed of links. -/
theorem lsol_step (hF : LinksOf N arcs row bel c F) {s : Nat} (hs : s < N) {d : List Nat} (hd : LSol N F s d) {v : Nat} {e : Nat × Nat} (he : e ∈ F v) (hv : v < N) : d.getD e.1 0 ≤ addD (d.getD v 0) e.2 := by
  rcases hd.rch v hv with h | h
  · rw [addD_inf _ _ (Or.inl h)]
    have := hd.lt e.1
    unfold infN
    omega
  · exact hd.low _ _ (hF.ok.tgt v e he) (.link v _ e he h)

/-- Each walk within the cell is as long as a way over links, and a rest within the last child. -/
theorem rch_links (hg : Q.GOk N arcs) (hrow : row.length = N) (hbel : bel.length = N) (hn : Nested N row bel) (hF : LinksOf N arcs row bel c F) {s : Nat} (hs : (s : Int) ∈ Q.bndOf arcs row c) {d : List Nat} (hd : LSol N F s d) {t y : Nat} (h : Rch false arcs (inMay arcs (Q.inB row c)) s t y) :
    t < N ∧ row.getD t 0 = c ∧ ∃ (p b : Nat), (p : Int) ∈ Q.bndOf arcs bel (bel.getD t 0) ∧ Rch false arcs (inMay arcs (Q.inB bel (bel.getD t 0))) p t b ∧ addD (d.getD p 0) b ≤ y := by
  have hsN : s < N := by have := bnd_in hg row c _ hs; omega
  induction h with
  | start =>
    refine ⟨hsN, ?_, s, 0, ?_, .start, ?_⟩
    · have := bnd_cell arcs row c _ hs
      rwa [Int.toNat_natCast] at this
    · have := bnd_below hg hn hs
      rwa [Int.toNat_natCast] at this
    · have := hd.low s 0 hsN .start
      unfold addD
      split <;> omega
  | arc y i hi hm h ih =>
    obtain ⟨htN, htc, p, b, hp, hr, hle⟩ := ih
    have hmem : arcs.getD i Q.z95 ∈ arcs := by rw [List.getD_eq_getElem?_getD, List.getElem?_eq_getElem hi]; exact List.getElem_mem hi
    have htl := hg.tl false hmem
    have hw := hg.wt _ hmem
    have he := hg.ends _ hmem
    have htc' : row.getD (Q.tl false (arcs.getD i Q.z95)) 0 = c := by
      unfold inMay at hm
      exact (inB_true hrow htl).1 hm
    have hpN : p < N := by have := bnd_in hg bel _ _ hp; omega
    have hpk := bnd_cell arcs bel _ _ hp
    rw [Int.toNat_natCast] at hpk
    refine ⟨htl, htc', ?_⟩
    by_cases hb : bel.getD (Q.tl false (arcs.getD i Q.z95)) 0 = bel.getD (Q.hd false (arcs.getD i Q.z95)) 0
    · rw [hb]
      refine ⟨p, addD b (arcs.getD i Q.z95).f2.toNat, hp, .arc b i hi ?_ hr, ?_⟩
      · unfold inMay
        exact (inB_true hbel htl).2 hb
      · rw [← addD_assoc _ _ _ (hd.lt p) hr.lt (by omega)]
        exact addD_mono _ hle
    · have hbn := bnd_of hi (fun q => hb q.symm) ⟨he.1.1, he.2.1⟩
      refine ⟨Q.tl false (arcs.getD i Q.z95), 0, hbn.2, .start, ?_⟩
      rw [addD_zero _ (hd.lt _)]
      have hbet : (i : Int) ∈ Q.betweenOf arcs row bel c := between_iff.2 ⟨hi, by
        unfold Q.betweenB Q.insideB Q.cellF Q.cellT
        simp only [Bool.and_eq_true, decide_eq_true_eq]
        exact ⟨⟨htc, htc'⟩, fun q => hb q.symm⟩⟩
      have h1 := lsol_step hF hsN hd (hF.arc i hbet) htN
      refine Nat.le_trans h1 (addD_mono _ (Nat.le_trans ?_ hle))
      -- the last child's part is a link
      have hsol := dOf_sol hg hbel (k := bel.getD (Q.hd false (arcs.getD i Q.z95)) 0) hpN hpk
      have hX := hsol.low _ b htN hr
      have hkid : bel.getD (Q.hd false (arcs.getD i Q.z95)) 0 ∈ Q.kidsOf row bel c := kid_of hrow htN htc
      have hgrow : ∀ x y : Nat, x ≤ y → addD (d.getD p 0) x ≤ addD (d.getD p 0) y := fun x y h => by unfold addD; split <;> split <;> omega
      refine Nat.le_trans ?_ (hgrow _ _ hX)
      by_cases hlt : (dOf N arcs (Q.inB bel (bel.getD (Q.hd false (arcs.getD i Q.z95)) 0)) p).getD (Q.hd false (arcs.getD i Q.z95)) 0 < infN
      · have h2 := hF.mat _ hkid (p : Int) _ hp hbn.1 (by rw [Int.toNat_natCast, Int.toNat_natCast]; exact hlt)
        rw [Int.toNat_natCast, Int.toNat_natCast] at h2
        exact lsol_step hF hsN hd h2 hpN
      · have h3 := hsol.lt (Q.hd false (arcs.getD i Q.z95))
        rw [addD_inf _ _ (Or.inr (by unfold infN at hlt ⊢; omega))]
        have := hd.lt (Q.hd false (arcs.getD i Q.z95))
        unfold infN
        omega

/-- LEVEL BY LEVEL. -/
theorem links_dOf (hg : Q.GOk N arcs) (hrow : row.length = N) (hbel : bel.length = N) (hn : Nested N row bel) (hF : LinksOf N arcs row bel c F) {v u : Int} (hv : v ∈ Q.bndOf arcs row c) (hu : u ∈ Q.bndOf arcs row c) {d : List Nat} (hd : LSol N F v.toNat d) :
    d.getD u.toNat 0 = (dOf N arcs (Q.inB row c) v.toNat).getD u.toNat 0 := by
  have hvN := bnd_in hg row c v hv
  have huN := bnd_in hg row c u hu
  have hsol := dOf_sol hg hrow (k := c) (p := v.toNat) (by omega) (bnd_cell arcs row c v hv)
  have hvs : ((v.toNat : Nat) : Int) ∈ Q.bndOf arcs row c := by rw [Int.toNat_of_nonneg hvN.1]; exact hv
  refine Nat.le_antisymm ?_ ?_
  · rcases hsol.rch u.toNat (by omega) with h | h
    · rw [h]; have := hd.lt u.toNat; unfold infN; omega
    · obtain ⟨htN, htc, p, b, hp, hr, hle⟩ := rch_links hg hrow hbel hn hF hvs hd h
      refine Nat.le_trans ?_ hle
      have hpN : p < N := by have := bnd_in hg bel _ _ hp; omega
      have hpk := bnd_cell arcs bel _ _ hp
      rw [Int.toNat_natCast] at hpk
      have hs2 := dOf_sol hg hbel (k := bel.getD u.toNat 0) hpN hpk
      have hX := hs2.low _ b htN hr
      have hkid : bel.getD u.toNat 0 ∈ Q.kidsOf row bel c := kid_of hrow htN htc
      have hgrow : ∀ x y : Nat, x ≤ y → addD (d.getD p 0) x ≤ addD (d.getD p 0) y := fun x y h => by unfold addD; split <;> split <;> omega
      refine Nat.le_trans ?_ (hgrow _ _ hX)
      by_cases hlt : (dOf N arcs (Q.inB bel (bel.getD u.toNat 0)) p).getD u.toNat 0 < infN
      · have h2 := hF.mat _ hkid (p : Int) u hp (bnd_below hg hn hu) (by rw [Int.toNat_natCast]; exact hlt)
        rw [Int.toNat_natCast] at h2
        exact lsol_step hF (by omega) hd h2 hpN
      · have h3 := hs2.lt u.toNat
        rw [addD_inf _ _ (Or.inr (by unfold infN at hlt ⊢; omega))]
        have := hd.lt u.toNat
        unfold infN
        omega
  · rcases hd.rch u.toNat (by omega) with h | h
    · rw [h]; have := hsol.lt u.toNat; unfold infN; omega
    · exact hsol.low _ _ (by omega) (links_rch hg hrow hbel hn hF h)
end

end Go.Proofs.YtjddimoeodecgaaGreat

/- What clique.Up makes of children's matrices and weights (plain). -/
namespace Go.Proofs.YtjddimoeodecgaaGreat
open Go.RowKit
set_option linter.unusedVariables false
set_option maxRecDepth 100000

/-- Links as they were put in: (from, (to, length)). -/
def linkF (its : List (Nat × Nat × Nat)) : Nat → List (Nat × Nat) := fun v => (its.filter (fun e => decide (e.1 = v))).map (·.2)
theorem linkF_put (its : List (Nat × Nat × Nat)) (v : Nat) (e : Nat × Nat) : linkF (its ++ [(v, e)]) = putF (linkF its) v e := by
  funext u
  unfold linkF putF
  rw [List.filter_append, List.map_append]
  by_cases h : u = v
  · subst h; simp
  · have : ¬ v = u := fun q => h q.symm
    simp [h, this]
theorem linkF_len (its : List (Nat × Nat × Nat)) (v : Nat) : (linkF its v).length ≤ its.length := by
  unfold linkF
  rw [List.length_map]
  exact List.length_filter_le _ _
theorem mem_linkF {its : List (Nat × Nat × Nat)} {v : Nat} {e : Nat × Nat} : e ∈ linkF its v ↔ (v, e) ∈ its := by
  unfold linkF
  constructor
  · intro h
    obtain ⟨f, hf, rfl⟩ := List.mem_map.1 h
    obtain ⟨h1, h2⟩ := List.mem_filter.1 hf
    have h3 : f.1 = v := by simpa using h2
    rw [← h3]
    exact h1
  · intro h
    exact List.mem_map.2 ⟨(v, e), List.mem_filter.2 ⟨h, by simp⟩, rfl⟩

/-- A matrix's links, up to one. -/
def mlTo (l : List Int) (D : List Nat) (t : Nat) : List (Nat × Nat × Nat) := (List.range t).flatMap (fun t => if D.getD t 0 < infN then [((l.getD (t / l.length) 0).toNat, (l.getD (t % l.length) 0).toNat, D.getD t 0)] else [])
theorem mlTo_step (l : List Int) (D : List Nat) (t : Nat) : mlTo l D (t + 1) = mlTo l D t ++ (if D.getD t 0 < infN then [((l.getD (t / l.length) 0).toNat, (l.getD (t % l.length) 0).toNat, D.getD t 0)] else []) := by
  unfold mlTo
  rw [List.range_succ, List.flatMap_append]
  simp
theorem mlTo_len (l : List Int) (D : List Nat) : ∀ t : Nat, (mlTo l D t).length ≤ t
  | 0 => by simp [mlTo]
  | t + 1 => by
    rw [mlTo_step, List.length_append]
    have := mlTo_len l D t
    split <;> simp <;> omega
/-- The links of matrices, up to one. -/
def klTo (arcs : List Q.S95) (bel kids : List Int) (Ds : List (List Nat)) (i : Nat) : List (Nat × Nat × Nat) := (List.range i).flatMap (fun i => mlTo (Q.bndOf arcs bel (kids.getD i 0)) (Ds.getD i []) (Ds.getD i []).length)
theorem klTo_step (arcs : List Q.S95) (bel kids : List Int) (Ds : List (List Nat)) (i : Nat) : klTo arcs bel kids Ds (i + 1) = klTo arcs bel kids Ds i ++ mlTo (Q.bndOf arcs bel (kids.getD i 0)) (Ds.getD i []) (Ds.getD i []).length := by
  unfold klTo
  rw [List.range_succ, List.flatMap_append]
  simp
/-- The links of arcs, up to one. -/
def alTo (arcs : List Q.S95) (bet ws : List Int) (i : Nat) : List (Nat × Nat × Nat) := (List.range i).map (fun t => ((arcs.getD (bet.getD t 0).toNat Q.z95).f0.toNat, (arcs.getD (bet.getD t 0).toNat Q.z95).f1.toNat, (ws.getD t 0).toNat))
theorem alTo_step (arcs : List Q.S95) (bet ws : List Int) (i : Nat) : alTo arcs bet ws (i + 1) = alTo arcs bet ws i ++ [((arcs.getD (bet.getD i 0).toNat Q.z95).f0.toNat, (arcs.getD (bet.getD i 0).toNat Q.z95).f1.toNat, (ws.getD i 0).toNat)] := by
  unfold alTo
  rw [List.range_succ, List.map_append]
  rfl
theorem alTo_len (arcs : List Q.S95) (bet ws : List Int) (i : Nat) : (alTo arcs bet ws i).length = i := by unfold alTo; simp

/-- All links that Up makes. -/
def upIts (arcs : List Q.S95) (row bel : List Int) (c : Int) (ws : List Int) (Ds : List (List Nat)) : List (Nat × Nat × Nat) :=
  klTo arcs bel (Q.kidsOf row bel c) Ds (Q.kidsOf row bel c).length ++ alTo arcs (Q.betweenOf arcs row bel c) ws (Q.betweenOf arcs row bel c).length

theorem LSol.unique {N : Nat} {F : Nat → List (Nat × Nat)} {s : Nat} {d1 d2 : List Nat} (h1 : LSol N F s d1) (h2 : LSol N F s d2) : d1 = d2 := by
  refine List.ext_getElem (h1.len.trans h2.len.symm) (fun u hu1 hu2 => ?_)
  have e1 : d1.getD u 0 = d1[u] := by rw [List.getD_eq_getElem?_getD, List.getElem?_eq_getElem hu1]; rfl
  have e2 : d2.getD u 0 = d2[u] := by rw [List.getD_eq_getElem?_getD, List.getElem?_eq_getElem hu2]; rfl
  rw [← e1, ← e2]
  have hu : u < N := by rw [← h1.len]; exact hu1
  have l1 := h1.lt u
  have l2 := h2.lt u
  refine Nat.le_antisymm ?_ ?_
  · rcases h2.rch u hu with h | h
    · rw [h]; unfold infN; omega
    · exact h1.low u _ hu h
  · rcases h1.rch u hu with h | h
    · rw [h]; unfold infN; omega
    · exact h2.low u _ hu h
open Classical in
noncomputable def lOf (N : Nat) (F : Nat → List (Nat × Nat)) (s : Nat) : List Nat := if h : ∃ d, LSol N F s d then Classical.choose h else []
theorem lOf_eq {N : Nat} {F : Nat → List (Nat × Nat)} {s : Nat} {d : List Nat} (h : LSol N F s d) : lOf N F s = d := by
  have hx : ∃ d, LSol N F s d := ⟨d, h⟩
  unfold lOf
  rw [dif_pos hx]
  exact (Classical.choose_spec hx).unique h
/-- The matrix that Up makes. -/
noncomputable def upD (N : Nat) (arcs : List Q.S95) (row bel : List Int) (c : Int) (ws : List Int) (Ds : List (List Nat)) : List Nat :=
  (Q.bndOf arcs row c).flatMap (fun v => rowOf (lOf N (linkF (upIts arcs row bel c ws Ds)) v.toNat) (Q.bndOf arcs row c))

theorem mem_mlTo {l : List Int} {D : List Nat} {t : Nat} {x : Nat × Nat × Nat} (h : x ∈ mlTo l D t) : ∃ j, j < t ∧ D.getD j 0 < infN ∧ x = ((l.getD (j / l.length) 0).toNat, (l.getD (j % l.length) 0).toNat, D.getD j 0) := by
  unfold mlTo at h
  obtain ⟨j, hj, hx⟩ := List.mem_flatMap.1 h
  split at hx
  · rename_i hc
    simp at hx
    exact ⟨j, List.mem_range.1 hj, hc, hx⟩
  · cases hx
theorem mlTo_of {l : List Int} {D : List Nat} {t j : Nat} (hj : j < t) (hc : D.getD j 0 < infN) : ((l.getD (j / l.length) 0).toNat, (l.getD (j % l.length) 0).toNat, D.getD j 0) ∈ mlTo l D t := by
  unfold mlTo
  refine List.mem_flatMap.2 ⟨j, List.mem_range.2 hj, ?_⟩
  rw [if_pos hc]
  simp
theorem get_mem {l : List Int} {i : Nat} (h : i < l.length) : l.getD i 0 ∈ l := by rw [List.getD_eq_getElem?_getD, List.getElem?_eq_getElem h]; exact List.getElem_mem h
theorem mem_get {l : List Int} {x : Int} (h : x ∈ l) : ∃ i, i < l.length ∧ l.getD i 0 = x := by
  obtain ⟨i, hi, rfl⟩ := List.getElem_of_mem h
  exact ⟨i, hi, by rw [List.getD_eq_getElem?_getD, List.getElem?_eq_getElem hi]; rfl⟩

theorem between_in {arcs : List Q.S95} {row bel : List Int} {c x : Int} (h : x ∈ Q.betweenOf arcs row bel c) : ∃ i : Nat, x = (i : Int) ∧ i < arcs.length := by
  unfold Q.betweenOf Q.pickTo at h
  obtain ⟨k, hk, rfl⟩ := List.mem_map.1 h
  exact ⟨k, rfl, List.mem_range.1 (List.mem_filter.1 hk).1⟩

/-- Links that Up makes of anything may be. -/
theorem upIts_ok {N : Nat} {arcs : List Q.S95} (hg : Q.GOk N arcs) {row bel : List Int} {c : Int} {ws : List Int} {Ds : List (List Nat)} (hws : ∀ x ∈ ws, 0 ≤ x ∧ x < 4294967296) (hlen : ∀ i, i < (Q.kidsOf row bel c).length → (Ds.getD i []).length = (Q.bndOf arcs bel ((Q.kidsOf row bel c).getD i 0)).length * (Q.bndOf arcs bel ((Q.kidsOf row bel c).getD i 0)).length) (v : Nat) (e : Nat × Nat) (h : (v, e) ∈ upIts arcs row bel c ws Ds) : e.1 < N ∧ e.2 < 18446744073709551616 := by
  unfold upIts at h
  rcases List.mem_append.1 h with h | h
  · unfold klTo at h
    obtain ⟨i, hi, hx⟩ := List.mem_flatMap.1 h
    have hi' := List.mem_range.1 hi
    obtain ⟨j, hj, hc, he⟩ := mem_mlTo hx
    have hl := hlen i hi'
    generalize (Q.kidsOf row bel c).getD i 0 = k at *
    have hb0 : 0 < (Q.bndOf arcs bel k).length := by
      rcases Nat.eq_zero_or_pos (Q.bndOf arcs bel k).length with q | q
      · rw [q] at hl; omega
      · exact q
    have h2 := bnd_in hg bel k _ (get_mem (Nat.mod_lt j hb0))
    injection he with _ he
    have h3 := congrArg Prod.fst he
    have h4 := congrArg Prod.snd he
    simp only at h3 h4
    rw [h3, h4]
    unfold infN at hc
    omega
  · unfold alTo at h
    obtain ⟨i, hi, hx⟩ := List.mem_map.1 h
    have hi' := List.mem_range.1 hi
    obtain ⟨j, hj, hjl⟩ := between_in (get_mem hi')
    have hmem : arcs.getD j Q.z95 ∈ arcs := by rw [List.getD_eq_getElem?_getD, List.getElem?_eq_getElem hjl]; exact List.getElem_mem hjl
    have he := hg.ends _ hmem
    rw [hj, Int.toNat_natCast] at hx
    injection hx with _ hx
    have h3 := congrArg Prod.fst hx
    have h4 := congrArg Prod.snd hx
    simp only at h3 h4
    have h5 : (ws.getD i 0).toNat < 4294967296 := by
      by_cases hw : i < ws.length
      · have := hws _ (get_mem hw); omega
      · rw [List.getD_eq_getElem?_getD, List.getElem?_eq_none (by omega)]; simp
    rw [← h3, ← h4]
    omega

/-- LEVEL BY LEVEL: from right matrices, and the arcs' own weights, the right matrix. -/
theorem up_right {N : Nat} {arcs : List Q.S95} (hg : Q.GOk N arcs) {row bel : List Int} (hrow : row.length = N) (hbel : bel.length = N) (hn : Nested N row bel) {c : Int} {ws : List Int} {Ds : List (List Nat)}
    (hws : ∀ i, i < (Q.betweenOf arcs row bel c).length → ws.getD i 0 = (arcs.getD ((Q.betweenOf arcs row bel c).getD i 0).toNat Q.z95).f2) (hwl : ws.length = (Q.betweenOf arcs row bel c).length)
    (hD : ∀ i, i < (Q.kidsOf row bel c).length → Ds.getD i [] = Q.matOf N arcs bel ((Q.kidsOf row bel c).getD i 0)) :
    upD N arcs row bel c ws Ds = Q.matOf N arcs row c := by
  have hws' : ∀ x ∈ ws, 0 ≤ x ∧ x < 4294967296 := fun x hx => by
    obtain ⟨i, hi, rfl⟩ := mem_get hx
    rw [hwl] at hi
    rw [hws i hi]
    obtain ⟨j, hj, hjl⟩ := between_in (get_mem hi)
    rw [hj, Int.toNat_natCast]
    exact hg.wt _ (by rw [List.getD_eq_getElem?_getD, List.getElem?_eq_getElem hjl]; exact List.getElem_mem hjl)
  have hlen : ∀ i, i < (Q.kidsOf row bel c).length → (Ds.getD i []).length = (Q.bndOf arcs bel ((Q.kidsOf row bel c).getD i 0)).length * (Q.bndOf arcs bel ((Q.kidsOf row bel c).getD i 0)).length := fun i hi => by rw [hD i hi, matOf_len]
  have hok : LinkOk N (linkF (upIts arcs row bel c ws Ds)) := ⟨fun v e he => (upIts_ok hg hws' hlen v e (mem_linkF.1 he)).1, fun v e he => (upIts_ok hg hws' hlen v e (mem_linkF.1 he)).2⟩
  have hL : LinksOf N arcs row bel c (linkF (upIts arcs row bel c ws Ds)) := by
    refine ⟨hok, fun k hk p t hp ht hlt => ?_, fun i hi => ?_, fun v e he => ?_⟩
    · obtain ⟨i, hi, rfl⟩ := mem_get hk
      obtain ⟨a, ha, rfl⟩ := mem_get hp
      obtain ⟨b, hb, rfl⟩ := mem_get ht
      refine mem_linkF.2 (List.mem_append_left _ (List.mem_flatMap.2 ⟨i, List.mem_range.2 hi, ?_⟩))
      have hl := hlen i hi
      have hg2 := matOf_get N arcs bel ((Q.kidsOf row bel c).getD i 0) a b ha hb
      rw [← hD i hi] at hg2
      generalize (Q.kidsOf row bel c).getD i 0 = k at *
      rw [← hg2] at hlt ⊢
      have hidx : a * (Q.bndOf arcs bel k).length + b < (Ds.getD i []).length := by
        rw [hl]
        have : (a + 1) * (Q.bndOf arcs bel k).length ≤ (Q.bndOf arcs bel k).length * (Q.bndOf arcs bel k).length := Nat.mul_le_mul_right _ ha
        rw [Nat.add_mul, Nat.one_mul] at this
        omega
      have h3 := mlTo_of (l := Q.bndOf arcs bel k) hidx hlt
      have e1 : (a * (Q.bndOf arcs bel k).length + b) / (Q.bndOf arcs bel k).length = a := by
        rw [Nat.mul_comm, Nat.mul_add_div (by omega), Nat.div_eq_of_lt hb, Nat.add_zero]
      have e2 : (a * (Q.bndOf arcs bel k).length + b) % (Q.bndOf arcs bel k).length = b := by
        rw [Nat.mul_comm, Nat.mul_add_mod, Nat.mod_eq_of_lt hb]
      rw [e1, e2] at h3
      exact h3
    · obtain ⟨t, ht, hti⟩ := mem_get hi
      refine mem_linkF.2 (List.mem_append_right _ (List.mem_map.2 ⟨t, List.mem_range.2 ht, ?_⟩))
      rw [hws t ht, hti, Int.toNat_natCast]
      rfl
    · rcases List.mem_append.1 (mem_linkF.1 he) with h | h
      · left
        obtain ⟨i, hi, hx⟩ := List.mem_flatMap.1 h
        have hi' := List.mem_range.1 hi
        obtain ⟨j, hj, hc, hee⟩ := mem_mlTo hx
        have hl := hlen i hi'
        have hk := get_mem hi'
        have hDi := hD i hi'
        generalize (Q.kidsOf row bel c).getD i 0 = k at *
        have hb0 : 0 < (Q.bndOf arcs bel k).length := by
          rcases Nat.eq_zero_or_pos (Q.bndOf arcs bel k).length with q | q
          · rw [q] at hl; omega
          · exact q
        have hq : j / (Q.bndOf arcs bel k).length < (Q.bndOf arcs bel k).length := Nat.div_lt_of_lt_mul (by rw [← hl]; exact hj)
        have hr : j % (Q.bndOf arcs bel k).length < (Q.bndOf arcs bel k).length := Nat.mod_lt _ hb0
        have h3 := matOf_get N arcs bel k _ _ hq hr
        rw [Nat.div_add_mod' j _, ← hDi] at h3
        injection hee with h4 h5
        refine ⟨k, hk, _, _, get_mem hq, get_mem hr, ?_, h4, ?_⟩
        · rw [← h3]; exact hc
        · rw [← h3]; exact h5
      · right
        obtain ⟨t, ht, hx⟩ := List.mem_map.1 h
        have ht' := List.mem_range.1 ht
        obtain ⟨i, hti, hil⟩ := between_in (get_mem ht')
        refine ⟨i, by rw [← hti]; exact get_mem ht', ?_, ?_⟩
        · injection hx with h4 h5
          rw [← h4, hti, Int.toNat_natCast]
          rfl
        · injection hx with h4 h5
          rw [← h5, hws t ht', hti, Int.toNat_natCast]
          rfl
  unfold upD Q.matOf
  have hin := bnd_in hg row c
  have key : ∀ m : List Int, (∀ v ∈ m, v ∈ Q.bndOf arcs row c) → m.flatMap (fun v => rowOf (lOf N (linkF (upIts arcs row bel c ws Ds)) v.toNat) (Q.bndOf arcs row c)) = m.flatMap (fun v => rowOf (dOf N arcs (Q.inB row c) v.toNat) (Q.bndOf arcs row c)) := by
    intro m
    induction m with
    | nil => intro _; rfl
    | cons v r ih =>
      intro hm
      rw [List.flatMap_cons, List.flatMap_cons, ih (fun x hx => hm x (List.mem_cons_of_mem _ hx))]
      congr 1
      have hv := hm v List.mem_cons_self
      have hvN := hin v hv
      obtain ⟨_, fin, _, hsol⟩ := lsol_any hok v.toNat (by omega)
      rw [lOf_eq hsol]
      unfold rowOf
      refine List.map_congr_left (fun u hu => ?_)
      exact links_dOf hg hrow hbel hn hL hv hu hsol
  exact key _ (fun v hv => hv)

end Go.Proofs.YtjddimoeodecgaaGreat

/- Matrices in memory, as clique.Up takes them. -/
namespace Go.Proofs.YtjddimoeodecgaaGreat
open Go.RowKit Go.Lib Go.Maps Go.Proofs.YtjddimoeodecgaaGreatW.PrintWords Go.Proofs.YtjddimoeodecgaaGreatW.PrintLast Go.Proofs.YtjddimoeodecgaaGreatW.PrintMore
set_option linter.unusedVariables false
set_option maxRecDepth 100000

/-- A matrix: its level, cell, epoch, and members. -/
structure Mat where
  lv : Int
  c : Int
  ep : Int
  D : List Nat
def zMat : Mat := ⟨0, 0, 0, []⟩
/-- Matrices lie in a row. -/
def MatsIn (w : World) (A : Option Addr) (ms : List Mat) : Prop := ∀ i, i < ms.length → ∃ g DP dc, A = some ⟨g, 0, none⟩ ∧ w.cell? ⟨g, i * 4, none⟩ = some (.int .i64 (ms.getD i zMat).lv) ∧ w.cell? ⟨g, i * 4 + 1, none⟩ = some (.int .i64 (ms.getD i zMat).c) ∧ w.cell? ⟨g, i * 4 + 2, none⟩ = some (.int .i64 (ms.getD i zMat).ep) ∧ w.cell? ⟨g, i * 4 + 3, none⟩ = some (.slice DP (ms.getD i zMat).D.length dc) ∧
  ∀ j, j < (ms.getD i zMat).D.length → ∃ gd, DP = some ⟨gd, 0, none⟩ ∧ w.cell? ⟨gd, j, none⟩ = some (.int .u64 ((ms.getD i zMat).D.getD j 0 : Nat))
theorem MatsIn.below {w w' : World} {A : Option Addr} {ms : List Mat} (h : MatsIn w A ms) (hb : Below w.heap.size w w') : MatsIn w' A ms := fun i hi => by
  obtain ⟨g, DP, dc, h0, h1, h2, h3, h4, h5⟩ := h i hi
  refine ⟨g, DP, dc, h0, (hb.cell (World.block_lt_of_cell? w _ h1)).trans h1, (hb.cell (World.block_lt_of_cell? w _ h2)).trans h2, (hb.cell (World.block_lt_of_cell? w _ h3)).trans h3, (hb.cell (World.block_lt_of_cell? w _ h4)).trans h4, fun j hj => ?_⟩
  obtain ⟨gd, h6, h7⟩ := h5 j hj
  exact ⟨gd, h6, (hb.cell (World.block_lt_of_cell? w _ h7)).trans h7⟩
/-- What a matrix must be for Up. -/
structure KidOk (N : Int) (arcs : List Q.S95) (bounds : List Int) (cells : List (List Int)) (level epoch kid : Int) (m : Mat) : Prop where
  lv : m.lv = level - 1
  c : m.c = kid
  e0 : 0 ≤ m.ep ∧ m.ep ≤ 1073741824
  ep : m.ep ≤ epoch
  len : m.D.length = (Q.bndOf arcs (cells.getD (level - 2).toNat []) kid).length * (Q.bndOf arcs (cells.getD (level - 2).toNat []) kid).length
  cell : Q.cellE N arcs bounds cells (level - 1) kid = 0
  lt : ∀ j, m.D.getD j 0 < 18446744073709551616
theorem KidOk.matE {N : Int} {arcs : List Q.S95} {bounds : List Int} {cells : List (List Int)} {level epoch kid : Int} {m : Mat} (h : KidOk N arcs bounds cells level epoch kid m) : Q.matE N arcs bounds cells m.lv m.c m.ep m.D.length = 0 := by
  have h1 := h.cell
  have h2 : (Q.checkR N arcs bounds cells).2 = 0 := by
    unfold Q.cellE at h1
    split at h1
    · rename_i h3
      unfold Q.lookedE at h3
      split at h3
      · assumption
      · exact h3
    · rename_i h3
      exact absurd h1 h3
  unfold Q.matE Q.levelRow
  have h4 : m.D.length = (Q.bndOf arcs (cells.getD (level - 1 - 1).toNat []) kid).length * (Q.bndOf arcs (cells.getD (level - 1 - 1).toNat []) kid).length := by
    have e : level - 1 - 1 = level - 2 := by omega
    rw [e]
    exact h.len
  rw [if_pos h2, h.lv, h.c, if_pos ⟨h.cell, h.e0, h4⟩]
theorem upE_ok {N : Int} {arcs : List Q.S95} {bounds : List Int} {cells : List (List Int)} {level cell : Int} (h : Q.upE N arcs bounds cells level cell = 0) : Q.cellE N arcs bounds cells level cell = 0 ∧ level ≠ 1 := by
  unfold Q.upE at h
  split at h
  · rename_i h0
    refine ⟨h0, fun q => ?_⟩
    rw [if_pos q] at h
    exact absurd h (by decide)
  · rename_i h0
    exact absurd h h0
theorem klTo_len {arcs : List Q.S95} (hm : arcs.length ≤ 8192) (bel kids : List Int) {Ds : List (List Nat)} {n : Nat} (h : ∀ i, i < n → (Ds.getD i []).length ≤ 268435456) : ∀ i, i ≤ n → (klTo arcs bel kids Ds i).length ≤ i * 268435456
  | 0, _ => by simp [klTo]
  | i + 1, hi => by
    rw [klTo_step, List.length_append, Nat.add_mul, Nat.one_mul]
    have h1 := klTo_len hm bel kids h i (by omega)
    have h2 := mlTo_len (Q.bndOf arcs bel (kids.getD i 0)) (Ds.getD i []) (Ds.getD i []).length
    have h3 := h i (by omega)
    omega
theorem linkInfo : (Tryz.prog.info? 123).map (fun i => (i.zero, i.size, i.bytes)) = some (some (.agg #[.int .i64 0, .int .u64 0]), 2, 16) := by kernel_rfl

end Go.Proofs.YtjddimoeodecgaaGreat
