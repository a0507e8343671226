/- What is read of a snap is what the store had. -/
import Derived.Test.YtmlmjchifelpkaaDoorStoreV
namespace Go.Proofs.YtmlmjchifelpkaaDoor
open Go.RowKit Go.Lib Go.Maps Go.Sort
set_option linter.unusedVariables false
set_option maxRecDepth 100000

/-- The records of a snap. -/
def recsOf (ss : List (List UInt8)) (f : List UInt8 → Option ByteArray) : List (ByteArray × ByteArray) := ss.map fun k => (⟨k.toArray⟩, (f k).getD ⟨#[]⟩)
theorem recsOf_snap (ss : List (List UInt8)) (f : List UInt8 → Option ByteArray) : recsL (recsOf ss f) = snapL ss f := by
  unfold recsL recsOf snapL
  rw [List.flatMap_map]
  rfl
theorem recsOf_ok {m : MapP} (hm : m.Ok) {ss : List (List UInt8)} (h : KeysOf m ss) : ∀ r ∈ recsOf ss m.m, RecOk r := by
  intro r hr
  obtain ⟨k, hk, rfl⟩ := List.mem_map.1 hr
  obtain ⟨v, hv⟩ := Option.isSome_iff_exists.1 ((h.mem k).1 hk)
  obtain ⟨h1, h2, h3⟩ := hm.key k v hv
  refine ⟨⟨?_, ?_⟩, ?_⟩
  · show 1 ≤ ByteArray.size ⟨k.toArray⟩
    rw [arr_size]; exact h1
  · show ByteArray.size ⟨k.toArray⟩ ≤ 64
    rw [arr_size]; exact h2
  · show ((m.m k).getD ⟨#[]⟩).size ≤ 65536
    rw [hv]; exact h3
theorem recsOf_asc {m : MapP} {ss : List (List UInt8)} (h : KeysOf m ss) : Asc (recsOf ss m.m) := by
  unfold Asc recsOf
  rw [List.pairwise_map]
  refine (List.Pairwise.and h.sorted (List.nodup_iff_pairwise_ne.1 h.nodup)).imp ?_
  rintro a b ⟨h1, h2⟩
  simp only [leB, decide_eq_true_eq] at h1
  show a < b
  rcases Classical.em (a < b) with hlt | hlt
  · exact hlt
  · exact absurd (List.le_antisymm h1 (List.not_lt.1 hlt)) h2

theorem mapL_at (l : List (ByteArray × ByteArray)) : ∀ (m : MapP) (x : List UInt8), (∀ r ∈ l, r.1.data.toList ≠ x) → (mapL l m).m x = m.m x := by
  induction l with
  | nil => intro m x _; rfl
  | cons r l ih =>
    intro m x h
    show (mapL l (m.put r.1.data.toList r.2)).m x = _
    rw [ih _ _ (fun q hq => h q (by simp [hq]))]
    show putM m.m _ _ x = _
    unfold putM
    rw [if_neg (fun e => h r (by simp) e.symm)]
theorem mapL_recs (f : List UInt8 → Option ByteArray) : ∀ (ss : List (List UInt8)) (m : MapP), ss.Nodup → ∀ x, (mapL (recsOf ss f) m).m x = if x ∈ ss then some ((f x).getD ⟨#[]⟩) else m.m x := by
  intro ss
  induction ss with
  | nil => intro m _ x; simp [recsOf, mapL]
  | cons k ss ih =>
    intro m hn x
    obtain ⟨hk, hn2⟩ := List.nodup_cons.1 hn
    show (mapL (recsOf ss f) (m.put k ((f k).getD ⟨#[]⟩))).m x = _
    rw [ih _ hn2]
    by_cases hx : x ∈ ss
    · simp [hx]
    · rw [if_neg hx]
      show putM m.m _ _ x = _
      unfold putM
      by_cases e : x = k
      · subst e; simp
      · simp [e, hx]
/-- What is read of a snap is what the store had. -/
theorem snap_back {m : MapP} {ss : List (List UInt8)} (h : KeysOf m ss) : (mapL (recsOf ss m.m) MapP.nil).m = m.m := by
  funext x
  rw [mapL_recs m.m ss MapP.nil h.nodup x]
  by_cases hx : x ∈ ss
  · rw [if_pos hx]
    obtain ⟨v, hv⟩ := Option.isSome_iff_exists.1 ((h.mem x).1 hx)
    rw [hv]; rfl
  · rw [if_neg hx]
    cases hq : m.m x with
    | none => rfl
    | some v => exact absurd ((h.mem x).2 (by rw [hq]; rfl)) hx

theorem mapL_small (l : List (ByteArray × ByteArray)) : ∀ (m : MapP) (n : Nat), m.Small n → (∀ r ∈ l, (1 ≤ r.1.size ∧ r.1.size ≤ 64) ∧ r.2.size ≤ 1000) → (mapL l m).Small (n + l.length) := by
  induction l with
  | nil => intro m n h _; exact h
  | cons r l ih =>
    intro m n h hr
    have h1 := hr r (by simp)
    have h2 := ih (m.put r.1.data.toList r.2) (n + 1) (h.put _ _ (by rw [← Lib.size_eq]; exact h1.1) h1.2) (fun q hq => hr q (by simp [hq]))
    rw [List.length_cons, show n + (l.length + 1) = n + 1 + l.length by omega]
    exact h2
theorem recs_small (l : List (ByteArray × ByteArray)) (h : ∀ r ∈ l, (1 ≤ r.1.size ∧ r.1.size ≤ 64) ∧ r.2.size ≤ 1000) : (recsL l).length ≤ l.length * 1100 := by
  induction l with
  | nil => simp [recsL]
  | cons r l ih =>
    have ih2 := ih (fun q hq => h q (by simp [hq]))
    have h1 := h r (by simp)
    have h2 := recP_size r.1 r.2 (by omega) (by omega)
    rw [Lib.size_eq] at h2
    have h3 : recsL (r :: l) = recL r ++ recsL l := by simp [recsL]
    have h4 : (recL r).length ≤ r.1.size + r.2.size + 18 := h2
    rw [h3, List.length_append, List.length_cons]
    omega
theorem recsL_app (a b : List (ByteArray × ByteArray)) : recsL (a ++ b) = recsL a ++ recsL b := by simp [recsL]
theorem recsL_one (r : ByteArray × ByteArray) : recsL [r] = recL r := by simp [recsL]
theorem mapL_app (a b : List (ByteArray × ByteArray)) (m : MapP) : mapL (a ++ b) m = mapL b (mapL a m) := by simp [mapL]

end Go.Proofs.YtmlmjchifelpkaaDoor
