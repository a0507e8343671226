/- DistLists' plain laws: the program's lists of sums, least members and sums are the reference's. -/
import Derived.Test.YtkakngnfbahhiaaDoorQLend
namespace Go.Proofs.YtkakngnfbahhiaaDoor.Q
open Go.RowKit Go.Proofs.YtkakngnfbahhiaaDoorW.PrintWords Go.Proofs.YtkakngnfbahhiaaDoorW.PrintLast
set_option linter.unusedVariables false

theorem radd_f (a b : Nat) (ha : a < 18446744073709551616) (hb : b < 18446744073709551616) : flyoverref01_Add.f (a : Int) (b : Int) = some ((dAdd a b : Nat) : Int) := by
  have hs : IntKind.u64.wrap (18446744073709551615 - (b : Int)) = 18446744073709551615 - (b : Int) := IntWalk.u64_in _ (by omega)
  unfold flyoverref01_Add.f dAdd sat
  rw [hs]
  by_cases h : a + b < 18446744073709551616
  · have hs2 : IntKind.u64.wrap ((a : Int) + (b : Int)) = ((a + b : Nat) : Int) := by rw [IntWalk.u64_in _ (by omega)]; omega
    rw [if_neg (by omega), if_pos h, hs2]
  · rw [if_pos (by omega), if_neg h]
    rfl

theorem rsums_loop (l : List Nat) (hl : ∀ x ∈ l, x < 18446744073709551616) (hn : l.length ≤ 16384) (d : Nat) : ∀ (k i acc : Nat) (done : List Nat), acc < 18446744073709551616 → i + d = l.length → done.length = i → d < k →
    flyoverref01_Sums.l0 k (ints l) (ints done) (acc : Int) (i : Int) = some (ints (done ++ dSums (l.drop i) acc), 0) := by
  induction d with
  | zero =>
    intro k i acc done ha hi hdn hk
    obtain ⟨k, rfl⟩ : ∃ m, k = m + 1 := ⟨k - 1, by omega⟩
    simp only [flyoverref01_Sums.l0]
    rw [if_neg (by rw [ints_len]; omega), List.drop_eq_nil_of_le (by omega)]
    simp [dSums]
  | succ d ih =>
    intro k i acc done ha hi hdn hk
    obtain ⟨k, rfl⟩ : ∃ m, k = m + 1 := ⟨k - 1, by omega⟩
    have hlt : i < l.length := by omega
    have hx := hl l[i] (List.getElem_mem hlt)
    simp only [flyoverref01_Sums.l0]
    rw [if_pos (by rw [ints_len]; omega), if_pos (by omega), rd_ints l i hlt, radd_f acc l[i] ha hx]
    simp only [Option.bind_some]
    have e : ints done ++ [((dAdd acc l[i] : Nat) : Int)] = ints (done ++ [dAdd acc l[i]]) := by simp [ints]
    rw [if_pos (by rw [ints_len]; omega), e, wrap_up hlt (by omega), ih k (i + 1) _ (done ++ [dAdd acc l[i]]) (dAdd_lt _ _) (by omega) (by simp; omega) (by omega), List.drop_eq_getElem_cons hlt]
    simp [dSums]

theorem rsum_loop (l : List Nat) (hl : ∀ x ∈ l, x < 18446744073709551616) (hn : l.length ≤ 4611686018427387904) (d : Nat) : ∀ (k i acc : Nat), acc < 18446744073709551616 → i + d = l.length → d < k →
    flyoverref01_Sum.l0 k (ints l) (acc : Int) (i : Int) = some ((dSum (l.drop i) acc : Nat) : Int) := by
  induction d with
  | zero =>
    intro k i acc ha hi hk
    obtain ⟨k, rfl⟩ : ∃ m, k = m + 1 := ⟨k - 1, by omega⟩
    simp only [flyoverref01_Sum.l0]
    rw [if_neg (by rw [ints_len]; omega), List.drop_eq_nil_of_le (by omega)]
    rfl
  | succ d ih =>
    intro k i acc ha hi hk
    obtain ⟨k, rfl⟩ : ∃ m, k = m + 1 := ⟨k - 1, by omega⟩
    have hlt : i < l.length := by omega
    have hx := hl l[i] (List.getElem_mem hlt)
    simp only [flyoverref01_Sum.l0]
    rw [if_pos (by rw [ints_len]; omega), if_pos (by omega), rd_ints l i hlt, radd_f acc l[i] ha hx]
    simp only [Option.bind_some]
    rw [wrap_up hlt hn, ih k (i + 1) _ (dAdd_lt _ _) (by omega) (by omega), List.drop_eq_getElem_cons hlt]
    rfl
theorem rsum_f (l : List Nat) (hl : ∀ x ∈ l, x < 18446744073709551616) (hn : l.length ≤ 4611686018427387904) : flyoverref01_Sum.f (l.length + 1) (ints l) = some ((dSum l 0 : Nat) : Int) := by
  unfold flyoverref01_Sum.f
  exact rsum_loop l hl hn l.length (l.length + 1) 0 0 (by omega) (by omega) (by omega)

theorem rleast_loop (l : List Nat) (hn : l.length ≤ 16384) (d : Nat) : ∀ (k i a : Nat), i + d = l.length → a ≤ i → IsLeast l i a → d < k →
    ∃ b, ∃ hb : b < l.length, IsLeast l l.length b ∧ flyoverref01_Least.l0 k (ints l) (a : Int) (i : Int) = some ((b : Int), (l[b] : Int), 0) := by
  induction d with
  | zero =>
    intro k i a hi hai hP hk
    obtain ⟨k, rfl⟩ : ∃ m, k = m + 1 := ⟨k - 1, by omega⟩
    have e : i = l.length := by omega
    subst e
    obtain ⟨ha, h1, h2⟩ := hP
    refine ⟨a, ha, ⟨ha, h1, h2⟩, ?_⟩
    simp only [flyoverref01_Least.l0]
    rw [if_neg (by rw [ints_len]; omega), if_pos (by omega), if_pos (by rw [ints_len]; omega), rd_ints l a ha]
  | succ d ih =>
    intro k i a hi hai hP hk
    obtain ⟨k, rfl⟩ : ∃ m, k = m + 1 := ⟨k - 1, by omega⟩
    have hlt : i < l.length := by omega
    obtain ⟨ha, h1, h2⟩ := hP
    simp only [flyoverref01_Least.l0]
    rw [if_pos (by rw [ints_len]; omega), if_pos (by omega), if_pos (by omega), if_pos (by rw [ints_len]; omega), rd_ints l i hlt, rd_ints l a ha, wrap_up hlt (by omega)]
    by_cases hc : l[i] < l[a]
    · rw [if_pos (by omega)]
      refine ih k (i + 1) i (by omega) (by omega) ⟨hlt, fun j hj hji => ?_, fun j hj hji => ?_⟩ (by omega)
      · by_cases e : j = i
        · subst e; exact Nat.le_refl _
        · exact Nat.le_of_lt (Nat.lt_of_lt_of_le hc (h1 j hj (by omega)))
      · exact Nat.lt_of_lt_of_le hc (h1 j hj hji)
    · rw [if_neg (by omega)]
      refine ih k (i + 1) a (by omega) (by omega) ⟨ha, fun j hj hji => ?_, h2⟩ (by omega)
      by_cases e : j = i
      · subst e; omega
      · exact h1 j hj (by omega)

theorem least_one {l : List Nat} {a b : Nat} (ha : IsLeast l l.length a) (hb : IsLeast l l.length b) : a = b := by
  obtain ⟨h, h1, h2⟩ := ha
  obtain ⟨g, g1, g2⟩ := hb
  rcases Nat.lt_trichotomy a b with c | c | c
  · have := g2 a h c
    have := h1 b g g
    omega
  · exact c
  · have := h2 b g c
    have := g1 a h h
    omega

/-- Both lists of sums, both least members: the same answers. -/
theorem both_sums (l : List Nat) (hl : ∀ x ∈ l, x < 18446744073709551616) : ∃ (k : Nat) (s : List Int) (e : Int), s.length ≤ 16384 ∧ dist_Sums.f k (ints l) = some (s, e) ∧ flyoverref01_Sums.f k (ints l) = some (s, e) := by
  by_cases hn : l.length ≤ 16384
  · refine ⟨l.length + 1, ints (dSums l 0), 0, by rw [ints_len, dSums_len]; exact hn, sums_f l hl hn _ (by omega), ?_⟩
    unfold flyoverref01_Sums.f
    rw [ints_len, if_neg (by omega)]
    have := rsums_loop l hl hn l.length (l.length + 1) 0 0 [] (by omega) (by omega) rfl (by omega)
    simpa [ints] using this
  · refine ⟨0, [], 2, by simp, ?_, ?_⟩
    · unfold dist_Sums.f; rw [ints_len, if_pos (by omega)]
    · unfold flyoverref01_Sums.f; rw [ints_len, if_pos (by omega)]

theorem both_leasts (l : List Nat) : ∃ (k : Nat) (a d e : Int), dist_Least.f k (ints l) = some (a, d, e) ∧ flyoverref01_Least.f k (ints l) = some (a, d, e) := by
  by_cases hn : l.length ≤ 16384
  · by_cases h0 : 0 < l.length
    · obtain ⟨b, hb, hP, he⟩ := least_f l hn h0 (l.length + 1) (by omega)
      have hone : IsLeast l 1 0 := ⟨h0, fun j hj hji => (by
        have e : j = 0 := by omega
        subst e
        exact Nat.le_refl _), fun j hj hji => by omega⟩
      obtain ⟨c, hc, hQ, hf⟩ := rleast_loop l hn (l.length - 1) (l.length + 1) 1 0 (by omega) (by omega) hone (by omega)
      obtain rfl := least_one hP hQ
      refine ⟨l.length + 1, _, _, _, he, ?_⟩
      unfold flyoverref01_Least.f
      rw [ints_len, if_neg (by omega), if_neg (by omega)]
      exact hf
    · have e : l = [] := List.eq_nil_of_length_eq_zero (by omega)
      subst e
      refine ⟨0, 0, 0, 5, least_nil 0, ?_⟩
      unfold flyoverref01_Least.f
      rw [ints_len, if_neg (by simp), if_pos (by simp)]
  · refine ⟨0, 0, 0, 2, ?_, ?_⟩
    · unfold dist_Least.f; rw [ints_len, if_pos (by omega)]
    · unfold flyoverref01_Least.f; rw [ints_len, if_pos (by omega)]
end Go.Proofs.YtkakngnfbahhiaaDoor.Q
