/- DistJoins as a plain law over lists of numbers: its printed function answers true at every two lists of distances. -/
import Derived.Test.YtkakngnfbahhiaaDoorQSum
import Derived.Test.YtkakngnfbahhiaaDoorQx
namespace Go.Proofs.YtkakngnfbahhiaaDoor.Q
open Go.RowKit Go.Proofs.YtkakngnfbahhiaaDoorW.PrintWords Go.Proofs.YtkakngnfbahhiaaDoorW.PrintLast
set_option linter.unusedVariables false

def dSums : List Nat → Nat → List Nat
  | [], _ => []
  | x :: r, acc => dAdd acc x :: dSums r (dAdd acc x)
theorem dSums_len : ∀ (l : List Nat) (acc : Nat), (dSums l acc).length = l.length
  | [], _ => rfl
  | x :: r, acc => by simp [dSums, dSums_len r]
theorem dSums_lt : ∀ (l : List Nat) (acc : Nat), ∀ x ∈ dSums l acc, x < 18446744073709551616
  | [], _, x, h => by simp [dSums] at h
  | y :: r, acc, x, h => by
    simp only [dSums, List.mem_cons] at h
    rcases h with rfl | h
    · exact dAdd_lt _ _
    · exact dSums_lt r _ x h
theorem dSums_append : ∀ (a b : List Nat) (acc : Nat), dSums (a ++ b) acc = dSums a acc ++ dSums b (dSum a acc)
  | [], _, _ => rfl
  | x :: r, b, acc => by simp only [List.cons_append, dSums, dSums_append r b]; rfl
theorem dSum_lt : ∀ (l : List Nat) (acc : Nat), acc < 18446744073709551616 → dSum l acc < 18446744073709551616
  | [], _, h => h
  | x :: r, acc, h => dSum_lt r _ (dAdd_lt _ _)
theorem dSum_from : ∀ (l : List Nat), (∀ x ∈ l, x < 18446744073709551616) → ∀ (acc : Nat), acc < 18446744073709551616 → dSum l acc = dAdd acc (dSum l 0)
  | [], _, acc, h => (dAdd_zero h).symm
  | x :: r, hx, acc, h => by
    have hx0 := hx x (by simp)
    show dSum r (dAdd acc x) = dAdd acc (dSum r (dAdd 0 x))
    rw [zero_dAdd hx0, dSum_from r (fun y hy => hx y (by simp [hy])) _ (dAdd_lt _ _), dSum_from r (fun y hy => hx y (by simp [hy])) x hx0, dAdd_assoc]
theorem dSum_append (a b : List Nat) (hb : ∀ x ∈ b, x < 18446744073709551616) : dSum (a ++ b) 0 = dAdd (dSum a 0) (dSum b 0) := by
  show (a ++ b).foldl dAdd 0 = _
  rw [List.foldl_append]
  exact dSum_from b hb _ (dSum_lt a 0 (by omega))

theorem ints_append (a b : List Nat) : ints (a ++ b) = ints a ++ ints b := by simp [ints]
theorem ints_take (a : List Nat) (n : Nat) : (ints a).take n = ints (a.take n) := by simp [ints]

theorem sums_loop (l : List Nat) (hl : ∀ x ∈ l, x < 18446744073709551616) (hn : l.length ≤ 16384) (d : Nat) : ∀ (k i acc : Nat) (done : List Nat), acc < 18446744073709551616 → i + d = l.length → done.length = i → d < k →
    dist_Sums.l0 k (ints done ++ List.replicate d 0) (acc : Int) (ints l) (l.length : Int) (i : Int) = some (ints (done ++ dSums (l.drop i) acc), 0) := by
  induction d with
  | zero =>
    intro k i acc done ha hi hdn hk
    obtain ⟨k, rfl⟩ : ∃ m, k = m + 1 := ⟨k - 1, by omega⟩
    simp only [dist_Sums.l0]
    rw [if_neg (by omega), List.drop_eq_nil_of_le (by omega)]
    simp [dSums]
  | succ d ih =>
    intro k i acc done ha hi hdn hk
    obtain ⟨k, rfl⟩ : ∃ m, k = m + 1 := ⟨k - 1, by omega⟩
    have hlt : i < l.length := by omega
    have hx := hl l[i] (List.getElem_mem hlt)
    simp only [dist_Sums.l0]
    rw [if_pos (by omega), if_pos (by omega), if_pos (by rw [ints_len]; omega), rd_ints l i hlt, dist_Add.of acc l[i] ha hx]
    simp only [Option.bind_some]
    have hset : (ints done ++ List.replicate (d + 1) 0).set ((i : Int)).toNat ((dAdd acc l[i] : Nat) : Int) = ints (done ++ [dAdd acc l[i]]) ++ List.replicate d 0 := by
      rw [Int.toNat_natCast, List.set_append_right _ _ (by rw [ints_len]; omega), ints_len, hdn, Nat.sub_self, List.replicate_succ, List.set_cons_zero, ints_append]
      simp [ints]
    rw [if_pos (by simp [ints_len]; omega), hset, wrap_up hlt (by omega), ih k (i + 1) _ (done ++ [dAdd acc l[i]]) (dAdd_lt _ _) (by omega) (by simp; omega) (by omega), List.drop_eq_getElem_cons hlt]
    simp [dSums]

theorem sums_f (l : List Nat) (hl : ∀ x ∈ l, x < 18446744073709551616) (hn : l.length ≤ 16384) (k : Nat) (hk : l.length < k) : dist_Sums.f k (ints l) = some (ints (dSums l 0), 0) := by
  unfold dist_Sums.f
  rw [ints_len, if_neg (by omega), if_pos (by omega), if_pos (by rw [Int.toNat_natCast]; omega), Int.toNat_natCast]
  have := sums_loop l hl hn l.length k 0 0 [] (by omega) (by omega) rfl hk
  simpa [ints] using this

theorem same_loop (l : List Int) (hn : l.length ≤ 4611686018427387904) (d : Nat) : ∀ (k i : Nat), i + d = l.length → d < k → flyoverbook_SameDists.l0 k l l (i : Int) = some true := by
  induction d with
  | zero =>
    intro k i hi hk
    obtain ⟨k, rfl⟩ : ∃ m, k = m + 1 := ⟨k - 1, by omega⟩
    simp only [flyoverbook_SameDists.l0]
    rw [if_neg (by omega)]
  | succ d ih =>
    intro k i hi hk
    obtain ⟨k, rfl⟩ : ∃ m, k = m + 1 := ⟨k - 1, by omega⟩
    simp only [flyoverbook_SameDists.l0]
    rw [if_pos (by omega), if_pos (by omega), if_pos (by omega), if_pos trivial, wrap_up (n := l.length) (by omega) hn]
    exact ih k (i + 1) (by omega) (by omega)
theorem same_f (l : List Int) (hn : l.length ≤ 4611686018427387904) (k : Nat) (hk : l.length < k) : flyoverbook_SameDists.f k l l = some true := by
  unfold flyoverbook_SameDists.f
  rw [if_pos rfl]
  exact same_loop l hn l.length k 0 (by omega) hk

/-- The first least member. -/
def IsLeast (l : List Nat) (n at_ : Nat) : Prop := ∃ h : at_ < l.length, (∀ j (hj : j < l.length), j < n → l[at_] ≤ l[j]) ∧ ∀ j (hj : j < l.length), j < at_ → l[at_] < l[j]

theorem least_loop (l : List Nat) (hn : l.length ≤ 16384) (d : Nat) : ∀ (k i a : Nat), i + d = l.length → a ≤ i → IsLeast l i a → d < k →
    ∃ b, ∃ hb : b < l.length, IsLeast l l.length b ∧ dist_Least.l0 k (ints l) (a : Int) (ints l) (l.length : Int) (i : Int) = some ((b : Int), (l[b] : Int), 0) := by
  induction d with
  | zero =>
    intro k i a hi hai hP hk
    obtain ⟨k, rfl⟩ : ∃ m, k = m + 1 := ⟨k - 1, by omega⟩
    have e : i = l.length := by omega
    subst e
    obtain ⟨ha, h1, h2⟩ := hP
    refine ⟨a, ha, ⟨ha, h1, h2⟩, ?_⟩
    simp only [dist_Least.l0]
    rw [if_neg (by omega), if_pos (by omega), if_pos (by rw [ints_len]; omega), rd_ints l a ha]
  | succ d ih =>
    intro k i a hi hai hP hk
    obtain ⟨k, rfl⟩ : ∃ m, k = m + 1 := ⟨k - 1, by omega⟩
    have hlt : i < l.length := by omega
    obtain ⟨ha, h1, h2⟩ := hP
    simp only [dist_Least.l0]
    rw [if_pos (by omega), if_pos (by omega), if_pos (by rw [ints_len]; omega), if_pos (by omega), if_pos (by rw [ints_len]; omega), rd_ints l i hlt, rd_ints l a ha, wrap_up hlt (by omega)]
    by_cases hc : l[i] < l[a]
    · rw [if_pos (by omega)]
      refine ih k (i + 1) i (by omega) (by omega) ⟨hlt, fun j hj hji => ?_, fun j hj hji => ?_⟩ (by omega)
      · by_cases e : j = i
        · subst e; exact Nat.le_refl _
        · exact Nat.le_of_lt (Nat.lt_of_lt_of_le hc (h1 j hj (by omega)))
      · exact Nat.lt_of_lt_of_le hc (h1 j hj hji)
    · rw [if_neg (by omega)]
      refine ih k (i + 1) a (by omega) (by omega) ⟨ha, fun j hj hji => ?_, h2⟩ (by omega)
      by_cases e : j = i
      · subst e; omega
      · exact h1 j hj (by omega)

theorem least_f (l : List Nat) (hn : l.length ≤ 16384) (h0 : 0 < l.length) (k : Nat) (hk : l.length < k) :
    ∃ b, ∃ hb : b < l.length, IsLeast l l.length b ∧ dist_Least.f k (ints l) = some ((b : Int), (l[b] : Int), 0) := by
  unfold dist_Least.f
  rw [ints_len, if_neg (by omega), if_neg (by omega)]
  exact least_loop l hn l.length k 0 0 (by omega) (by omega) ⟨h0, fun j hj hji => by omega, fun j hj hji => by omega⟩ hk

theorem joins_loop (l : List Nat) (hn : l.length ≤ 16384) (b : Nat) (hb : b < l.length) (hP : IsLeast l l.length b) (d : Nat) : ∀ (k i : Nat), i + d = l.length → d < k →
    flyoverlaw01_DistJoins.l0 k (ints l) (b : Int) (l[b] : Int) 0 (ints l) (l.length : Int) (i : Int) = some true := by
  induction d with
  | zero =>
    intro k i hi hk
    obtain ⟨k, rfl⟩ : ∃ m, k = m + 1 := ⟨k - 1, by omega⟩
    simp only [flyoverlaw01_DistJoins.l0]
    rw [if_neg (by omega), if_pos trivial, if_pos (by omega), if_pos (by rw [ints_len]; omega), if_pos (by omega), rd_ints l b hb]
    simp
  | succ d ih =>
    intro k i hi hk
    obtain ⟨k, rfl⟩ : ∃ m, k = m + 1 := ⟨k - 1, by omega⟩
    have hlt : i < l.length := by omega
    obtain ⟨_, h1, h2⟩ := hP
    have h3 := h1 i hlt hlt
    simp only [flyoverlaw01_DistJoins.l0]
    rw [if_pos (by omega), if_pos (by omega), if_pos (by rw [ints_len]; omega), rd_ints l i hlt, if_neg (by omega), wrap_up hlt (by omega)]
    have hgo := ih k (i + 1) (by omega) (by omega)
    by_cases e : l[i] = l[b]
    · rw [if_pos (by omega), if_neg]
      · exact hgo
      · intro hib
        have := h2 i hlt (by omega)
        omega
    · rw [if_neg (by omega)]
      exact hgo

theorem least_nil (k : Nat) : dist_Least.f k (ints []) = some (0, 0, 5) := by
  unfold dist_Least.f
  rw [ints_len, if_neg (by simp), if_pos (by simp)]

theorem joins_tail (l : List Nat) (hn : l.length ≤ 16384) (k : Nat) (hk : l.length < k) : flyoverlaw01_DistJoins.j0 (k + 1) (ints l) false = some true := by
  simp only [flyoverlaw01_DistJoins.j0]
  rw [if_neg (by simp)]
  by_cases h0 : l = []
  · rw [h0, least_nil]
    simp only [Option.bind_some]
    rw [if_pos (by simp [ints])]
    simp
  · have hpos : 0 < l.length := List.length_pos_iff.2 h0
    obtain ⟨q, hq, hP, he⟩ := least_f l hn hpos k hk
    rw [he]
    simp only [Option.bind_some]
    rw [if_neg (by rw [ints_len]; omega), ints_len]
    exact joins_loop l hn q hq hP l.length k 0 (by omega) (by omega)

theorem joins_at (a b : List Nat) (ha : ∀ x ∈ a, x < 18446744073709551616) (hb : ∀ x ∈ b, x < 18446744073709551616) (hs : a.length + b.length ≤ 16384) (K k : Nat) (hK : K = k + 1) (hk : a.length + b.length + 1 < k)  :
    flyoverlaw01_DistJoins.f K (ints a) (ints b) = some true := by
  have hab : ∀ x ∈ a ++ b, x < 18446744073709551616 := fun x hx => (List.mem_append.1 hx).elim (ha x) (hb x)
  have hlen : (a ++ b).length = a.length + b.length := List.length_append
  have hw : wrap64 ((a.length : Int) + (b.length : Int)) = ((a.length + b.length : Nat) : Int) := by unfold wrap64; omega
  have e1 := sums_f a ha (by omega) K (by omega)
  have e2 := sums_f (a ++ b) hab (by omega) K (by omega)
  have e3 := at_rounds (fun k => dist_Sum.mono _ k) (show (a ++ b).length + 1 ≤ K by omega) (sum_f (a ++ b) hab (by omega))
  have e4 := at_rounds (fun k => dist_Sum.mono _ k) (show a.length + 1 ≤ K by omega) (sum_f a ha (by omega))
  have e5 := at_rounds (fun k => dist_Sum.mono _ k) (show b.length + 1 ≤ K by omega) (sum_f b hb (by omega))
  have e6 := same_f (ints (dSums a 0)) (by rw [ints_len, dSums_len]; omega) K (by rw [ints_len, dSums_len]; omega)
  have e7 := dist_Add.of _ _ (dSum_lt a 0 (by omega)) (dSum_lt b 0 (by omega))
  have e8 : flyoverlaw01_DistJoins.j0 K (ints (a ++ b)) false = some true := by rw [hK]; exact joins_tail (a ++ b) (by omega) k (by omega)
  have e9 : (ints (dSums (a ++ b) 0)).take a.length = ints (dSums a 0) := by rw [ints_take, dSums_append, List.take_left' (dSums_len a 0)]
  have e10 : (ints (dSums (a ++ b) 0)).length = a.length + b.length := by rw [ints_len, dSums_len, hlen]
  have e11 := dSum_append a b hb
  generalize ints (dSums (a ++ b) 0) = S at *
  generalize ints (dSums a 0) = S1 at *
  generalize dSum (a ++ b) 0 = s at *
  generalize dSum a 0 = s1 at *
  generalize dSum b 0 = s2 at *
  unfold flyoverlaw01_DistJoins.f flyoverlaw01_works.f
  rw [Option.bind_some, if_pos rfl, ints_len, ints_len, hw, if_neg (by omega), Option.bind_some, if_pos (by simp; omega), Option.bind_some, List.nil_append, if_pos (by rw [ints_len]; omega), Option.bind_some, ← ints_append, e1, Option.bind_some, e2, Option.bind_some]
  simp only [if_true, e10, ints_len, hlen]
  rw [if_pos (by omega), if_pos (by omega), Int.toNat_natCast, e9, e6, Option.bind_some]
  simp only [if_true]
  rw [e3, Option.bind_some, e4, Option.bind_some, e5, Option.bind_some, e7, Option.bind_some, e11, bne_self_eq_false, e8]

theorem joins (a b : List Nat) (ha : ∀ x ∈ a, x < 18446744073709551616) (hb : ∀ x ∈ b, x < 18446744073709551616) (hla : a.length ≤ 17592186044415) (hlb : b.length ≤ 17592186044415) : ∃ k, flyoverlaw01_DistJoins.f k (ints a) (ints b) = some true := by
  by_cases hs : a.length + b.length ≤ 16384
  · exact ⟨a.length + b.length + 4, joins_at a b ha hb hs _ (a.length + b.length + 3) rfl (by omega)⟩
  · refine ⟨0, ?_⟩
    have hw : wrap64 ((a.length : Int) + (b.length : Int)) = ((a.length + b.length : Nat) : Int) := by unfold wrap64; omega
    unfold flyoverlaw01_DistJoins.f flyoverlaw01_works.f
    rw [Option.bind_some, if_pos rfl, ints_len, ints_len, hw, if_pos (by omega)]
end Go.Proofs.YtkakngnfbahhiaaDoor.Q
