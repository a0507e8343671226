/- Plain laws of distances: saturating sums and multiples, decimal numerals and their reading. No program here. -/
import Derived.Lib.ItoaNum
import Derived.Lib.ParseIntB
namespace Go.Proofs.YtkakngnfbahhiaaDoor
open Go Go.Lib

/-- What would be as great as Inf, or greater, is Inf. -/
def sat (x : Nat) : Nat := if x < 18446744073709551616 then x else 18446744073709551615
def dAdd (a b : Nat) : Nat := sat (a + b)
theorem sat_lt (x : Nat) : sat x < 18446744073709551616 := by unfold sat; split <;> omega
theorem dAdd_lt (a b : Nat) : dAdd a b < 18446744073709551616 := sat_lt _
theorem sat_id {x : Nat} (h : x < 18446744073709551616) : sat x = x := if_pos h
theorem sat_sat_l (a b : Nat) : sat (sat a + b) = sat (a + b) := by unfold sat; split <;> split <;> (try split) <;> omega
theorem sat_sat_r (a b : Nat) : sat (a + sat b) = sat (a + b) := by rw [Nat.add_comm, sat_sat_l, Nat.add_comm]
theorem sat_sat (a b : Nat) : sat (sat a + sat b) = sat (a + b) := by rw [sat_sat_l, sat_sat_r]
theorem dAdd_comm (a b : Nat) : dAdd a b = dAdd b a := by unfold dAdd; rw [Nat.add_comm]
theorem dAdd_assoc (a b c : Nat) : dAdd (dAdd a b) c = dAdd a (dAdd b c) := by unfold dAdd; rw [sat_sat_l, sat_sat_r, Nat.add_assoc]
theorem le_dAdd_l {a b : Nat} (h : a < 18446744073709551616) : a ≤ dAdd a b := by unfold dAdd sat; split <;> omega
theorem dAdd_mono {a b c : Nat} (h : b ≤ c) : dAdd a b ≤ dAdd a c := by unfold dAdd sat; split <;> split <;> omega
theorem dAdd_zero {a : Nat} (h : a < 18446744073709551616) : dAdd a 0 = a := sat_id h
theorem zero_dAdd {a : Nat} (h : a < 18446744073709551616) : dAdd 0 a = a := by rw [dAdd_comm, dAdd_zero h]
theorem dAdd_inf (a : Nat) : dAdd a 18446744073709551615 = 18446744073709551615 := by unfold dAdd sat; split <;> omega

/-- 1.2: a weight so many times. -/
def dTimes (w n : Nat) : Nat := sat (w * n)
theorem dTimes_lt (w n : Nat) : dTimes w n < 18446744073709551616 := sat_lt _
theorem dTimes_add (w n m : Nat) : dAdd (dTimes w n) (dTimes w m) = dTimes w (n + m) := by unfold dAdd dTimes; rw [sat_sat, Nat.mul_add]

/-- One round of the reckoning by halves. -/
theorem halves (o u n : Nat) : (if n % 2 = 1 then o + u else o) + (u + u) * (n / 2) = o + u * n := by
  have h : n = 2 * (n / 2) + n % 2 := by omega
  have h2 : n % 2 = 0 ∨ n % 2 = 1 := by omega
  have e : (u + u) * (n / 2) = u * (2 * (n / 2)) := by rw [← Nat.two_mul, Nat.mul_comm 2 u, Nat.mul_assoc]
  rw [e]
  rcases h2 with h2 | h2
  · rw [if_neg (by omega)]
    conv => rhs; rw [h, h2]
    simp
  · rw [if_pos h2]
    conv => rhs; rw [h, h2, Nat.mul_add, Nat.mul_one]
    omega

def infB : ByteArray := ⟨#[105, 110, 102]⟩
/-- 1.4: the text of a distance. -/
def dText (d : Nat) : ByteArray := if d = 18446744073709551615 then infB else ⟨(Lib.decDigits d).toArray⟩
/-- 1.4: the distance of a text, and the code of its fault. -/
def dParse (s : ByteArray) : Nat × Nat :=
  if 262144 < s.size then (0, 2) else if s = infB then (18446744073709551615, 0) else
  match Lib.parseUintB 64 s.data.toList with
  | .ok u => if u = 18446744073709551615 ∨ dText u ≠ s then (0, 10) else (u, 0)
  | _ => (0, 10)

theorem dig_range (u : Nat) : 48 ≤ (UInt8.ofNat (48 + u % 10)).toNat ∧ (UInt8.ofNat (48 + u % 10)).toNat ≤ 57 ∧ (UInt8.ofNat (48 + u % 10)).toNat - 48 = u % 10 := by
  have h : u % 10 < 10 := Nat.mod_lt _ (by decide)
  have e : (UInt8.ofNat (48 + u % 10)).toNat = 48 + u % 10 := by
    simp only [UInt8.toNat_ofNat']
    omega
  omega

theorem parseM_snoc (M : Nat) (hM : M = 18446744073709551615) (c : UInt8) (h1 : 48 ≤ c.toNat) (h2 : c.toNat ≤ 57) : ∀ (l : List UInt8) (acc v : Nat), parseUintM M acc l = .ok v → v * 10 + (c.toNat - 48) ≤ M →
    parseUintM M acc (l ++ [c]) = .ok (v * 10 + (c.toNat - 48))
  | [], acc, v, h, hv => by
    simp only [parseUintM, NumEnd.ok.injEq] at h
    subst h
    simp only [List.nil_append, parseUintM]
    rw [if_pos ⟨h1, h2⟩, if_neg (by omega), if_neg (by omega)]
  | d :: r, acc, v, h, hv => by
    simp only [List.cons_append, parseUintM] at h ⊢
    by_cases hd : 48 ≤ d.toNat ∧ d.toNat ≤ 57
    · rw [if_pos hd] at h ⊢
      by_cases ha : 1844674407370955162 ≤ acc
      · rw [if_pos ha] at h; cases h
      · rw [if_neg ha] at h ⊢
        by_cases hb : M < acc * 10 + (d.toNat - 48)
        · rw [if_pos hb] at h; cases h
        · rw [if_neg hb] at h ⊢
          exact parseM_snoc M hM c h1 h2 r _ v h hv
    · rw [if_neg hd] at h; cases h

theorem parse_digits (u : Nat) (hu : u ≤ 18446744073709551615) : parseUintM 18446744073709551615 0 (decDigits u) = .ok u := by
  induction u using Nat.strongRecOn with
  | _ u ih =>
    by_cases h : u < 10
    · rw [decDigits_one h]
      have hd := dig_range u
      rw [Nat.mod_eq_of_lt h] at hd
      simp only [parseUintM]
      rw [if_pos ⟨hd.1, hd.2.1⟩, if_neg (by omega), if_neg (by omega)]
      rw [hd.2.2]; simp
    · have hd := dig_range u
      have := parseM_snoc 18446744073709551615 rfl (UInt8.ofNat (48 + u % 10)) hd.1 hd.2.1 (decDigits (u / 10)) 0 (u / 10) (ih (u / 10) (by omega) (by omega)) (by omega)
      rw [decDigits, dif_neg h, this, hd.2.2]
      congr 1
      omega

theorem decDigits_ne_nil (u : Nat) : decDigits u ≠ [] := by
  intro h
  have h1 := decDigits_length u
  have h2 := nDigits_pos u
  rw [h] at h1
  simp at h1
  omega

theorem parseB_digits (u : Nat) (hu : u ≤ 18446744073709551615) : parseUintB 64 (decDigits u) = .ok u := by
  unfold parseUintB
  rw [if_neg (decDigits_ne_nil u)]
  exact parse_digits u hu

theorem decDigits_ascii (u : Nat) : ∀ c ∈ decDigits u, 48 ≤ c.toNat ∧ c.toNat ≤ 57 := by
  induction u using Nat.strongRecOn with
  | _ u ih =>
    by_cases h : u < 10
    · rw [decDigits_one h]
      intro c hc
      simp only [List.mem_singleton] at hc
      subst hc
      have hd := dig_range u
      rw [Nat.mod_eq_of_lt h] at hd
      exact ⟨hd.1, hd.2.1⟩
    · rw [decDigits, dif_neg h]
      intro c hc
      rcases List.mem_append.1 hc with hc | hc
      · exact ih (u / 10) (by omega) c hc
      · simp only [List.mem_singleton] at hc
        subst hc
        exact ⟨(dig_range u).1, (dig_range u).2.1⟩

theorem nDigits_le (u : Nat) (hu : u ≤ 18446744073709551615) : nDigits u ≤ 20 := by
  by_cases h0 : u = 0
  · subst h0; rw [nDigits_small (by omega)]; omega
  · have := numDigits_eq u (by omega) (by omega)
    split at this <;> omega

theorem text_size (u : Nat) (hu : u ≤ 18446744073709551615) : (⟨(decDigits u).toArray⟩ : ByteArray).size ≤ 20 := by
  have := nDigits_le u hu
  show (decDigits u).toArray.size ≤ 20
  rw [List.size_toArray, decDigits_length]
  exact this

theorem text_ne_inf (u : Nat) : (⟨(decDigits u).toArray⟩ : ByteArray) ≠ infB := by
  intro h
  have h1 : decDigits u = [105, 110, 102] := by
    have := congrArg (fun b : ByteArray => b.data.toList) h
    simpa [infB] using this
  have := decDigits_ascii u 105 (by rw [h1]; simp)
  simp at this

/-- 1.6: there and back. -/
theorem parse_text (d : Nat) (hd : d ≤ 18446744073709551615) : dParse (dText d) = (d, 0) := by
  unfold dText
  by_cases h : d = 18446744073709551615
  · rw [if_pos h]
    unfold dParse
    rw [if_neg (by decide), if_pos rfl, h]
  · rw [if_neg h]
    unfold dParse
    have hs := text_size d hd
    rw [if_neg (by omega), if_neg (text_ne_inf d)]
    have e : (⟨(decDigits d).toArray⟩ : ByteArray).data.toList = decDigits d := rfl
    rw [e, parseB_digits d hd]
    simp only []
    rw [if_neg]
    intro hc
    rcases hc with hc | hc
    · exact h hc
    · apply hc
      unfold dText
      rw [if_neg h]

/-- 1.6: what is read is written as the text; beside a fault stands 0. -/
theorem text_parse (s : ByteArray) : ((dParse s).2 = 0 ∧ dText (dParse s).1 = s) ∨ ((dParse s).2 ≠ 0 ∧ (dParse s).1 = 0) := by
  unfold dParse
  by_cases h1 : 262144 < s.size
  · rw [if_pos h1]; right; exact ⟨by simp, rfl⟩
  · rw [if_neg h1]
    by_cases h2 : s = infB
    · rw [if_pos h2]; left; refine ⟨rfl, ?_⟩; unfold dText; rw [if_pos rfl, h2]
    · rw [if_neg h2]
      rcases hp : parseUintB 64 s.data.toList with u | _ | _
      · simp only []
        by_cases hc : u = 18446744073709551615 ∨ dText u ≠ s
        · rw [if_pos hc]; right; exact ⟨by simp, rfl⟩
        · rw [if_neg hc]; left
          refine ⟨rfl, ?_⟩
          by_cases he : dText u = s
          · exact he
          · exact absurd (Or.inr he) hc
      · right; exact ⟨by simp, rfl⟩
      · right; exact ⟨by simp, rfl⟩

theorem parseM_lt : ∀ (l : List UInt8) (acc v : Nat), acc < 18446744073709551616 → parseUintM 18446744073709551615 acc l = .ok v → v < 18446744073709551616
  | [], acc, v, ha, h => by simp only [parseUintM, NumEnd.ok.injEq] at h; omega
  | c :: r, acc, v, ha, h => by
    simp only [parseUintM] at h
    split at h
    · split at h
      · cases h
      · split at h
        · cases h
        · exact parseM_lt r _ v (by omega) h
    · cases h
theorem parseB_lt {l : List UInt8} {u : Nat} (h : parseUintB 64 l = .ok u) : u < 18446744073709551616 := by
  unfold parseUintB at h
  split at h
  · cases h
  · exact parseM_lt _ 0 u (by omega) h

theorem parse_lt (s : ByteArray) : (dParse s).1 < 18446744073709551616 := by
  rcases text_parse s with ⟨_, h⟩ | ⟨_, h⟩
  · clear h
    unfold dParse
    by_cases h1 : 262144 < s.size
    · rw [if_pos h1]; exact Nat.zero_lt_succ _
    · rw [if_neg h1]
      by_cases h2 : s = infB
      · rw [if_pos h2]; exact Nat.lt_succ_self _
      · rw [if_neg h2]
        rcases hp : parseUintB 64 s.data.toList with u | _ | _
        · simp only []
          split
          · exact Nat.zero_lt_succ _
          · have : ∀ (l : List UInt8) (acc v : Nat), acc < 18446744073709551616 → parseUintM 18446744073709551615 acc l = .ok v → v < 18446744073709551616 := by
              intro l
              induction l with
              | nil => intro acc v ha h; simp only [parseUintM, NumEnd.ok.injEq] at h; omega
              | cons c r ih =>
                intro acc v ha h
                simp only [parseUintM] at h
                split at h
                · split at h
                  · cases h
                  · split at h
                    · cases h
                    · exact ih _ v (by omega) h
                · cases h
            unfold parseUintB at hp
            split at hp
            · cases hp
            · exact this _ 0 u (by omega) hp
        · exact Nat.zero_lt_succ _
        · exact Nat.zero_lt_succ _
  · rw [h]; exact Nat.zero_lt_succ _

/-- The reference's reading of digits: none, or the number. -/
def rNum (n : Nat) : List UInt8 → Option Nat
  | [] => some n
  | c :: r => if c.toNat < 48 ∨ 57 < c.toNat then none else if (18446744073709551615 - (c.toNat - 48)) / 10 < n then none else rNum (n * 10 + (c.toNat - 48)) r

theorem rNum_parse : ∀ (l : List UInt8) (n : Nat), (∀ v, rNum n l = some v → parseUintM 18446744073709551615 n l = .ok v) ∧ (rNum n l = none → ∀ v, parseUintM 18446744073709551615 n l ≠ .ok v)
  | [], n => ⟨fun v h => by simp only [rNum, Option.some.injEq] at h; subst h; rfl, fun h => by simp [rNum] at h⟩
  | c :: r, n => by
    simp only [rNum, parseUintM]
    by_cases h1 : c.toNat < 48 ∨ 57 < c.toNat
    · rw [if_pos h1, if_neg (by omega)]
      exact ⟨fun v h => by (cases h), fun _ v h => by (cases h)⟩
    · have hd : 48 ≤ c.toNat ∧ c.toNat ≤ 57 := by omega
      rw [if_neg h1, if_pos hd]
      by_cases h2 : (18446744073709551615 - (c.toNat - 48)) / 10 < n
      · rw [if_pos h2]
        refine ⟨fun v h => by (cases h), fun _ v h => ?_⟩
        by_cases h3 : 1844674407370955162 ≤ n
        · rw [if_pos h3] at h; cases h
        · rw [if_neg h3, if_pos (by omega)] at h; cases h
      · rw [if_neg h2, if_neg (by omega), if_neg (by omega)]
        exact rNum_parse r _

theorem rNum_lt : ∀ (l : List UInt8) (n v : Nat), n < 18446744073709551616 → rNum n l = some v → v < 18446744073709551616
  | [], n, v, hn, h => by simp only [rNum, Option.some.injEq] at h; omega
  | c :: r, n, v, hn, h => by
    simp only [rNum] at h
    split at h
    · cases h
    · split at h
      · cases h
      · exact rNum_lt r _ v (by omega) h

/-- The reference's Number. -/
def rNumber (s : ByteArray) : Option Nat :=
  if s.size = 0 ∨ 20 < s.size then none else match rNum 0 s.data.toList with
  | none => none
  | some v => if (⟨(decDigits v).toArray⟩ : ByteArray) = s then some v else none

/-- The reference's Parse. -/
def rParse (s : ByteArray) : Nat × Nat :=
  if 262144 < s.size then (0, 2) else if s = infB then (18446744073709551615, 0) else
  match rNumber s with
  | none => (0, 10)
  | some v => if v = 18446744073709551615 then (0, 10) else (v, 0)

theorem parse_same (s : ByteArray) : dParse s = rParse s := by
  unfold dParse rParse
  by_cases h1 : 262144 < s.size
  · rw [if_pos h1, if_pos h1]
  · rw [if_neg h1, if_neg h1]
    by_cases h2 : s = infB
    · rw [if_pos h2, if_pos h2]
    · rw [if_neg h2, if_neg h2]
      have key : ∀ u, parseUintB 64 s.data.toList = .ok u → u ≠ 18446744073709551615 → dText u = s → rNumber s = some u := by
        intro u hp hu ht
        unfold dText at ht
        rw [if_neg hu] at ht
        have hb : u ≤ 18446744073709551615 := by
          have : ∀ (l : List UInt8) (acc v : Nat), acc ≤ 18446744073709551615 → parseUintM 18446744073709551615 acc l = .ok v → v ≤ 18446744073709551615 := by
            intro l
            induction l with
            | nil => intro acc v ha h; simp only [parseUintM, NumEnd.ok.injEq] at h; omega
            | cons c r ih =>
              intro acc v ha h
              simp only [parseUintM] at h
              split at h
              · split at h
                · cases h
                · split at h
                  · cases h
                  · exact ih _ v (by omega) h
              · cases h
          unfold parseUintB at hp
          split at hp
          · cases hp
          · exact this _ 0 u (by omega) hp
        have hsz := text_size u hb
        rw [ht] at hsz
        have hnz : s.size ≠ 0 := by
          rw [← ht]
          show (decDigits u).toArray.size ≠ 0
          rw [List.size_toArray, decDigits_length]
          have := nDigits_pos u
          omega
        have hl : s.data.toList = decDigits u := by rw [← ht]
        unfold rNumber
        rw [if_neg (by omega), hl]
        have hr := rNum_parse (decDigits u) 0
        cases hq : rNum 0 (decDigits u) with
        | none => exact absurd (parse_digits u hb) (hr.2 hq u)
        | some v =>
          have h3 := hr.1 v hq
          rw [parse_digits u hb] at h3
          injection h3 with h3
          subst h3
          simp only []
          rw [if_pos ht]
      cases hn : rNumber s with
      | none =>
        simp only []
        rcases hp : parseUintB 64 s.data.toList with u | _ | _
        · simp only []
          rw [if_pos]
          by_cases hu : u = 18446744073709551615
          · exact Or.inl hu
          · by_cases ht : dText u = s
            · rw [key u hp hu ht] at hn; cases hn
            · exact Or.inr ht
        · rfl
        · rfl
      | some v =>
        simp only []
        have hp : parseUintB 64 s.data.toList = .ok v ∧ (⟨(decDigits v).toArray⟩ : ByteArray) = s := by
          unfold rNumber at hn
          split at hn
          · cases hn
          · rename_i hsz
            cases hq : rNum 0 s.data.toList with
            | none => rw [hq] at hn; cases hn
            | some v' =>
              rw [hq] at hn
              simp only [] at hn
              split at hn
              · rename_i ht
                injection hn with hn
                subst hn
                refine ⟨?_, ht⟩
                unfold parseUintB
                rw [if_neg]
                · exact (rNum_parse _ 0).1 _ hq
                · intro hnil
                  have : s.size = 0 := by
                    show s.data.size = 0
                    rw [← Array.length_toList, hnil]; rfl
                  omega
              · cases hn
        rw [hp.1]
        simp only []
        by_cases hv : v = 18446744073709551615
        · rw [if_pos hv, if_pos (Or.inl hv)]
        · rw [if_neg hv, if_neg]
          intro hc
          rcases hc with hc | hc
          · exact hv hc
          · apply hc
            unfold dText
            rw [if_neg hv]
            exact hp.2
end Go.Proofs.YtkakngnfbahhiaaDoor
