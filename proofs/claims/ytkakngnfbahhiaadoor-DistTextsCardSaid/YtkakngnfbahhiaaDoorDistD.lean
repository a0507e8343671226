/- The contracts of the reference's Digits, Text, Number, Parse over this seat's translation: what each call answers; of what was there nothing turns. -/
import Derived.Test.YtkakngnfbahhiaaDoorDistW
namespace Go.Proofs.YtkakngnfbahhiaaDoor
open Go.RowKit Go.Sort Go.Lib
set_option linter.unusedVariables false

/-- Where the loop of Digits stands. -/
def DRel (u m : Nat) (cs : List UInt8) : Prop :=
  (cs = [] ∧ m = u) ∨ (cs ≠ [] ∧ 0 < m ∧ decDigits u = decDigits m ++ cs) ∨ (cs ≠ [] ∧ m = 0 ∧ decDigits u = cs)

theorem DRel.len {u m : Nat} {cs : List UInt8} (h : DRel u m cs) (hu : u ≤ 18446744073709551615) : cs.length ≤ 20 := by
  have h20 := nDigits_le u hu
  have hl := decDigits_length u
  rcases h with ⟨rfl, _⟩ | ⟨_, _, h⟩ | ⟨_, _, h⟩
  · simp
  · rw [h, List.length_append] at hl; omega
  · rw [h] at hl; omega

theorem DRel.step {u m : Nat} {cs : List UInt8} (h : DRel u m cs) (hgo : 0 < m ∨ cs = []) : DRel u (m / 10) (UInt8.ofNat (48 + m % 10) :: cs) := by
  have key : decDigits u = decDigits m ++ cs := by
    rcases h with ⟨rfl, rfl⟩ | ⟨_, _, h⟩ | ⟨h1, rfl, h⟩
    · simp
    · exact h
    · rcases hgo with h | h
      · omega
      · exact absurd h h1
  by_cases h10 : m < 10
  · right; right
    refine ⟨by simp, by omega, ?_⟩
    rw [key, decDigits_one h10, Nat.mod_eq_of_lt h10]; rfl
  · right; left
    refine ⟨by simp, by omega, ?_⟩
    rw [key, decDigits, dif_neg h10]
    simp

def tens : ByteArray := ⟨#[48, 49, 50, 51, 52, 53, 54, 55, 56, 57]⟩
theorem ten_run (W : World) (d : Nat) (hd : d < 10) : (Instr.slice 9 (.string ⟨#[48, 49, 50, 51, 52, 53, 54, 55, 56, 57]⟩) (some (.int .u64 (d : Int))) (some (.int .u64 ((d : Int) + 1))) none).run Tryd.prog W = .ok (.string ⟨#[UInt8.ofNat (48 + d)]⟩) W := by
  have h : d = 0 ∨ d = 1 ∨ d = 2 ∨ d = 3 ∨ d = 4 ∨ d = 5 ∨ d = 6 ∨ d = 7 ∨ d = 8 ∨ d = 9 := by omega
  rcases h with rfl | rfl | rfl | rfl | rfl | rfl | rfl | rfl | rfl | rfl <;> rfl

theorem one_cat (c : UInt8) (cs : List UInt8) : (⟨#[c]⟩ : ByteArray) ++ ⟨cs.toArray⟩ = ⟨(c :: cs).toArray⟩ := by
  apply Go.WideShapes.bytes_inj
  rw [ByteArray.data_append]
  simp

def DMeas (i s : Value) : Nat := 2 * (Go.RowKit.intOf i).toNat + (match s with | .string b => if b.size = 0 then 1 else 0 | _ => 0)

theorem parseOut_of' {s : ByteArray} {c : Prop} [Decidable c] {n c1 m c2 : Nat} (h : dParse s = if c then (n, c1) else (m, c2)) : parseOut s = if c then pout n c1 else pout m c2 := by
  by_cases hc : c
  · rw [if_pos hc] at h ⊢; exact parseOut_of h
  · rw [if_neg hc] at h ⊢; exact parseOut_of h

theorem digits_any (u : Nat) (hu : u < 18446744073709551616) (w : World) :
    Calls Tryd.prog 35 #[.int .u64 u] w fun e w' => e = .returned (.string ⟨(decDigits u).toArray⟩) ∧ w = w' := by
  go_enter Tryd.func35, Tryd.ntmps35
  go_wp2
  go_loop [0, 3] (fun i s => ∃ (m : Nat) (cs : List UInt8), m < 18446744073709551616 ∧ DRel u m cs ∧ i = .int .u64 m ∧ s = .string ⟨cs.toArray⟩) (fun i s => DMeas i s)
  case atStart => exact ⟨u, [], hu, Or.inl ⟨rfl, rfl⟩, rfl, rfl⟩
  case round =>
    obtain ⟨m, cs, hm, hrel, rfl, rfl⟩ := hrel
    by_cases hgo : 0 < m ∨ cs = []
    · have hs := hrel.step hgo
      have hl := hrel.len (by omega)
      have HS := Lib.hid hs
      clear hs hrel
      have hd : m % 10 < 10 := Nat.mod_lt _ (by omega)
      have hsl : ∀ W, (Instr.slice 9 (.string ⟨#[48, 49, 50, 51, 52, 53, 54, 55, 56, 57]⟩) (some (.int .u64 ((m : Int) % 10))) (some (.int .u64 ((m : Int) % 10 + 1))) none).run Tryd.prog W = .ok (.string ⟨#[UInt8.ofNat (48 + m % 10)]⟩) W := fun W => ten_run W (m % 10) hd
      have hlen : cs.toArray.size ≤ 20 := by simpa using hl
      have hcat := one_cat (UInt8.ofNat (48 + m % 10)) cs
      have hmeas : DMeas (.int .u64 ((m / 10 : Nat) : Int)) (.string ⟨(UInt8.ofNat (48 + m % 10) :: cs).toArray⟩) < DMeas (.int .u64 (m : Int)) (.string ⟨cs.toArray⟩) := by
        have e1 : (⟨(UInt8.ofNat (48 + m % 10) :: cs).toArray⟩ : ByteArray).size = cs.length + 1 := by show (UInt8.ofNat (48 + m % 10) :: cs).toArray.size = _; simp
        have e2 : (⟨cs.toArray⟩ : ByteArray).size = cs.length := by show cs.toArray.size = _; simp
        simp only [DMeas, Go.RowKit.intOf, e1, e2]
        rcases hgo with h | rfl
        · split <;> (try split) <;> simp <;> omega
        · simp; omega
      have HM := Lib.hid hmeas
      clear hmeas
      by_cases hpos : 0 < m
      · clear hgo
        generalize UInt8.ofNat (48 + m % 10) = c at *
        go_wp2
        go_round
        case rel => exact ⟨m / 10, _, by omega, HS.out, by go_num, rfl⟩
        case measure => exact HM.out
      · have hcs : cs = [] := by rcases hgo with h | h; (omega); exact h
        subst hcs
        have hm0 : m = 0 := by omega
        subst hm0
        clear hgo
        go_wp2
        go_round
        case rel => exact ⟨0, [48], by omega, HS.out, by go_num, congrArg Value.string (Go.WideShapes.bytes_inj (by decide +kernel))⟩
        case measure => exact HM.out
    · have hm0 : m = 0 := by omega
      have hcs : cs ≠ [] := fun h => hgo (Or.inr h)
      have hfin : decDigits u = cs := by
        rcases hrel with ⟨h, _⟩ | ⟨_, h, _⟩ | ⟨_, _, h⟩
        · exact absurd h hcs
        · omega
        · exact h
      have HF := Lib.hid hfin
      have hne : cs.isEmpty = false := by
        cases cs with
        | nil => exact absurd rfl hcs
        | cons a r => rfl
      subst hm0
      clear hfin hrel hgo hcs
      go_wp2
      go_ret
      exact ⟨by rw [HF.out]; rfl, rfl⟩

theorem rtext_any (d : Nat) (hd : d < 18446744073709551616) (w : World) :
    Calls Tryd.prog 19 #[.int .u64 d] w fun e w' => e = .returned (.string (dText d)) ∧ w = w' := by
  by_cases h : d = 18446744073709551615
  · rw [h, text_inf]
    go_enter Tryd.func19, Tryd.ntmps19
    go_wp2
    go_ret
    exact ⟨rfl, rfl⟩
  · have e1 : dText d = ⟨(Lib.decDigits d).toArray⟩ := by unfold dText; rw [if_neg h]
    rw [e1]
    have hb : ((d : Int) == 18446744073709551615) = false := by rw [beq_eq_false_iff_ne]; omega
    clear e1 h
    go_enter Tryd.func19, Tryd.ntmps19
    go_wp2_with (go_at_call 35; refine (digits_any d hd _).mono ?_; rintro e w' ⟨rfl, rfl⟩)
    go_ret
    exact ⟨rfl, rfl⟩

def NOut (s : ByteArray) (w : World) (e : Ending) (w' : World) : Prop := (∃ (n : Nat) (b : Bool), e = .returned (.tuple #[.int .u64 n, .bool b]) ∧ n < 18446744073709551616 ∧ ((b = true ∧ rNumber s = some n) ∨ (b = false ∧ rNumber s = none))) ∧ w = w'

theorem drop_get (s : ByteArray) (k : Nat) (hk : k < s.size) : s.data.toList.drop k = s[k] :: s.data.toList.drop (k + 1) := by
  have h : k < s.data.toList.length := by simpa using hk
  rw [List.drop_eq_getElem_cons h]
  rfl

theorem emp_true {s : ByteArray} (h : s.size = 0) : (s.toList).isEmpty = true := by
  rw [ByteArray.toList_eq]
  have : s.data.toList = [] := List.eq_nil_of_length_eq_zero (by rw [Array.length_toList]; exact h)
  rw [this]; rfl
theorem emp_false {s : ByteArray} (h : s.size ≠ 0) : (s.toList).isEmpty = false := by
  rw [ByteArray.toList_eq]
  cases hh : s.data.toList with
  | nil => exfalso; apply h; show s.data.size = 0; rw [← Array.length_toList, hh]; rfl
  | cons a r => rfl

theorem number_short (s : ByteArray) (h : s.size = 0 ∨ 20 < s.size) (w : World) : Calls Tryd.prog 33 #[.string s] w (NOut s w) := by
  have hn : rNumber s = none := by unfold rNumber; rw [if_pos h]
  have HN := Lib.hid hn
  clear hn
  by_cases h0 : s.size = 0
  · have hb := emp_true h0
    clear h h0
    go_enter Tryd.func33, Tryd.ntmps33
    go_wp2
    go_ret2
    exact ⟨⟨0, false, rfl, by omega, Or.inr ⟨rfl, HN.out⟩⟩, rfl⟩
  · have hb := emp_false h0
    have h20 : 20 < s.size := by omega
    clear h h0
    go_enter Tryd.func33, Tryd.ntmps33
    go_wp2
    go_ret2
    exact ⟨⟨0, false, rfl, by omega, Or.inr ⟨rfl, HN.out⟩⟩, rfl⟩

theorem rNum_no {s : ByteArray} {v : Nat} (hs : ¬ (s.size = 0 ∨ 20 < s.size)) (hr : rNum 0 s.data.toList = none) : rNumber s = none := by
  unfold rNumber; rw [if_neg hs, hr]
theorem number_end {s : ByteArray} {v : Nat} (hs : ¬ (s.size = 0 ∨ 20 < s.size)) (hr : rNum 0 s.data.toList = some v) : rNumber s = if (⟨(decDigits v).toArray⟩ : ByteArray) = s then some v else none := by
  unfold rNumber; rw [if_neg hs, hr]

theorem number_any (s : ByteArray) (h0 : s.size ≠ 0) (h20 : s.size ≤ 20) (w : World) : Calls Tryd.prog 33 #[.string s] w (NOut s w) := by
  have hne := emp_false h0
  have hns : ¬ (s.size = 0 ∨ 20 < s.size) := by omega
  have HS := Lib.hid hns
  clear hns
  go_enter Tryd.func33, Tryd.ntmps33
  go_wp2
  go_loop [4, 5] (fun n i => ∃ (v k : Nat), v < 18446744073709551616 ∧ k ≤ s.size ∧ rNum 0 s.data.toList = rNum v (s.data.toList.drop k) ∧ n = .int .u64 v ∧ i = .int .i64 k) (fun _ i => s.size - (Go.RowKit.intOf i).toNat)
  case atStart => exact ⟨0, 0, by omega, by omega, rfl, rfl, rfl⟩
  case round =>
    obtain ⟨v, k, hv, hk, hrel, rfl, rfl⟩ := hrel
    have HR := Lib.hid hrel
    clear hrel
    by_cases hlt : k < s.size
    · have hd := drop_get s k hlt
      have hr2 := HR.out
      rw [hd, rNum] at hr2
      clear hd
      have hc256 : s[k].toNat < 256 := UInt8.toNat_lt _
      by_cases h1 : s[k].toNat < 48
      · rw [if_pos (Or.inl h1)] at hr2
        have HN := Lib.hid (rNum_no (v := v) HS.out hr2)
        clear hr2
        go_wp2
        go_ret2
        exact ⟨⟨0, false, rfl, by omega, Or.inr ⟨rfl, HN.out⟩⟩, rfl⟩
      · by_cases h2 : 57 < s[k].toNat
        · rw [if_pos (Or.inr h2)] at hr2
          have HN := Lib.hid (rNum_no (v := v) HS.out hr2)
          clear hr2
          go_wp2
          go_ret2
          exact ⟨⟨0, false, rfl, by omega, Or.inr ⟨rfl, HN.out⟩⟩, rfl⟩
        · rw [if_neg (by omega)] at hr2
          by_cases h3 : (18446744073709551615 - (s[k].toNat - 48)) / 10 < v
          · rw [if_pos h3] at hr2
            have HN := Lib.hid (rNum_no (v := v) HS.out hr2)
            clear hr2
            go_wp2
            go_ret2
            exact ⟨⟨0, false, rfl, by omega, Or.inr ⟨rfl, HN.out⟩⟩, rfl⟩
          · rw [if_neg h3] at hr2
            have HN := Lib.hid hr2
            clear hr2
            go_wp2
            go_round
            case rel => exact ⟨v * 10 + (s[k].toNat - 48), k + 1, by omega, by omega, HN.out, congrArg (Value.int IntKind.u64) (by omega), by go_num⟩
            case measure => simp [Go.RowKit.intOf]; omega
    · have hks : k = s.size := by omega
      have hr2 := HR.out
      rw [List.drop_eq_nil_of_le (by rw [Array.length_toList]; show s.data.size ≤ k; exact Nat.le_of_eq hks.symm), rNum] at hr2
      have HE := Lib.hid (number_end HS.out hr2)
      clear hr2 hks
      by_cases he : (⟨(decDigits v).toArray⟩ : ByteArray) = s
      · have hcmp : (decDigits v == s.toList) = true := by have h := str_eq he; rw [ByteArray.toList_eq (⟨(decDigits v).toArray⟩)] at h; exact h
        have HN : Hid (rNumber s = some v) := by
          refine Lib.hid ?_
          rw [HE.out, if_pos he]
        clear HE he
        go_wp2_with (go_at_call 35; refine (digits_any v hv _).mono ?_; rintro e w' ⟨rfl, rfl⟩)
        go_ret2
        exact ⟨⟨v, true, rfl, hv, Or.inl ⟨rfl, HN.out⟩⟩, rfl⟩
      · have hcmp : (decDigits v == s.toList) = false := by have h := str_ne he; rw [ByteArray.toList_eq (⟨(decDigits v).toArray⟩)] at h; exact h
        have HN : Hid (rNumber s = none) := by
          refine Lib.hid ?_
          rw [HE.out, if_neg he]
        clear HE he
        go_wp2_with (go_at_call 35; refine (digits_any v hv _).mono ?_; rintro e w' ⟨rfl, rfl⟩)
        go_ret2
        exact ⟨⟨v, false, rfl, hv, Or.inr ⟨rfl, HN.out⟩⟩, rfl⟩

theorem num_any (s : ByteArray) (w : World) : Calls Tryd.prog 33 #[.string s] w (NOut s w) := by
  by_cases h : s.size = 0 ∨ 20 < s.size
  · exact number_short s h w
  · exact number_any s (by omega) (by omega) w

theorem rparse_any (s : ByteArray) (w : World) : Calls Tryd.prog 17 #[.string s] w (POut s w) := by
  by_cases h1 : 262144 < s.size
  · have e1 : parseOut s = pout 0 2 := parseOut_of (by unfold dParse; rw [if_pos h1])
    have H1 := Lib.hid e1
    clear e1
    go_enter Tryd.func17, Tryd.ntmps17
    go_wp2
    refine bodyPost_ret (v := pout 0 2) (by simp [results, Tryd.results17, go_sem]; try rfl) rfl ⟨by rw [H1.out], ?_⟩
    exact (by go_grown)
  · by_cases h2 : s = infB
    · subst h2
      have e1 : parseOut infB = pout 18446744073709551615 0 := parseOut_of (by unfold dParse; rw [if_neg (by decide), if_pos rfl])
      have H1 := Lib.hid e1
      clear e1 h1
      unfold infB
      go_enter Tryd.func17, Tryd.ntmps17
      go_wp2
      refine bodyPost_ret (v := pout 18446744073709551615 0) (by simp [results, Tryd.results17, go_sem]; try rfl) rfl ⟨?_, ?_⟩
      · exact congrArg Ending.returned H1.out.symm
      · exact (by go_grown)
    · have hne := inf_ne h2
      have hs : s.size ≤ 262144 := by omega
      have key : ∀ (n : Nat) (b : Bool), ((b = true ∧ rNumber s = some n) ∨ (b = false ∧ rNumber s = none)) → parseOut s = (if b = true ∧ n ≠ 18446744073709551615 then pout n 0 else pout 0 10) := by
        intro n b hb
        refine parseOut_of' ?_
        rw [parse_same]
        unfold rParse
        rw [if_neg h1, if_neg h2]
        rcases hb with ⟨rfl, h⟩ | ⟨rfl, h⟩
        · rw [h]
          by_cases hn : n = 18446744073709551615
          · simp [hn]
          · simp [hn]
        · rw [h]; simp
      have HK := Lib.hid key
      clear key h1 h2
      go_enter Tryd.func17, Tryd.ntmps17
      go_wp2_with fail
      refine (num_any s _).mono ?_
      rintro e w1 ⟨⟨n, b, rfl, hn, hb⟩, rfl⟩
      have HB := Lib.hid (HK.out n b hb)
      clear hb
      cases b
      · have HE := Lib.hid (HB.out.trans (if_neg (by simp)))
        clear HB
        go_wp2
        refine bodyPost_ret (v := pout 0 10) (by simp [results, Tryd.results17, go_sem]; try rfl) rfl ⟨by rw [HE.out], ?_⟩
        exact (by go_grown)
      · by_cases hm : n = 18446744073709551615
        · have HE := Lib.hid (HB.out.trans (if_neg (fun h => h.2 hm)))
          clear HB
          subst hm
          go_wp2
          refine bodyPost_ret (v := pout 0 10) (by simp [results, Tryd.results17, go_sem]; try rfl) rfl ⟨by rw [HE.out], ?_⟩
          exact (by go_grown)
        · have HE := Lib.hid (HB.out.trans (if_pos ⟨rfl, hm⟩))
          have hne2 : ((n : Int) == 18446744073709551615) = false := by rw [beq_eq_false_iff_ne]; omega
          clear HB hm
          go_wp2
          refine bodyPost_ret (v := pout n 0) (by simp [results, Tryd.results17, go_sem]; try rfl) rfl ⟨by rw [HE.out], ?_⟩
          exact (by go_grown)
end Go.Proofs.YtkakngnfbahhiaaDoor
