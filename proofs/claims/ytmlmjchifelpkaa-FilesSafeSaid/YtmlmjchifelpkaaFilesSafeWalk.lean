/- FilesSafe: the plain law, and the walk through the law's own code. -/
import Derived.Test.YtmlmjchifelpkaaFileK
namespace Go.Proofs.Ytmlmjchifelpkaa
open Go.RowKit Go.Lib Go.Maps Go.Sort
set_option linter.unusedVariables false

def dB1 (data more : ByteArray) : DiskP := (dA data more).put [98] ⟨more, ⟨#[]⟩, false⟩
def dB (data more : ByteArray) : DiskP := (dB1 data more).put [98] ⟨more, more, true⟩
theorem sB1 (data more : ByteArray) (h : more.size ≤ 262144) : dWrite (dA data more) [98] more = (0, dB1 data more) := write_up (d := dA data more) rfl rfl may_b h (Or.inr (show (1 : Nat) < 64 by decide))
theorem sB2 (data more : ByteArray) : dSync (dB1 data more) [98] = (0, dB data more) := sync_up (d := dB1 data more) (f := ⟨more, ⟨#[]⟩, false⟩) rfl rfl may_b rfl
theorem dB_names (data more : ByteArray) : NamesOf (dB data more) [[97], [98]] := by
  refine ⟨fun k => ?_, by simp, by simp; decide, rfl, ?_⟩
  · by_cases h : k = [97]
    · subst h; exact ⟨fun _ => rfl, fun _ => by simp⟩
    · by_cases h2 : k = [98]
      · subst h2; exact ⟨fun _ => rfl, fun _ => by simp⟩
      · simp [dB, dB1, dA, dA2, dA1, DiskP.put, putF, dNew, h, h2]
  · intro k hk
    have : k.length = 1 := by simp at hk; rcases hk with rfl | rfl <;> rfl
    rw [this]; decide

/-- What 'a' has behind the crash. -/
def aHas (data more : ByteArray) (draw : Int) : ByteArray :=
  if more.size = 0 ∨ draw < 0 then data else (data ++ more).extract 0 (data.size + (draw % ((more.size + 1 : Nat) : Int)).toNat)

theorem size_app (x y : ByteArray) : (x ++ y).size = x.size + y.size := by simp
theorem empty_of_size {y : ByteArray} (h : y.size = 0) : y = ⟨#[]⟩ := by
  obtain ⟨l⟩ := y
  have : l.size = 0 := h
  rw [Array.size_eq_zero_iff.1 this]
theorem app_nil (x : ByteArray) : x ++ (⟨#[]⟩ : ByteArray) = x := by
  apply bytes_inj; simp
theorem toList_app (x y : ByteArray) : (x ++ y).data.toList = x.data.toList ++ y.data.toList := by simp

theorem safe_read (data more : ByteArray) (draw : Int) :
    (dKnown (crashOn [[97], [98]] [draw] (dB data more).up) [97]).1.has = aHas data more draw ∧ (dKnown (crashOn [[97], [98]] [draw] (dB data more).up) [97]).2 = 0 ∧
    (dKnown (crashOn [[97], [98]] [draw] (dB data more).up) [98]).1.has = more ∧ (dKnown (crashOn [[97], [98]] [draw] (dB data more).up) [98]).2 = 0 := by
  have fa : (dB data more).up.fs [97] = some ⟨data ++ more, data, true⟩ := rfl
  have fb : (dB data more).up.fs [98] = some ⟨more, more, true⟩ := rfl
  by_cases h0 : more.size = 0
  · have e := empty_of_size h0
    have ec : FileP.calm ⟨data ++ more, data, true⟩ = true := by rw [e, app_nil]; simp [FileP.calm]
    have eb : FileP.calm ⟨more, more, true⟩ = true := by simp [FileP.calm]
    have ex : crashOn [[97], [98]] [draw] (dB data more).up = (dB data more).up := by
      simp only [crashOn, fa, fb, Option.getD_some, ec, eb, if_true]
    rw [ex, known_up may_a fa, known_up may_b fb]
    refine ⟨?_, rfl, rfl, rfl⟩
    show data ++ more = _
    unfold aHas
    rw [if_pos (Or.inl h0), e, app_nil]
  · have hne : data ++ more ≠ data := fun h => h0 (by have := congrArg ByteArray.size h; rw [size_app] at this; omega)
    have ec : FileP.calm ⟨data ++ more, data, true⟩ = false := by simp [FileP.calm, hne]
    have et : tear ⟨data ++ more, data, true⟩ draw = some ⟨aHas data more draw, aHas data more draw, true⟩ := by
      unfold aHas
      by_cases hd : 0 ≤ draw
      · rw [if_neg (by omega)]
        refine tear_a hd ?_ (m := more.size + 1) ?_ rfl rfl
        · unfold Lib.hasPrefix
          rw [toList_app, List.isPrefixOf_iff_prefix]
          exact List.prefix_append _ _
        · rw [size_app]; omega
      · rw [if_pos (by omega)]
        exact tear_c hd
    have eb : FileP.calm ⟨more, more, true⟩ = true := by simp [FileP.calm]
    have fb2 : ((dB data more).up.put [97] ⟨aHas data more draw, aHas data more draw, true⟩).fs [98] = some ⟨more, more, true⟩ := rfl
    have fa2 : ((dB data more).up.put [97] ⟨aHas data more draw, aHas data more draw, true⟩).fs [97] = some ⟨aHas data more draw, aHas data more draw, true⟩ := rfl
    have ex : crashOn [[97], [98]] [draw] (dB data more).up = (dB data more).up.put [97] ⟨aHas data more draw, aHas data more draw, true⟩ := by
      simp only [crashOn, fa, Option.getD_some, ec, Bool.false_eq_true, if_false, List.headD_cons, et, DiskP.set, fb2, eb, if_true]
    rw [ex, known_up may_a fa2, known_up may_b fb2]
    exact ⟨rfl, rfl, rfl, rfl⟩

/-- What the law asks of it. -/
theorem aHas_law (data more : ByteArray) (draw : Int) : (aHas data more draw).size ≤ data.size + more.size ∧ data.size ≤ (aHas data more draw).size ∧ aHas data more draw = (data ++ more).extract 0 (aHas data more draw).size ∧
    (¬ (0 ≤ draw ∧ 0 < more.size) → aHas data more draw = data) := by
  have hd : data = (data ++ more).extract 0 data.size := by
    apply bytes_inj
    rw [← Lib.toList_data, ← Lib.toList_data, Lib.extract_toList, Lib.toList_data]
    simp only [toList_app, Lib.size_eq]
    simp
  by_cases h : more.size = 0 ∨ draw < 0
  · have e : aHas data more draw = data := by unfold aHas; rw [if_pos h]
    rw [e]
    exact ⟨by omega, Nat.le_refl _, hd, fun _ => rfl⟩
  · have e : aHas data more draw = (data ++ more).extract 0 (data.size + (draw % ((more.size + 1 : Nat) : Int)).toNat) := by unfold aHas; rw [if_neg h]
    obtain ⟨q, hq1, hq2, hq3⟩ := rem_fact draw (more.size + 1) (by omega) (by omega)
    rw [hq1] at e
    have hs : (aHas data more draw).size = data.size + q := by rw [e, ByteArray.size_extract, size_app]; omega
    rw [hs]
    exact ⟨by omega, by omega, e, fun hc => absurd hc (by omega)⟩

theorem safe_big (data more : ByteArray) (draw : Int) (w : World) (h1 : data.size ≤ 140737488351232) (h2 : more.size ≤ 140737488351232) (hb : 262144 < data.size + more.size) :
    Calls Try.prog 3 #[.string data, .string more, .int .i64 draw] w fun e w' => e = .returned (.bool true) ∧ Below w.heap.size w w' := by
  have a1 : IntKind.i64.wrap ((data.size : Int) + (more.size : Int)) = (data.size : Int) + (more.size : Int) := IntWalk.i64_in _ (by omega)
  have a2 : (262144 : Int) < (data.size : Int) + (more.size : Int) := by omega
  clear h1 h2 hb
  go_enter Try.func3, Try.ntmps3
  go_wp2_with fail
  refine (new_any _).mono ?_
  rintro e w1 ⟨rfl, hd1, hb1⟩
  have HD1 := Lib.hid hd1
  have HB1 := Lib.hid hb1
  clear hd1 hb1
  go_wp2_with fail
  refine (works_any _).mono ?_
  rintro e w2 ⟨rfl, hb2⟩
  have HB2 := Lib.hid (HB1.out.trans (hb2.mono HB1.out.size))
  clear hb2
  go_wp2
  go_ret
  exact ⟨rfl, HB2.out⟩

set_option maxHeartbeats 2000000 in
theorem safe_any (data more : ByteArray) (draw : Int) (w : World) (h : data.size + more.size ≤ 262144) :
    Calls Try.prog 3 #[.string data, .string more, .int .i64 draw] w fun e w' => e = .returned (.bool true) ∧ Below w.heap.size w w' := by
  have a1 : IntKind.i64.wrap ((data.size : Int) + (more.size : Int)) = (data.size : Int) + (more.size : Int) := IntWalk.i64_in _ (by omega)
  have a2 : ¬ (262144 : Int) < (data.size : Int) + (more.size : Int) := by omega
  have H1 := Lib.hid (sA1 data (by omega))
  have H2 := Lib.hid (sA2 data)
  have H3 := Lib.hid (sA3 data more h)
  have H4 := Lib.hid (sB1 data more (by omega))
  have H5 := Lib.hid (sB2 data more)
  obtain ⟨r1, r2, r3, r4⟩ := safe_read data more draw
  have R1 := Lib.hid r1
  have R2 := Lib.hid r2
  have R3 := Lib.hid r3
  have R4 := Lib.hid r4
  clear r1 r2 r3 r4
  obtain ⟨l1, l2, l3, l4⟩ := aHas_law data more draw
  generalize aHas data more draw = s at *
  have hds : data.size ≤ maxLen := by unfold maxLen; omega
  have hms : more.size ≤ maxLen := by unfold maxLen; omega
  have hms2 : more.size ≤ 281474976710656 := by omega
  have HW := Lib.hid h
  have HS1 := Lib.hid hds
  have HS2 := Lib.hid hms
  have HS3 := Lib.hid hms2
  have b1 : ¬ ((data ++ more).size : Int) < (s.size : Int) := by rw [size_app]; omega
  have b2 : ¬ (s.size : Int) < (data.size : Int) := by omega
  have b3 : s.size ≤ (data ++ more).size := by rw [size_app]; omega
  have L3 := Lib.hid l3
  have L4 := Lib.hid l4
  have b4 : (s.toList != ((data ++ more).extract 0 s.size).toList) = false := by rw [← l3]; simp
  have b5 : (s.toList == ((data ++ more).extract 0 s.size).toList) = true := by rw [← l3]; simp
  have b6 : (s.size : Int) ≤ (data.size : Int) + (more.size : Int) := by omega
  clear h hds hms hms2 l1 l2 l3 l4
  go_enter Try.func3, Try.ntmps3
  go_wp2_with fail
  refine (new_any _).mono ?_
  rintro e w1 ⟨rfl, hd1, hb1⟩
  have HD1 := Lib.hid hd1
  have HB1 := Lib.hid hb1
  have q1 := hd1.lt
  clear hd1 hb1
  go_wp2_with fail
  refine (works_any _).mono ?_
  rintro e w2 ⟨rfl, hb2⟩
  have HD2 := Lib.hid (HD1.out.below hb2 HD1.out.lt HD1.out.ltb)
  have HB2 := Lib.hid (HB1.out.trans (hb2.mono HB1.out.size))
  clear hb2
  go_wp2_with fail
  refine (write_c HD2.out HS1.out H1.out).mono ?_
  rintro e w3 ⟨rfl, hd, ht⟩
  have HD3 := Lib.hid hd
  have HT3 := Lib.hid ht
  clear hd ht
  go_wp2_with fail
  refine (sync_c HD3.out H2.out).mono ?_
  rintro e w4 ⟨rfl, hd, ht⟩
  have HD4 := Lib.hid hd
  have HT4 := Lib.hid (HT3.out.trans ht)
  clear hd ht
  go_wp2_with fail
  refine (append_c HD4.out HS3.out H3.out).mono ?_
  rintro e w5 ⟨rfl, hd, ht⟩
  have HD5 := Lib.hid hd
  have HT5 := Lib.hid (HT4.out.trans ht)
  clear hd ht
  go_wp2_with fail
  refine (write_c HD5.out HS2.out H4.out).mono ?_
  rintro e w6 ⟨rfl, hd, ht⟩
  have HD6 := Lib.hid hd
  have HT6 := Lib.hid (HT5.out.trans ht)
  clear hd ht
  go_wp2_with fail
  refine (sync_c HD6.out H5.out).mono ?_
  rintro e w7 ⟨rfl, hd, ht⟩
  have HD7 := Lib.hid hd
  have HT7 := Lib.hid (HT6.out.trans ht)
  have q7 := hd.lt
  have q8 := hd.ltb
  clear hd ht
  go_wp2_with fail
  refine (crash_c (d' := crashOn [[97], [98]] [draw] (dB data more).up) (HD7.out.alloc _) (draws_one (z := draw) (by simp) (by omega) (by omega) (by simp)) (by simp) (dB_names _ _) rfl).mono ?_
  rintro e w8 ⟨rfl, hd, ht⟩
  have HD8 := Lib.hid hd
  have HT8 := Lib.hid ((HT7.out.alloc _).trans ht)
  clear hd ht
  go_wp2_with fail
  refine (read_c (s := ⟨#[97]⟩) HD8.out R1.out R2.out).mono ?_
  rintro e w9 ⟨rfl, hb9⟩
  have HD9 := Lib.hid (HD8.out.below hb9 HD8.out.lt HD8.out.ltb)
  have HT9 := Lib.hid (HT8.out.trans (Turn.of_below hb9 _ _))
  clear hb9
  go_wp2_with fail
  refine (read_c (s := ⟨#[98]⟩) HD9.out R3.out R4.out).mono ?_
  rintro e w10 ⟨rfl, hb10⟩
  have HB := Lib.hid (HB2.out.trans ((HT9.out.trans (Turn.of_below hb10 _ _)).below (B := w.heap.size) HB2.out.size (by omega) (by omega)))
  clear hb10
  by_cases hc : 0 ≤ draw ∧ 0 < more.size
  · have hc1 : (0 : Int) ≤ draw := hc.1
    have hc2 : (0 : Int) < (more.size : Int) := by omega
    have hc3 : 0 < more.size := hc.2
    have hc4 : ¬ more = ByteArray.empty := fun e => by rw [e] at hc3; exact absurd hc3 (by decide)
    clear hc
    go_wp2
    all_goals (go_ret; first | exact ⟨rfl, HB.out⟩ | (exact absurd rfl hc4) | (exfalso; omega))
  · have hsd := L4.out hc
    have hsb : (s.toList == data.toList) = true := by rw [hsd]; simp
    clear hsd hc
    go_wp2
    all_goals (first | (go_ret; exact ⟨rfl, HB.out⟩) | (exfalso; exact absurd (empty_of_size (y := more) (by omega)) (by assumption)))

theorem safe_all (data more : ByteArray) (draw : Int) (w : World) (h1 : data.size ≤ 140737488351232) (h2 : more.size ≤ 140737488351232) :
    Calls Try.prog 3 #[.string data, .string more, .int .i64 draw] w fun e w' => e = .returned (.bool true) ∧ Below w.heap.size w w' := by
  by_cases h : data.size + more.size ≤ 262144
  · exact safe_any data more draw w h
  · exact safe_big data more draw w h1 h2 (by omega)

end Go.Proofs.Ytmlmjchifelpkaa
