/- FilesTwice: the walk through the law's own code. -/
import Derived.Test.YtmlmjchifelpkaaFileN
import Derived.Test.YtmlmjchifelpkaaFilesSwapWalk
namespace Go.Proofs.Ytmlmjchifelpkaa
open Go.RowKit Go.Lib Go.Maps Go.Sort
set_option linter.unusedVariables false

/-- An act. -/
structure ActP where
  kind : Int
  name : ByteArray
  data : ByteArray
  n : Int
  rp : Option Addr
  rn : Nat
  rc : Nat
def ActP.nil : ActP := ⟨0, ⟨#[]⟩, ⟨#[]⟩, 0, none, 0, 0⟩

/-- The slice v reads xs the acts. -/
def ActsArg (w : World) (v : Value) (xs : List ActP) : Prop :=
  ∃ p cap, v = .slice p xs.length cap ∧ xs.length ≤ maxLen ∧ (xs ≠ [] → ∃ ab off, p = some ⟨ab, off, none⟩ ∧ ab < w.heap.size ∧ ∀ j, j < xs.length →
    w.cell? ⟨ab, off + j * 5, none⟩ = some (.int .i64 (xs.getD j ActP.nil).kind) ∧ w.cell? ⟨ab, off + j * 5 + 1, none⟩ = some (.string (xs.getD j ActP.nil).name) ∧
    w.cell? ⟨ab, off + j * 5 + 2, none⟩ = some (.string (xs.getD j ActP.nil).data) ∧ w.cell? ⟨ab, off + j * 5 + 3, none⟩ = some (.int .i64 (xs.getD j ActP.nil).n) ∧ w.cell? ⟨ab, off + j * 5 + 4, none⟩ = some (.slice (xs.getD j ActP.nil).rp (xs.getD j ActP.nil).rn (xs.getD j ActP.nil).rc)) ∧
  ∀ a ∈ xs, a.data.size ≤ 140737488355328 ∧ a.n ≤ 9223372036854775807

theorem twice_loop_probe (va v1 v2 : Value) (xs : List ActP) (zs1 zs2 : List Int) (w : World) (ha : ActsArg w va xs) (h1 : DrawsArg w v1 zs1) (h2 : DrawsArg w v2 zs2) :
    Calls Try.prog 4 #[va, v1, v2] w fun e w' => e = .returned (.bool true) ∧ Below w.heap.size w w' := by
  obtain ⟨pa, capa, rfl, hml, hcell, hbd⟩ := ha
  have HCE := Lib.hid hcell
  have HBD := Lib.hid hbd
  clear hcell hbd
  have H1 := Lib.hid h1
  have H2 := Lib.hid h2
  obtain ⟨p1, cap1, rfl, -, -, -⟩ := h1
  obtain ⟨p2, cap2, rfl, -, -, -⟩ := h2
  have hml : xs.length ≤ 9223372036854775807 := hml
  go_enter Try.func4, Try.ntmps4
  go_wp2_with fail
  refine (new_any _).mono ?_
  rintro e w1 ⟨rfl, hd1, hb1⟩
  have HD1 := Lib.hid hd1
  have HB1 := Lib.hid hb1
  have q1 := hd1.lt
  clear hd1 hb1
  go_wp2_with fail
  refine (works_any _).mono ?_
  rintro e w2 ⟨rfl, hb2⟩
  have HD2 := Lib.hid (HD1.out.below hb2 HD1.out.lt HD1.out.ltb)
  have HB2 := Lib.hid (HB1.out.trans (hb2.mono HB1.out.size))
  have q2 := hb2.size
  clear hb2
  go_wp2_with fail
  go_loopg [8] xs.length (fun gg s8 wr => ∃ (kk : Nat) (dj : DiskP), kk ≤ xs.length ∧ xs.length - kk ≤ gg ∧ s8 = .int .i64 kk ∧ Hid (IsDisk wr (w.heap.size + 1) w.heap.size dj) ∧ Hid (Turn (w.heap.size + 1) w.heap.size w2 wr))
  case atStart => exact ⟨0, dNew, Nat.zero_le _, by omega, rfl, HD2.out, Turn.refl _ _ _⟩
  case round =>
    obtain ⟨kk, dj, hkk, hgg, rfl, HD, HT⟩ := hrel
    by_cases hlt : kk < xs.length ∧ kk < 100
    · have hl1 : (kk : Int) < (xs.length : Int) := by omega
      have hl2 : (kk : Int) < 100 := by omega
      have hk1 := hlt.1
      have hne : xs ≠ [] := fun e => by rw [e] at hk1; exact absurd hk1 (Nat.not_lt_zero _)
      obtain ⟨ab, off, rfl, hab, hcs⟩ := HCE.out hne
      obtain ⟨y0, y1, y2, y3, y4⟩ := hcs kk hk1
      have hmem : xs.getD kk ActP.nil ∈ xs := by
        rw [List.getD_eq_getElem?_getD, List.getElem?_eq_getElem hk1]
        exact List.getElem_mem hk1
      have hbm := HBD.out _ hmem
      clear hmem hcs
      rcases hact : xs.getD kk ActP.nil with ⟨kd, nm, dt, nn, rp, rn, rc⟩
      rw [hact] at y0 y1 y2 y3 y4 hbm
      simp only at y0 y1 y2 y3 y4 hbm
      have hBW := HB2.out.trans (HT.out.below (B := w.heap.size) (by omega) (by omega) (by omega))
      have z0 := (hBW.cell (p := ⟨ab, off + kk * 5, none⟩) hab).trans y0
      have z1 := (hBW.cell (p := ⟨ab, off + kk * 5 + 1, none⟩) hab).trans y1
      have z2 := (hBW.cell (p := ⟨ab, off + kk * 5 + 2, none⟩) hab).trans y2
      have z3 := (hBW.cell (p := ⟨ab, off + kk * 5 + 3, none⟩) hab).trans y3
      have z4 := (hBW.cell (p := ⟨ab, off + kk * 5 + 4, none⟩) hab).trans y4
      have HDA := Lib.hid (HD.out.alloc (.cells #[.int .i64 kd, .string nm, .string dt, .int .i64 nn, .slice rp rn rc] 35))
      clear y0 y1 y2 y3 y4 hBW hact hne
      have hr : kd % 5 = 0 ∨ kd % 5 = 1 ∨ kd % 5 = 2 ∨ kd % 5 = 3 ∨ kd % 5 = 4 := by omega
      rcases hr with HR | HR | HR | HR | HR
      · have hA := fun W => among_any kd W
        rw [HR] at hA
        go_wp2_with fail
        refine (hA _).mono ?_
        rintro e w4 ⟨rfl, rfl⟩
        clear hA
        go_wp2_with fail
        refine (write_any (w.heap.size + 1) w.heap.size dj nm dt _ HDA.out (by have := hbm.1; unfold maxLen; omega)).mono ?_
        rintro e w5 ⟨rfl, hd, ht⟩
        have HD5 := Lib.hid hd
        have HT5 := Lib.hid ((HT.out.alloc _).trans ht)
        clear hd ht
        go_wp2_with fail
        go_roundg (xs.length - (kk + 1))
        case measure => omega
        case rel => exact ⟨kk + 1, _, by omega, by omega, by go_num, HD5.out, HT5.out⟩
      · have hA := fun W => among_any kd W
        rw [HR] at hA
        go_wp2_with fail
        refine (hA _).mono ?_
        rintro e w4 ⟨rfl, rfl⟩
        clear hA
        go_wp2_with fail
        refine (append_any (w.heap.size + 1) w.heap.size dj nm dt _ HDA.out (by have := hbm.1; omega)).mono ?_
        rintro e w5 ⟨rfl, hd, ht⟩
        have HD5 := Lib.hid hd
        have HT5 := Lib.hid ((HT.out.alloc _).trans ht)
        clear hd ht
        go_wp2_with fail
        go_roundg (xs.length - (kk + 1))
        case measure => omega
        case rel => exact ⟨kk + 1, _, by omega, by omega, by go_num, HD5.out, HT5.out⟩
      · have hA := fun W => among_any kd W
        rw [HR] at hA
        go_wp2_with fail
        refine (hA _).mono ?_
        rintro e w4 ⟨rfl, rfl⟩
        clear hA
        go_wp2_with fail
        refine (sync_any (w.heap.size + 1) w.heap.size dj nm _ HDA.out).mono ?_
        rintro e w5 ⟨rfl, hd, ht⟩
        have HD5 := Lib.hid hd
        have HT5 := Lib.hid ((HT.out.alloc _).trans ht)
        clear hd ht
        go_wp2_with fail
        go_roundg (xs.length - (kk + 1))
        case measure => omega
        case rel => exact ⟨kk + 1, _, by omega, by omega, by go_num, HD5.out, HT5.out⟩
      · have hA := fun W => among_any kd W
        rw [HR] at hA
        go_wp2_with fail
        refine (hA _).mono ?_
        rintro e w4 ⟨rfl, rfl⟩
        clear hA
        go_wp2_with fail
        refine (rename_any (w.heap.size + 1) w.heap.size dj nm dt _ HDA.out).mono ?_
        rintro e w5 ⟨rfl, hd, ht⟩
        have HD5 := Lib.hid hd
        have HT5 := Lib.hid ((HT.out.alloc _).trans ht)
        clear hd ht
        go_wp2_with fail
        go_roundg (xs.length - (kk + 1))
        case measure => omega
        case rel => exact ⟨kk + 1, _, by omega, by omega, by go_num, HD5.out, HT5.out⟩
      · have hA := fun W => among_any kd W
        rw [HR] at hA
        go_wp2_with fail
        refine (hA _).mono ?_
        rintro e w4 ⟨rfl, rfl⟩
        clear hA
        go_wp2_with fail
        refine (fuse_any (w.heap.size + 1) w.heap.size dj nn hbm.2 _ HDA.out).mono ?_
        rintro e w5 ⟨rfl, hd, ht⟩
        have HD5 := Lib.hid hd
        have HT5 := Lib.hid ((HT.out.alloc _).trans ht)
        clear hd ht
        go_wp2_with fail
        go_roundg (xs.length - (kk + 1))
        case measure => omega
        case rel => exact ⟨kk + 1, _, by omega, by omega, by go_num, HD5.out, HT5.out⟩
    · by_cases hl : kk < xs.length
      · have hl1 : (kk : Int) < (xs.length : Int) := by omega
        have hl2 : ¬ (kk : Int) < 100 := by omega
        go_wp2_with fail
        have HZ1 := Lib.hid (H1.out.at (HB2.out.trans (HT.out.below (B := w.heap.size) (by omega) (by omega) (by omega))) (g := w.heap.size + 1) (b := w.heap.size) (by omega) (by omega))
        by_cases hb1 : 16384 < zs1.length
        · refine (crash_long (w.heap.size + 1) w.heap.size dj _ zs1 _ HD.out HZ1.out hb1).mono ?_
          rintro e w3 ⟨rfl, hd, ht⟩
          have HB := Lib.hid (HB2.out.trans ((HT.out.trans ht).below (B := w.heap.size) (by omega) (by omega) (by omega)))
          clear hd ht
          go_wp2
          go_ret
          exact ⟨rfl, HB.out⟩
        · refine (crash_any (w.heap.size + 1) w.heap.size dj _ zs1 _ HD.out HZ1.out (by omega)).mono ?_
          rintro e w3 ⟨ss, hss, rfl, hd, ht⟩
          have HSS := Lib.hid hss
          have HD3 := Lib.hid hd
          have HT3 := Lib.hid (HT.out.trans ht)
          clear hss hd ht
          go_wp2_with fail
          refine (all_any (w.heap.size + 1) w.heap.size _ _ HD3.out).mono ?_
          rintro e w4 ⟨v4, rfl, ts, hts, hst, hb4⟩
          have HTS := Lib.hid hts
          have HST := Lib.hid hst
          have HD4 := Lib.hid (HD3.out.below hb4 HD3.out.lt HD3.out.ltb)
          have HT4 := Lib.hid (HT3.out.trans (Turn.of_below hb4 _ _))
          clear hts hst hb4
          have HZ2 := Lib.hid (H2.out.at (HB2.out.trans (HT4.out.below (B := w.heap.size) (by omega) (by omega) (by omega))) (g := w.heap.size + 1) (b := w.heap.size) (by omega) (by omega))
          go_wp2_with fail
          by_cases hb2 : 16384 < zs2.length
          · have b2 : (16384 : Int) < (zs2.length : Int) := by omega
            refine (crash_long (w.heap.size + 1) w.heap.size _ _ zs2 _ HD4.out HZ2.out hb2).mono ?_
            rintro e w5 ⟨rfl, hd, ht⟩
            have HB := Lib.hid (HB2.out.trans ((HT4.out.trans ht).below (B := w.heap.size) (by omega) (by omega) (by omega)))
            clear hd ht
            go_wp2
            go_ret
            exact ⟨rfl, HB.out⟩
          · refine (crash_any (w.heap.size + 1) w.heap.size _ _ zs2 _ HD4.out HZ2.out (by omega)).mono ?_
            rintro e w5 ⟨s2, hs2, rfl, hd, ht⟩
            rw [crash_twice zs1 zs2 HSS.out hs2] at hd
            have b2 : ¬ (16384 : Int) < (zs2.length : Int) := by omega
            have HD5 := Lib.hid hd
            have HT5 := Lib.hid (HT4.out.trans ht)
            have HTL := Lib.hid ht
            clear hs2 hd ht
            go_wp2_with fail
            refine (all_any (w.heap.size + 1) w.heap.size _ _ HD5.out).mono ?_
            rintro e w6 ⟨v6, rfl, t6, ht6, hst6, hb6⟩
            have et := HTS.out.one ht6 (fun _ => rfl)
            subst et
            have hs4 := HST.out.turn (HTL.out.trans (Turn.of_below hb6 _ _)) (g := w.heap.size + 1) (b := w.heap.size) (by have := HT3.out.size; omega) (by have := HT3.out.size; omega)
            have HS4 := Lib.hid hs4
            have HS6 := Lib.hid hst6
            have HT6 := Lib.hid (HT5.out.trans (Turn.of_below hb6 _ _))
            clear hs4 hst6 hb6 ht6
            go_wp2_with fail
            refine (alike_same v6 v4 _ _ _ _ HS6.out HS4.out).mono ?_
            rintro e w7 ⟨rfl, hb7⟩
            have HB := Lib.hid (HB2.out.trans ((HT6.out.trans (Turn.of_below hb7 _ _)).below (B := w.heap.size) (by omega) (by omega) (by omega)))
            clear hb7
            go_wp2
            go_ret
            exact ⟨rfl, HB.out⟩
      · have hl1 : ¬ (kk : Int) < (xs.length : Int) := by omega
        go_wp2_with fail
        have HZ1 := Lib.hid (H1.out.at (HB2.out.trans (HT.out.below (B := w.heap.size) (by omega) (by omega) (by omega))) (g := w.heap.size + 1) (b := w.heap.size) (by omega) (by omega))
        by_cases hb1 : 16384 < zs1.length
        · refine (crash_long (w.heap.size + 1) w.heap.size dj _ zs1 _ HD.out HZ1.out hb1).mono ?_
          rintro e w3 ⟨rfl, hd, ht⟩
          have HB := Lib.hid (HB2.out.trans ((HT.out.trans ht).below (B := w.heap.size) (by omega) (by omega) (by omega)))
          clear hd ht
          go_wp2
          go_ret
          exact ⟨rfl, HB.out⟩
        · refine (crash_any (w.heap.size + 1) w.heap.size dj _ zs1 _ HD.out HZ1.out (by omega)).mono ?_
          rintro e w3 ⟨ss, hss, rfl, hd, ht⟩
          have HSS := Lib.hid hss
          have HD3 := Lib.hid hd
          have HT3 := Lib.hid (HT.out.trans ht)
          clear hss hd ht
          go_wp2_with fail
          refine (all_any (w.heap.size + 1) w.heap.size _ _ HD3.out).mono ?_
          rintro e w4 ⟨v4, rfl, ts, hts, hst, hb4⟩
          have HTS := Lib.hid hts
          have HST := Lib.hid hst
          have HD4 := Lib.hid (HD3.out.below hb4 HD3.out.lt HD3.out.ltb)
          have HT4 := Lib.hid (HT3.out.trans (Turn.of_below hb4 _ _))
          clear hts hst hb4
          have HZ2 := Lib.hid (H2.out.at (HB2.out.trans (HT4.out.below (B := w.heap.size) (by omega) (by omega) (by omega))) (g := w.heap.size + 1) (b := w.heap.size) (by omega) (by omega))
          go_wp2_with fail
          by_cases hb2 : 16384 < zs2.length
          · have b2 : (16384 : Int) < (zs2.length : Int) := by omega
            refine (crash_long (w.heap.size + 1) w.heap.size _ _ zs2 _ HD4.out HZ2.out hb2).mono ?_
            rintro e w5 ⟨rfl, hd, ht⟩
            have HB := Lib.hid (HB2.out.trans ((HT4.out.trans ht).below (B := w.heap.size) (by omega) (by omega) (by omega)))
            clear hd ht
            go_wp2
            go_ret
            exact ⟨rfl, HB.out⟩
          · refine (crash_any (w.heap.size + 1) w.heap.size _ _ zs2 _ HD4.out HZ2.out (by omega)).mono ?_
            rintro e w5 ⟨s2, hs2, rfl, hd, ht⟩
            rw [crash_twice zs1 zs2 HSS.out hs2] at hd
            have b2 : ¬ (16384 : Int) < (zs2.length : Int) := by omega
            have HD5 := Lib.hid hd
            have HT5 := Lib.hid (HT4.out.trans ht)
            have HTL := Lib.hid ht
            clear hs2 hd ht
            go_wp2_with fail
            refine (all_any (w.heap.size + 1) w.heap.size _ _ HD5.out).mono ?_
            rintro e w6 ⟨v6, rfl, t6, ht6, hst6, hb6⟩
            have et := HTS.out.one ht6 (fun _ => rfl)
            subst et
            have hs4 := HST.out.turn (HTL.out.trans (Turn.of_below hb6 _ _)) (g := w.heap.size + 1) (b := w.heap.size) (by have := HT3.out.size; omega) (by have := HT3.out.size; omega)
            have HS4 := Lib.hid hs4
            have HS6 := Lib.hid hst6
            have HT6 := Lib.hid (HT5.out.trans (Turn.of_below hb6 _ _))
            clear hs4 hst6 hb6 ht6
            go_wp2_with fail
            refine (alike_same v6 v4 _ _ _ _ HS6.out HS4.out).mono ?_
            rintro e w7 ⟨rfl, hb7⟩
            have HB := Lib.hid (HB2.out.trans ((HT6.out.trans (Turn.of_below hb7 _ _)).below (B := w.heap.size) (by omega) (by omega) (by omega)))
            clear hb7
            go_wp2
            go_ret
            exact ⟨rfl, HB.out⟩

end Go.Proofs.Ytmlmjchifelpkaa
