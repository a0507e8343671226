/- What the law's own works computes. -/
import Derived.Test.YtmlmjchifelpkaaDoorStoreU
namespace Go.Proofs.YtmlmjchifelpkaaDoor
open Go.RowKit Go.Lib Go.Maps Go.Sort
set_option linter.unusedVariables false
set_option maxRecDepth 100000

def mW : MapP := ((MapP.nil.put [97] ⟨#[49]⟩).put [98] ⟨#[50]⟩).put [97] ⟨#[51]⟩
theorem mW_keys : KeysOf mW [[97], [98]] := by
  refine ⟨fun k => ?_, by decide, by decide, rfl, by decide⟩
  show _ ↔ (putM (putM (putM (fun _ => none) [97] _) [98] _) [97] _ k).isSome = true
  unfold putM
  by_cases h1 : k = [97]
  · simp [h1]
  · by_cases h2 : k = [98]
    · simp [h2]
    · simp [h1, h2]

theorem works_any (w : World) (hl : Laid w) : Calls Tryd.prog 6 #[] w fun e w' => e = .returned (.bool true) ∧ Below w.heap.size w w' := by
  have HL := Lib.hid hl
  clear hl
  go_enter Tryd.func6, Tryd.ntmps6
  go_wp2_with fail
  refine (new_any w).mono ?_
  rintro e w1 ⟨rfl, hd1, hb1⟩
  rw [D3_nil] at hd1
  have hg0 : w.heap.size ≤ w.heap.size + 1 := by omega
  have hsz1 := hb1.size
  have HOP := Lib.hid (open_any w (w.heap.size + 1) w.heap.size none none none 0 w1 hb1 hg0 (Nat.le_refl _) hd1 HL.out [] [] rfl List.Pairwise.nil (fun _ h => by cases h) rfl (fun _ h => by cases h))
  have hb0 : w.heap.size ≤ w.heap.size := Nat.le_refl _
  have HB1 := Lib.hid hb1
  clear hd1 hb1
  generalize w.heap.size + 1 = g at *
  generalize hbb : w.heap.size = b at *
  have HBB := Lib.hid hbb
  clear hbb
  go_wp2_with fail
  refine HOP.out.mono ?_
  rintro e w2 ⟨S, mb, f2, rfl, hS, hmb, hla, hst2, ht2⟩
  have hf2 : f2.has.size = 0 := by rw [Lib.size_eq, hla.1]; rfl
  have hbel2 : Below b w w2 := HB1.out.trans (ht2.below hsz1 hg0 (Nat.le_refl _))
  have hS2 : b ≤ S := Nat.le_trans hsz1 hS
  have hmb2 : b ≤ mb := Nat.le_trans hsz1 hmb
  have H2 := Lib.hid hst2
  have HL2 : Hid (Laid w2) := HL.out.stays hbel2 (by rw [HBB.out]; exact Nat.le_refl _)
  have HB2 := Lib.hid hbel2
  clear hS hmb hla hst2 ht2 hbel2 HOP HB1
  rw [show mapL [] (mapL [] MapP.nil) = MapP.nil from rfl] at H2
  go_wp2_with fail
  have hsm2 : Hid (MapP.nil.Small 0) := MapP.Small.nil
  replace hf2 : f2.has.size ≤ 0 * 1100 := by omega
  have hp2 := put_small S g b mb none none f2 0 MapP.nil 0 ⟨#[97]⟩ ⟨#[49]⟩ w2 H2.out hsm2.out (by decide) hf2 (by decide) (by decide) HL2.out
  rw [show (⟨#[97]⟩ : ByteArray).data.toList = [97] from rfl] at hp2
  obtain ⟨f3, hfe3⟩ : ∃ f' : FileP, f' = ⟨f2.has ++ recP ⟨#[97]⟩ ⟨#[49]⟩, f2.has ++ recP ⟨#[97]⟩ ⟨#[49]⟩, true⟩ := ⟨_, rfl⟩
  rw [← hfe3] at hp2
  have hf3 : f3.has.size ≤ (0 + 1) * 1100 := by
    have h1 := recP_size ⟨#[97]⟩ ⟨#[49]⟩ (by decide) (by decide)
    have h2 : ByteArray.size ⟨#[97]⟩ = 1 := rfl
    have h3 : ByteArray.size ⟨#[49]⟩ = 1 := rfl
    rw [hfe3]
    simp only [ByteArray.size_append]
    omega
  have hsm3 : Hid ((MapP.nil.put [97] ⟨#[49]⟩).Small (0 + 1)) := Lib.hid (hsm2.out.put [97] ⟨#[49]⟩ (by decide) (by decide))
  refine hp2.mono ?_
  rintro e w3 ⟨rfl, hst3, ht3⟩
  have hbel3 : Below b w w3 := HB2.out.trans (ht3.below (Nat.le_trans (by rw [HBB.out]; exact Nat.le_refl _) HB2.out.size) hg0 (Nat.le_refl _) hmb2)
  have H3 := Lib.hid hst3
  have HL3 : Hid (Laid w3) := HL.out.stays hbel3 (by rw [HBB.out]; exact Nat.le_refl _)
  have HB3 := Lib.hid hbel3
  clear hfe3 hst3 ht3 hbel3 hp2
  go_wp2_with fail
  have hp3 := put_small S g b mb none none f3 0 (MapP.nil.put [97] ⟨#[49]⟩) (0 + 1) ⟨#[98]⟩ ⟨#[50]⟩ w3 H3.out hsm3.out (by decide) hf3 (by decide) (by decide) HL3.out
  rw [show (⟨#[98]⟩ : ByteArray).data.toList = [98] from rfl] at hp3
  obtain ⟨f4, hfe4⟩ : ∃ f' : FileP, f' = ⟨f3.has ++ recP ⟨#[98]⟩ ⟨#[50]⟩, f3.has ++ recP ⟨#[98]⟩ ⟨#[50]⟩, true⟩ := ⟨_, rfl⟩
  rw [← hfe4] at hp3
  have hf4 : f4.has.size ≤ ((0 + 1) + 1) * 1100 := by
    have h1 := recP_size ⟨#[98]⟩ ⟨#[50]⟩ (by decide) (by decide)
    have h2 : ByteArray.size ⟨#[98]⟩ = 1 := rfl
    have h3 : ByteArray.size ⟨#[50]⟩ = 1 := rfl
    rw [hfe4]
    simp only [ByteArray.size_append]
    omega
  have hsm4 : Hid (((MapP.nil.put [97] ⟨#[49]⟩).put [98] ⟨#[50]⟩).Small ((0 + 1) + 1)) := Lib.hid (hsm3.out.put [98] ⟨#[50]⟩ (by decide) (by decide))
  refine hp3.mono ?_
  rintro e w4 ⟨rfl, hst4, ht4⟩
  have hbel4 : Below b w w4 := HB3.out.trans (ht4.below (Nat.le_trans (by rw [HBB.out]; exact Nat.le_refl _) HB3.out.size) hg0 (Nat.le_refl _) hmb2)
  have H4 := Lib.hid hst4
  have HL4 : Hid (Laid w4) := HL.out.stays hbel4 (by rw [HBB.out]; exact Nat.le_refl _)
  have HB4 := Lib.hid hbel4
  clear hfe4 hst4 ht4 hbel4 hp3
  go_wp2_with fail
  have hp4 := put_small S g b mb none none f4 0 ((MapP.nil.put [97] ⟨#[49]⟩).put [98] ⟨#[50]⟩) (0 + 1 + 1) ⟨#[97]⟩ ⟨#[51]⟩ w4 H4.out hsm4.out (by decide) hf4 (by decide) (by decide) HL4.out
  rw [show (⟨#[97]⟩ : ByteArray).data.toList = [97] from rfl] at hp4
  obtain ⟨f5, hfe5⟩ : ∃ f' : FileP, f' = ⟨f4.has ++ recP ⟨#[97]⟩ ⟨#[51]⟩, f4.has ++ recP ⟨#[97]⟩ ⟨#[51]⟩, true⟩ := ⟨_, rfl⟩
  rw [← hfe5] at hp4
  have hf5 : f5.has.size ≤ ((0 + 1 + 1) + 1) * 1100 := by
    have h1 := recP_size ⟨#[97]⟩ ⟨#[51]⟩ (by decide) (by decide)
    have h2 : ByteArray.size ⟨#[97]⟩ = 1 := rfl
    have h3 : ByteArray.size ⟨#[51]⟩ = 1 := rfl
    rw [hfe5]
    simp only [ByteArray.size_append]
    omega
  have hsm5 : Hid ((((MapP.nil.put [97] ⟨#[49]⟩).put [98] ⟨#[50]⟩).put [97] ⟨#[51]⟩).Small ((0 + 1 + 1) + 1)) := Lib.hid (hsm4.out.put [97] ⟨#[51]⟩ (by decide) (by decide))
  refine hp4.mono ?_
  rintro e w5 ⟨rfl, hst5, ht5⟩
  have hbel5 : Below b w w5 := HB4.out.trans (ht5.below (Nat.le_trans (by rw [HBB.out]; exact Nat.le_refl _) HB4.out.size) hg0 (Nat.le_refl _) hmb2)
  have H5 := Lib.hid hst5
  have HL5 : Hid (Laid w5) := HL.out.stays hbel5 (by rw [HBB.out]; exact Nat.le_refl _)
  have HB5 := Lib.hid hbel5
  clear hfe5 hst5 ht5 hbel5 hp4
  go_wp2_with fail
  rw [show ((MapP.nil.put [97] ⟨#[49]⟩).put [98] ⟨#[50]⟩).put [97] ⟨#[51]⟩ = mW from rfl] at H5
  have hge := get_any S g mb mW ⟨#[97]⟩ w5 H5.out.box H5.out.map (by decide)
  rw [show sGet mW ⟨#[97]⟩ = (⟨#[51]⟩, 0) from rfl] at hge
  refine hge.mono ?_
  rintro e w6 ⟨rfl, rfl⟩
  clear hge
  go_wp2_with fail
  refine (keys_any S mb mW w5 H5.out.box.c1 (by decide) H5.out.map).mono ?_
  rintro e w6 ⟨r, ss, rfl, hN, hrow, hB⟩
  have hss : ss = [[97], [98]] := hN.one mW_keys (fun _ => rfl)
  subst hss
  have l0 : w6.cell? ⟨r, 0, none⟩ = some (.string ⟨#[97]⟩) := by rw [hrow.cellAt 0 (by decide)]; rfl
  have l1 : w6.cell? ⟨r, 1, none⟩ = some (.string ⟨#[98]⟩) := by rw [hrow.cellAt 1 (by decide)]; rfl
  have HB6 := Lib.hid (HB5.out.trans (hB.mono (Nat.le_trans (by rw [HBB.out]; exact Nat.le_refl _) HB5.out.size)))
  clear hN hrow hB
  go_wp2_with fail
  go_ret
  exact ⟨rfl, by rw [HBB.out]; exact HB6.out⟩

end Go.Proofs.YtmlmjchifelpkaaDoor
