/- StoreSame: the walk through the law's own code. -/
import Derived.Test.YtmlmjchifelpkaaDoorStoreY
namespace Go.Proofs.YtmlmjchifelpkaaDoor
open Go.RowKit Go.Lib Go.Maps Go.Sort
set_option linter.unusedVariables false
set_option maxRecDepth 100000

/-- Two stores: where their blocks lie. -/
structure Apart2 (S g b mb S2 g2 b2 m2 : Nat) : Prop where
  o1 : b < g
  o2 : g < b2
  o3 : b2 < g2
  o4 : g2 < S
  o5 : g2 < mb
  o6 : S < S2
  o7 : S < m2
  o8 : mb < S2
  o9 : mb < m2
section
variable {S g b mb S2 g2 b2 m2 : Nat} (h : Apart2 S g b mb S2 g2 b2 m2)
include h
theorem Apart2.a1 : (S ≠ g2 ∧ S ≠ b2 ∧ S ≠ m2) ∧ (g ≠ g2 ∧ g ≠ b2 ∧ g ≠ m2) ∧ (b ≠ g2 ∧ b ≠ b2 ∧ b ≠ m2) ∧ (mb ≠ g2 ∧ mb ≠ b2 ∧ mb ≠ m2) := by
  obtain ⟨_, _, _, _, _, _, _, _, _⟩ := h; omega
theorem Apart2.a2 : (S2 ≠ g ∧ S2 ≠ b ∧ S2 ≠ mb) ∧ (g2 ≠ g ∧ g2 ≠ b ∧ g2 ≠ mb) ∧ (b2 ≠ g ∧ b2 ≠ b ∧ b2 ≠ mb) ∧ (m2 ≠ g ∧ m2 ≠ b ∧ m2 ≠ mb) := by
  obtain ⟨_, _, _, _, _, _, _, _, _⟩ := h; omega
theorem LogOnly.one {w w' : World} {ll : List (ByteArray × ByteArray)} {f : FileP} (hs : LogOnly S g b mb ll f w) (ht : Turn3 g2 b2 m2 w w') : LogOnly S g b mb ll f w' := hs.other ht h.a1.1 h.a1.2.1 h.a1.2.2.1 h.a1.2.2.2
theorem LogOnly.two {w w' : World} {ll : List (ByteArray × ByteArray)} {f : FileP} (hs : LogOnly S2 g2 b2 m2 ll f w) (ht : Turn3 g b mb w w') : LogOnly S2 g2 b2 m2 ll f w' := hs.other ht h.a2.1 h.a2.2.1 h.a2.2.2.1 h.a2.2.2.2
end

set_option maxHeartbeats 1600000 in
theorem same_walk (va : Value) (xs : List ActP) (w : World) (hl : Laid w) (ha : ActsArg w va xs) :
    Calls Tryd.prog 4 #[va] w fun e w' => e = .returned (.bool true) ∧ Below w.heap.size w w' := by
  obtain ⟨pa, capa, rfl, hml, hcell, hbd⟩ := ha
  have HCE := Lib.hid hcell
  have HBD := Lib.hid hbd
  have HL := Lib.hid hl
  clear hcell hbd hl
  have hml : xs.length ≤ 9223372036854775807 := hml
  obtain ⟨n40, hn40⟩ : ∃ n : Nat, n = min xs.length 40 := ⟨_, rfl⟩
  have hmin : min (xs.length : Int) 40 = (n40 : Int) := by omega
  have hn1 : n40 ≤ xs.length := by omega
  have hn2 : n40 ≤ 40 := by omega
  clear hn40
  go_enter Tryd.func4, Tryd.ntmps4
  go_wp2_with fail
  refine (works_any w HL.out).mono ?_
  rintro e w0 ⟨rfl, hb0⟩
  have HB0 := Lib.hid hb0
  have HL0 : Hid (Laid w0) := HL.out.stays hb0 (Nat.le_refl _)
  clear hb0
  go_wp2_with fail
  refine (new_any w0).mono ?_
  rintro e w1 ⟨rfl, hd1, hb1⟩
  go_wp2_with fail
  refine (new_any w1).mono ?_
  rintro e w2 ⟨rfl, hd2, hb2⟩
  rw [D3_nil] at hd1 hd2
  have hz1 := hd1.lt
  have hz2 := hd2.lt
  have hd1b := hd1.below hb2 hd1.lt hd1.ltb
  have hg0 : w0.heap.size ≤ w0.heap.size + 1 := by omega
  have hbr : w0.heap.size ≤ w0.heap.size := Nat.le_refl _
  have hg2 : w0.heap.size ≤ w1.heap.size + 1 := by omega
  have hbr2 : w0.heap.size ≤ w1.heap.size := by omega
  have hB2 := hb1.trans (hb2.mono (by omega))
  have HOP := Lib.hid (open_any w0 (w0.heap.size + 1) w0.heap.size none none none 0 w2 hB2 hg0 hbr hd1b HL0.out [] [] rfl List.Pairwise.nil (fun _ h => by cases h) rfl (fun _ h => by cases h))
  have HD2 := Lib.hid hd2
  have HB2 := Lib.hid hB2
  have HO : Hid (w0.heap.size + 1 < w1.heap.size ∧ w1.heap.size + 1 < w2.heap.size) := Lib.hid ⟨hz1, hz2⟩
  clear hd1 hd2 hd1b hb1 hb2 hz1 hz2
  generalize hgg2 : w1.heap.size + 1 = g2 at *
  generalize hbb2 : w1.heap.size = b2 at *
  generalize hgg : w0.heap.size + 1 = g at *
  generalize hbb : w0.heap.size = b at *
  have HBB := Lib.hid hbb
  have HO2 := HO.out
  have HOO : Hid (b < g ∧ g < b2 ∧ b2 < g2 ∧ g2 < w2.heap.size) := Lib.hid ⟨by omega, by omega, by omega, by omega⟩
  have hwb : ∀ wx : World, w0.heap.size ≤ wx.heap.size → b ≤ wx.heap.size := fun wx h => by rw [← hbb]; exact h
  clear hbb hgg hbb2 hgg2 HO HO2
  go_wp2_with fail
  refine HOP.out.mono ?_
  rintro e w3 ⟨S, mb, f1, rfl, hS, hmb, hla, hst, ht⟩
  have hB3 := HB2.out.trans (ht.below (hwb _ HB2.out.size) hg0 hbr)
  have hd2 := HD2.out.kept (ht.block g2 HD2.out.lt (by have := HOO.out; omega) (by have := HOO.out; omega)) (ht.block b2 HD2.out.ltb (by have := HOO.out; omega) (by have := HOO.out; omega))
  have HOP2 := Lib.hid (open_any w0 g2 b2 none none none 0 w3 (by rw [HBB.out]; exact hB3) (by rw [HBB.out]; exact hg2) (by rw [HBB.out]; exact hbr2) hd2 HL0.out [] [] rfl List.Pairwise.nil (fun _ h => by cases h) rfl (fun _ h => by cases h))
  have HLO : Hid (LogOnly S g b mb [] f1 w3) := ⟨hst, hla.1, fun r hr => by cases hr⟩
  have HO2 : Hid (g2 < S ∧ g2 < mb ∧ S < w3.heap.size ∧ mb < w3.heap.size) := Lib.hid ⟨by have := HOO.out; omega, by have := HOO.out; omega, hst.box.lt, hst.map.lt⟩
  have HB3 := Lib.hid hB3
  clear hS hmb hla hst ht hd2 hB3 HOP HD2
  go_wp2_with fail
  refine HOP2.out.mono ?_
  rintro e w4 ⟨S2, m2, f2, rfl, hS, hmb, hla, hst, ht⟩
  have HAP : Hid (Apart2 S g b mb S2 g2 b2 m2) := Lib.hid (by
    obtain ⟨_, _, _, _⟩ := HOO.out
    obtain ⟨_, _, _, _⟩ := HO2.out
    exact ⟨by omega, by omega, by omega, by omega, by omega, by omega, by omega, by omega, by omega⟩)
  have hB4 : Hid (Below b w0 w4) := HB3.out.trans (ht.below (hwb _ HB3.out.size) hg2 hbr2)
  have HLO2 : Hid (LogOnly S2 g2 b2 m2 [] f2 w4) := ⟨hst, hla.1, fun r hr => by cases hr⟩
  have HLO4 : Hid (LogOnly S g b mb [] f1 w4) := ⟨HLO.out.st.other (Turn3.of_turn ht m2) HAP.out.a1.1 HAP.out.a1.2.1 HAP.out.a1.2.2.1 HAP.out.a1.2.2.2, HLO.out.has, HLO.out.small⟩
  have hmb4 : b ≤ mb := by obtain ⟨_, _, _, _⟩ := HOO.out; obtain ⟨_, _, _, _⟩ := HO2.out; omega
  have hm24 : b ≤ m2 := by have := HAP.out.o9; omega
  clear hS hmb hla hst ht HOP2 HLO HO2 HOO HB3
  go_wp2_with fail
  go_loopg [51] n40 (fun gg s51 wr => ∃ (kk : Nat) (ll : List (ByteArray × ByteArray)) (f : FileP), kk ≤ n40 ∧ n40 - kk ≤ gg ∧ s51 = .int .i64 kk ∧ ll.length ≤ kk ∧ Hid (LogOnly S g b mb ll f wr) ∧ Hid (LogOnly S2 g2 b2 m2 [] f2 wr) ∧ Hid (Below b w0 wr))
  case atStart => exact ⟨0, [], f1, Nat.zero_le _, by omega, rfl, Nat.le_refl _, HLO4, HLO2, hB4⟩
  case round =>
    obtain ⟨kk, ll, f, hkk, hgg, rfl, hll, HS, HS2, HT⟩ := hrel
    by_cases hlt : kk < n40
    · have hl1 : (kk : Int) < (n40 : Int) := by omega
      have hk1 : kk < xs.length := by omega
      have hne : xs ≠ [] := fun e => by rw [e] at hk1; exact absurd hk1 (Nat.not_lt_zero _)
      obtain ⟨ab, off, rfl, hab, hcs⟩ := HCE.out hne
      obtain ⟨y0, y1, y2, y3, y4⟩ := hcs kk hk1
      have hmem : xs.getD kk ActP.nil ∈ xs := by
        rw [List.getD_eq_getElem?_getD, List.getElem?_eq_getElem hk1]
        exact List.getElem_mem hk1
      have hbm := HBD.out _ hmem
      clear hmem hcs
      rcases hact : xs.getD kk ActP.nil with ⟨kd, nm, dt, nn, rp, rn, rc⟩
      rw [hact] at y0 y1 y2 y3 y4 hbm
      simp only at y0 y1 y2 y3 y4 hbm
      have hBW : Below w.heap.size w wr := HB0.out.trans (HT.out.mono (by rw [HBB.out.symm]; exact HB0.out.size))
      have z1 := (hBW.cell (p := ⟨ab, off + kk * 5 + 1, none⟩) hab).trans y1
      have z2 := (hBW.cell (p := ⟨ab, off + kk * 5 + 2, none⟩) hab).trans y2
      have HLr : Hid (Laid wr) := HL0.out.stays HT.out (by rw [HBB.out]; exact Nat.le_refl _)
      have hk1z : (kk : Int) < (xs.length : Int) := by omega
      clear y0 y1 y2 y3 y4 hBW hact hne
      have hdz := hbm.1
      by_cases hv : dt.size ≤ 1000
      · have hvz : (dt.size : Int) ≤ 1000 := by omega
        have HP := Lib.hid (fun wx h1 h2 => put_logonly S g b mb ll f nm dt wx h1 (by omega) hv h2)
        have hdr : Below wr.heap.size wr wr.drew := (Below.refl _ _).drew
        have HSd := Lib.hid (HS.out.below hdr)
        have HS2d := Lib.hid (HS2.out.below hdr)
        have HTd := Lib.hid (HT.out.trans (hdr.mono (hwb _ HT.out.size)))
        have HLd : Hid (Laid wr.drew) := HLr.out.stays hdr (Nat.le_refl _)
        have z1d : wr.drew.cell? ⟨ab, off + kk * 5 + 1, none⟩ = some (.string nm) := z1
        have z2d : wr.drew.cell? ⟨ab, off + kk * 5 + 2, none⟩ = some (.string dt) := z2
        clear hdr
        go_upto_region 13 with fail
        go_region_with (go_at_call 9; (with_reducible refine (HP.out _ HSd.out HLd.out).mono ?_); rintro e w5 ⟨z5, ll5, f5, rfl, hll5, hst5, ht5⟩; have HS5 := Lib.hid hst5; have HS25 := Lib.hid (LogOnly.two HAP.out HS2d.out ht5); have HT5 := Lib.hid (HTd.out.trans (ht5.below (hwb _ HTd.out.size) hg0 hbr hmb4)); clear hst5 ht5)
        all_goals (go_wp2_with fail; go_roundg (n40 - (kk + 1)))
        all_goals first
          | (show _ < _; omega)
          | exact ⟨kk + 1, ll5, f5, by omega, by omega, by go_num, by omega, HS5, HS25, HT5⟩
      · have hvz : ¬ (dt.size : Int) ≤ 1000 := by omega
        go_wp2_with fail
        go_roundg (n40 - (kk + 1))
        case measure => omega
        case rel => exact ⟨kk + 1, ll, f, by omega, by omega, by go_num, by omega, HS, HS2, HT⟩
    · have hl1 : ¬ (kk : Int) < (n40 : Int) := by omega
      clear hlt
      have hsm := HS.out.map
      have hmo := Lib.hid (hsm.ok (show ll.length ≤ 1000 by omega))
      have hll40 : ll.length ≤ 40 := by omega
      have HSM := Lib.hid hsm
      clear hsm
      go_wp2_with fail
      refine (keys_any S mb _ _ HS.out.st.box.c1 (by have := hmo.out.n; omega) HS.out.st.map).mono ?_
      rintro e w5 ⟨r, ss, rfl, hN, hrow, hB⟩
      have HN := Lib.hid hN
      have hsl : ss.length ≤ 40 := by have := hN.len; have := HSM.out.n; omega
      have hrr := hrow.lt r rfl
      have hcells : Hid (∀ j, j < ss.length → w5.cell? ⟨r, j, none⟩ = some (encStr (ss.getD j []))) := fun j hj => by
        rw [hrow.cellAt j (by simpa using hj)]
        simp [List.getD, List.getElem?_eq_getElem hj]
      have HS5 := Lib.hid (HS.out.below hB)
      have HS25 := Lib.hid (HS2.out.below hB)
      have HT5 := Lib.hid (HT.out.trans (hB.mono (hwb _ HT.out.size)))
      have hro : Hid (wr.heap.size ≤ r ∧ r < w5.heap.size) := Lib.hid hrr
      have hout : Hid (S < wr.heap.size ∧ g < wr.heap.size ∧ b < wr.heap.size ∧ mb < wr.heap.size ∧ S2 < wr.heap.size ∧ g2 < wr.heap.size ∧ b2 < wr.heap.size ∧ m2 < wr.heap.size) :=
        Lib.hid ⟨HS.out.st.box.lt, HS.out.st.disk.lt, HS.out.st.disk.ltb, HS.out.st.map.lt, HS2.out.st.box.lt, HS2.out.st.disk.lt, HS2.out.st.disk.ltb, HS2.out.st.map.lt⟩
      clear hN hrow hB hrr HS HS2 HT
      generalize hmm : mapL ll MapP.nil = m at *
      have HMM := Lib.hid hmm
      clear hmm
      go_wp2_with fail
      go_loopg [12] ss.length (fun gg s12 wx => ∃ (kk : Nat), kk ≤ ss.length ∧ ss.length - kk ≤ gg ∧ (∃ z : Int, s12 = .int .i64 z ∧ z = (ss.length : Int) - 1 - kk) ∧ Hid (LogOnly S g b mb ll f wx) ∧ (∃ fz : FileP, Hid (LogOnly S2 g2 b2 m2 (recsOf (ss.reverse.take kk) m.m) fz wx)) ∧ Hid (Below b w0 wx) ∧ Hid (Turn3 g2 b2 m2 w5 wx))
      case atStart => exact ⟨0, Nat.zero_le _, by omega, ⟨_, rfl, by omega⟩, HS5, ⟨f2, HS25⟩, HT5, Turn3.refl _ _ _ _⟩
      case round =>
        obtain ⟨kk, hkk, hgg, ⟨z, rfl, hz⟩, HA, ⟨fz, HA2⟩, HTA, HX⟩ := hrel
        by_cases hlt : kk < ss.length
        · obtain ⟨i, rfl⟩ : ∃ i : Nat, z = (i : Int) := ⟨ss.length - 1 - kk, by omega⟩
          have hi : i < ss.length := by omega
          have hiz : (i : Int) < (ss.length : Int) := by omega
          have hik : ss.length - 1 - i = kk := by omega
          have hsum : i + 1 + kk = ss.length := by omega
          clear hz
          have hrev := rev_at ss i hi
          rw [hik] at hrev
          have htake := recsOf_take ss.reverse m.m kk _ hrev
          have hrb := HX.out.block r hro.out.2 (by have := hro.out.1; have := hout.out; omega) (by have := hro.out.1; have := hout.out; omega) (by have := hro.out.1; have := hout.out; omega)
          have l0 := (World.cell?_of_block (w := w5) (w' := wr) (a := ⟨r, i, none⟩) hrb).trans (hcells.out i hi)
          obtain ⟨s, hs⟩ : ∃ s : ByteArray, s = ⟨(ss.getD i []).toArray⟩ := ⟨_, rfl⟩
          have l1 : wr.cell? ⟨r, i, none⟩ = some (.string s) := by rw [l0, hs]
          have hsk : s.data.toList = ss.getD i [] := by rw [hs]
          have hmem : (m.m s.data.toList).isSome = true := (HN.out.mem _).1 (by rw [hsk, List.getD_eq_getElem?_getD, List.getElem?_eq_getElem hi]; exact List.getElem_mem hi)
          obtain ⟨x, hx⟩ := Option.isSome_iff_exists.1 hmem
          obtain ⟨hk1, hk2, hk3⟩ := HSM.out.key _ _ hx
          rw [← Lib.size_eq] at hk1 hk2
          have hget : sGet m s = (x, 0) := by unfold sGet; rw [if_pos ⟨hk1, hk2⟩, hx]
          rw [← hs, ← hsk, hx] at htake
          have htake2 : recsOf (ss.reverse.take (kk + 1)) m.m = recsOf (ss.reverse.take kk) m.m ++ [(s, x)] := htake
          have HTK := Lib.hid htake2
          have HG := Lib.hid (get_any S g mb m s wr HA.out.st.box (by rw [← HMM.out]; exact HA.out.st.map) (by unfold maxLen; omega))
          have HLx : Hid (Laid wr) := HL0.out.stays HTA.out (by rw [HBB.out]; exact Nat.le_refl _)
          have HP := Lib.hid (put_logok S2 g2 b2 m2 (recsOf (ss.reverse.take kk) m.m) fz s x wr HA2.out (by unfold recsOf; rw [List.length_map, List.length_take]; omega) ⟨hk1, hk2⟩ hk3 HLx.out)
          rw [hget] at HG
          clear l0 hs hsk hmem hx hget htake htake2 hrb hrev HLx hik
          go_wp2_with fail
          refine HG.out.mono ?_
          rintro e w6 ⟨rfl, rfl⟩
          go_wp2_with fail
          refine HP.out.mono ?_
          rintro e w7 ⟨fy, rfl, hst7, ht7⟩
          have HA7 := Lib.hid (LogOnly.one HAP.out HA.out ht7)
          have HA27 : Hid (LogOnly S2 g2 b2 m2 (recsOf (ss.reverse.take (kk + 1)) m.m) fy w7) := Lib.hid (by rw [HTK.out]; exact hst7)
          have HT7 := Lib.hid (HTA.out.trans (ht7.below (hwb _ HTA.out.size) hg2 hbr2 hm24))
          have HX7 := Lib.hid (HX.out.trans ht7)
          clear hst7 ht7
          go_wp2_with fail
          go_roundg (ss.length - (kk + 1))
          case measure => omega
          case rel => exact ⟨kk + 1, by omega, by omega, ⟨_, by go_num, by omega⟩, HA7, ⟨fy, HA27⟩, HT7, HX7⟩
        · have hk : kk = ss.length := by omega
          have hz0 : ¬ (0 : Int) ≤ z := by omega
          subst hk
          rw [show ss.length = ss.reverse.length from List.length_reverse.symm, List.take_length] at HA2
          have hq := rev_back HN.out
          have hqs := HA2.out.map
          have hqn : (recsOf ss.reverse m.m).length ≤ 40 := by unfold recsOf; rw [List.length_map, List.length_reverse]; exact hsl
          have hst1 : IsStore wr S g b mb (D3 none (some f) none false false 0) m := by rw [← HMM.out]; exact HA.out.st
          have hst2 := HA2.out.st
          generalize mapL (recsOf ss.reverse m.m) MapP.nil = q at *
          generalize (recsOf ss.reverse m.m).length = qn at *
          have HQ := Lib.hid hq
          have HQS := Lib.hid (hqs.ok (show qn ≤ 1000 by omega))
          have HQM := Lib.hid hqs
          have HST1 := Lib.hid hst1
          have HST2 := Lib.hid hst2
          have HLx : Hid (Laid wr) := HL0.out.stays HTA.out (by rw [HBB.out]; exact Nat.le_refl _)
          clear hq hqs hst1 hst2 HA HA2 HX hcells HS5 HS25 HLO2 HLO4
          go_wp2_with fail
          refine (compact_small S g b mb none none f 0 m ll.length wr HST1.out HSM.out (by omega) HLx.out).mono ?_
          rintro e wa ⟨rfl, ss3, hss3, hst3, ht3⟩
          have hse3 := hss3.one HN.out (fun _ => rfl)
          subst hse3
          have HSa := Lib.hid hst3
          have HSa2 := Lib.hid (HST2.out.other (Turn3.of_turn ht3 mb) HAP.out.a2.1 HAP.out.a2.2.1 HAP.out.a2.2.2.1 HAP.out.a2.2.2.2)
          have HTa := Lib.hid (HTA.out.trans (ht3.below (hwb _ HTA.out.size) hg0 hbr))
          have HLa : Hid (Laid wa) := HL0.out.stays HTa.out (by rw [HBB.out]; exact Nat.le_refl _)
          clear hss3 hst3 ht3 HST1 HST2
          go_wp2_with fail
          refine (compact_small S2 g2 b2 m2 none none fz 0 q qn wa HSa2.out HQM.out (by omega) HLa.out).mono ?_
          rintro e wb ⟨rfl, ss4, hss4, hst4, ht4⟩
          have hse4 := hss4.one HN.out (fun y => by rw [HQ.out])
          subst hse4
          have HSb2 := Lib.hid hst4
          have HSb := Lib.hid (HSa.out.other (Turn3.of_turn ht4 m2) HAP.out.a1.1 HAP.out.a1.2.1 HAP.out.a1.2.2.1 HAP.out.a1.2.2.2)
          have HTb := Lib.hid (HTa.out.trans (ht4.below (hwb _ HTa.out.size) hg2 hbr2))
          rw [HQ.out] at HSb2
          clear hss4 hst4 ht4 HSa HSa2 HLa HLx
          generalize hsn : (⟨(snapL ss4 m.m).toArray⟩ : ByteArray) = sn at *
          clear hsn
          have hrd := read_any g b _ ⟨#[115, 110, 97, 112]⟩ wb HSb.out.disk
          rw [show (⟨#[115, 110, 97, 112]⟩ : ByteArray).data.toList = nSnap from rfl, k_s] at hrd
          have HRD := Lib.hid hrd
          clear hrd
          go_wp2_with fail
          refine HRD.out.mono ?_
          rintro e wc ⟨rfl, hbc⟩
          have HSc := Lib.hid (HSb.out.below hbc)
          have HSc2 := Lib.hid (HSb2.out.below hbc)
          have HTc := Lib.hid (HTb.out.trans (hbc.mono (hwb _ HTb.out.size)))
          have hrd := read_any g2 b2 _ ⟨#[115, 110, 97, 112]⟩ wc HSc2.out.disk
          rw [show (⟨#[115, 110, 97, 112]⟩ : ByteArray).data.toList = nSnap from rfl, k_s] at hrd
          have HRD2 := Lib.hid hrd
          clear hrd hbc HRD HSb HSb2 HTb
          go_wp2_with fail
          refine HRD2.out.mono ?_
          rintro e wd ⟨rfl, hbd⟩
          have HSd := Lib.hid (HSc.out.below hbd)
          have HSd2 := Lib.hid (HSc2.out.below hbd)
          have HTd := Lib.hid (HTc.out.trans (hbd.mono (hwb _ HTc.out.size)))
          clear hbd HRD2 HSc HSc2 HTc
          have hxx : (sn.toList == sn.toList) = true := by simp
          go_wp2_with fail
          refine (told_any S g mb m wd HSd.out.box HSd.out.map hmo.out).mono ?_
          rintro e we ⟨vm, rfl, ss5, hss5, hsl5, hbe⟩
          have hse5 := hss5.one HN.out (fun _ => rfl)
          subst hse5
          have HSL5 := Lib.hid hsl5
          have HSe2 := Lib.hid (HSd2.out.below hbe)
          have HTe := Lib.hid (HTd.out.trans (hbe.mono (hwb _ HTd.out.size)))
          have hgl := HSd.out.disk.lt
          have hbl := HSd.out.disk.ltb
          clear hss5 hsl5 hbe
          go_wp2_with fail
          refine (told_any S2 g2 m2 q we HSe2.out.box HSe2.out.map HQS.out).mono ?_
          rintro e wf ⟨vn, rfl, ss6, hss6, hsl6, hbf⟩
          have hse6 := hss6.one HN.out (fun y => by rw [HQ.out])
          subst hse6
          rw [HQ.out] at hsl6
          have HSL6 := Lib.hid hsl6
          have HSL5f := Lib.hid (HSL5.out.turn (Turn.of_below hbf g b) hgl hbl)
          have HTf := Lib.hid (HTe.out.trans (hbf.mono (hwb _ HTe.out.size)))
          clear hss6 hsl6 hbf
          go_wp2_with fail
          have hal := alike_any vm vn _ _ wf _ _ HSL5f.out HSL6.out
          rw [decide_eq_true rfl] at hal
          refine hal.mono ?_
          clear hal
          rintro e wg ⟨rfl, hbg⟩
          have HTg := Lib.hid (HTf.out.trans (hbg.mono (hwb _ HTf.out.size)))
          clear hbg
          go_wp2_with fail
          go_ret
          exact ⟨rfl, HB0.out.trans (HTg.out.mono (by rw [← HBB.out]; exact HB0.out.size))⟩

end Go.Proofs.YtmlmjchifelpkaaDoor
