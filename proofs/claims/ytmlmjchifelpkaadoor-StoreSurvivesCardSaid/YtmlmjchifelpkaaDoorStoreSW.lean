/- StoreSurvives: the walk through the law's own code. -/
import Derived.Test.YtmlmjchifelpkaaDoorStoreS
namespace Go.Proofs.YtmlmjchifelpkaaDoor
open Go.RowKit Go.Lib Go.Maps Go.Sort
set_option linter.unusedVariables false
set_option maxRecDepth 100000

/-- Draws that came in. -/
def DrawsIn (w : World) (rp : Option Addr) (rn rc : Nat) : Prop :=
  ∃ zs : List Int, zs.length = rn ∧ rn ≤ rc ∧ rc ≤ maxLen ∧ (zs ≠ [] → ∃ db off, rp = some ⟨db, off, none⟩ ∧ db < w.heap.size ∧ ∀ j, j < zs.length → w.cell? ⟨db, off + j, none⟩ = some (.int .i64 (zs.getD j 0)))
def ActsMore (w : World) (v : Value) (xs : List ActP) : Prop := ActsArg w v xs ∧ ∀ a ∈ xs, DrawsIn w a.rp a.rn a.rc

theorem DrawsIn.at {w w' : World} {rp : Option Addr} {rn rc g b : Nat} (h : DrawsIn w rp rn rc) (hb : Below w.heap.size w w') (hg : w.heap.size ≤ g) (hbb : w.heap.size ≤ b) : ∃ zs : List Int, zs.length = rn ∧ DrawsAt g b w' (.slice rp rn rc) zs := by
  obtain ⟨zs, rfl, h1, h2, h3⟩ := h
  refine ⟨zs, rfl, rp, rc, rfl, h1, h2, fun hz => ?_⟩
  obtain ⟨db, off, k1, k2, k3⟩ := h3 hz
  exact ⟨db, off, k1, by omega, by omega, Nat.lt_of_lt_of_le k2 hb.size, fun j hj => (hb.cell (p := ⟨db, off + j, none⟩) k2).trans (k3 j hj)⟩

/-- A block of five cells that the round laid. -/
structure FiveAt (w : World) (r : Nat) (x : ActP) : Prop where
  lt : r < w.heap.size
  c0 : w.cell? ⟨r, 0, none⟩ = some (.int .i64 x.kind)
  c1 : w.cell? ⟨r, 1, none⟩ = some (.string x.name)
  c2 : w.cell? ⟨r, 2, none⟩ = some (.string x.data)
  c3 : w.cell? ⟨r, 3, none⟩ = some (.int .i64 x.n)
  c4 : w.cell? ⟨r, 4, none⟩ = some (.slice x.rp x.rn x.rc)

theorem FiveAt.turn3 {w w' : World} {r g b c : Nat} {x : ActP} (h : FiveAt w r x) (ht : Turn3 g b c w w') (h1 : r ≠ g) (h2 : r ≠ b) (h3 : r ≠ c) : FiveAt w' r x := by
  have hb := ht.block r h.lt h1 h2 h3
  have e : ∀ j, w'.cell? ⟨r, j, none⟩ = w.cell? ⟨r, j, none⟩ := fun j => World.cell?_of_block (a := ⟨r, j, none⟩) hb
  exact ⟨Nat.lt_of_lt_of_le h.lt ht.size, (e 0).trans h.c0, (e 1).trans h.c1, (e 2).trans h.c2, (e 3).trans h.c3, (e 4).trans h.c4⟩

set_option maxHeartbeats 1600000 in
theorem survives_walk (va : Value) (xs : List ActP) (w : World) (hl : Laid w) (ham : ActsMore w va xs) :
    Calls Tryd.prog 5 #[va] w fun e w' => e = .returned (.bool true) ∧ Below w.heap.size w w' := by
  obtain ⟨ha, hdrw⟩ := ham
  obtain ⟨pa, capa, rfl, hml, hcell, hbd⟩ := ha
  have HCE := Lib.hid hcell
  have HBD := Lib.hid hbd
  have HDR := Lib.hid hdrw
  have HL := Lib.hid hl
  clear hcell hbd hl hdrw
  have hml : xs.length ≤ 9223372036854775807 := hml
  go_enter Tryd.func5, Tryd.ntmps5
  go_wp2_with fail
  refine (works_any w HL.out).mono ?_
  rintro e w0 ⟨rfl, hb0⟩
  have HB0 := Lib.hid hb0
  have HL0 : Hid (Laid w0) := HL.out.stays hb0 (Nat.le_refl _)
  clear hb0
  go_wp2_with fail
  refine (new_any w0).mono ?_
  rintro e w1 ⟨rfl, hd1, hb1⟩
  rw [D3_nil] at hd1
  have hg0 : w0.heap.size ≤ w0.heap.size + 1 := by omega
  have hbr : w0.heap.size ≤ w0.heap.size := Nat.le_refl _
  have hsz1 := hb1.size
  have HOP := Lib.hid (open_any w0 (w0.heap.size + 1) w0.heap.size none none none 0 w1 hb1 hg0 hbr hd1 HL0.out [] [] rfl List.Pairwise.nil (fun _ h => by cases h) rfl (fun _ h => by cases h))
  have HB1 := Lib.hid hb1
  clear hd1 hb1
  have hbg : w0.heap.size < w0.heap.size + 1 := by omega
  generalize w0.heap.size + 1 = g at *
  generalize hbb : w0.heap.size = b at *
  have HBB := Lib.hid hbb
  have hwb : ∀ wx : World, w0.heap.size ≤ wx.heap.size → b ≤ wx.heap.size := fun wx h => by rw [← hbb]; exact h
  clear hbb
  go_wp2_with fail
  refine HOP.out.mono ?_
  rintro e w2 ⟨S0, mb0, f2, rfl, hS, hmb, hla, hst2, ht2⟩
  have hbel2 : Hid (Below b w0 w2) := HB1.out.trans (ht2.below hsz1 hg0 hbr)
  have hmb2 : b ≤ mb0 := Nat.le_trans hsz1 hmb
  have HLI : Hid (Live S0 g b mb0 0 MapP.nil [] w2) := Lib.hid ⟨⟨none, f2, [], [], false, 0, hst2, ⟨rfl, List.Pairwise.nil, (fun _ h => by cases h), (fun _ h => by cases h), Nat.le_refl _, Nat.le_refl _, hla.1, hla.2.elim (fun h => by cases h) id, (fun _ h => by cases h), rfl⟩⟩, ⟨(fun k => by simp [MapP.nil]), List.nodup_nil, List.Pairwise.nil, rfl, (fun _ h => by cases h)⟩, Nat.le_refl _⟩
  clear hS hmb hla hst2 ht2 HOP HB1
  go_wp2_with fail
  go_loopg [4, 6, 7] xs.length (fun gg s4 s6 s7 wr => ∃ (kk S mb B : Nat) (m : MapP) (ss : List (List UInt8)), kk ≤ xs.length ∧ kk ≤ 60 ∧ xs.length - kk ≤ gg ∧ s7 = .int .i64 kk ∧ s4 = .pointer (some ⟨S, 0, none⟩) ∧ b ≤ mb ∧ Hid (Live S g b mb kk m ss wr) ∧ Hid (StrsAt B wr s6 (toldL ss m.m)) ∧ Hid (g < B ∧ b < B ∧ mb < B) ∧ Hid (Below b w0 wr))
  case atStart => exact ⟨0, S0, mb0, _, MapP.nil, [], Nat.zero_le _, by omega, by omega, rfl, rfl, hmb2, HLI, ⟨none, 0, rfl, Nat.zero_le _, fun h => absurd rfl h⟩, Lib.hid HLI.out.lts, hbel2⟩
  case round =>
    obtain ⟨kk, S, mb, B, m, ss, hkk, hk60, hgg, rfl, rfl, hmb, HS, HN, HBo, HT⟩ := hrel
    by_cases hlt : kk < xs.length ∧ kk < 60
    · have hl1 : (kk : Int) < (xs.length : Int) := by omega
      have hl2 : (kk : Int) < 60 := by omega
      have hk1 := hlt.1
      have hne : xs ≠ [] := fun e => by rw [e] at hk1; exact absurd hk1 (Nat.not_lt_zero _)
      obtain ⟨ab, off, rfl, hab, hcs⟩ := HCE.out hne
      obtain ⟨y0, y1, y2, y3, y4⟩ := hcs kk hk1
      have hmem : xs.getD kk ActP.nil ∈ xs := by
        rw [List.getD_eq_getElem?_getD, List.getElem?_eq_getElem hk1]
        exact List.getElem_mem hk1
      have hbm := HBD.out _ hmem
      have hdm := HDR.out _ hmem
      clear hmem hcs
      have hBW : Below w.heap.size w wr := HB0.out.trans (HT.out.mono (by rw [HBB.out.symm]; exact HB0.out.size))
      have z0 := (hBW.cell (p := ⟨ab, off + kk * 5, none⟩) hab).trans y0
      have z1 := (hBW.cell (p := ⟨ab, off + kk * 5 + 1, none⟩) hab).trans y1
      have z2 := (hBW.cell (p := ⟨ab, off + kk * 5 + 2, none⟩) hab).trans y2
      have z3 := (hBW.cell (p := ⟨ab, off + kk * 5 + 3, none⟩) hab).trans y3
      have z4 := (hBW.cell (p := ⟨ab, off + kk * 5 + 4, none⟩) hab).trans y4
      generalize xs.getD kk ActP.nil = x at *
      obtain ⟨kd, nm, dt, nn, rp, rn, rc⟩ := x
      simp only at z0 z1 z2 z3 z4 hbm hdm
      have HBM := Lib.hid hbm
      have HDM := Lib.hid hdm
      clear y0 y1 y2 y3 y4 hBW hne hbm hdm
      have hmb4 := HS.out.lts
      have hb4 : Below wr.heap.size wr (wr.alloc (.cells #[.int .i64 kd, .string nm, .string dt, .int .i64 nn, .slice rp rn rc] 32)) := (Below.refl _ wr).alloc (Nat.le_refl _) _
      have HS4 := Lib.hid (HS.out.below hb4)
      have HN4 := Lib.hid (HN.out.turn (Turn.of_below hb4 g b) HBo.out.1 HBo.out.2.1)
      have HT4 := Lib.hid (HT.out.trans (hb4.mono (hwb _ HT.out.size)))
      have HF4 : Hid (FiveAt (wr.alloc (.cells #[.int .i64 kd, .string nm, .string dt, .int .i64 nn, .slice rp rn rc] 32)) wr.heap.size ⟨kd, nm, dt, nn, rp, rn, rc⟩) := Lib.hid ⟨by simp, by simp, by simp, by simp, by simp, by simp⟩
      have HR4 : Hid (wr.heap.size ≠ g ∧ wr.heap.size ≠ b ∧ wr.heap.size ≠ mb) := Lib.hid ⟨by omega, by omega, by omega⟩
      have HL4 : Hid (Laid (wr.alloc (.cells #[.int .i64 kd, .string nm, .string dt, .int .i64 nn, .slice rp rn rc] 32))) := HL0.out.stays HT4.out (by rw [HBB.out]; exact Nat.le_refl _)
      clear hb4 hmb4 HS HN HT
      go_upto_region 14 with fail
      clear z0 z1 z2 z3 z4
      generalize (wr.alloc (.cells #[.int .i64 kd, .string nm, .string dt, .int .i64 nn, .slice rp rn rc] 32)) = wa at *
      generalize wr.heap.size = r at *
      have c0 := HF4.out.c0
      have c1 := HF4.out.c1
      have c2 := HF4.out.c2
      have c3 := HF4.out.c3
      have c4 := HF4.out.c4
      simp only at c0 c1 c2 c3 c4
      by_cases hok : (1 ≤ nm.size ∧ nm.size ≤ 64) ∧ dt.size ≤ 1000 ∧ rn ≤ 1000
      · have hg1 : ¬ (nm.size : Int) < 1 := by omega
        have hg2 : ¬ (64 : Int) < (nm.size : Int) := by omega
        have hg3 : ¬ (1000 : Int) < (dt.size : Int) := by omega
        have hg4 : ¬ (1000 : Int) < (rn : Int) := by omega
        have HOK : Hid (SmallR (nm, dt) ∧ rn ≤ 1000) := Lib.hid ⟨⟨hok.1, hok.2.1⟩, hok.2.2⟩
        have hnz : nm.size ≤ 64 := hok.1.2
        clear hok
        obtain ⟨q, hq⟩ : ∃ q, q = kd % 4 := ⟨_, rfl⟩
        have hq4 : q = 0 ∨ q = 1 ∨ q = 2 ∨ q = 3 := by omega
        have HAM := fun wx => among_lit 4 (Or.inl rfl) kd wx
        rw [← hq] at HAM
        have HAMM := Lib.hid HAM
        clear HAM hq
        go_wp2_with fail
        refine (HAMM.out _).mono ?_
        rintro e w' ⟨rfl, rfl⟩
        clear HAMM
        rcases hq4 with rfl | rfl | rfl | rfl
        · have HP := Lib.hid (put_live S g b mb kk m ss nm dt wa HS4.out HOK.out.1 (by omega) HL4.out)
          clear HL4 c0 c3 c4
          go_wp2_with fail
          refine HP.out.mono ?_
          rintro e w5 ⟨z, rfl, ht5, hz5⟩
          have HN5 := Lib.hid (HN4.out.turn3 ht5 HBo.out.1 HBo.out.2.1 HBo.out.2.2)
          have HF5 := Lib.hid (HF4.out.turn3 ht5 HR4.out.1 HR4.out.2.1 HR4.out.2.2)
          have HT5 := Lib.hid (HT4.out.trans (ht5.below (hwb _ HT4.out.size) hg0 hbr hmb))
          have HB5 : Hid (g < w5.heap.size ∧ b < w5.heap.size ∧ mb < w5.heap.size) := Lib.hid (by
            have h1 := HS4.out.lts
            have h2 := ht5.size
            omega)
          have hssl : ss.length ≤ 1000 := by have := HS4.out.len; omega
          have HK1 := Lib.hid (show KeysOf m ss ∧ ss.length ≤ kk from ⟨HS4.out.keys, HS4.out.len⟩)
          have HZ5 := Lib.hid hz5
          have HWI := Lib.hid (with_any B _ ss m.m nm dt w5 HN5.out hssl)
          have d1 := HF5.out.c1
          have d2 := HF5.out.c2
          simp only at d1 d2
          clear ht5 hz5 HP HS4 HN4 HF4 HT4 c1 c2
          go_wp2_with fail
          refine HWI.out.mono ?_
          rintro e w6 ⟨vm, rfl, hsm6, hb6⟩
          have HM6 : Hid (StrsAt w5.heap.size w6 vm (toldL (wFin nm.data.toList ss) (m.put nm.data.toList dt).m)) := Lib.hid hsm6
          have HN6 := Lib.hid (HN5.out.turn (Turn.of_below hb6 g b) HBo.out.1 HBo.out.2.1)
          have HF6 := Lib.hid (HF5.out.turn3 (Turn3.of_below hb6 g b mb) HR4.out.1 HR4.out.2.1 HR4.out.2.2)
          have HT6 := Lib.hid (HT5.out.trans (hb6.mono (hwb _ HT5.out.size)))
          have HB6 : Hid (g < w5.heap.size ∧ b < w5.heap.size ∧ mb < w5.heap.size) := HB5
          rcases HZ5.out with ⟨rfl, hlive⟩ | ⟨rfl, hdead⟩
          · have HL6 := Lib.hid (hlive.below hb6)
            clear hlive hsm6 hb6 HWI HN5 HT5 HZ5 d1 d2
            go_wp2_with fail
            refine (told_any S g mb (m.put nm.data.toList dt) w6 HL6.out.box.1 HL6.out.box.2 (HL6.out.small.ok (by omega))).mono ?_
            rintro e wp ⟨vl, rfl, ss3, hss3, hsl3, hbp⟩
            have hse3 := hss3.one HL6.out.keys (fun _ => rfl)
            rw [hse3] at hsl3
            have HLP := Lib.hid (HL6.out.below hbp)
            have HNP := Lib.hid (HM6.out.turn (Turn.of_below hbp g b) HB6.out.1 HB6.out.2.1)
            have HTP := Lib.hid (HT6.out.trans (hbp.mono (hwb _ HT6.out.size)))
            have hal := alike_any vl _ _ _ wp _ _ hsl3 HNP.out
            rw [decide_eq_true rfl] at hal
            have HAL := Lib.hid hal
            clear hal hsl3 hss3 hse3 hbp
            go_wp2_with fail
            refine HAL.out.mono ?_
            rintro e wq ⟨rfl, hbq⟩
            have HLQ := Lib.hid (HLP.out.below hbq)
            have HNQ := Lib.hid (HNP.out.turn (Turn.of_below hbq g b) HB6.out.1 HB6.out.2.1)
            have HTQ := Lib.hid (HTP.out.trans (hbq.mono (hwb _ HTP.out.size)))
            clear hbq HAL
            go_wp2_with fail
            go_roundg (xs.length - (kk + 1))
            case measure => omega
            case rel => exact ⟨kk + 1, S, mb, w5.heap.size, (m.put nm.data.toList dt), (wFin nm.data.toList ss), by omega, by omega, by omega, by go_num, rfl, hmb, HLQ, HNQ, HB6, HTQ⟩

          · have HD6 := Lib.hid (hdead.below hb6)
            have HK2 := Lib.hid (with_keys HK1.out.1 nm.data.toList dt (by rw [← Lib.size_eq]; exact hnz))
            have HZ2 : Hid ((wFin nm.data.toList ss).length ≤ kk + 1) := Lib.hid (by
              have := wFin_len HK1.out.1 nm.data.toList dt (by rw [← Lib.size_eq]; exact hnz)
              have := HK1.out.2
              omega)
            clear hdead hsm6 hb6 HWI HN5 HT5 HZ5 d1 d2
            obtain ⟨zs, hzl, hdw⟩ := (show DrawsIn w rp rn rc from HDM.out).at (g := g) (b := b) (w' := w6) (HB0.out.trans (HT6.out.mono (by rw [HBB.out.symm]; exact HB0.out.size))) (by have h1 := HB0.out.size; rw [← HBB.out] at hg0; exact Nat.le_trans h1 hg0) (by rw [← HBB.out]; exact HB0.out.size)
            have hz1 : zs.length ≤ 16384 := by have := HOK.out.2; omega
            have HCR := Lib.hid (crash_dead S g b mb (kk + 1) m.m (m.put nm.data.toList dt).m _ zs w6 HD6.out hdw hz1)
            have cc4 := HF6.out.c4
            simp only at cc4
            clear hdw hz1 hzl zs
            go_wp2_with fail
            refine HCR.out.mono ?_
            rintro e wp ⟨rfl, hbk, htp⟩
            have HTP := Lib.hid (HT6.out.trans (htp.below (hwb _ HT6.out.size) hg0 hbr))
            have HNP := Lib.hid (HN6.out.turn htp HBo.out.1 HBo.out.2.1)
            have HMP := Lib.hid (HM6.out.turn htp HB6.out.1 HB6.out.2.1)
            have HOPB := Lib.hid (open_back w0 g b (kk + 1) m.m (m.put nm.data.toList dt).m wp (by rw [HBB.out]; exact HTP.out) (by rw [HBB.out]; exact hg0) (by rw [HBB.out]; exact hbr) HL0.out (by omega) hbk)
            clear hbk htp HCR cc4
            go_wp2_with fail
            refine HOPB.out.mono ?_
            rintro e wq ⟨S2, mb2, m3, rfl, hmb3, hm3, hok3, hbox3, hmap3, hlive3, htq⟩
            have HTQ := Lib.hid (HTP.out.trans (htq.below (hwb _ HTP.out.size) hg0 hbr))
            have HNQ := Lib.hid (HNP.out.turn htq HBo.out.1 HBo.out.2.1)
            have HMQ := Lib.hid (HMP.out.turn htq HB6.out.1 HB6.out.2.1)
            have hmb2' : b ≤ mb2 := Nat.le_trans (hwb _ HTP.out.size) hmb3
            have HLV := Lib.hid hlive3
            have HM3 := Lib.hid hm3
            have HTO := Lib.hid (told_any S2 g mb2 m3 wq hbox3 hmap3 hok3)
            clear hlive3 htq hm3 HOPB hmb3 hbox3 hmap3 hok3
            go_wp2_with fail
            refine HTO.out.mono ?_
            rintro e wt ⟨vl, rfl, ss3, hss3, hsl3, hbt⟩
            have HTR := Lib.hid (HTQ.out.trans (hbt.mono (hwb _ HTQ.out.size)))
            have HNR := Lib.hid (HNQ.out.turn (Turn.of_below hbt g b) HBo.out.1 HBo.out.2.1)
            have HMR := Lib.hid (HMQ.out.turn (Turn.of_below hbt g b) HB6.out.1 HB6.out.2.1)
            have HSL3 := Lib.hid hsl3
            have HSS3 := Lib.hid hss3
            have HBT := Lib.hid hbt
            clear hss3 hsl3 hbt HTO
            rcases HM3.out with hm | hm
            · have hse := HSS3.out.one HK1.out.1 (fun y => by rw [hm])
              have hz : ss3.length ≤ (kk + 1) := by rw [hse]; exact Nat.le_trans HK1.out.2 (by omega)
              have hLq := HLV.out ss3 HSS3.out hz
              have HBR := Lib.hid hLq.lts
              have HLR := Lib.hid (hLq.below HBT.out)
              have hal := alike_any vl _ _ _ wt _ _ HSL3.out HNR.out
              rw [decide_eq_true (by rw [hse, hm])] at hal
              have HAL := Lib.hid hal
              clear hal hse hz hLq hm
              go_wp2_with fail
              refine HAL.out.mono ?_
              rintro e ws ⟨rfl, hbs⟩
              have HLS := Lib.hid (HLR.out.below hbs)
              have HSLS := Lib.hid (HSL3.out.turn (Turn.of_below hbs g b) HBR.out.1 HBR.out.2.1)
              have HTS := Lib.hid (HTR.out.trans (hbs.mono (hwb _ HTR.out.size)))
              clear hbs HAL
              go_wp2_with fail
              go_roundg (xs.length - (kk + 1))
              case measure => omega
              case rel => exact ⟨kk + 1, S2, mb2, wq.heap.size, m3, ss3, by omega, by omega, by omega, by go_num, rfl, hmb2', Lib.hid (HLS.out.mono (by omega)), HSLS, HBR, HTS⟩
            · have hse := HSS3.out.one HK2.out (fun y => by rw [hm])
              have hz : ss3.length ≤ kk + 1 := by rw [hse]; exact HZ2.out
              have hLq := HLV.out ss3 HSS3.out hz
              have HBR := Lib.hid hLq.lts
              have HLR := Lib.hid (hLq.below HBT.out)
              obtain ⟨bb, hbb⟩ : ∃ bb : Bool, decide (toldL ss3 m3.m = toldL ss m.m) = bb := ⟨_, rfl⟩
              have hal := alike_any vl _ _ _ wt _ _ HSL3.out HNR.out
              rw [hbb] at hal
              have HAL := Lib.hid hal
              have HEQ : Hid (toldL ss3 m3.m = toldL (wFin nm.data.toList ss) (m.put nm.data.toList dt).m) := Lib.hid (by rw [hse, hm])
              clear hal hse hz hLq hm hbb
              cases bb with
              | true =>
                go_wp2_with fail
                refine HAL.out.mono ?_
                rintro e ws ⟨rfl, hbs⟩
                have HLS := Lib.hid (HLR.out.below hbs)
                have HSLS := Lib.hid (HSL3.out.turn (Turn.of_below hbs g b) HBR.out.1 HBR.out.2.1)
                have HTS := Lib.hid (HTR.out.trans (hbs.mono (hwb _ HTR.out.size)))
                clear hbs HAL
                go_wp2_with fail
                go_roundg (xs.length - (kk + 1))
                case measure => omega
                case rel => exact ⟨kk + 1, S2, mb2, wq.heap.size, m3, ss3, by omega, by omega, by omega, by go_num, rfl, hmb2', Lib.hid (HLS.out.mono (by omega)), HSLS, HBR, HTS⟩
              | false =>
                go_wp2_with fail
                refine HAL.out.mono ?_
                rintro e ws ⟨rfl, hbs⟩
                have HLS := Lib.hid (HLR.out.below hbs)
                have HSLS := Lib.hid (HSL3.out.turn (Turn.of_below hbs g b) HBR.out.1 HBR.out.2.1)
                have HTS := Lib.hid (HTR.out.trans (hbs.mono (hwb _ HTR.out.size)))
                have HMS := Lib.hid (HMR.out.turn (Turn.of_below hbs g b) HB6.out.1 HB6.out.2.1)
                have hal := alike_any vl _ _ _ ws _ _ HSLS.out HMS.out
                rw [decide_eq_true HEQ.out] at hal
                have HAL2 := Lib.hid hal
                clear hbs HAL hal
                go_wp2_with fail
                refine HAL2.out.mono ?_
                rintro e wu ⟨rfl, hbu⟩
                have HLU := Lib.hid (HLS.out.below hbu)
                have HSLU := Lib.hid (HSLS.out.turn (Turn.of_below hbu g b) HBR.out.1 HBR.out.2.1)
                have HTU := Lib.hid (HTS.out.trans (hbu.mono (hwb _ HTS.out.size)))
                clear hbu HAL2
                go_wp2_with fail
                go_roundg (xs.length - (kk + 1))
                case measure => omega
                case rel => exact ⟨kk + 1, S2, mb2, wq.heap.size, m3, ss3, by omega, by omega, by omega, by go_num, rfl, hmb2', Lib.hid (HLU.out.mono (by omega)), HSLU, HBR, HTU⟩
        · have HP := Lib.hid (put_live S g b mb kk m ss nm dt wa HS4.out HOK.out.1 (by omega) HL4.out)
          clear HL4 c0 c3 c4
          go_wp2_with fail
          refine HP.out.mono ?_
          rintro e w5 ⟨z, rfl, ht5, hz5⟩
          have HN5 := Lib.hid (HN4.out.turn3 ht5 HBo.out.1 HBo.out.2.1 HBo.out.2.2)
          have HF5 := Lib.hid (HF4.out.turn3 ht5 HR4.out.1 HR4.out.2.1 HR4.out.2.2)
          have HT5 := Lib.hid (HT4.out.trans (ht5.below (hwb _ HT4.out.size) hg0 hbr hmb))
          have HB5 : Hid (g < w5.heap.size ∧ b < w5.heap.size ∧ mb < w5.heap.size) := Lib.hid (by
            have h1 := HS4.out.lts
            have h2 := ht5.size
            omega)
          have hssl : ss.length ≤ 1000 := by have := HS4.out.len; omega
          have HK1 := Lib.hid (show KeysOf m ss ∧ ss.length ≤ kk from ⟨HS4.out.keys, HS4.out.len⟩)
          have HZ5 := Lib.hid hz5
          have HWI := Lib.hid (with_any B _ ss m.m nm dt w5 HN5.out hssl)
          have d1 := HF5.out.c1
          have d2 := HF5.out.c2
          simp only at d1 d2
          clear ht5 hz5 HP HS4 HN4 HF4 HT4 c1 c2
          go_wp2_with fail
          refine HWI.out.mono ?_
          rintro e w6 ⟨vm, rfl, hsm6, hb6⟩
          have HM6 : Hid (StrsAt w5.heap.size w6 vm (toldL (wFin nm.data.toList ss) (m.put nm.data.toList dt).m)) := Lib.hid hsm6
          have HN6 := Lib.hid (HN5.out.turn (Turn.of_below hb6 g b) HBo.out.1 HBo.out.2.1)
          have HF6 := Lib.hid (HF5.out.turn3 (Turn3.of_below hb6 g b mb) HR4.out.1 HR4.out.2.1 HR4.out.2.2)
          have HT6 := Lib.hid (HT5.out.trans (hb6.mono (hwb _ HT5.out.size)))
          have HB6 : Hid (g < w5.heap.size ∧ b < w5.heap.size ∧ mb < w5.heap.size) := HB5
          rcases HZ5.out with ⟨rfl, hlive⟩ | ⟨rfl, hdead⟩
          · have HL6 := Lib.hid (hlive.below hb6)
            clear hlive hsm6 hb6 HWI HN5 HT5 HZ5 d1 d2
            go_wp2_with fail
            refine (told_any S g mb (m.put nm.data.toList dt) w6 HL6.out.box.1 HL6.out.box.2 (HL6.out.small.ok (by omega))).mono ?_
            rintro e wp ⟨vl, rfl, ss3, hss3, hsl3, hbp⟩
            have hse3 := hss3.one HL6.out.keys (fun _ => rfl)
            rw [hse3] at hsl3
            have HLP := Lib.hid (HL6.out.below hbp)
            have HNP := Lib.hid (HM6.out.turn (Turn.of_below hbp g b) HB6.out.1 HB6.out.2.1)
            have HTP := Lib.hid (HT6.out.trans (hbp.mono (hwb _ HT6.out.size)))
            have hal := alike_any vl _ _ _ wp _ _ hsl3 HNP.out
            rw [decide_eq_true rfl] at hal
            have HAL := Lib.hid hal
            clear hal hsl3 hss3 hse3 hbp
            go_wp2_with fail
            refine HAL.out.mono ?_
            rintro e wq ⟨rfl, hbq⟩
            have HLQ := Lib.hid (HLP.out.below hbq)
            have HNQ := Lib.hid (HNP.out.turn (Turn.of_below hbq g b) HB6.out.1 HB6.out.2.1)
            have HTQ := Lib.hid (HTP.out.trans (hbq.mono (hwb _ HTP.out.size)))
            clear hbq HAL
            go_wp2_with fail
            go_roundg (xs.length - (kk + 1))
            case measure => omega
            case rel => exact ⟨kk + 1, S, mb, w5.heap.size, (m.put nm.data.toList dt), (wFin nm.data.toList ss), by omega, by omega, by omega, by go_num, rfl, hmb, HLQ, HNQ, HB6, HTQ⟩

          · have HD6 := Lib.hid (hdead.below hb6)
            have HK2 := Lib.hid (with_keys HK1.out.1 nm.data.toList dt (by rw [← Lib.size_eq]; exact hnz))
            have HZ2 : Hid ((wFin nm.data.toList ss).length ≤ kk + 1) := Lib.hid (by
              have := wFin_len HK1.out.1 nm.data.toList dt (by rw [← Lib.size_eq]; exact hnz)
              have := HK1.out.2
              omega)
            clear hdead hsm6 hb6 HWI HN5 HT5 HZ5 d1 d2
            obtain ⟨zs, hzl, hdw⟩ := (show DrawsIn w rp rn rc from HDM.out).at (g := g) (b := b) (w' := w6) (HB0.out.trans (HT6.out.mono (by rw [HBB.out.symm]; exact HB0.out.size))) (by have h1 := HB0.out.size; rw [← HBB.out] at hg0; exact Nat.le_trans h1 hg0) (by rw [← HBB.out]; exact HB0.out.size)
            have hz1 : zs.length ≤ 16384 := by have := HOK.out.2; omega
            have HCR := Lib.hid (crash_dead S g b mb (kk + 1) m.m (m.put nm.data.toList dt).m _ zs w6 HD6.out hdw hz1)
            have cc4 := HF6.out.c4
            simp only at cc4
            clear hdw hz1 hzl zs
            go_wp2_with fail
            refine HCR.out.mono ?_
            rintro e wp ⟨rfl, hbk, htp⟩
            have HTP := Lib.hid (HT6.out.trans (htp.below (hwb _ HT6.out.size) hg0 hbr))
            have HNP := Lib.hid (HN6.out.turn htp HBo.out.1 HBo.out.2.1)
            have HMP := Lib.hid (HM6.out.turn htp HB6.out.1 HB6.out.2.1)
            have HOPB := Lib.hid (open_back w0 g b (kk + 1) m.m (m.put nm.data.toList dt).m wp (by rw [HBB.out]; exact HTP.out) (by rw [HBB.out]; exact hg0) (by rw [HBB.out]; exact hbr) HL0.out (by omega) hbk)
            clear hbk htp HCR cc4
            go_wp2_with fail
            refine HOPB.out.mono ?_
            rintro e wq ⟨S2, mb2, m3, rfl, hmb3, hm3, hok3, hbox3, hmap3, hlive3, htq⟩
            have HTQ := Lib.hid (HTP.out.trans (htq.below (hwb _ HTP.out.size) hg0 hbr))
            have HNQ := Lib.hid (HNP.out.turn htq HBo.out.1 HBo.out.2.1)
            have HMQ := Lib.hid (HMP.out.turn htq HB6.out.1 HB6.out.2.1)
            have hmb2' : b ≤ mb2 := Nat.le_trans (hwb _ HTP.out.size) hmb3
            have HLV := Lib.hid hlive3
            have HM3 := Lib.hid hm3
            have HTO := Lib.hid (told_any S2 g mb2 m3 wq hbox3 hmap3 hok3)
            clear hlive3 htq hm3 HOPB hmb3 hbox3 hmap3 hok3
            go_wp2_with fail
            refine HTO.out.mono ?_
            rintro e wt ⟨vl, rfl, ss3, hss3, hsl3, hbt⟩
            have HTR := Lib.hid (HTQ.out.trans (hbt.mono (hwb _ HTQ.out.size)))
            have HNR := Lib.hid (HNQ.out.turn (Turn.of_below hbt g b) HBo.out.1 HBo.out.2.1)
            have HMR := Lib.hid (HMQ.out.turn (Turn.of_below hbt g b) HB6.out.1 HB6.out.2.1)
            have HSL3 := Lib.hid hsl3
            have HSS3 := Lib.hid hss3
            have HBT := Lib.hid hbt
            clear hss3 hsl3 hbt HTO
            rcases HM3.out with hm | hm
            · have hse := HSS3.out.one HK1.out.1 (fun y => by rw [hm])
              have hz : ss3.length ≤ (kk + 1) := by rw [hse]; exact Nat.le_trans HK1.out.2 (by omega)
              have hLq := HLV.out ss3 HSS3.out hz
              have HBR := Lib.hid hLq.lts
              have HLR := Lib.hid (hLq.below HBT.out)
              have hal := alike_any vl _ _ _ wt _ _ HSL3.out HNR.out
              rw [decide_eq_true (by rw [hse, hm])] at hal
              have HAL := Lib.hid hal
              clear hal hse hz hLq hm
              go_wp2_with fail
              refine HAL.out.mono ?_
              rintro e ws ⟨rfl, hbs⟩
              have HLS := Lib.hid (HLR.out.below hbs)
              have HSLS := Lib.hid (HSL3.out.turn (Turn.of_below hbs g b) HBR.out.1 HBR.out.2.1)
              have HTS := Lib.hid (HTR.out.trans (hbs.mono (hwb _ HTR.out.size)))
              clear hbs HAL
              go_wp2_with fail
              go_roundg (xs.length - (kk + 1))
              case measure => omega
              case rel => exact ⟨kk + 1, S2, mb2, wq.heap.size, m3, ss3, by omega, by omega, by omega, by go_num, rfl, hmb2', Lib.hid (HLS.out.mono (by omega)), HSLS, HBR, HTS⟩
            · have hse := HSS3.out.one HK2.out (fun y => by rw [hm])
              have hz : ss3.length ≤ kk + 1 := by rw [hse]; exact HZ2.out
              have hLq := HLV.out ss3 HSS3.out hz
              have HBR := Lib.hid hLq.lts
              have HLR := Lib.hid (hLq.below HBT.out)
              obtain ⟨bb, hbb⟩ : ∃ bb : Bool, decide (toldL ss3 m3.m = toldL ss m.m) = bb := ⟨_, rfl⟩
              have hal := alike_any vl _ _ _ wt _ _ HSL3.out HNR.out
              rw [hbb] at hal
              have HAL := Lib.hid hal
              have HEQ : Hid (toldL ss3 m3.m = toldL (wFin nm.data.toList ss) (m.put nm.data.toList dt).m) := Lib.hid (by rw [hse, hm])
              clear hal hse hz hLq hm hbb
              cases bb with
              | true =>
                go_wp2_with fail
                refine HAL.out.mono ?_
                rintro e ws ⟨rfl, hbs⟩
                have HLS := Lib.hid (HLR.out.below hbs)
                have HSLS := Lib.hid (HSL3.out.turn (Turn.of_below hbs g b) HBR.out.1 HBR.out.2.1)
                have HTS := Lib.hid (HTR.out.trans (hbs.mono (hwb _ HTR.out.size)))
                clear hbs HAL
                go_wp2_with fail
                go_roundg (xs.length - (kk + 1))
                case measure => omega
                case rel => exact ⟨kk + 1, S2, mb2, wq.heap.size, m3, ss3, by omega, by omega, by omega, by go_num, rfl, hmb2', Lib.hid (HLS.out.mono (by omega)), HSLS, HBR, HTS⟩
              | false =>
                go_wp2_with fail
                refine HAL.out.mono ?_
                rintro e ws ⟨rfl, hbs⟩
                have HLS := Lib.hid (HLR.out.below hbs)
                have HSLS := Lib.hid (HSL3.out.turn (Turn.of_below hbs g b) HBR.out.1 HBR.out.2.1)
                have HTS := Lib.hid (HTR.out.trans (hbs.mono (hwb _ HTR.out.size)))
                have HMS := Lib.hid (HMR.out.turn (Turn.of_below hbs g b) HB6.out.1 HB6.out.2.1)
                have hal := alike_any vl _ _ _ ws _ _ HSLS.out HMS.out
                rw [decide_eq_true HEQ.out] at hal
                have HAL2 := Lib.hid hal
                clear hbs HAL hal
                go_wp2_with fail
                refine HAL2.out.mono ?_
                rintro e wu ⟨rfl, hbu⟩
                have HLU := Lib.hid (HLS.out.below hbu)
                have HSLU := Lib.hid (HSLS.out.turn (Turn.of_below hbu g b) HBR.out.1 HBR.out.2.1)
                have HTU := Lib.hid (HTS.out.trans (hbu.mono (hwb _ HTS.out.size)))
                clear hbu HAL2
                go_wp2_with fail
                go_roundg (xs.length - (kk + 1))
                case measure => omega
                case rel => exact ⟨kk + 1, S2, mb2, wq.heap.size, m3, ss3, by omega, by omega, by omega, by go_num, rfl, hmb2', Lib.hid (HLU.out.mono (by omega)), HSLU, HBR, HTU⟩
        · have HC := Lib.hid (compact_live S g b mb kk m ss wa HS4.out (by omega) HL4.out)
          clear HL4 c0 c1 c2 c3 c4
          go_wp2_with fail
          refine HC.out.mono ?_
          rintro e w5 ⟨z, rfl, ht5, hz5⟩
          have HN5 := Lib.hid (HN4.out.turn ht5 HBo.out.1 HBo.out.2.1)
          have HF5 := Lib.hid (HF4.out.turn3 (Turn3.of_turn ht5 mb) HR4.out.1 HR4.out.2.1 HR4.out.2.2)
          have HT5 := Lib.hid (HT4.out.trans (ht5.below (hwb _ HT4.out.size) hg0 hbr))
          have HK1 := Lib.hid (show KeysOf m ss ∧ ss.length ≤ kk from ⟨HS4.out.keys, HS4.out.len⟩)
          rcases hz5 with ⟨rfl, hlive⟩ | ⟨rfl, hdead⟩
          · have HL5 := Lib.hid (hlive.mono (Nat.le_succ kk))
            clear hlive ht5 HC HS4 HN4 HF4 HT4
            go_wp2_with fail
            refine (told_any S g mb m w5 HL5.out.box.1 HL5.out.box.2 (HL5.out.small.ok (by omega))).mono ?_
            rintro e wp ⟨vl, rfl, ss3, hss3, hsl3, hbp⟩
            have hse3 := hss3.one HL5.out.keys (fun _ => rfl)
            rw [hse3] at hsl3
            have HLP := Lib.hid (HL5.out.below hbp)
            have HNP := Lib.hid (HN5.out.turn (Turn.of_below hbp g b) HBo.out.1 HBo.out.2.1)
            have HTP := Lib.hid (HT5.out.trans (hbp.mono (hwb _ HT5.out.size)))
            have hal := alike_any vl _ _ _ wp _ _ hsl3 HNP.out
            rw [decide_eq_true rfl] at hal
            have HAL := Lib.hid hal
            clear hal hsl3 hss3 hse3 hbp
            go_wp2_with fail
            refine HAL.out.mono ?_
            rintro e wq ⟨rfl, hbq⟩
            have HLQ := Lib.hid (HLP.out.below hbq)
            have HNQ := Lib.hid (HNP.out.turn (Turn.of_below hbq g b) HBo.out.1 HBo.out.2.1)
            have HTQ := Lib.hid (HTP.out.trans (hbq.mono (hwb _ HTP.out.size)))
            clear hbq HAL
            go_wp2_with fail
            go_roundg (xs.length - (kk + 1))
            case measure => omega
            case rel => exact ⟨kk + 1, S, mb, B, m, ss, by omega, by omega, by omega, by go_num, rfl, hmb, HLQ, HNQ, HBo, HTQ⟩

          · have HD5 := Lib.hid hdead
            clear hdead ht5 HC HS4 HN4 HF4 HT4
            obtain ⟨zs, hzl, hdw⟩ := (show DrawsIn w rp rn rc from HDM.out).at (g := g) (b := b) (w' := w5) (HB0.out.trans (HT5.out.mono (by rw [HBB.out.symm]; exact HB0.out.size))) (by have h1 := HB0.out.size; rw [← HBB.out] at hg0; exact Nat.le_trans h1 hg0) (by rw [← HBB.out]; exact HB0.out.size)
            have hz1 : zs.length ≤ 16384 := by have := HOK.out.2; omega
            have HCR := Lib.hid (crash_dead S g b mb kk m.m m.m _ zs w5 HD5.out hdw hz1)
            have cc4 := HF5.out.c4
            simp only at cc4
            clear hdw hz1 hzl zs
            go_wp2_with fail
            refine HCR.out.mono ?_
            rintro e wp ⟨rfl, hbk, htp⟩
            have HTP := Lib.hid (HT5.out.trans (htp.below (hwb _ HT5.out.size) hg0 hbr))
            have HNP := Lib.hid (HN5.out.turn htp HBo.out.1 HBo.out.2.1)
            have HMP := Lib.hid (HN5.out.turn htp HBo.out.1 HBo.out.2.1)
            have HOPB := Lib.hid (open_back w0 g b kk m.m m.m wp (by rw [HBB.out]; exact HTP.out) (by rw [HBB.out]; exact hg0) (by rw [HBB.out]; exact hbr) HL0.out (by omega) hbk)
            clear hbk htp HCR cc4
            go_wp2_with fail
            refine HOPB.out.mono ?_
            rintro e wq ⟨S2, mb2, m3, rfl, hmb3, hm3, hok3, hbox3, hmap3, hlive3, htq⟩
            have HTQ := Lib.hid (HTP.out.trans (htq.below (hwb _ HTP.out.size) hg0 hbr))
            have HNQ := Lib.hid (HNP.out.turn htq HBo.out.1 HBo.out.2.1)
            have HMQ := Lib.hid (HMP.out.turn htq HBo.out.1 HBo.out.2.1)
            have hmb2' : b ≤ mb2 := Nat.le_trans (hwb _ HTP.out.size) hmb3
            have HLV := Lib.hid hlive3
            have HM3 := Lib.hid hm3
            have HTO := Lib.hid (told_any S2 g mb2 m3 wq hbox3 hmap3 hok3)
            clear hlive3 htq hm3 HOPB hmb3 hbox3 hmap3 hok3
            go_wp2_with fail
            refine HTO.out.mono ?_
            rintro e wt ⟨vl, rfl, ss3, hss3, hsl3, hbt⟩
            have HTR := Lib.hid (HTQ.out.trans (hbt.mono (hwb _ HTQ.out.size)))
            have HNR := Lib.hid (HNQ.out.turn (Turn.of_below hbt g b) HBo.out.1 HBo.out.2.1)
            have HMR := Lib.hid (HMQ.out.turn (Turn.of_below hbt g b) HBo.out.1 HBo.out.2.1)
            have HSL3 := Lib.hid hsl3
            have HSS3 := Lib.hid hss3
            have HBT := Lib.hid hbt
            clear hss3 hsl3 hbt HTO
            rcases HM3.out with hm | hm
            · have hse := HSS3.out.one HK1.out.1 (fun y => by rw [hm])
              have hz : ss3.length ≤ kk := by rw [hse]; exact Nat.le_trans HK1.out.2 (by omega)
              have hLq := HLV.out ss3 HSS3.out hz
              have HBR := Lib.hid hLq.lts
              have HLR := Lib.hid (hLq.below HBT.out)
              have hal := alike_any vl _ _ _ wt _ _ HSL3.out HNR.out
              rw [decide_eq_true (by rw [hse, hm])] at hal
              have HAL := Lib.hid hal
              clear hal hse hz hLq hm
              go_wp2_with fail
              refine HAL.out.mono ?_
              rintro e ws ⟨rfl, hbs⟩
              have HLS := Lib.hid (HLR.out.below hbs)
              have HSLS := Lib.hid (HSL3.out.turn (Turn.of_below hbs g b) HBR.out.1 HBR.out.2.1)
              have HTS := Lib.hid (HTR.out.trans (hbs.mono (hwb _ HTR.out.size)))
              clear hbs HAL
              go_wp2_with fail
              go_roundg (xs.length - (kk + 1))
              case measure => omega
              case rel => exact ⟨kk + 1, S2, mb2, wq.heap.size, m3, ss3, by omega, by omega, by omega, by go_num, rfl, hmb2', Lib.hid (HLS.out.mono (by omega)), HSLS, HBR, HTS⟩
            · have hse := HSS3.out.one HK1.out.1 (fun y => by rw [hm])
              have hz : ss3.length ≤ kk := by rw [hse]; exact Nat.le_trans HK1.out.2 (by omega)
              have hLq := HLV.out ss3 HSS3.out hz
              have HBR := Lib.hid hLq.lts
              have HLR := Lib.hid (hLq.below HBT.out)
              have hal := alike_any vl _ _ _ wt _ _ HSL3.out HNR.out
              rw [decide_eq_true (by rw [hse, hm])] at hal
              have HAL := Lib.hid hal
              clear hal hse hz hLq hm
              go_wp2_with fail
              refine HAL.out.mono ?_
              rintro e ws ⟨rfl, hbs⟩
              have HLS := Lib.hid (HLR.out.below hbs)
              have HSLS := Lib.hid (HSL3.out.turn (Turn.of_below hbs g b) HBR.out.1 HBR.out.2.1)
              have HTS := Lib.hid (HTR.out.trans (hbs.mono (hwb _ HTR.out.size)))
              clear hbs HAL
              go_wp2_with fail
              go_roundg (xs.length - (kk + 1))
              case measure => omega
              case rel => exact ⟨kk + 1, S2, mb2, wq.heap.size, m3, ss3, by omega, by omega, by omega, by go_num, rfl, hmb2', Lib.hid (HLS.out.mono (by omega)), HSLS, HBR, HTS⟩
        · obtain ⟨q8, hq8⟩ : ∃ q8, q8 = nn % 8 := ⟨_, rfl⟩
          have h80 : 0 ≤ q8 ∧ q8 ≤ 1000 := by omega
          have HAM8 := among_lit 8 (Or.inr rfl) nn wa
          rw [← hq8] at HAM8
          have HAMM := Lib.hid HAM8
          have HFU := Lib.hid (fuse_live S g b mb kk m ss q8 wa HS4.out h80.1 h80.2)
          clear HAM8 hq8 c0 c1 c2 c4
          go_wp2_with fail
          refine HAMM.out.mono ?_
          rintro e w' ⟨rfl, rfl⟩
          go_wp2_with fail
          refine HFU.out.mono ?_
          rintro e w5 ⟨rfl, hlive, ht5⟩
          have HL5 := Lib.hid (hlive.mono (Nat.le_succ kk))
          have HN5 := Lib.hid (HN4.out.turn ht5 HBo.out.1 HBo.out.2.1)
          have HT5 := Lib.hid (HT4.out.trans (ht5.below (hwb _ HT4.out.size) hg0 hbr))
          clear hlive ht5 HFU HAMM HS4 HN4 HF4 HT4
          go_wp2_with fail
          go_roundg (xs.length - (kk + 1))
          case measure => omega
          case rel => exact ⟨kk + 1, S, mb, B, m, ss, by omega, by omega, by omega, by go_num, rfl, hmb, HL5, HN5, HBo, HT5⟩
      · have hcase : nm.size < 1 ∨ (1 ≤ nm.size ∧ 64 < nm.size) ∨ (1 ≤ nm.size ∧ nm.size ≤ 64 ∧ 1000 < dt.size) ∨ (1 ≤ nm.size ∧ nm.size ≤ 64 ∧ dt.size ≤ 1000 ∧ 1000 < rn) := by omega
        clear hok
        rcases hcase with h | ⟨h1, h2⟩ | ⟨h1, h2, h3⟩ | ⟨h1, h2, h3, h4⟩
        · have g1 : (nm.size : Int) < 1 := by omega
          clear c0 c3
          go_wp2_with fail
          go_roundg (xs.length - (kk + 1))
          case measure => omega
          case rel => exact ⟨kk + 1, S, mb, B, m, ss, by omega, by omega, by omega, by go_num, rfl, hmb, Lib.hid (HS4.out.mono (Nat.le_succ _)), HN4, HBo, HT4⟩
        · have g1 : ¬ (nm.size : Int) < 1 := by omega
          have g2 : (64 : Int) < (nm.size : Int) := by omega
          clear c0 c3
          go_wp2_with fail
          go_roundg (xs.length - (kk + 1))
          case measure => omega
          case rel => exact ⟨kk + 1, S, mb, B, m, ss, by omega, by omega, by omega, by go_num, rfl, hmb, Lib.hid (HS4.out.mono (Nat.le_succ _)), HN4, HBo, HT4⟩
        · have g1 : ¬ (nm.size : Int) < 1 := by omega
          have g2 : ¬ (64 : Int) < (nm.size : Int) := by omega
          have g3 : (1000 : Int) < (dt.size : Int) := by omega
          clear c0 c3
          go_wp2_with fail
          go_roundg (xs.length - (kk + 1))
          case measure => omega
          case rel => exact ⟨kk + 1, S, mb, B, m, ss, by omega, by omega, by omega, by go_num, rfl, hmb, Lib.hid (HS4.out.mono (Nat.le_succ _)), HN4, HBo, HT4⟩
        · have g1 : ¬ (nm.size : Int) < 1 := by omega
          have g2 : ¬ (64 : Int) < (nm.size : Int) := by omega
          have g3 : ¬ (1000 : Int) < (dt.size : Int) := by omega
          have g4 : (1000 : Int) < (rn : Int) := by omega
          clear c0 c3
          go_wp2_with fail
          go_roundg (xs.length - (kk + 1))
          case measure => omega
          case rel => exact ⟨kk + 1, S, mb, B, m, ss, by omega, by omega, by omega, by go_num, rfl, hmb, Lib.hid (HS4.out.mono (Nat.le_succ _)), HN4, HBo, HT4⟩
    · have hcase : (¬ (kk : Int) < (xs.length : Int)) ∨ ((kk : Int) < (xs.length : Int) ∧ ¬ (kk : Int) < 60) := by omega
      have hTL := Lib.hid (told_any S g mb m wr HS.out.box.1 HS.out.box.2 (HS.out.small.ok (by omega)))
      clear hlt
      rcases hcase with h1 | ⟨h1, h2⟩
      all_goals (
        go_wp2_with fail
        refine hTL.out.mono ?_
        rintro e wp ⟨vl, rfl, ss3, hss3, hsl3, hbp⟩
        have hse3 := hss3.one HS.out.keys (fun _ => rfl)
        rw [hse3] at hsl3
        have HNP := Lib.hid (HN.out.turn (Turn.of_below hbp g b) HBo.out.1 HBo.out.2.1)
        have HTP := Lib.hid (HT.out.trans (hbp.mono (hwb _ HT.out.size)))
        have hal := alike_any vl _ _ _ wp _ _ hsl3 HNP.out
        rw [decide_eq_true rfl] at hal
        have HAL := Lib.hid hal
        clear hal hsl3 hss3 hse3 hbp
        go_wp2_with fail
        refine HAL.out.mono ?_
        rintro e wq ⟨rfl, hbq⟩
        have HTQ := Lib.hid (HTP.out.trans (hbq.mono (hwb _ HTP.out.size)))
        clear hbq HAL
        go_wp2_with fail
        go_ret
        exact ⟨rfl, HB0.out.trans (HTQ.out.mono (by rw [← HBB.out]; exact HB0.out.size))⟩)

end Go.Proofs.YtmlmjchifelpkaaDoor
