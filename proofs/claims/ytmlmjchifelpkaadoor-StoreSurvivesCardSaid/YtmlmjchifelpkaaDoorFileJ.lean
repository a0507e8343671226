/- What Crash computes. -/
import Derived.Test.YtmlmjchifelpkaaDoorFileI
import Derived.Deep.CutRange
import Derived.Deep.QuietTactic
import Derived.BigQuiet
namespace Go.Proofs.YtmlmjchifelpkaaDoor
open Go.RowKit Go.Lib Go.Maps Go.Sort
set_option linter.unusedVariables false
set_option maxRecDepth 100000

/-- The slice v reads as the numbers zs, beside the disk's own blocks. -/
def DrawsAt (g b : Nat) (w : World) (v : Value) (zs : List Int) : Prop :=
  ∃ p cap, v = .slice p zs.length cap ∧ zs.length ≤ cap ∧ cap ≤ maxLen ∧ (zs ≠ [] → ∃ db off, p = some ⟨db, off, none⟩ ∧ db ≠ g ∧ db ≠ b ∧ db < w.heap.size ∧ ∀ j, j < zs.length → w.cell? ⟨db, off + j, none⟩ = some (.int .i64 (zs.getD j 0)))

theorem DrawsAt.turn {g b : Nat} {w w' : World} {v : Value} {zs : List Int} (h : DrawsAt g b w v zs) (ht : Turn g b w w') : DrawsAt g b w' v zs := by
  obtain ⟨p, cap, h1, h2, h3, h4⟩ := h
  refine ⟨p, cap, h1, h2, h3, fun hz => ?_⟩
  obtain ⟨db, off, k1, k2, k3, k4, k5⟩ := h4 hz
  exact ⟨db, off, k1, k2, k3, Nat.lt_of_lt_of_le k4 ht.size, fun j hj => (ht.cell k4 k2 k3).trans (k5 j hj)⟩

theorem wpList_look1 {w : World} {ops : Array Oper} {rest : List Oper} {o : Oper} {a : Act} {Q : Exit → Act → World → Prop} {b : Nat} {d : DiskP} (hg : o.guard = none) (m x : Operand) (hop : o.op = Op.lookup 46 m x false)
    (hm : a.eval m = .map (some b)) (hF : IsFiles w b d) (s : ByteArray) (hs : s.size ≤ maxLen) (hx : a.eval x = .string s) (f : FileP) (hf : (d.fs s.data.toList).getD FileP.nil = f)
    (hK : wpList Tryd.prog ops Q rest (a.put o.dst (.agg #[.string f.has, .string f.safe, .bool f.kept])) w) :
    wpList Tryd.prog ops Q (o :: rest) a w := by
  refine wpList_plain hg fun K' hK' => ?_
  have hF' := hF
  obtain ⟨D, hown, _, hh, ha⟩ := hF
  have hkey := Go.WideMaps.keyOf_string_mk (P := Tryd.prog) (k := 9) Tryd.underlying9 hs
  obtain ⟨v, ps, hrun, hv⟩ := hown.lookup law9 Tryd.underlying46 (zeroF w) (fR_fV FileP.nil) hkey
  obtain ⟨f', rfl, hf'⟩ := fR_inv hv
  have e1 : f' = f := by
    subst hf
    cases hq : d.fs s.data.toList with
    | none =>
      have h1 := hh s.data.toList
      rw [hq] at h1
      rw [atKey_of_not_has h1] at hf'
      exact (fD_inj (congrArg Prod.fst hf')).symm
    | some f2 =>
      rw [ha _ _ hq] at hf'
      exact (fD_inj (congrArg Prod.fst hf')).symm
  subst e1
  unfold Oper.wp
  simp [execOp, hop, hm, hx, hrun, Result.andThen]
  exact hK' _ _ hK

theorem crash_long (g b : Nat) (d : DiskP) (v : Value) (zs : List Int) (w : World) (h : IsDisk w g b d) (hz : DrawsAt g b w v zs) (hl : 16384 < zs.length) :
    Calls Tryd.prog 19 #[.pointer (some ⟨g, 0, none⟩), v] w fun e w' => e = .returned (.int .i64 2) ∧ IsDisk w' g b d ∧ Turn g b w w' := by
  have H := Lib.hid h
  obtain ⟨p, cap, rfl, -, -, -⟩ := hz
  have hlz : (16384 : Int) < (zs.length : Int) := by omega
  clear h
  generalize zs.length = n at *
  go_enter Tryd.func19, Tryd.ntmps19
  go_wp2
  go_ret
  exact ⟨rfl, H.out, Turn.refl _ _ _⟩

/-- The disk behind a crash, ahead of the tearing. -/
def DiskP.up (d : DiskP) : DiskP := { d with fused := false, down := false, left := 0 }

theorem crashOn_step {ss : List (List UInt8)} {kk : Nat} {zs : List Int} {d : DiskP} {f : FileP} (h : kk < ss.length) (hf : (d.fs (ss.getD kk [])).getD FileP.nil = f) :
    crashOn (ss.drop kk) zs d = if f.calm then crashOn (ss.drop (kk + 1)) zs d else crashOn (ss.drop (kk + 1)) (zs.drop 1) (d.set (ss.getD kk []) (tear f (zs.headD 0))) := by
  have e : ss.getD kk [] = ss[kk] := by simp [List.getD, List.getElem?_eq_getElem h]
  rw [List.drop_eq_getElem_cons h, crashOn, ← e, hf]

/-- Where a round of Crash stands: the disk, the names, the file at hand (in block F). -/
structure Mid (g b r F : Nat) (w wx : World) (ss : List (List UInt8)) (dj : DiskP) (x y : ByteArray) (z : Bool) : Prop where
  disk : IsDisk wx g b dj
  turn : Turn g b w wx
  names : ∀ j, j < ss.length → wx.cell? ⟨r, j, none⟩ = some (encStr (ss.getD j []))
  k0 : wx.cell? ⟨F, 0, none⟩ = some (.string x)
  k1 : wx.cell? ⟨F, 1, none⟩ = some (.string y)
  k2 : wx.cell? ⟨F, 2, none⟩ = some (.bool z)
  k3 : wx.frozen? ⟨F, 0, none⟩ = false
  hF : F < wx.heap.size
  hr : r < F
  hg : g < F
  hb : b < F
  hw : w.heap.size ≤ F

theorem Mid.drew {g b r F : Nat} {w wx : World} {ss : List (List UInt8)} {dj : DiskP} {x y : ByteArray} {z : Bool} (h : Mid g b r F w wx ss dj x y z) : Mid g b r F w wx.drew ss dj x y z :=
  ⟨h.disk.drew, h.turn.drew, h.names, h.k0, h.k1, h.k2, h.k3, h.hF, h.hr, h.hg, h.hb, h.hw⟩

theorem Mid.set {g b r F : Nat} {w wx : World} {ss : List (List UInt8)} {dj : DiskP} {x y : ByteArray} {z : Bool} (h : Mid g b r F w wx ss dj x y z) (t : ByteArray) : Mid g b r F w (wx.setCell ⟨F, 0, none⟩ (.string t)) ss dj t y z := by
  have e1 := h.hr
  have e2 := h.hg
  have e3 := h.hb
  refine ⟨h.disk.setCell _ _ (by simp; omega) (by simp; omega), h.turn.setNew h.hw _, fun j hj => ?_, World.cell?_setCell_same _ _ _ h.k0, ?_, ?_, ?_, ?_, h.hr, h.hg, h.hb, h.hw⟩
  · rw [World.cell?_setCell_other _ _ _ _ (fun e => by cases e; omega)]; exact h.names j hj
  · rw [World.cell?_setCell_other _ _ _ _ (by simp)]; exact h.k1
  · rw [World.cell?_setCell_other _ _ _ _ (by simp)]; exact h.k2
  · rw [← h.k3]; simp [go_sem]
  · have := h.hF; simpa [World.setCell] using this

theorem Mid.drewN {g b r F : Nat} {w wx : World} {ss : List (List UInt8)} {dj : DiskP} {x y : ByteArray} {z : Bool} (h : Mid g b r F w wx ss dj x y z) (n : Nat) : Mid g b r F w (wx.drewN n) ss dj x y z :=
  ⟨h.disk.kept rfl rfl, ⟨h.turn.os, h.turn.tape, h.turn.output, h.turn.size, h.turn.block⟩, h.names, h.k0, h.k1, h.k2, h.k3, h.hF, h.hr, h.hg, h.hb, h.hw⟩

theorem names_put {ss : List (List UInt8)} {kk : Nat} {dj : DiskP} {f : FileP} (hs : ∀ k ∈ ss.drop kk, (dj.fs k).isSome = true) : ∀ k ∈ ss.drop (kk + 1), ((dj.put (ss.getD kk []) f).fs k).isSome = true := by
  intro k hk
  show (putF dj.fs _ f k).isSome = true
  unfold putF
  split
  · rfl
  · refine hs k ?_
    rw [← List.drop_drop] at hk
    exact List.mem_of_mem_drop hk

theorem names_del {ss : List (List UInt8)} {kk : Nat} {dj : DiskP} (hk : kk < ss.length) (hn : ss.Nodup) (hs : ∀ k ∈ ss.drop kk, (dj.fs k).isSome = true) : ∀ k ∈ ss.drop (kk + 1), ((dj.del (ss.getD kk [])).fs k).isSome = true := by
  intro k hk2
  have e : ss.getD kk [] = ss[kk] := by simp [List.getD, List.getElem?_eq_getElem hk]
  have hnd : (ss.drop kk).Nodup := hn.sublist (List.drop_sublist _ _)
  rw [List.drop_eq_getElem_cons hk] at hnd
  have hne : k ≠ ss[kk] := fun h => (List.nodup_cons.1 hnd).1 (h ▸ hk2)
  show (delF dj.fs _ k).isSome = true
  unfold delF
  rw [e, if_neg hne]
  refine hs k ?_
  rw [List.drop_eq_getElem_cons hk]
  exact List.mem_cons_of_mem _ hk2

theorem names_next {ss : List (List UInt8)} {kk : Nat} {dj : DiskP} (hk : kk < ss.length) (hs : ∀ k ∈ ss.drop kk, (dj.fs k).isSome = true) : (dj.fs (ss.getD kk [])).isSome = true ∧ ∀ k ∈ ss.drop (kk + 1), (dj.fs k).isSome = true := by
  have e : ss.getD kk [] = ss[kk] := by simp [List.getD, List.getElem?_eq_getElem hk]
  rw [List.drop_eq_getElem_cons hk] at hs
  exact ⟨by rw [e]; exact hs _ (List.mem_cons_self ..), fun k h => hs k (List.mem_cons_of_mem _ h)⟩

theorem draws_next {g b : Nat} {w : World} {db off cap z0 : Nat} {n0 : Int} {zr : List Int} (hc : (n0 :: zr).length ≤ cap) (hm : cap ≤ maxLen) (h1 : db ≠ g) (h2 : db ≠ b) (h3 : db < w.heap.size)
    (h4 : ∀ j, j < (n0 :: zr).length → w.cell? ⟨db, off + j, none⟩ = some (.int .i64 ((n0 :: zr).getD j 0))) :
    DrawsAt g b w (.slice (if cap = 1 then some ⟨db, off, none⟩ else some ⟨db, off + 1, none⟩) zr.length (cap - 1)) zr := by
  simp only [List.length_cons] at hc h4
  refine ⟨_, _, rfl, by omega, by omega, fun hz => ?_⟩
  have hl : 0 < zr.length := List.length_pos_iff.2 hz
  rw [if_neg (by omega)]
  refine ⟨db, off + 1, rfl, h1, h2, h3, fun j hj => ?_⟩
  have := h4 (j + 1) (by omega)
  rw [show off + 1 + j = off + (j + 1) by omega, this]
  rfl

theorem rem_fact (draw : Int) (m : Nat) (h : 0 ≤ draw) (hm : 0 < m) : ∃ q : Nat, (draw % (m : Int)).toNat = q ∧ q < m ∧ draw.tmod (m : Int) = (q : Int) := by
  have h1 := Int.emod_nonneg draw (b := (m : Int)) (by omega)
  have h2 := Int.emod_lt_of_pos draw (b := (m : Int)) (by omega)
  refine ⟨_, rfl, by omega, ?_⟩
  rw [Int.tmod_eq_emod_of_nonneg h]
  omega

theorem prefix_size {x y : ByteArray} (h : Lib.hasPrefix x.data.toList y.data.toList = true) : y.size ≤ x.size := by
  rw [Lib.size_eq, Lib.size_eq]
  unfold Lib.hasPrefix at h
  exact (List.isPrefixOf_iff_prefix.1 h).length_le

theorem extract_le (x : ByteArray) (n : Nat) : (x.extract 0 n).size ≤ x.size := by simp [ByteArray.size_extract]; omega

theorem tear_a {x y : ByteArray} {draw : Int} (h0 : 0 ≤ draw) (hp : Lib.hasPrefix x.data.toList y.data.toList = true) {m q tt : Nat} (hm : m = x.size - y.size + 1) (hq : (draw % (m : Int)).toNat = q) (ht : tt = y.size + q) :
    tear ⟨x, y, true⟩ draw = some ⟨x.extract 0 tt, x.extract 0 tt, true⟩ := by
  subst hm hq ht
  unfold tear
  rw [if_pos h0, hp]
  rfl
theorem tear_b {x y : ByteArray} {z : Bool} {draw : Int} (h0 : 0 ≤ draw) (hp : (z && Lib.hasPrefix x.data.toList y.data.toList) = false) {m q : Nat} (hm : m = x.size + 1) (hq : (draw % (m : Int)).toNat = q) :
    tear ⟨x, y, z⟩ draw = some ⟨x.extract 0 q, x.extract 0 q, true⟩ := by
  subst hm hq
  unfold tear
  rw [if_pos h0, hp]
  rfl
theorem tear_c {x y : ByteArray} {draw : Int} (h0 : ¬ 0 ≤ draw) : tear ⟨x, y, true⟩ draw = some ⟨y, y, true⟩ := by unfold tear; rw [if_neg h0]; rfl
theorem tear_d {x y : ByteArray} {draw : Int} (h0 : ¬ 0 ≤ draw) : tear ⟨x, y, false⟩ draw = none := by unfold tear; rw [if_neg h0]; rfl

set_option maxRecDepth 100000 in
set_option maxHeartbeats 4000000 in
theorem crash_any (g b : Nat) (d : DiskP) (v : Value) (zs0 : List Int) (w : World) (h : IsDisk w g b d) (hz : DrawsAt g b w v zs0) (hl : zs0.length ≤ 16384) :
    Calls Tryd.prog 19 #[.pointer (some ⟨g, 0, none⟩), v] w fun e w' =>
      ∃ ss, NamesOf d ss ∧ e = .returned (.int .i64 0) ∧ IsDisk w' g b (crashOn ss zs0 d.up) ∧ Turn g b w w' := by
  have c1 := h.cell1
  have c2 := h.cell2
  have c3 := h.cell3
  have f1 := h.thaw 1
  have f2 := h.thaw 2
  have f3 := h.thaw 3
  have hgl := h.lt
  have hbl := h.ltb
  have hne := h.ne
  have hup := (((h.set1 false).set2 false).set3 0 (by omega) (by omega))
  have hT0 := ((Turn.set g b w 1 (.bool false)).trans (Turn.set g b _ 2 (.bool false))).trans (Turn.set g b _ 3 (.int .i64 0))
  have HU := Lib.hid hup
  have HT := Lib.hid hT0
  have HZ := Lib.hid hz
  obtain ⟨p, cap, rfl, -, -, -⟩ := hz
  have hlz : ¬ (16384 : Int) < (zs0.length : Int) := by omega
  clear h hup hT0 hl
  go_enter Tryd.func19, Tryd.ntmps19
  go_wp2_with fail
  refine (names_any g b d.up _ HU.out).mono ?_
  rintro e w1 ⟨r, capr, ss, rfl, hN, hrow, hB⟩
  clear c1 c2 c3 f1 f2 f3
  have HB := Lib.hid hB
  have HN := Lib.hid hN
  have hsl : ss.length ≤ 64 := by rw [hN.len]; exact HU.out.ok.n_le
  have hrr := hrow.lt r rfl
  have hcells : Hid (∀ j, j < ss.length → w1.cell? ⟨r, j, none⟩ = some (encStr (ss.getD j []))) := fun j hj => by
    rw [hrow.cellAt j (by simpa using hj)]
    simp [List.getD, List.getElem?_eq_getElem hj]
  have hD1 : Hid (IsDisk w1 g b d.up) := HU.out.below hB (by simpa using hgl) (by simpa using hbl)
  have hT1 : Hid (Turn g b w w1) := HT.out.trans (Turn.of_below hB g b)
  have hZ1 : Hid (DrawsAt g b w (.slice p zs0.length cap) zs0) := HZ.out
  have hrl : w.heap.size ≤ r ∧ r < w1.heap.size := by simpa using hrr
  clear hB hN hrow hrr
  go_wp2_with fail
  go_loopg [1, 24] ss.length (fun gg s1 s24 wr => ∃ (kk : Nat) (zs : List Int) (dj : DiskP), kk ≤ ss.length ∧ ss.length - kk ≤ gg ∧ s24 = .int .i64 kk ∧ Hid (DrawsAt g b w s1 zs) ∧ Hid (IsDisk wr g b dj) ∧ Hid (Turn g b w wr) ∧
    Hid (crashOn (ss.drop kk) zs dj = crashOn ss zs0 d.up) ∧ Hid (∀ k ∈ ss.drop kk, (dj.fs k).isSome = true) ∧ Hid (∀ j, j < ss.length → wr.cell? ⟨r, j, none⟩ = some (encStr (ss.getD j []))) ∧ Hid (r < wr.heap.size))
  case atStart =>
    exact ⟨0, zs0, d.up, Nat.zero_le _, by omega, rfl, hZ1, hD1, hT1, (show Hid _ from by show _ = _; rw [List.drop_zero]), (show Hid _ from fun k hk => (HN.out.mem k).1 (by simpa using hk)), hcells, hrl.2⟩
  case round =>
    obtain ⟨kk, zs, dj, hkk, hgg, rfl, HZS, HDJ, HTW, HCR, HSM, HNC, HRL⟩ := hrel
    clear hcells hD1 hT1 hZ1 HB HU HT HZ
    by_cases hlt : kk < ss.length
    · have hltz : (kk : Int) < (ss.length : Int) := by omega
      have hk0 := HNC.out kk hlt
      obtain ⟨s, hs⟩ : ∃ s : ByteArray, s = ⟨(ss.getD kk []).toArray⟩ := ⟨_, rfl⟩
      have hsl2 : Hid (s.data.toList = ss.getD kk []) := by show _ = _; rw [hs]
      have hsm : Hid (s.size ≤ maxLen) := by
        show _ ≤ _
        rw [Lib.size_eq, hsl2.out]
        refine HN.out.small _ ?_
        have e : ss.getD kk [] = ss[kk] := by simp [List.getD, List.getElem?_eq_getElem hlt]
        rw [e]
        exact List.getElem_mem hlt
      have hk1 : wr.cell? ⟨r, kk, none⟩ = some (.string s) := by rw [hk0, hs]
      have c0 := HDJ.out.cell0
      have hgl2 := HDJ.out.lt
      have hbl2 := HDJ.out.ltb
      have hrl2 := HRL.out
      obtain ⟨p1, cap1, rfl, hp1, hp2, hp3⟩ := HZS.out
      have HP3 := Lib.hid hp3
      clear hk0 hs hp3
      rcases hf : (dj.fs s.data.toList).getD FileP.nil with ⟨x, y, z⟩
      have hf2 : Hid ((dj.fs (ss.getD kk [])).getD FileP.nil = ⟨x, y, z⟩) := by show _ = _; rw [← hsl2.out]; exact hf
      have HF := Lib.hid hf
      clear hf
      cases z with
      | true =>
        by_cases hxy : x = y
        · have hxyb : (x.toList == y.toList) = true := by rw [hxy]; simp
          have HXY := Lib.hid hxy
          clear hxy
          go_wp2_with (at_lookup; refine wpList_look1 rfl _ _ rfl rfl HDJ.out.files s hsm.out rfl _ HF.out ?_)
          go_roundg (ss.length - (kk + 1))
          case measure => omega
          case rel =>
            have hT := (Turn.refl g b wr).alloc (.cells #[.string x, .string y, .bool true] 59)
            refine ⟨kk + 1, zs, dj, by omega, by omega, by go_num, HZS.out, HDJ.out.alloc _, HTW.out.alloc _, ?_, (names_next hlt HSM.out).2, ?_, ?_⟩
            · show _ = _
              rw [← HCR.out, crashOn_step hlt hf2.out, HXY.out]
              simp [FileP.calm]
            · intro j hj
              rw [hT.cell hrl2 (by omega) (by omega)]
              exact HNC.out j hj
            · show _ < _
              simp; omega
        · have hxyb : (x.toList == y.toList) = false := by simpa [← Lib.toList_data, ByteArray.ext_iff, ← Array.toList_inj] using hxy
          have HXY := Lib.hid hxy
          clear hxy
          go_upto_if 45 with (at_lookup; refine wpList_look1 rfl _ _ rfl rfl HDJ.out.files s hsm.out rfl _ HF.out ?_)
          go_cut [1, 8, 24] from 24 to 117 (fun s1 s8 s24 wx => ∃ draw : Int, s8 = .int .i64 draw ∧ s24 = .int .i64 kk ∧ Hid (draw = zs.headD 0) ∧ Hid (DrawsAt g b w s1 (zs.drop 1)) ∧ Hid (Mid g b r wr.heap.size w wx ss dj x y true))
          case first =>
            have hT := (Turn.refl g b wr).alloc (.cells #[.string x, .string y, .bool true] 59)
            have hmid : Hid (Mid g b r wr.heap.size w (wr.alloc (.cells #[.string x, .string y, .bool true] 59)) ss dj x y true) := by
              refine ⟨HDJ.out.alloc _, HTW.out.alloc _, fun j hj => ?_, by simp, by simp, by simp, frozen_new _ _ _ _, by simp, hrl2, hgl2, hbl2, HTW.out.size⟩
              rw [hT.cell hrl2 (by omega) (by omega)]
              exact HNC.out j hj
            clear hT
            rcases hzs : zs with _ | ⟨z0, zr⟩
            · subst hzs
              go_wp2_with fail
              go_meet
              exact ⟨0, rfl, rfl, rfl, HZS.out, hmid⟩
            · subst hzs
              obtain ⟨db, off, rfl, hd1, hd2, hd3, hd4⟩ := HP3.out (by simp)
              have hz0 := hd4 0 (by simp)
              simp only [Nat.add_zero, List.getD_cons_zero] at hz0
              have hcz : (wr.alloc (.cells #[.string x, .string y, .bool true] 59)).cell? ⟨db, off, none⟩ = some (.int .i64 z0) := ((HTW.out.alloc _).cell hd3 hd1 hd2).trans hz0
              have hDN := draws_next (z0 := 0) hp1 hp2 hd1 hd2 hd3 hd4
              have hlz : (0 : Int) < (zr.length : Int) + 1 := by omega
              have hl1 : (1 : Int) ≤ (zr.length : Int) + 1 := by omega
              have hl2 : (0 : Int) < ((z0 :: zr).length : Int) := by simp
              clear hd4 hz0
              by_cases hc1 : cap1 = 1
              · rw [if_pos hc1] at hDN
                have HDN := Lib.hid hDN
                clear hDN
                go_wp2_with fail
                go_quiet (fail)
                go_wp2
                go_meet
                exact ⟨z0, rfl, rfl, rfl, by subst hc1; exact HDN.out, hmid.out.drewN _⟩
              · rw [if_neg hc1] at hDN
                have HDN := Lib.hid hDN
                clear hDN
                go_wp2_with fail
                go_quiet (fail)
                go_wp2
                go_meet
                exact ⟨z0, rfl, rfl, rfl, HDN.out, hmid.out.drewN _⟩
          case rest =>
            obtain ⟨draw, rfl, rfl, HDR, HDZ, HM⟩ := hcut
            have m0 := HM.out.k0
            have m1 := HM.out.k1
            have m2 := HM.out.k2
            have m3 := HM.out.k3
            have mD := HM.out.disk.cell0
            have hxs : Hid (x.size ≤ 262144 ∧ y.size ≤ 262144) := by
              have h1 := (names_next hlt HSM.out).1
              rcases hq : dj.fs (ss.getD kk []) with _ | f
              · rw [hq] at h1; cases h1
              · have h2 := hf2.out
                rw [hq] at h2
                cases h2
                exact HDJ.out.ok.sizes _ _ hq
            clear hk1 c0
            by_cases hd0 : 0 ≤ draw
            · cases hpre : Lib.hasPrefix x.data.toList y.data.toList with
              | true =>
                have hys := prefix_size hpre
                obtain ⟨m, hm⟩ : ∃ m : Nat, m = x.size - y.size + 1 := ⟨_, rfl⟩
                obtain ⟨q, hq1, hq2, hq3⟩ := rem_fact draw m hd0 (by omega)
                obtain ⟨tt, htt⟩ : ∃ tt : Nat, tt = y.size + q := ⟨_, rfl⟩
                have hx1 := hxs.out.1
                have hy1 := hxs.out.2
                have a1 : IntKind.i64.wrap ((x.size : Int) - (y.size : Int)) = (x.size : Int) - (y.size : Int) := IntWalk.i64_in _ (by omega)
                have a2 : IntKind.i64.wrap ((x.size : Int) - (y.size : Int) + 1) = (m : Int) := by rw [IntWalk.i64_in _ (by omega)]; omega
                have a4 : IntKind.i64.wrap ((y.size : Int) + (q : Int)) = (tt : Int) := by rw [IntWalk.i64_in _ (by omega)]; omega
                have a5 : (tt : Int) ≤ (x.size : Int) := by omega
                have a6 : ¬ (m : Int) = 0 := by omega
                have a8 : ¬ m = 0 := by omega
                have a7 : tt ≤ x.size := by omega
                have HQ1 := Lib.hid hq1
                have HM1 := Lib.hid hm
                have HTT := Lib.hid htt
                have HPRE := Lib.hid hpre
                clear hq1 hm htt hpre hys hx1 hy1 hq2
                go_wp2_with (go_at_call 34; refine (Tryd.strings_HasPrefix x y _).mono ?_; rintro e w' ⟨rfl, hw⟩; rw [hw, HPRE.out])
                go_still_tail 18, (by kernel_rfl)
                change wpList _ _ _ _ _ wc.drew
                go_wp2_with fail
                have hM2 := (HM.out.set (x.extract 0 tt)).drew
                have n0 := hM2.k0
                have n1 := hM2.disk.cell0
                have HM2 := Lib.hid hM2
                clear hM2 m0 m1 m2 m3 mD
                generalize (wc.setCell ⟨wr.heap.size, 0, none⟩ (.string (x.extract 0 tt))).drew = W at *
                go_still_tail 10, (by kernel_rfl)
                change wpList _ _ _ _ _ W.drew
                go_wp2_with (at_mapUpdate; refine wpList_put rfl _ _ _ rfl rfl HM2.out.disk.drew.files HM2.out.disk.ok.n_le s hsm.out rfl ⟨x.extract 0 tt, x.extract 0 tt, true⟩ rfl ?_; intro w4 hF4 hg4 hs4)
                go_roundg (ss.length - (kk + 1))
                case measure => omega
                case rel =>
                  have hsome := (names_next hlt HSM.out).1
                  rw [hsl2.out] at hF4
                  refine ⟨kk + 1, zs.drop 1, dj.put (ss.getD kk []) ⟨x.extract 0 tt, x.extract 0 tt, true⟩, by omega, by omega, by go_num, HDZ, HM2.out.disk.drew.put hg4 hF4 (Or.inl hsome) (Nat.le_trans (extract_le x tt) hxs.out.1) (Nat.le_trans (extract_le x tt) hxs.out.1), HM2.out.turn.drew.grown hg4, ?_, names_put HSM.out, ?_, ?_⟩
                  · show _ = _
                    rw [← HCR.out, crashOn_step hlt hf2.out, show (FileP.calm ⟨x, y, true⟩) = false from by simp [FileP.calm, HXY.out], ← HDR.out, tear_a hd0 HPRE.out HM1.out HQ1.out HTT.out]
                    rfl
                  · intro j hj
                    exact hg4.cell (HM2.out.drew.names j hj) (by simp; omega)
                  · show _ < _
                    have h1 := HM2.out.hr
                    have h2 := HM2.out.hF
                    have h3 : W.drew.heap.size = W.heap.size := rfl
                    omega
              | false =>
                obtain ⟨m, hm⟩ : ∃ m : Nat, m = x.size + 1 := ⟨_, rfl⟩
                obtain ⟨q, hq1, hq2, hq3⟩ := rem_fact draw m hd0 (by omega)
                have hx1 := hxs.out.1
                have a2 : IntKind.i64.wrap ((x.size : Int) + 1) = (m : Int) := by rw [IntWalk.i64_in _ (by omega)]; omega
                have a5 : (q : Int) ≤ (x.size : Int) := by omega
                have a6 : ¬ (m : Int) = 0 := by omega
                have a8 : ¬ m = 0 := by omega
                have a7 : q ≤ x.size := by omega
                have HQ1 := Lib.hid hq1
                have HM1 := Lib.hid hm
                clear hq1 hm hx1 hq2
                have HPRE := Lib.hid hpre
                clear hpre
                go_wp2_with (go_at_call 34; refine (Tryd.strings_HasPrefix x y _).mono ?_; rintro e w' ⟨rfl, hw⟩; rw [hw, HPRE.out])
                go_still_tail 10, (by kernel_rfl)
                change wpList _ _ _ _ _ wc.drew
                go_wp2_with fail
                have hM2 := (HM.out.set (x.extract 0 q)).drew
                have n0 := hM2.k0
                have n1 := hM2.disk.cell0
                have HM2 := Lib.hid hM2
                clear hM2 m0 m1 m2 m3 mD
                generalize (wc.setCell ⟨wr.heap.size, 0, none⟩ (.string (x.extract 0 q))).drew = W at *
                go_still_tail 10, (by kernel_rfl)
                change wpList _ _ _ _ _ W.drew
                go_wp2_with (at_mapUpdate; refine wpList_put rfl _ _ _ rfl rfl HM2.out.disk.drew.files HM2.out.disk.ok.n_le s hsm.out rfl ⟨x.extract 0 q, x.extract 0 q, true⟩ rfl ?_; intro w4 hF4 hg4 hs4)
                go_roundg (ss.length - (kk + 1))
                case measure => omega
                case rel =>
                  have hsome := (names_next hlt HSM.out).1
                  rw [hsl2.out] at hF4
                  refine ⟨kk + 1, zs.drop 1, dj.put (ss.getD kk []) ⟨x.extract 0 q, x.extract 0 q, true⟩, by omega, by omega, by go_num, HDZ, HM2.out.disk.drew.put hg4 hF4 (Or.inl hsome) (Nat.le_trans (extract_le x q) hxs.out.1) (Nat.le_trans (extract_le x q) hxs.out.1), HM2.out.turn.drew.grown hg4, ?_, names_put HSM.out, ?_, ?_⟩
                  · show _ = _
                    rw [← HCR.out, crashOn_step hlt hf2.out, show (FileP.calm ⟨x, y, true⟩) = false from by simp [FileP.calm, HXY.out], ← HDR.out, tear_b hd0 (by rw [HPRE.out]; rfl) HM1.out HQ1.out]
                    rfl
                  · intro j hj
                    exact hg4.cell (HM2.out.drew.names j hj) (by simp; omega)
                  · show _ < _
                    have h1 := HM2.out.hr
                    have h2 := HM2.out.hF
                    have h3 : W.drew.heap.size = W.heap.size := rfl
                    omega
            · go_wp2_with fail
              have hM2 := (HM.out.set (y))
              have n0 := hM2.k0
              have n1 := hM2.disk.cell0
              have HM2 := Lib.hid hM2
              clear hM2 m0 m1 m2 m3 mD
              generalize wc.setCell ⟨wr.heap.size, 0, none⟩ (.string (y)) = W at *
              go_still_tail 10, (by kernel_rfl)
              change wpList _ _ _ _ _ W.drew
              go_wp2_with (at_mapUpdate; refine wpList_put rfl _ _ _ rfl rfl HM2.out.disk.drew.files HM2.out.disk.ok.n_le s hsm.out rfl ⟨y, y, true⟩ rfl ?_; intro w4 hF4 hg4 hs4)
              go_roundg (ss.length - (kk + 1))
              case measure => omega
              case rel =>
                have hsome := (names_next hlt HSM.out).1
                rw [hsl2.out] at hF4
                refine ⟨kk + 1, zs.drop 1, dj.put (ss.getD kk []) ⟨y, y, true⟩, by omega, by omega, by go_num, HDZ, HM2.out.disk.drew.put hg4 hF4 (Or.inl hsome) hxs.out.2 hxs.out.2, HM2.out.turn.drew.grown hg4, ?_, names_put HSM.out, ?_, ?_⟩
                · show _ = _
                  rw [← HCR.out, crashOn_step hlt hf2.out, show (FileP.calm ⟨x, y, true⟩) = false from by simp [FileP.calm, HXY.out], ← HDR.out, tear_c (by omega)]
                  rfl
                · intro j hj
                  exact hg4.cell (HM2.out.drew.names j hj) (by simp; omega)
                · show _ < _
                  have h1 := HM2.out.hr
                  have h2 := HM2.out.hF
                  have h3 : W.drew.heap.size = W.heap.size := rfl
                  omega
      | false =>
        go_upto_if 45 with (at_lookup; refine wpList_look1 rfl _ _ rfl rfl HDJ.out.files s hsm.out rfl _ HF.out ?_)
        go_cut [1, 8, 24] from 24 to 117 (fun s1 s8 s24 wx => ∃ draw : Int, s8 = .int .i64 draw ∧ s24 = .int .i64 kk ∧ Hid (draw = zs.headD 0) ∧ Hid (DrawsAt g b w s1 (zs.drop 1)) ∧ Hid (Mid g b r wr.heap.size w wx ss dj x y false))
        case first =>
          have hT := (Turn.refl g b wr).alloc (.cells #[.string x, .string y, .bool false] 59)
          have hmid : Hid (Mid g b r wr.heap.size w (wr.alloc (.cells #[.string x, .string y, .bool false] 59)) ss dj x y false) := by
            refine ⟨HDJ.out.alloc _, HTW.out.alloc _, fun j hj => ?_, by simp, by simp, by simp, frozen_new _ _ _ _, by simp, hrl2, hgl2, hbl2, HTW.out.size⟩
            rw [hT.cell hrl2 (by omega) (by omega)]
            exact HNC.out j hj
          clear hT
          rcases hzs : zs with _ | ⟨z0, zr⟩
          · subst hzs
            go_wp2_with fail
            go_meet
            exact ⟨0, rfl, rfl, rfl, HZS.out, hmid⟩
          · subst hzs
            obtain ⟨db, off, rfl, hd1, hd2, hd3, hd4⟩ := HP3.out (by simp)
            have hz0 := hd4 0 (by simp)
            simp only [Nat.add_zero, List.getD_cons_zero] at hz0
            have hcz : (wr.alloc (.cells #[.string x, .string y, .bool false] 59)).cell? ⟨db, off, none⟩ = some (.int .i64 z0) := ((HTW.out.alloc _).cell hd3 hd1 hd2).trans hz0
            have hDN := draws_next (z0 := 0) hp1 hp2 hd1 hd2 hd3 hd4
            have hlz : (0 : Int) < (zr.length : Int) + 1 := by omega
            have hl1 : (1 : Int) ≤ (zr.length : Int) + 1 := by omega
            have hl2 : (0 : Int) < ((z0 :: zr).length : Int) := by simp
            clear hd4 hz0
            by_cases hc1 : cap1 = 1
            · rw [if_pos hc1] at hDN
              have HDN := Lib.hid hDN
              clear hDN
              go_wp2_with fail
              go_quiet (fail)
              go_wp2
              go_meet
              exact ⟨z0, rfl, rfl, rfl, by subst hc1; exact HDN.out, hmid.out.drewN _⟩
            · rw [if_neg hc1] at hDN
              have HDN := Lib.hid hDN
              clear hDN
              go_wp2_with fail
              go_quiet (fail)
              go_wp2
              go_meet
              exact ⟨z0, rfl, rfl, rfl, HDN.out, hmid.out.drewN _⟩
        case rest =>
          obtain ⟨draw, rfl, rfl, HDR, HDZ, HM⟩ := hcut
          have m0 := HM.out.k0
          have m1 := HM.out.k1
          have m2 := HM.out.k2
          have m3 := HM.out.k3
          have mD := HM.out.disk.cell0
          have hxs : Hid (x.size ≤ 262144 ∧ y.size ≤ 262144) := by
            have h1 := (names_next hlt HSM.out).1
            rcases hq : dj.fs (ss.getD kk []) with _ | f
            · rw [hq] at h1; cases h1
            · have h2 := hf2.out
              rw [hq] at h2
              cases h2
              exact HDJ.out.ok.sizes _ _ hq
          clear hk1 c0
          by_cases hd0 : 0 ≤ draw
          · obtain ⟨m, hm⟩ : ∃ m : Nat, m = x.size + 1 := ⟨_, rfl⟩
            obtain ⟨q, hq1, hq2, hq3⟩ := rem_fact draw m hd0 (by omega)
            have hx1 := hxs.out.1
            have a2 : IntKind.i64.wrap ((x.size : Int) + 1) = (m : Int) := by rw [IntWalk.i64_in _ (by omega)]; omega
            have a5 : (q : Int) ≤ (x.size : Int) := by omega
            have a6 : ¬ (m : Int) = 0 := by omega
            have a8 : ¬ m = 0 := by omega
            have a7 : q ≤ x.size := by omega
            have HQ1 := Lib.hid hq1
            have HM1 := Lib.hid hm
            clear hq1 hm hx1 hq2
            go_wp2_with fail
            go_still_tail 10, (by kernel_rfl)
            change wpList _ _ _ _ _ wc.drew
            go_wp2_with fail
            have hM2 := (HM.out.set (x.extract 0 q)).drew
            have n0 := hM2.k0
            have n1 := hM2.disk.cell0
            have HM2 := Lib.hid hM2
            clear hM2 m0 m1 m2 m3 mD
            generalize (wc.setCell ⟨wr.heap.size, 0, none⟩ (.string (x.extract 0 q))).drew = W at *
            go_still_tail 10, (by kernel_rfl)
            change wpList _ _ _ _ _ W.drew
            go_wp2_with (at_mapUpdate; refine wpList_put rfl _ _ _ rfl rfl HM2.out.disk.drew.files HM2.out.disk.ok.n_le s hsm.out rfl ⟨x.extract 0 q, x.extract 0 q, true⟩ rfl ?_; intro w4 hF4 hg4 hs4)
            go_roundg (ss.length - (kk + 1))
            case measure => omega
            case rel =>
              have hsome := (names_next hlt HSM.out).1
              rw [hsl2.out] at hF4
              refine ⟨kk + 1, zs.drop 1, dj.put (ss.getD kk []) ⟨x.extract 0 q, x.extract 0 q, true⟩, by omega, by omega, by go_num, HDZ, HM2.out.disk.drew.put hg4 hF4 (Or.inl hsome) (Nat.le_trans (extract_le x q) hxs.out.1) (Nat.le_trans (extract_le x q) hxs.out.1), HM2.out.turn.drew.grown hg4, ?_, names_put HSM.out, ?_, ?_⟩
              · show _ = _
                rw [← HCR.out, crashOn_step hlt hf2.out, show (FileP.calm ⟨x, y, false⟩) = false from rfl, ← HDR.out, tear_b hd0 rfl HM1.out HQ1.out]
                rfl
              · intro j hj
                exact hg4.cell (HM2.out.drew.names j hj) (by simp; omega)
              · show _ < _
                have h1 := HM2.out.hr
                have h2 := HM2.out.hF
                have h3 : W.drew.heap.size = W.heap.size := rfl
                omega
          · go_wp2_with (at_delete; refine wpList_drop rfl _ _ rfl rfl HM.out.disk.files s hsm.out rfl ?_; intro w4 hF4 hg4 hs4)
            go_roundg (ss.length - (kk + 1))
            case measure => omega
            case rel =>
              rw [hsl2.out] at hF4
              refine ⟨kk + 1, zs.drop 1, dj.del (ss.getD kk []), by omega, by omega, by go_num, HDZ, HM.out.disk.del hg4 hF4, HM.out.turn.grown hg4, ?_, names_del hlt HN.out.nodup HSM.out, ?_, ?_⟩
              · show _ = _
                rw [← HCR.out, crashOn_step hlt hf2.out, show (FileP.calm ⟨x, y, false⟩) = false from rfl, ← HDR.out, tear_d (by omega)]
                rfl
              · intro j hj
                exact hg4.cell (HM.out.names j hj) (by simp; omega)
              · show _ < _
                have h1 := HM.out.hr
                have h2 := HM.out.hF
                omega
    · have hltz : ¬ (kk : Int) < (ss.length : Int) := by omega
      go_wp2
      go_ret
      have hk : kk = ss.length := by omega
      subst hk
      have hcr := HCR.out
      rw [List.drop_length, crashOn] at hcr
      exact ⟨ss, ⟨HN.out.mem, HN.out.nodup, HN.out.sorted, HN.out.len, HN.out.small⟩, rfl, by rw [← hcr]; exact HDJ.out, HTW.out⟩

end Go.Proofs.YtmlmjchifelpkaaDoor
