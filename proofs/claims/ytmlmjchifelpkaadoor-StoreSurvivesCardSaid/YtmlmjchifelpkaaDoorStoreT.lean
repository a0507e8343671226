/- told, alike: the law's own functions over lists of texts. -/
import Derived.Test.YtmlmjchifelpkaaDoorStoreN
import Derived.OwnWalk
namespace Go.Proofs.YtmlmjchifelpkaaDoor
open Go.RowKit Go.Lib Go.Maps Go.Sort
set_option linter.unusedVariables false
set_option maxRecDepth 100000

/-- The slice v reads as the texts ss. -/
def StrsAt (base : Nat) (w : World) (v : Value) (ss : List ByteArray) : Prop :=
  ∃ p cap, v = .slice p ss.length cap ∧ ss.length ≤ maxLen ∧ (ss ≠ [] → ∃ r, p = some ⟨r, 0, none⟩ ∧ base ≤ r ∧ r < w.heap.size ∧ ∀ j, j < ss.length → w.cell? ⟨r, j, none⟩ = some (.string (ss.getD j ⟨#[]⟩)))

/-- What 'told' tells of a map: each key, and its value. -/
def toldL (ss : List (List UInt8)) (f : List UInt8 → Option ByteArray) : List ByteArray := ss.flatMap fun k => [⟨k.toArray⟩, (f k).getD ⟨#[]⟩]
theorem toldL_len (f : List UInt8 → Option ByteArray) (ss : List (List UInt8)) : (toldL ss f).length = 2 * ss.length := by
  induction ss with
  | nil => rfl
  | cons k r ih => show (_ :: _ :: toldL r f).length = _; simp [ih]; omega
theorem toldL_step (f : List UInt8 → Option ByteArray) {ss : List (List UInt8)} {kk : Nat} (h : kk < ss.length) : (toldL (ss.take (kk + 1)) f).map Value.string = (toldL (ss.take kk) f).map Value.string ++ [.string ⟨(ss.getD kk []).toArray⟩, .string ((f (ss.getD kk [])).getD ⟨#[]⟩)] := by
  have e : ss.getD kk [] = ss[kk] := by simp [List.getD, List.getElem?_eq_getElem h]
  unfold toldL
  rw [List.take_succ_eq_append_getElem h, e, List.flatMap_append, List.map_append]
  rfl
theorem cell_pair_new (w : World) (x y : Value) (t : TypeId) : ∀ j u, [x, y][j]? = some u → (w.alloc (.cells #[x, y] t)).cell? ((⟨w.heap.size, 0, none⟩ : Addr).add j) = some u := by
  intro j u hj
  match j, hj with
  | 0, hj => simp at hj; subst hj; simp [Addr.add]
  | 1, hj => simp at hj; subst hj; simp [Addr.add]

set_option maxHeartbeats 1000000 in
theorem told_any (S g mb : Nat) (m : MapP) (w : World) (hS : IsBox w S g mb) (h : IsMap w mb m) (hok : m.Ok) :
    Calls Tryd.prog 10 #[.pointer (some ⟨S, 0, none⟩)] w fun e w' => ∃ v, e = .returned v ∧ ∃ ss, KeysOf m ss ∧ StrsAt w.heap.size w' v (toldL ss m.m) ∧ Below w.heap.size w w' := by
  obtain ⟨i0, hi, hz0, hz1, hz2⟩ := info_parts info9
  have hn64 := hok.n
  have HOK := Lib.hid hok
  have HS := Lib.hid hS
  have H := Lib.hid h
  have c1 := hS.c1
  clear h hS hok
  go_enter Tryd.func10, Tryd.ntmps10
  go_wp2_with fail
  refine (keys_any S mb m _ c1 (by omega) H.out).mono ?_
  rintro e w1 ⟨r, ss, rfl, hN, hrow, hB⟩
  have HN := Lib.hid hN
  have hsl : ss.length ≤ 1000 := by rw [hN.len]; exact hn64
  have hrr := hrow.lt r rfl
  have hcells : Hid (∀ j, j < ss.length → w1.cell? ⟨r, j, none⟩ = some (encStr (ss.getD j []))) := fun j hj => by
    rw [hrow.cellAt j (by simpa using hj)]
    simp [List.getD, List.getElem?_eq_getElem hj]
  have hS1 : Hid (IsBox w1 S g mb) := (hB.block S HS.out.lt).trans HS.out
  have hM1 : Hid (IsMap w1 mb m) := H.out.kept (hB.block mb H.out.lt)
  have HB1 := Lib.hid hB
  have hs1 := hB.size
  have hr1 := hrr.2
  clear hN hrow hB hrr c1
  go_wp2_with fail
  go_loopg [3, 11] ss.length (fun gg s3 s11 wr => ∃ kk : Nat, kk ≤ ss.length ∧ ss.length - kk ≤ gg ∧ s11 = .int .i64 kk ∧ Hid (wr.ownsRow w1.heap.size 9 1 s3 (2 * kk) ((toldL (ss.take kk) m.m).map Value.string)) ∧ Hid (Below w1.heap.size w1 wr))
  case atStart => exact ⟨0, Nat.zero_le _, by omega, rfl, World.ownsRow_nil _ _ _ _, Below.refl _ _⟩
  case round =>
    obtain ⟨kk, hkk, hgg, rfl, HR, HB⟩ := hrel
    by_cases hlt : kk < ss.length
    · have hltz : (kk : Int) < (ss.length : Int) := by omega
      have l0 := (HB.out.cell (p := ⟨r, kk, none⟩) hr1).trans (hcells.out kk hlt)
      obtain ⟨s, hs⟩ : ∃ s : ByteArray, s = ⟨(ss.getD kk []).toArray⟩ := ⟨_, rfl⟩
      have l1 : wr.cell? ⟨r, kk, none⟩ = some (.string s) := by rw [l0, hs]
      have hsk : s.data.toList = ss.getD kk [] := by rw [hs]
      have hmem : (m.m s.data.toList).isSome = true := (HN.out.mem _).1 (by rw [hsk, List.getD_eq_getElem?_getD, List.getElem?_eq_getElem hlt]; exact List.getElem_mem hlt)
      obtain ⟨x, hx⟩ := Option.isSome_iff_exists.1 hmem
      obtain ⟨hk1, hk2, _⟩ := HOK.out.key _ _ hx
      rw [← Lib.size_eq] at hk1 hk2
      have hget : sGet m s = (x, 0) := by unfold sGet; rw [if_pos ⟨hk1, hk2⟩, hx]
      have HX : Hid ((m.m (ss.getD kk [])).getD ⟨#[]⟩ = x) := Lib.hid (by rw [← hsk, hx]; rfl)
      have HSS := Lib.hid hs
      have HSr : Hid (IsBox wr S g mb) := (HB.out.block S hS1.out.lt).trans hS1.out
      have HMr : Hid (IsMap wr mb m) := hM1.out.kept (HB.out.block mb hM1.out.lt)
      have HG := Lib.hid (get_any S g mb m s wr HSr.out HMr.out (by unfold maxLen; omega))
      rw [hget] at HG
      clear l0 hs hsk hmem hx hget
      go_wp2_with fail
      refine HG.out.mono ?_
      rintro e w2 ⟨rfl, rfl⟩
      have q1 := HB.out.size
      go_wp2_with (first
        | (at_builtin; refine wpList_append_own _ rfl _ _ 34 rfl w1.heap.size 9 i0 (.string ⟨#[]⟩) 1 16 Tryd.underlying34 hi hz0 hz1 hz2 rfl (by decide) _ _ _ rfl (HR.out.alloc _) ⟨wr.heap.size, 0, none⟩ 2 2 [.string s, .string x] rfl rfl (cell_pair_new _ _ _ _) (by simp [Value.oneCell']) (by unfold maxLen; omega) (by omega) (by simp; omega) ?_; intro v' w3 hown' hg3 hnil3)
        | go_in)
      go_roundg (ss.length - (kk + 1))
      case measure => omega
      case rel =>
        refine ⟨kk + 1, by omega, by omega, by go_num, ?_, ?_⟩
        · show World.ownsRow _ _ _ _ _ _ _
          rw [toldL_step m.m hlt, ← HSS.out, HX.out, show 2 * (kk + 1) = 2 * kk + 2 by omega]
          exact hown'
        · show Below _ _ _
          exact (HB.out.alloc (by omega) _).grown hg3 (by simp; omega) (fun j hj => (HR.out.lt j hj).1)
    · have hltz : ¬ (kk : Int) < (ss.length : Int) := by omega
      have hk : kk = ss.length := by omega
      go_wp2
      go_ret
      subst hk
      have hr := HR.out
      rw [List.take_length] at hr
      have hw : Below w.heap.size w wr := HB1.out.trans (HB.out.mono hs1)
      refine ⟨_, rfl, ss, HN.out, ?_, hw⟩
      have hln := toldL_len m.m ss
      rcases hr.2 with ⟨rfl, h0⟩ | ⟨q, c, cur, rfl, hbase, hb, h1, h2, h3, h4⟩
      · have e0 : toldL ss m.m = [] := List.length_eq_zero_iff.1 (by omega)
        exact ⟨none, 0, by rw [e0]; rfl, by rw [e0]; exact Nat.zero_le _, fun hne => absurd e0 hne⟩
      · refine ⟨some ⟨q, 0, none⟩, c, by rw [hln]; rfl, by rw [hln]; unfold maxLen; omega, fun _ => ⟨q, rfl, Nat.le_trans hs1 hbase, (Array.getElem?_eq_some_iff.1 hb).1, fun j hj => ?_⟩⟩
        have := hr.cellAt j (by omega)
        rw [this, List.getElem?_map, List.getD_eq_getElem?_getD, List.getElem?_eq_getElem hj]
        rfl

theorem alike_any (v1 v2 : Value) (s1 s2 : List ByteArray) (w : World) (B1 B2 : Nat) (h1 : StrsAt B1 w v1 s1) (h2 : StrsAt B2 w v2 s2) :
    Calls Tryd.prog 11 #[v1, v2] w fun e w' => e = .returned (.bool (decide (s1 = s2))) ∧ Below w.heap.size w w' := by
  obtain ⟨p1, cap1, rfl, hm1, hc1⟩ := h1
  obtain ⟨p2, cap2, rfl, hm2, hc2⟩ := h2
  have HC1 := Lib.hid hc1
  have HC2 := Lib.hid hc2
  have hml : s1.length ≤ 9223372036854775807 := hm1
  clear hc1 hc2 hm1 hm2
  by_cases hln : s1.length = s2.length
  · have HLN := Lib.hid hln
    obtain ⟨bb, hbb⟩ : ∃ bb : Bool, decide (s1 = s2) = bb := ⟨_, rfl⟩
    rw [hbb, ← hln]
    have HBB := Lib.hid hbb
    clear hln hbb
    go_enter Tryd.func11, Tryd.ntmps11
    go_wp2_with fail
    go_loopg [13] s1.length (fun gg s13 wr => ∃ kk : Nat, kk ≤ s1.length ∧ s1.length - kk ≤ gg ∧ s13 = .int .i64 kk ∧ Hid (Below w.heap.size w wr) ∧ Hid (s1.take kk = s2.take kk))
    case atStart => exact ⟨0, Nat.zero_le _, by omega, rfl, Below.refl _ _, by rfl⟩
    case round =>
      obtain ⟨kk, hkk, hgg, rfl, HB, HE⟩ := hrel
      by_cases hlt : kk < s1.length
      · have hltz : (kk : Int) < (s1.length : Int) := by omega
        have hlt2 : kk < s2.length := by rw [← HLN.out]; exact hlt
        have hne : s1 ≠ [] := fun e => by rw [e] at hlt; exact absurd hlt (Nat.not_lt_zero _)
        have hne2 : s2 ≠ [] := fun e => by rw [e] at hlt2; exact absurd hlt2 (Nat.not_lt_zero _)
        obtain ⟨r1, rfl, -, hr1, hd1⟩ := HC1.out hne
        obtain ⟨r2, rfl, -, hr2, hd2⟩ := HC2.out hne2
        have l1 := (HB.out.cell (p := ⟨r1, kk, none⟩) hr1).trans (hd1 kk hlt)
        have l2 := (HB.out.cell (p := ⟨r2, kk, none⟩) hr2).trans (hd2 kk hlt2)
        have HX : Hid (s1.take (kk + 1) = s1.take kk ++ [s1.getD kk ⟨#[]⟩]) := Lib.hid (by rw [List.take_succ_eq_append_getElem hlt, List.getD_eq_getElem?_getD, List.getElem?_eq_getElem hlt]; rfl)
        have HY : Hid (s2.take (kk + 1) = s2.take kk ++ [s2.getD kk ⟨#[]⟩]) := Lib.hid (by rw [List.take_succ_eq_append_getElem hlt2, List.getD_eq_getElem?_getD, List.getElem?_eq_getElem hlt2]; rfl)
        have HZ : Hid (s1.getD kk ⟨#[]⟩ ≠ s2.getD kk ⟨#[]⟩ → bb = false) := Lib.hid (fun hq => by rw [← HBB.out]; exact decide_eq_false (fun e => hq (by rw [e])))
        generalize s1.getD kk ⟨#[]⟩ = x at *
        generalize s2.getD kk ⟨#[]⟩ = y at *
        clear hd1 hd2 hne hne2 hlt2
        by_cases hxy : x = y
        · subst hxy
          have hxx : (x.toList != x.toList) = false := by simp
          go_wp2_with fail
          go_quiet (fail)
          go_wp2
          go_roundg (s1.length - (kk + 1))
          case measure => omega
          case rel => exact ⟨kk + 1, by omega, by omega, by go_num, (show Hid _ from ⟨HB.out.os, HB.out.tape, HB.out.output, HB.out.size, HB.out.block⟩), Lib.hid (by rw [HX.out, HY.out, HE.out])⟩
        · have hxx : (x.toList != y.toList) = true := by
            simp only [Lib.toList_data, bne_iff_ne, ne_eq]
            exact fun e => hxy (bytes_inj e)
          have hbf := HZ.out hxy
          replace hxy := Lib.hid hxy
          go_wp2_with fail
          go_quiet (fail)
          go_wp2
          rotate_left
          · exfalso
            simp_all
          go_ret
          exact ⟨congrArg (fun x => Ending.returned (.bool x)) hbf.symm, ⟨HB.out.os, HB.out.tape, HB.out.output, HB.out.size, HB.out.block⟩⟩
      · have hltz : ¬ (kk : Int) < (s1.length : Int) := by omega
        have hk : kk = s1.length := by omega
        have hbt : bb = true := by
          rw [← HBB.out]
          refine decide_eq_true ?_
          have := HE.out
          rw [hk, List.take_length, HLN.out, List.take_length] at this
          exact this
        clear hk
        go_wp2
        go_ret
        exact ⟨rfl, HB.out⟩
  · have hne : s1 ≠ s2 := fun e => hln (by rw [e])
    have hz : ¬ ((s1.length : Int) = (s2.length : Int)) := by omega
    have hd : decide (s1 = s2) = false := decide_eq_false hne
    rw [hd]
    clear hln hne hd
    go_enter Tryd.func11, Tryd.ntmps11
    go_wp2_with fail
    go_ret
    exact ⟨rfl, Below.refl _ _⟩

end Go.Proofs.YtmlmjchifelpkaaDoor
