/- alike, all: the law's own functions over lists of texts. -/
import Derived.Test.YtmlmjchifelpkaaFileL
import Derived.OwnWalk
namespace Go.Proofs.Ytmlmjchifelpkaa
open Go.RowKit Go.Lib Go.Maps Go.Sort
set_option linter.unusedVariables false

/-- The slice v reads as the texts ss. -/
def StrsAt (base : Nat) (w : World) (v : Value) (ss : List ByteArray) : Prop :=
  ∃ p cap, v = .slice p ss.length cap ∧ ss.length ≤ maxLen ∧ (ss ≠ [] → ∃ r, p = some ⟨r, 0, none⟩ ∧ base ≤ r ∧ r < w.heap.size ∧ ∀ j, j < ss.length → w.cell? ⟨r, j, none⟩ = some (.string (ss.getD j ⟨#[]⟩)))

theorem alike_same (v1 v2 : Value) (ss : List ByteArray) (w : World) (B1 B2 : Nat) (h1 : StrsAt B1 w v1 ss) (h2 : StrsAt B2 w v2 ss) :
    Calls Try.prog 17 #[v1, v2] w fun e w' => e = .returned (.bool true) ∧ Below w.heap.size w w' := by
  obtain ⟨p1, cap1, rfl, hm1, hc1⟩ := h1
  obtain ⟨p2, cap2, rfl, hm2, hc2⟩ := h2
  have HC1 := Lib.hid hc1
  have HC2 := Lib.hid hc2
  have hml : ss.length ≤ 9223372036854775807 := hm1
  clear hc1 hc2 hm1 hm2
  go_enter Try.func17, Try.ntmps17
  go_wp2_with fail
  go_loopg [13] ss.length (fun gg s13 wr => ∃ kk : Nat, kk ≤ ss.length ∧ ss.length - kk ≤ gg ∧ s13 = .int .i64 kk ∧ Hid (Below w.heap.size w wr))
  case atStart => exact ⟨0, Nat.zero_le _, by omega, rfl, Below.refl _ _⟩
  case round =>
    obtain ⟨kk, hkk, hgg, rfl, HB⟩ := hrel
    by_cases hlt : kk < ss.length
    · have hltz : (kk : Int) < (ss.length : Int) := by omega
      have hne : ss ≠ [] := fun e => by rw [e] at hlt; exact absurd hlt (Nat.not_lt_zero _)
      obtain ⟨r1, rfl, -, hr1, hd1⟩ := HC1.out hne
      obtain ⟨r2, rfl, -, hr2, hd2⟩ := HC2.out hne
      have l1 := (HB.out.cell (p := ⟨r1, kk, none⟩) hr1).trans (hd1 kk hlt)
      have l2 := (HB.out.cell (p := ⟨r2, kk, none⟩) hr2).trans (hd2 kk hlt)
      generalize ss.getD kk ⟨#[]⟩ = x at l1 l2
      have hxx : (x.toList != x.toList) = false := by simp
      clear hd1 hd2 hne
      go_wp2_with fail
      go_quiet (fail)
      go_wp2
      go_roundg (ss.length - (kk + 1))
      case measure => omega
      case rel => exact ⟨kk + 1, by omega, by omega, by go_num, (show Hid _ from ⟨HB.out.os, HB.out.tape, HB.out.output, HB.out.size, HB.out.block⟩)⟩
    · have hltz : ¬ (kk : Int) < (ss.length : Int) := by omega
      go_wp2
      go_ret
      exact ⟨rfl, HB.out⟩

/-- What 'all' tells of a disk: each name, and what is read there. -/
def tells (d : DiskP) (ss : List (List UInt8)) : List ByteArray := ss.flatMap fun k => [⟨k.toArray⟩, (dKnown d k).1.has]

theorem tells_len (d : DiskP) (ss : List (List UInt8)) : (tells d ss).length = 2 * ss.length := by
  induction ss with
  | nil => rfl
  | cons k r ih => show (_ :: _ :: tells d r).length = _; simp [ih]; omega
theorem tells_step (d : DiskP) {ss : List (List UInt8)} {kk : Nat} (h : kk < ss.length) : (tells d (ss.take (kk + 1))).map Value.string = (tells d (ss.take kk)).map Value.string ++ [.string ⟨(ss.getD kk []).toArray⟩, .string (dKnown d (ss.getD kk [])).1.has] := by
  have e : ss.getD kk [] = ss[kk] := by simp [List.getD, List.getElem?_eq_getElem h]
  unfold tells
  rw [List.take_succ_eq_append_getElem h, e, List.flatMap_append, List.map_append]
  rfl

theorem cell_pair_new (w : World) (x y : Value) (t : TypeId) : ∀ j u, [x, y][j]? = some u → (w.alloc (.cells #[x, y] t)).cell? ((⟨w.heap.size, 0, none⟩ : Addr).add j) = some u := by
  intro j u hj
  match j, hj with
  | 0, hj => simp at hj; subst hj; simp [Addr.add]
  | 1, hj => simp at hj; subst hj; simp [Addr.add]

set_option maxRecDepth 100000 in
set_option maxHeartbeats 1000000 in
theorem all_any (g b : Nat) (d : DiskP) (w : World) (h : IsDisk w g b d) :
    Calls Try.prog 16 #[.pointer (some ⟨g, 0, none⟩)] w fun e w' => ∃ v, e = .returned v ∧ ∃ ss, NamesOf d ss ∧ StrsAt w.heap.size w' v (tells d ss) ∧ Below w.heap.size w w' := by
  obtain ⟨i0, hi, hz0, hz1, hz2⟩ := info_parts info9
  have hgl := h.lt
  have hbl := h.ltb
  have hn64 := h.ok.n_le
  have H := Lib.hid h
  clear h
  go_enter Try.func16, Try.ntmps16
  go_wp2_with fail
  refine (names_any g b d _ H.out).mono ?_
  rintro e w1 ⟨r, capr, ss, rfl, hN, hrow, hB⟩
  have HN := Lib.hid hN
  have hsl : ss.length ≤ 64 := by rw [hN.len]; exact hn64
  have hrr := hrow.lt r rfl
  have hcells : Hid (∀ j, j < ss.length → w1.cell? ⟨r, j, none⟩ = some (encStr (ss.getD j []))) := fun j hj => by
    rw [hrow.cellAt j (by simpa using hj)]
    simp [List.getD, List.getElem?_eq_getElem hj]
  have hD1 : Hid (IsDisk w1 g b d) := H.out.below hB hgl hbl
  have HB1 := Lib.hid hB
  have hs1 := hB.size
  have hr1 := hrr.2
  clear hN hrow hB hrr
  go_wp2_with fail
  go_loopg [3, 11] ss.length (fun gg s3 s11 wr => ∃ kk : Nat, kk ≤ ss.length ∧ ss.length - kk ≤ gg ∧ s11 = .int .i64 kk ∧ Hid (wr.ownsRow w1.heap.size 9 1 s3 (2 * kk) ((tells d (ss.take kk)).map Value.string)) ∧ Hid (Below w1.heap.size w1 wr))
  case atStart => exact ⟨0, Nat.zero_le _, by omega, rfl, World.ownsRow_nil _ _ _ _, Below.refl _ _⟩
  case round =>
    obtain ⟨kk, hkk, hgg, rfl, HR, HB⟩ := hrel
    by_cases hlt : kk < ss.length
    · have hltz : (kk : Int) < (ss.length : Int) := by omega
      have l0 := (HB.out.cell (p := ⟨r, kk, none⟩) hr1).trans (hcells.out kk hlt)
      obtain ⟨s, hs⟩ : ∃ s : ByteArray, s = ⟨(ss.getD kk []).toArray⟩ := ⟨_, rfl⟩
      have l1 : wr.cell? ⟨r, kk, none⟩ = some (.string s) := by rw [l0, hs]
      have hsk : s.data.toList = ss.getD kk [] := by rw [hs]
      have HSK := Lib.hid hsk
      have HSS := Lib.hid hs
      have HDR := Lib.hid (hD1.out.below HB.out hD1.out.lt hD1.out.ltb)
      clear l0 hs hsk
      go_wp2_with fail
      refine (read_any g b d s _ HDR.out).mono ?_
      rintro e w2 ⟨rfl, hb2⟩
      have hrow2 := HR.out.kept (row := none) ⟨hb2.os, hb2.tape, hb2.output, hb2.size, fun k hk _ => hb2.block k hk⟩ (Classical.em _)
      have q1 := HB.out.size
      have q2 := hb2.size
      obtain ⟨x, hx⟩ : ∃ x, (dKnown d s.data.toList).1.has = x := ⟨_, rfl⟩
      rw [hx]
      rw [HSK.out] at hx
      have HX := Lib.hid hx
      clear hx
      go_wp2_with (first
        | (at_builtin; refine wpList_append_own _ rfl _ _ 38 rfl w1.heap.size 9 i0 (.string ⟨#[]⟩) 1 16 Try.underlying38 hi hz0 hz1 hz2 rfl (by decide) _ _ _ rfl (hrow2.alloc _) ⟨w2.heap.size, 0, none⟩ 2 2 [.string s, .string x] rfl rfl (cell_pair_new _ _ _ _) (by simp [Value.oneCell']) (by unfold maxLen; omega) (by omega) (by simp; omega) ?_; intro v' w3 hown' hg3 hnil3)
        | go_in)
      go_roundg (ss.length - (kk + 1))
      case measure => omega
      case rel =>
        refine ⟨kk + 1, by omega, by omega, by go_num, ?_, ?_⟩
        · show World.ownsRow _ _ _ _ _ _ _
          rw [tells_step d hlt, ← HSS.out, HX.out, show 2 * (kk + 1) = 2 * kk + 2 by omega]
          exact hown'
        · show Below _ _ _
          exact ((HB.out.trans (hb2.mono q1)).alloc (by omega) _).grown hg3 (by simp; omega) (fun j hj => (hrow2.lt j hj).1)
    · have hltz : ¬ (kk : Int) < (ss.length : Int) := by omega
      have hk : kk = ss.length := by omega
      go_wp2
      go_ret
      subst hk
      have hr := HR.out
      rw [List.take_length] at hr
      have hw : Below w.heap.size w wr := HB1.out.trans (HB.out.mono hs1)
      refine ⟨_, rfl, ss, HN.out, ?_, hw⟩
      have hln := tells_len d ss
      rcases hr.2 with ⟨rfl, h0⟩ | ⟨q, c, cur, rfl, hbase, hb, h1, h2, h3, h4⟩
      · have e0 : tells d ss = [] := List.length_eq_zero_iff.1 (by omega)
        exact ⟨none, 0, by rw [e0]; rfl, by rw [e0]; exact Nat.zero_le _, fun hne => absurd e0 hne⟩
      · refine ⟨some ⟨q, 0, none⟩, c, by rw [hln]; rfl, by rw [hln]; unfold maxLen; omega, fun _ => ⟨q, rfl, Nat.le_trans hs1 hbase, (Array.getElem?_eq_some_iff.1 hb).1, fun j hj => ?_⟩⟩
        have := hr.cellAt j (by omega)
        rw [this, List.getElem?_map, List.getD_eq_getElem?_getD, List.getElem?_eq_getElem hj]
        rfl

end Go.Proofs.Ytmlmjchifelpkaa
