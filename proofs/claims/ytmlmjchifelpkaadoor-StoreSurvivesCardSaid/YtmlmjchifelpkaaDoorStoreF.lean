/- What a store's snap computes: the walk. Printed by wip/store/mksnap.py. -/
import Derived.Test.YtmlmjchifelpkaaDoorStoreE
import Derived.Deep.LoopGhost
namespace Go.Proofs.YtmlmjchifelpkaaDoor
open Go.RowKit Go.Lib Go.Maps Go.Sort
set_option linter.unusedVariables false
set_option maxRecDepth 100000

def SnapOut (m : MapP) (w : World) (e : Ending) (w' : World) : Prop := ∃ ss, KeysOf m ss ∧ e = .returned (.string ⟨(snapL ss m.m).toArray⟩) ∧ Below w.heap.size w w'
theorem str_test {a b : List UInt8} : ((⟨a.toArray⟩ : ByteArray).toList == (⟨b.toArray⟩ : ByteArray).toList) = decide (a = b) := by
  rw [ByteArray.toList_eq, ByteArray.toList_eq]
  by_cases h : a = b <;> simp [h]

theorem IsBox.below {w w' : World} {S g mb B : Nat} (h : IsBox w S g mb) (hb : Below B w w') (hB : S < B) : IsBox w' S g mb := (hb.block S hB).trans h

set_option maxHeartbeats 4000000 in
theorem snap_false (S g mb : Nat) (m : MapP) (key value : ByteArray) (w : World) (hS : IsBox w S g mb) (hm : IsMap w mb m) (hok : (m).Ok) (hn : m.n ≤ 1000) (hl : Laid w) (hkz : key.size ≤ maxLen) :
    Calls Tryd.prog 27 #[.pointer (some ⟨S, 0, none⟩), .string key, .string value, .bool false] w (SnapOut (m) w) := by
  have c1 := hS.c1
  have hsl0 : S < w.heap.size := hS.lt
  have hml0 : mb < w.heap.size := hm.lt
  have HS := Lib.hid hS
  have HM0 := Lib.hid hm
  have HL0 := Lib.hid hl
  clear hl
  go_enter Tryd.func27, Tryd.ntmps27
  go_wp2_with fail
  refine (keys_any S mb m w c1 (by omega) HM0.out).mono ?_
  rintro e w1 ⟨r, ss, rfl, hks, hrow, hb1⟩
  have hst := StrsIn.of_row hrow
  have hrl := (own_lt hrow r rfl).1
  have c2 := (HS.out.below hb1 hsl0).c1
  have HM1 := Lib.hid (HM0.out.kept (hb1.block mb hml0))
  have HST := Lib.hid hst
  have HKS := Lib.hid hks
  have HB1 := Lib.hid hb1
  clear hks hst hrow hb1 hm hS c1
  go_upto_region 6 with (at_lookup; refine wpList_slook rfl _ _ rfl rfl HM1.out key hkz rfl _ rfl ?_)
  obtain ⟨r2, hr2e⟩ : ∃ x, x = r := ⟨_, rfl⟩
  obtain ⟨ss2, hss2⟩ : ∃ x, x = ss := ⟨_, rfl⟩
  obtain ⟨w2, hw2⟩ : ∃ x, x = w1 := ⟨_, rfl⟩
  subst hr2e hss2 hw2
  have HK2 := HKS
  have HT2 := HST
  have HB2 := HB1
  have hr2 := hrl
  clear HKS HST HB1 hrl
  have hlen2 : ss2.length ≤ 1000 := by rw [HK2.out.len]; exact hok.n
  have hsl : (snapL ss2 m.m).length ≤ 1000 * 66000 := Nat.le_trans (snapL_len _ hok ss2 (fun k hk => (HK2.out.mem k).1 hk)) (Nat.mul_le_mul_right _ hlen2)
  obtain ⟨i0, hi, hz0, hz1, hz2⟩ := info_parts infoU8
  go_wp2_with fail
  go_loopg [14, 47] ss2.length (fun gg s14 s47 wr => ∃ k : Nat, k ≤ ss2.length ∧ ss2.length - k ≤ gg ∧ s47 = .int .i64 k ∧ Hid (BRow wr w2.heap.size s14 (snapL (ss2.take k) m.m)) ∧ Hid (Below w2.heap.size w2 wr))
  case atStart => exact ⟨0, by omega, by omega, rfl, BRow.nil _ _, Below.refl _ _⟩
  case round =>
    obtain ⟨k, hk, hgg, rfl, HR, HB⟩ := hrel
    have q := HB.out.size
    by_cases hlt : k < ss2.length
    · have hlt' : (k : Int) < (ss2.length : Int) := by omega
      obtain ⟨x, hx⟩ : ∃ x, ss2[k]? = some x := ⟨_, List.getElem?_eq_getElem hlt⟩
      have cx : wr.cell? ⟨r2, k, none⟩ = some (.string ⟨x.toArray⟩) := HT2.out.stays (HB.out.block r2 hr2) k x hx
      have hB0 : Below w.heap.size w wr := HB2.out.trans (HB.out.mono HB2.out.size)
      have c1 := (HS.out.below hB0 hsl0).c1
      have HM := Lib.hid (HM0.out.kept (hB0.block mb hml0))
      have hmem := (HK2.out.mem x).1 (List.mem_of_getElem? hx)
      obtain ⟨y, hy⟩ := Option.isSome_iff_exists.1 hmem
      obtain ⟨hx1, hx2, hx3⟩ := hok.key x y hy
      have hxs : ByteArray.size ⟨x.toArray⟩ = x.length := by show x.toArray.size = _; simp
      have HSN : Hid (snapL (ss2.take (k + 1)) m.m = snapL (ss2.take k) m.m ++ (recP ⟨x.toArray⟩ y).data.toList) := by
        have := snapL_snoc ss2 m.m k x hx
        rw [hy] at this
        exact this
      have hrz := recP_size ⟨x.toArray⟩ y (by omega) (by omega)
      have hsk : (snapL (ss2.take k) m.m).length ≤ 1000 * 66000 := by
        refine Nat.le_trans (snapL_len _ hok (ss2.take k) (fun z hz => (HK2.out.mem z).1 (List.mem_of_mem_take hz))) (Nat.mul_le_mul_right _ ?_)
        simp
        omega
      have HL := Lib.hid (HL0.out.stays hB0 (Nat.le_refl _))
      have HY := Lib.hid hy
      clear hB0 hmem hx hy
      have HLK : Hid ((m.m (⟨x.toArray⟩ : ByteArray).data.toList).getD ⟨#[]⟩ = y) := by
        apply Lib.hid
        show (m.m x).getD _ = y
        rw [HY.out]
        rfl
      have hxm : ByteArray.size ⟨x.toArray⟩ ≤ maxLen := by unfold maxLen; omega
      go_wp2_with (at_lookup; refine wpList_slook0 rfl _ _ rfl rfl HM.out ⟨x.toArray⟩ hxm rfl y HLK.out ?_)
      refine (record_any ⟨x.toArray⟩ y wr (by omega) (by omega) HL.out).mono ?_
      rintro e w5 ⟨rfl, hb5⟩
      have HB5 := Lib.hid (HB.out.trans (hb5.mono q))
      have q5 := HB5.out.size
      have hr5 := HR.out.stays (w' := w5) (fun k hk => hb5.block k (HR.out.lt k hk).1)
      have own5 := hr5.own
      unfold BRow at hr5
      clear hb5
      go_wp2_with (at_builtin; refine wpList_append_own_string _ rfl _ _ 75 9 rfl w2.heap.size 5 i0 Tryd.underlying75 Tryd.underlying9 hi hz0 hz1 hz2 _ _ _ rfl hr5 (recP ⟨x.toArray⟩ y) rfl (by unfold maxLen; omega) (by omega) q5 ?_; intro v6 w6 hown6 hg6 hnil6)
      have HR6 : Hid (BRow w6 w2.heap.size v6 (snapL (ss2.take (k + 1)) m.m)) := BRow.of_cells hown6 (by rw [HSN.out, List.length_append, ← Lib.size_eq]) (by rw [HSN.out, bytesV_app, strCells_eq])
      have HB6 := Lib.hid (HB5.out.grown hg6 q5 own5)
      clear hown6 hg6 hnil6 hr5 own5
      go_wp2_with fail
      go_roundg (ss2.length - (k + 1))
      case measure => omega
      case rel => exact ⟨k + 1, by omega, by omega, by go_num, HR6, HB6⟩
    · have hk2 : k = ss2.length := by omega
      subst hk2
      rw [List.take_length] at HR
      have hlt' : ¬ (ss2.length : Int) < (ss2.length : Int) := by omega
      have ht := HR.out.text
      have HF : Hid (∃ z : ByteArray, z = ⟨(snapL ss2 m.m).toArray⟩) := ⟨_, rfl⟩
      go_wp2_with fail
      try rw [ht]
      try go_wp2_with fail
      go_ret
      exact ⟨ss2, HK2.out, rfl, HB2.out.trans (HB.out.mono HB2.out.size)⟩

end Go.Proofs.YtmlmjchifelpkaaDoor
