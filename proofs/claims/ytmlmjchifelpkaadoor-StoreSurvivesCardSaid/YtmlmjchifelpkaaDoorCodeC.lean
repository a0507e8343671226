/- The contracts of package code's four, Frame: rows of bytes that the calls make. -/
import Derived.Test.YtmlmjchifelpkaaDoorCodeB
import Derived.OwnWalk
import Derived.Lib.AppendStr
import Derived.Lib.BufferRead
import Derived.Laws.IdiomStrings
namespace Go.Proofs.YtmlmjchifelpkaaDoor
open Go.RowKit Go.Lib
set_option linter.unusedVariables false
set_option maxRecDepth 100000

def bytesV (l : List UInt8) : List Value := l.map fun c => Value.int .u8 c.toNat
/-- The slice v owns these bytes. -/
def BRow (w : World) (B : Nat) (v : Value) (l : List UInt8) : Prop := w.ownsRow B 5 1 v l.length (bytesV l)

theorem infoU8 : (Tryd.prog.info? 5).map (fun i => (i.zero, i.size, i.bytes)) = some (some (.int .u8 0), 1, 1) := by kernel_rfl

theorem bytesV_len (l : List UInt8) : (bytesV l).length = l.length := by simp [bytesV]
theorem bytesV_app (l m : List UInt8) : bytesV (l ++ m) = bytesV l ++ bytesV m := by simp [bytesV]
theorem bytesV_one (l : List UInt8) : ∀ u ∈ bytesV l, u.oneCell' = true := by
  intro u hu
  simp only [bytesV, List.mem_map] at hu
  obtain ⟨c, _, rfl⟩ := hu
  rfl
theorem strCells_eq (s : ByteArray) : strCells s = bytesV s.data.toList := rfl

theorem BRow.of_cells {w : World} {B : Nat} {v : Value} {n : Nat} {xs : List Value} {l : List UInt8} (h : w.ownsRow B 5 1 v n xs) (hn : n = l.length) (hx : xs = bytesV l) : BRow w B v l := by
  subst hn hx; exact h
theorem BRow.nil (w : World) (B : Nat) : BRow w B (.slice none 0 0) [] := ⟨rfl, .inl ⟨rfl, rfl⟩⟩
theorem BRow.own {w : World} {B : Nat} {v : Value} {l : List UInt8} (h : BRow w B v l) : ∀ k, v.ownBlock = some k → B ≤ k := by
  rcases h.2 with ⟨rfl, _⟩ | ⟨g, cap, cur, rfl, hb, _⟩
  · intro k hk; cases hk
  · intro k hk; cases hk; exact hb

theorem fourB_cells (n : Nat) (hn : n < 4294967296) : [Value.int .u8 ((n : Int) % 256), Value.int .u8 ((n : Int) / 256 % 256), Value.int .u8 ((n : Int) / 65536 % 256), Value.int .u8 ((n : Int) / 16777216)] = bytesV (fourB n) := by
  simp only [bytesV, fourB, List.map_cons, List.map_nil, UInt8.toNat_ofNat', List.cons.injEq, Value.int.injEq, true_and, and_true]
  refine ⟨?_, ?_, ?_, ?_⟩ <;> omega

theorem cell_four_new (w : World) (x y z u : Value) (t : TypeId) : ∀ j v, [x, y, z, u][j]? = some v → (w.alloc (.cells #[x, y, z, u] t)).cell? ((⟨w.heap.size, 0, none⟩ : Addr).add j) = some v := by
  intro j v hj
  match j, hj with
  | 0, hj => simp at hj; subst hj; simp [Addr.add]
  | 1, hj => simp at hj; subst hj; simp [Addr.add]
  | 2, hj => simp at hj; subst hj; simp [Addr.add]
  | 3, hj => simp at hj; subst hj; simp [Addr.add]

theorem four_any (B : Nat) (v : Value) (l : List UInt8) (n : Nat) (w : World) (hn : n < 4294967296) (hr : BRow w B v l) (hB : B ≤ w.heap.size) (hl : l.length ≤ 1000000) :
    Calls Tryd.prog 60 #[v, .int .u32 n] w fun e w' => ∃ v', e = .returned v' ∧ BRow w' B v' (l ++ fourB n) ∧ Below B w w' := by
  obtain ⟨i0, hi, hz0, hz1, hz2⟩ := info_parts infoU8
  have hown := hr.own
  have hF := fourB_cells n hn
  have HF := Lib.hid hF
  clear hF
  unfold BRow at hr
  go_enter Tryd.func60, Tryd.ntmps60
  go_wp2_with (at_builtin; refine wpList_append_own _ rfl _ _ 75 rfl B 5 i0 (.int .u8 0) 1 1 Tryd.underlying75 hi hz0 hz1 hz2 rfl (by decide) _ _ _ rfl (hr.alloc _) ⟨w.heap.size, 0, none⟩ 4 4 [Value.int .u8 ((n : Int) % 256), Value.int .u8 ((n : Int) / 256 % 256), Value.int .u8 ((n : Int) / 65536 % 256), Value.int .u8 ((n : Int) / 16777216)] rfl rfl (cell_four_new _ _ _ _ _ _) (by simp [Value.oneCell']) (by unfold maxLen; omega) (by omega) (by simp; omega) ?_; intro v' w3 hown' hg3 hnil3)
  rw [HF.out] at hown'
  have HO := Lib.hid hown'
  have HG := Lib.hid hg3
  clear hown' hg3 hnil3
  go_wp2
  go_ret
  exact ⟨_, rfl, BRow.of_cells HO.out (by simp [fourB]) (bytesV_app _ _).symm, ((Below.refl _ _).alloc hB _).grown HG.out (by simp; omega) hown⟩

theorem BRow.text {w : World} {B : Nat} {v : Value} {l : List UInt8} (h : BRow w B v l) : (convert 75 9 v).run Tryd.prog w = .ok (.string ⟨l.toArray⟩) w := by
  rcases h.2 with ⟨rfl, hn⟩ | ⟨g, cap, cur, rfl, hb, hg, hnc, hcm, hcs, ht⟩
  · have : l = [] := List.length_eq_zero_iff.1 hn
    subst this
    exact run_convert_nil_bytes w _ _ _ _ Tryd.underlying75 Tryd.underlying5 Tryd.underlying9
  · refine run_convert_bytes_back w _ _ _ ⟨g, 0, none⟩ cap l Tryd.underlying75 Tryd.underlying5 Tryd.underlying9 (bytes_of_row hg ?_)
    rw [Nat.mul_one] at ht
    exact ht

theorem frame_any (s : ByteArray) (w : World) (hs : s.size ≤ 262144) (hl : Laid w) :
    Calls Tryd.prog 44 #[.string s] w fun e w' => e = .returned (.tuple #[.string (frameP s), .int .i64 0]) ∧ Below w.heap.size w w' := by
  obtain ⟨i0, hi, hz0, hz1, hz2⟩ := info_parts infoU8
  have HL := Lib.hid hl
  clear hl
  have hb := crcP_lt s
  have e0 : (s.size : Int) % 4294967296 = (s.size : Int) := by omega
  go_enter Tryd.func44, Tryd.ntmps44
  go_wp2_with fail
  refine (four_any w.heap.size _ [] s.size _ (by omega) (BRow.nil _ _) (Nat.le_refl _) (by simp)).mono ?_
  rintro e w1 ⟨v1, rfl, hr1, hb1⟩
  rw [List.nil_append] at hr1
  have HR1 := Lib.hid hr1
  have HB1 := Lib.hid hb1
  clear hr1 hb1
  go_wp2_with fail
  refine (crc_any s _ (by unfold maxLen; omega) (HL.out.stays HB1.out (Nat.le_refl _))).mono ?_
  rintro e w1 ⟨rfl, rfl⟩
  go_wp2_with fail
  refine (four_any w.heap.size _ _ (crcP s) _ (by omega) HR1.out HB1.out.size (by simp [fourB])).mono ?_
  rintro e w2 ⟨v2, rfl, hr2, hb2⟩
  have HB2 := Lib.hid (HB1.out.trans hb2)
  have q2 := HB2.out.size
  have own2 := hr2.own
  unfold BRow at hr2
  clear hb2
  go_wp2_with (at_builtin; refine wpList_append_own_string _ rfl _ _ 75 9 rfl w.heap.size 5 i0 Tryd.underlying75 Tryd.underlying9 hi hz0 hz1 hz2 _ _ _ rfl hr2 s rfl (by show 8 + s.size ≤ maxLen; unfold maxLen; omega) (by show 8 + s.size ≤ 140737488355328; omega) q2 ?_; intro v3 w3 hown3 hg3 hnil3)
  have hr3 : BRow w3 w.heap.size v3 (fourB s.size ++ fourB (crcP s) ++ s.data.toList) := BRow.of_cells hown3 (by rw [List.length_append (bs := s.data.toList), ← Lib.size_eq s]) (by rw [strCells_eq, ← bytesV_app])
  have ht := hr3.text
  have HB3 := Lib.hid (HB2.out.grown hg3 q2 own2)
  have HF : Hid ((⟨(fourB s.size ++ fourB (crcP s) ++ s.data.toList).toArray⟩ : ByteArray) = frameP s) := Lib.hid rfl
  generalize (⟨(fourB s.size ++ fourB (crcP s) ++ s.data.toList).toArray⟩ : ByteArray) = z at *
  clear hr3 hg3 hnil3 hown3
  go_wp2_with fail
  rw [ht]
  go_wp2_with fail
  go_ret2
  exact ⟨congrArg (fun z => Ending.returned (Value.tuple #[Value.string z, Value.int .i64 0])) HF.out, HB3.out⟩

end Go.Proofs.YtmlmjchifelpkaaDoor
