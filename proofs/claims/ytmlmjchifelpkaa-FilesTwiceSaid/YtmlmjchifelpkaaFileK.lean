/- What the disk's functions make of a disk that is up, told one by one; the law's own 'works'. -/
import Derived.Test.YtmlmjchifelpkaaFileJ
namespace Go.Proofs.Ytmlmjchifelpkaa
open Go.RowKit Go.Lib Go.Maps Go.Sort
set_option linter.unusedVariables false

theorem change_up {d : DiskP} (h1 : d.fused = false) (h2 : d.down = false) : dChange d = (true, d) := by
  obtain ⟨fs, n, fu, dn, l⟩ := d
  simp only at h1 h2
  subst h1 h2
  rfl

theorem write_up {d : DiskP} (h1 : d.fused = false) (h2 : d.down = false) {k : List UInt8} (hk : dMay k = true) {t : ByteArray} (ht : t.size ≤ 262144) (hn : (d.fs k).isSome = true ∨ d.n < 64) :
    dWrite d k t = (0, d.put k { (d.fs k).getD FileP.nil with has := t }) := by
  unfold dWrite
  rw [hk, if_pos rfl, if_neg, change_up h1 h2]
  · rfl
  · rintro (h | ⟨h, h'⟩)
    · omega
    · rcases hn with hn | hn
      · rw [h] at hn; cases hn
      · omega

theorem known_up {d : DiskP} {k : List UInt8} (hk : dMay k = true) {f : FileP} (hf : d.fs k = some f) : dKnown d k = (f, 0) := by
  unfold dKnown
  rw [hk, if_pos rfl, hf]

theorem sync_up {d : DiskP} (h1 : d.fused = false) (h2 : d.down = false) {k : List UInt8} (hk : dMay k = true) {f : FileP} (hf : d.fs k = some f) : dSync d k = (0, d.put k ⟨f.has, f.has, true⟩) := by
  unfold dSync
  rw [known_up hk hf, if_pos rfl, change_up h1 h2]
  rfl

theorem append_up {d : DiskP} (h1 : d.fused = false) (h2 : d.down = false) {k : List UInt8} (hk : dMay k = true) {f : FileP} (hf : d.fs k = some f) {t : ByteArray} (ht : f.has.size + t.size ≤ 262144) : dAppend d k t = (0, d.put k { f with has := f.has ++ t }) := by
  unfold dAppend
  rw [known_up hk hf, if_pos rfl, if_neg (by simp only []; omega), change_up h1 h2]
  rfl

section
variable {g b : Nat} {d d' : DiskP} {n : Int} {s t : ByteArray} {w : World}
theorem write_c (h : IsDisk w g b d) (ht : t.size ≤ maxLen) (e1 : dWrite d s.data.toList t = (n, d')) :
    Calls Try.prog 8 #[.pointer (some ⟨g, 0, none⟩), .string s, .string t] w fun e w' => e = .returned (.int .i64 n) ∧ IsDisk w' g b d' ∧ Turn g b w w' := by
  have := write_any g b d s t w h ht
  rw [e1] at this
  exact this
theorem append_c (h : IsDisk w g b d) (ht : t.size ≤ 281474976710656) (e1 : dAppend d s.data.toList t = (n, d')) :
    Calls Try.prog 10 #[.pointer (some ⟨g, 0, none⟩), .string s, .string t] w fun e w' => e = .returned (.int .i64 n) ∧ IsDisk w' g b d' ∧ Turn g b w w' := by
  have := append_any g b d s t w h ht
  rw [e1] at this
  exact this
theorem sync_c (h : IsDisk w g b d) (e1 : dSync d s.data.toList = (n, d')) :
    Calls Try.prog 9 #[.pointer (some ⟨g, 0, none⟩), .string s] w fun e w' => e = .returned (.int .i64 n) ∧ IsDisk w' g b d' ∧ Turn g b w w' := by
  have := sync_any g b d s w h
  rw [e1] at this
  exact this
theorem read_c {x : ByteArray} (h : IsDisk w g b d) (e1 : (dKnown d s.data.toList).1.has = x) (e2 : (dKnown d s.data.toList).2 = n) :
    Calls Try.prog 12 #[.pointer (some ⟨g, 0, none⟩), .string s] w fun e w' => e = .returned (.tuple #[.string x, .int .i64 n]) ∧ Below w.heap.size w w' := by
  have := read_any g b d s w h
  rw [e1, e2] at this
  exact this
/-- A crash of a disk whose names are known. -/
theorem crash_c {v : Value} {zs : List Int} {ss : List (List UInt8)} (h : IsDisk w g b d) (hz : DrawsAt g b w v zs) (hl : zs.length ≤ 16384) (hs : NamesOf d ss) (e1 : crashOn ss zs d.up = d') :
    Calls Try.prog 11 #[.pointer (some ⟨g, 0, none⟩), v] w fun e w' => e = .returned (.int .i64 0) ∧ IsDisk w' g b d' ∧ Turn g b w w' := by
  refine (crash_any g b d v zs w h hz hl).mono ?_
  rintro e w' ⟨ts, hts, rfl, hd, ht⟩
  have := hts.one hs (fun _ => rfl)
  subst this
  rw [e1] at hd
  exact ⟨rfl, hd, ht⟩
end

theorem draws_one {g b : Nat} {w : World} {z : Int} {N : Nat} (hN : N < w.heap.size) (h1 : N ≠ g) (h2 : N ≠ b) (hc : w.cell? ⟨N, 0, none⟩ = some (.int .i64 z)) : DrawsAt g b w (.slice (some ⟨N, 0, none⟩) 1 1) [z] :=
  ⟨_, 1, rfl, by simp, by decide, fun _ => ⟨N, 0, rfl, h1, h2, hN, fun j hj => by
    have : j = 0 := by simpa using hj
    subst this
    exact hc⟩⟩

/-- One file 'a', written, synced, with more put behind it. -/
def dA1 (data : ByteArray) : DiskP := dNew.put [97] ⟨data, ⟨#[]⟩, false⟩
def dA2 (data : ByteArray) : DiskP := (dA1 data).put [97] ⟨data, data, true⟩
def dA (data more : ByteArray) : DiskP := (dA2 data).put [97] ⟨data ++ more, data, true⟩
theorem may_a : dMay [97] = true := rfl
theorem may_b : dMay [98] = true := rfl
theorem sA1 (data : ByteArray) (h : data.size ≤ 262144) : dWrite dNew [97] data = (0, dA1 data) := write_up (d := dNew) rfl rfl may_a h (Or.inr (by decide))
theorem sA2 (data : ByteArray) : dSync (dA1 data) [97] = (0, dA2 data) := sync_up (d := dA1 data) (f := ⟨data, ⟨#[]⟩, false⟩) rfl rfl may_a rfl
theorem sA3 (data more : ByteArray) (h : data.size + more.size ≤ 262144) : dAppend (dA2 data) [97] more = (0, dA data more) := append_up (d := dA2 data) (f := ⟨data, data, true⟩) rfl rfl may_a rfl h

theorem dA_one (data more : ByteArray) : (dA data more).fs [97] = some ⟨data ++ more, data, true⟩ := rfl
theorem dA_names (data more : ByteArray) : NamesOf (dA data more) [[97]] := by
  refine ⟨fun k => ?_, by simp, by simp, ?_, ?_⟩
  · by_cases h : k = [97] <;> simp [dA, dA2, dA1, DiskP.put, putF, dNew, h]
  · simp [dA, dA2, dA1, DiskP.put, putF, dNew]
  · intro k hk; simp at hk; subst hk; decide

def works_end : DiskP := crashOn [[97]] [1] (dA ⟨#[120]⟩ ⟨#[121, 122]⟩).up
theorem works_end_read : (dKnown works_end [97]).1.has = ⟨#[120, 121]⟩ ∧ (dKnown works_end [97]).2 = 0 := by
  have h : dKnown works_end [97] = (⟨⟨#[120, 121]⟩, ⟨#[120, 121]⟩, true⟩, 0) := by kernel_rfl
  rw [h]
  exact ⟨rfl, rfl⟩

theorem works_any (w : World) : Calls Try.prog 7 #[] w fun e w' => e = .returned (.bool true) ∧ Below w.heap.size w w' := by
  have e1 := sA1 ⟨#[120]⟩ (by decide)
  have e2 := sA2 ⟨#[120]⟩
  have e3 := sA3 ⟨#[120]⟩ ⟨#[121, 122]⟩ (by decide)
  have H1 := Lib.hid e1
  have H2 := Lib.hid e2
  have H3 := Lib.hid e3
  clear e1 e2 e3
  go_enter Try.func7, Try.ntmps7
  go_wp2_with fail
  refine (new_any _).mono ?_
  rintro e w1 ⟨rfl, hd1, hb1⟩
  have hlt := hd1.lt
  have HD1 := Lib.hid hd1
  have HB1 := Lib.hid hb1
  clear hd1 hb1
  go_wp2_with fail
  refine (write_c HD1.out (by decide) H1.out).mono ?_
  rintro e w2 ⟨rfl, hd2, ht2⟩
  have HD2 := Lib.hid hd2
  have HT2 := Lib.hid ht2
  clear hd2 ht2
  go_wp2_with fail
  refine (sync_c HD2.out H2.out).mono ?_
  rintro e w3 ⟨rfl, hd3, ht3⟩
  have HD3 := Lib.hid hd3
  have HT3 := Lib.hid ht3
  clear hd3 ht3
  go_wp2_with fail
  refine (append_c HD3.out (by decide) H3.out).mono ?_
  rintro e w4 ⟨rfl, hd4, ht4⟩
  have HD4 := Lib.hid hd4
  have HT4 := Lib.hid ht4
  have hg4 := hd4.lt
  have hb4 := hd4.ltb
  clear hd4 ht4
  go_wp2_with fail
  refine (crash_c (d' := works_end) (HD4.out.alloc _) (draws_one (z := 1) (by simp) (by omega) (by omega) (by simp)) (by decide) (dA_names _ _) rfl).mono ?_
  rintro e w5 ⟨rfl, hd5, ht5⟩
  have HD5 := Lib.hid hd5
  have HT5 := Lib.hid ht5
  clear hd5 ht5
  go_wp2_with fail
  refine (read_c (s := ⟨#[97]⟩) HD5.out works_end_read.1 works_end_read.2).mono ?_
  rintro e w6 ⟨rfl, hb6⟩
  have hb7 : Below w.heap.size w w6 := by
    refine HB1.out.trans ?_
    have ht := ((((HT2.out.trans HT3.out).trans HT4.out).alloc (.cells #[.int .i64 1] 3)).trans HT5.out).trans (Turn.of_below hb6 _ _)
    exact ht.below HB1.out.size (by omega) (by omega)
  have HB7 := Lib.hid hb7
  clear hb6 hb7
  go_wp2
  go_ret
  exact ⟨rfl, HB7.out⟩

end Go.Proofs.Ytmlmjchifelpkaa
