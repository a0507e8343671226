/- A store in memory; the contracts of its fresh, instead, Get. -/
import Derived.Test.YtmlmjchifelpkaaDoorStoreB
import Derived.Test.YtmlmjchifelpkaaDoorCodeO
import Derived.Test.YtmlmjchifelpkaaDoorFileJ
namespace Go.Proofs.YtmlmjchifelpkaaDoor
open Go.RowKit Go.Lib Go.Maps
set_option linter.unusedVariables false
set_option maxRecDepth 100000

def nSnap : List UInt8 := [115, 110, 97, 112]
def nLog : List UInt8 := [108, 111, 103]
def nTemp : List UInt8 := [116, 101, 109, 112]

/-- What fresh and instead make of a disk. -/
def sFresh (d : DiskP) : Int × DiskP :=
  if (dWrite d nLog ⟨#[]⟩).1 = 0 then dSync (dWrite d nLog ⟨#[]⟩).2 nLog else dWrite d nLog ⟨#[]⟩
def sInstead (d : DiskP) (k : List UInt8) (data : ByteArray) : Int × DiskP :=
  if (dWrite d nTemp data).1 = 0 then
    if (dSync (dWrite d nTemp data).2 nTemp).1 = 0 then dRename (dSync (dWrite d nTemp data).2 nTemp).2 nTemp k
    else dSync (dWrite d nTemp data).2 nTemp
  else dWrite d nTemp data

/-- A store's own block. -/
def IsBox (w : World) (S g mb : Nat) : Prop := w.heap[S]? = some (.cells #[.pointer (some ⟨g, 0, none⟩), .map (some mb)] 51 (0, 0))
theorem IsBox.c0 {w : World} {S g mb : Nat} (h : IsBox w S g mb) : w.cell? ⟨S, 0, none⟩ = some (.pointer (some ⟨g, 0, none⟩)) := cell_of_heap h 0 _ rfl
theorem IsBox.c1 {w : World} {S g mb : Nat} (h : IsBox w S g mb) : w.cell? ⟨S, 1, none⟩ = some (.map (some mb)) := cell_of_heap h 1 _ rfl
theorem IsBox.lt {w : World} {S g mb : Nat} (h : IsBox w S g mb) : S < w.heap.size := (Array.getElem?_eq_some_iff.1 h).1
theorem IsBox.turn {w w' : World} {S g mb a b : Nat} (h : IsBox w S g mb) (ht : Turn a b w w') (h1 : S ≠ a) (h2 : S ≠ b) : IsBox w' S g mb := (ht.block S h.lt h1 h2).trans h
theorem IsBox.ne_g {w : World} {S g mb b : Nat} {d : DiskP} (h : IsBox w S g mb) (hd : IsDisk w g b d) : S ≠ g := by
  intro e
  have h1 := hd.box
  rw [← e, show w.heap[S]? = _ from h] at h1
  cases h1
theorem IsBox.ne_b {w : World} {S g mb b : Nat} {d : DiskP} (h : IsBox w S g mb) (hd : IsDisk w g b d) : S ≠ b := by
  intro e
  obtain ⟨D, ⟨es, clock, h1, _⟩, _⟩ := hd.files
  rw [← e, show w.heap[S]? = _ from h] at h1
  cases h1

/-- What a store's call leaves of its disk. -/
def SOut (g b : Nat) (r : Int × DiskP) (w : World) (e : Ending) (w' : World) : Prop := e = .returned (.int .i64 r.1) ∧ IsDisk w' g b r.2 ∧ Turn g b w w'

theorem fresh_any (S g b mb : Nat) (d : DiskP) (w : World) (hS : IsBox w S g mb) (h : IsDisk w g b d) : Calls Tryd.prog 23 #[.pointer (some ⟨S, 0, none⟩)] w (SOut g b (sFresh d) w) := by
  have hg := hS.ne_g h
  have hb := hS.ne_b h
  have c0 := hS.c0
  have HS := Lib.hid hS
  have HD := Lib.hid h
  clear hS h
  by_cases e1 : (dWrite d nLog ⟨#[]⟩).1 = 0
  · have er : sFresh d = dSync (dWrite d nLog ⟨#[]⟩).2 nLog := if_pos e1
    rw [er]
    have HW := Lib.hid (write_any g b d ⟨#[108, 111, 103]⟩ ⟨#[]⟩ w HD.out (by decide))
    rw [show (⟨#[108, 111, 103]⟩ : ByteArray).data.toList = nLog from rfl, e1] at HW
    clear er e1
    generalize (dWrite d nLog ⟨#[]⟩).2 = d1 at *
    go_enter Tryd.func23, Tryd.ntmps23
    go_wp2_with fail
    refine HW.out.mono ?_
    rintro e w1 ⟨rfl, hd1, ht1⟩
    have c1 := (HS.out.turn ht1 hg hb).c0
    have HD1 := Lib.hid hd1
    have HT1 := Lib.hid ht1
    clear hd1 ht1
    go_wp2_with fail
    refine (sync_any g b d1 ⟨#[108, 111, 103]⟩ w1 HD1.out).mono ?_
    rintro e w2 ⟨rfl, hd2, ht2⟩
    have HD2 := Lib.hid hd2
    have HT2 := Lib.hid (HT1.out.trans ht2)
    clear hd2 ht2
    go_wp2_with fail
    go_ret
    exact ⟨rfl, HD2.out, HT2.out⟩
  · have er : sFresh d = dWrite d nLog ⟨#[]⟩ := if_neg e1
    rw [er]
    have HW := Lib.hid (write_any g b d ⟨#[108, 111, 103]⟩ ⟨#[]⟩ w HD.out (by decide))
    rw [show (⟨#[108, 111, 103]⟩ : ByteArray).data.toList = nLog from rfl] at HW
    clear er
    generalize dWrite d nLog ⟨#[]⟩ = r at *
    obtain ⟨n, d1⟩ := r
    simp only at e1
    go_enter Tryd.func23, Tryd.ntmps23
    go_wp2_with fail
    refine HW.out.mono ?_
    rintro e w1 ⟨rfl, hd1, ht1⟩
    have HD1 := Lib.hid hd1
    have HT1 := Lib.hid ht1
    clear hd1 ht1
    go_wp2_with fail
    go_ret
    exact ⟨rfl, HD1.out, HT1.out⟩

theorem instead_any (S g b mb : Nat) (d : DiskP) (nm t : ByteArray) (w : World) (hS : IsBox w S g mb) (h : IsDisk w g b d) (ht : t.size ≤ maxLen) : Calls Tryd.prog 25 #[.pointer (some ⟨S, 0, none⟩), .string nm, .string t] w (SOut g b (sInstead d nm.data.toList t) w) := by
  have hg := hS.ne_g h
  have hb := hS.ne_b h
  have c0 := hS.c0
  have HS := Lib.hid hS
  have HW := Lib.hid (write_any g b d ⟨#[116, 101, 109, 112]⟩ t w h ht)
  rw [show (⟨#[116, 101, 109, 112]⟩ : ByteArray).data.toList = nTemp from rfl] at HW
  clear hS h ht
  unfold sInstead
  generalize dWrite d nTemp t = r at *
  obtain ⟨n, d1⟩ := r
  simp only at HW
  by_cases e1 : n = 0
  · subst e1
    simp only [if_true]
    have HY : Hid (∀ w1, IsDisk w1 g b d1 → Calls Tryd.prog 30 #[.pointer (some ⟨g, 0, none⟩), .string ⟨#[116, 101, 109, 112]⟩] w1 fun e w' => e = .returned (.int .i64 (dSync d1 nTemp).1) ∧ IsDisk w' g b (dSync d1 nTemp).2 ∧ Turn g b w1 w') :=
      Lib.hid (fun w1 h1 => sync_any g b d1 ⟨#[116, 101, 109, 112]⟩ w1 h1)
    generalize dSync d1 nTemp = r2 at *
    obtain ⟨n2, d2⟩ := r2
    simp only at HY
    by_cases e2 : n2 = 0
    · subst e2
      simp only [if_true]
      go_enter Tryd.func25, Tryd.ntmps25
      go_wp2_with fail
      refine HW.out.mono ?_
      rintro e w1 ⟨rfl, hd1, ht1⟩
      have hS1 := HS.out.turn ht1 hg hb
      have c1 := hS1.c0
      have HS1 := Lib.hid hS1
      have HD1 := Lib.hid hd1
      have HT1 := Lib.hid ht1
      clear hd1 ht1 hS1 c0
      go_wp2_with fail
      refine (HY.out w1 HD1.out).mono ?_
      rintro e w2 ⟨rfl, hd2, ht2⟩
      have c2 := (HS1.out.turn ht2 hg hb).c0
      have HD2 := Lib.hid hd2
      have HT2 := Lib.hid (HT1.out.trans ht2)
      clear hd2 ht2 c1
      go_wp2_with fail
      refine (rename_any g b d2 ⟨#[116, 101, 109, 112]⟩ nm w2 HD2.out).mono ?_
      rintro e w3 ⟨rfl, hd3, ht3⟩
      have HD3 := Lib.hid hd3
      have HT3 := Lib.hid (HT2.out.trans ht3)
      clear hd3 ht3
      go_wp2_with fail
      go_ret
      exact ⟨rfl, HD3.out, HT3.out⟩
    · simp only [e2, if_false]
      go_enter Tryd.func25, Tryd.ntmps25
      go_wp2_with fail
      refine HW.out.mono ?_
      rintro e w1 ⟨rfl, hd1, ht1⟩
      have c1 := (HS.out.turn ht1 hg hb).c0
      have HD1 := Lib.hid hd1
      have HT1 := Lib.hid ht1
      clear hd1 ht1 c0
      go_wp2_with fail
      refine (HY.out w1 HD1.out).mono ?_
      rintro e w2 ⟨rfl, hd2, ht2⟩
      have HD2 := Lib.hid hd2
      have HT2 := Lib.hid (HT1.out.trans ht2)
      clear hd2 ht2 c1
      go_wp2_with fail
      go_ret
      exact ⟨rfl, HD2.out, HT2.out⟩
  · simp only [e1, if_false]
    go_enter Tryd.func25, Tryd.ntmps25
    go_wp2_with fail
    refine HW.out.mono ?_
    rintro e w1 ⟨rfl, hd1, ht1⟩
    have HD1 := Lib.hid hd1
    have HT1 := Lib.hid ht1
    clear hd1 ht1
    go_wp2_with fail
    go_ret
    exact ⟨rfl, HD1.out, HT1.out⟩

/-- What Get answers. -/
def sGet (m : MapP) (k : ByteArray) : ByteArray × Int :=
  if 1 ≤ k.size ∧ k.size ≤ 64 then match m.m k.data.toList with | some v => (v, 0) | none => (⟨#[]⟩, 5) else (⟨#[]⟩, 170)

theorem get_any (S g mb : Nat) (m : MapP) (k : ByteArray) (w : World) (hS : IsBox w S g mb) (hm : IsMap w mb m) (hk : k.size ≤ maxLen) : Calls Tryd.prog 15 #[.pointer (some ⟨S, 0, none⟩), .string k] w fun e w' => e = .returned (.tuple #[.string (sGet m k).1, .int .i64 (sGet m k).2]) ∧ w = w' := by
  have c1 := hS.c1
  have HM := Lib.hid hm
  clear hS hm
  unfold sGet
  by_cases hv : 1 ≤ k.size ∧ k.size ≤ 64
  · rw [if_pos hv]
    cases hq : m.m k.data.toList with
    | none =>
      have hg : (m.m k.data.toList).getD ⟨#[]⟩ = (⟨#[]⟩ : ByteArray) := by rw [hq]; rfl
      have hs : (m.m k.data.toList).isSome = false := by rw [hq]; rfl
      clear hq
      go_enter Tryd.func15, Tryd.ntmps15
      go_wp2_with fail
      refine (smay_any k _ hv).mono ?_
      rintro e w' ⟨rfl, rfl⟩
      go_wp2_with (at_lookup; refine wpList_slook rfl _ _ rfl rfl HM.out k hk rfl _ hg ?_)
      go_ret2
      exact ⟨rfl, rfl⟩
    | some x =>
      have hg : (m.m k.data.toList).getD ⟨#[]⟩ = x := by rw [hq]; rfl
      have hs : (m.m k.data.toList).isSome = true := by rw [hq]; rfl
      clear hq
      go_enter Tryd.func15, Tryd.ntmps15
      go_wp2_with fail
      refine (smay_any k _ hv).mono ?_
      rintro e w' ⟨rfl, rfl⟩
      go_wp2_with (at_lookup; refine wpList_slook rfl _ _ rfl rfl HM.out k hk rfl _ hg ?_)
      go_ret2
      exact ⟨rfl, rfl⟩
  · rw [if_neg hv]
    go_enter Tryd.func15, Tryd.ntmps15
    go_wp2_with fail
    refine (smay_not k _ hv).mono ?_
    rintro e w' ⟨rfl, rfl⟩
    go_wp2_with fail
    go_ret2
    exact ⟨rfl, rfl⟩

end Go.Proofs.YtmlmjchifelpkaaDoor
