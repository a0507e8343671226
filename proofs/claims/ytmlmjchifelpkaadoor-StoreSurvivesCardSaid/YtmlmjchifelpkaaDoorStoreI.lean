/- What a store's Compact and Put compute (where no snap is too long, and the log has room). -/
import Derived.Test.YtmlmjchifelpkaaDoorStoreH
namespace Go.Proofs.YtmlmjchifelpkaaDoor
open Go.RowKit Go.Lib Go.Maps Go.Sort
set_option linter.unusedVariables false
set_option maxRecDepth 100000

def sCompact (d : DiskP) (data : ByteArray) : Int × DiskP :=
  if (sInstead d nSnap data).1 = 0 then sFresh (sInstead d nSnap data).2 else sInstead d nSnap data

/-- A store in memory. -/
structure IsStore (w : World) (S g b mb : Nat) (d : DiskP) (m : MapP) : Prop where
  box : IsBox w S g mb
  disk : IsDisk w g b d
  map : IsMap w mb m
  ne_g : mb ≠ g
  ne_b : mb ≠ b
  ne_S : S ≠ mb

def CompactOut (S g b mb : Nat) (d : DiskP) (m : MapP) (w : World) (e : Ending) (w' : World) : Prop :=
  ∃ ss, KeysOf m ss ∧ e = .returned (.int .i64 (sCompact d ⟨(snapL ss m.m).toArray⟩).1) ∧ IsStore w' S g b mb (sCompact d ⟨(snapL ss m.m).toArray⟩).2 m ∧ Turn g b w w'

theorem IsStore.turn {w w' : World} {S g b mb : Nat} {d d' : DiskP} {m : MapP} (h : IsStore w S g b mb d m) (hd : IsDisk w' g b d') (ht : Turn g b w w') : IsStore w' S g b mb d' m :=
  ⟨h.box.turn ht (h.box.ne_g h.disk) (h.box.ne_b h.disk), hd, h.map.kept (ht.block mb h.map.lt h.ne_g h.ne_b), h.ne_g, h.ne_b, h.ne_S⟩
theorem IsStore.below {w w' : World} {S g b mb : Nat} {d : DiskP} {m : MapP} (h : IsStore w S g b mb d m) (hb : Below w.heap.size w w') : IsStore w' S g b mb d m :=
  h.turn (h.disk.below hb h.disk.lt h.disk.ltb) (Turn.of_below hb g b)

theorem arr_size (l : List UInt8) : ByteArray.size ⟨l.toArray⟩ = l.length := by show l.toArray.size = _; simp

theorem compact_any (S g b mb : Nat) (d : DiskP) (m : MapP) (w : World) (h : IsStore w S g b mb d m) (hok : m.Ok) (hl : Laid w) : Calls Tryd.prog 12 #[.pointer (some ⟨S, 0, none⟩)] w (CompactOut S g b mb d m w) := by
  have H := Lib.hid h
  have HL := Lib.hid hl
  have HOK := Lib.hid hok
  clear h hl hok
  go_enter Tryd.func12, Tryd.ntmps12
  go_wp2_with fail
  refine (snap_false S g mb m ⟨#[]⟩ ⟨#[]⟩ w H.out.box H.out.map HOK.out HOK.out.n HL.out (by decide)).mono ?_
  rintro e w1 ⟨ss, hks, rfl, hb1⟩
  have H1 := Lib.hid (H.out.below hb1)
  have HT1 := Lib.hid (Turn.of_below hb1 g b)
  have HK := Lib.hid hks
  have hz : ByteArray.size ⟨(snapL ss m.m).toArray⟩ ≤ maxLen := by
    rw [arr_size]
    have h1 := snapL_len m HOK.out ss (fun k hk => (hks.mem k).1 hk)
    have h2 := hks.len
    have h3 := HOK.out.n
    have h4 : ss.length * 66000 ≤ 1000 * 66000 := Nat.mul_le_mul_right _ (by omega)
    unfold maxLen
    omega
  have HI := Lib.hid (instead_any S g b mb d ⟨#[115, 110, 97, 112]⟩ ⟨(snapL ss m.m).toArray⟩ w1 H1.out.box H1.out.disk hz)
  rw [show (⟨#[115, 110, 97, 112]⟩ : ByteArray).data.toList = nSnap from rfl] at HI
  have HCO : Hid (∀ e w', (∃ d2 : DiskP, e = .returned (.int .i64 (sCompact d ⟨(snapL ss m.m).toArray⟩).1) ∧ d2 = (sCompact d ⟨(snapL ss m.m).toArray⟩).2 ∧ IsStore w' S g b mb d2 m ∧ Turn g b w w') → CompactOut S g b mb d m w e w') :=
    fun e w' ⟨d2, h1, h2, h3, h4⟩ => ⟨ss, HK.out, h1, h2 ▸ h3, h4⟩
  clear hks hb1 hz
  unfold sCompact at HCO
  generalize (⟨(snapL ss m.m).toArray⟩ : ByteArray) = data at *
  generalize hr : sInstead d nSnap data = r at *
  clear hr
  obtain ⟨n, d1⟩ := r
  simp only at HCO
  by_cases h0 : n = 0
  · subst h0
    simp only [if_true] at HCO
    go_wp2_with fail
    refine HI.out.mono ?_
    rintro e w2 ⟨rfl, hd2, ht2⟩
    have H2 := Lib.hid (H1.out.turn hd2 ht2)
    have HT2 := Lib.hid (HT1.out.trans ht2)
    clear hd2 ht2
    go_wp2_with fail
    refine (fresh_any S g b mb d1 w2 H2.out.box H2.out.disk).mono ?_
    rintro e w3 ⟨rfl, hd3, ht3⟩
    have H3 := Lib.hid (H2.out.turn hd3 ht3)
    have HT3 := Lib.hid (HT2.out.trans ht3)
    clear hd3 ht3
    go_wp2_with fail
    go_ret
    exact HCO.out _ _ ⟨_, rfl, rfl, H3.out, HT3.out⟩
  · simp only [h0, if_false] at HCO
    go_wp2_with fail
    refine HI.out.mono ?_
    rintro e w2 ⟨rfl, hd2, ht2⟩
    have H2 := Lib.hid (H1.out.turn hd2 ht2)
    have HT2 := Lib.hid (HT1.out.trans ht2)
    clear hd2 ht2
    go_wp2_with fail
    go_ret
    exact HCO.out _ _ ⟨_, rfl, rfl, H2.out, HT2.out⟩

end Go.Proofs.YtmlmjchifelpkaaDoor
