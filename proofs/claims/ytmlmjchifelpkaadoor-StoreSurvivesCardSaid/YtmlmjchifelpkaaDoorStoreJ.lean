/- What a store's Put computes (where no snap is too long, and the log has room). -/
import Derived.Test.YtmlmjchifelpkaaDoorStoreI
namespace Go.Proofs.YtmlmjchifelpkaaDoor
open Go.RowKit Go.Lib Go.Maps Go.Sort
set_option linter.unusedVariables false
set_option maxRecDepth 100000

theorem snap_put (S g mb : Nat) (m : MapP) (key value : ByteArray) (w : World) (hS : IsBox w S g mb) (hm : IsMap w mb m) (hok : (m.put key.data.toList value).Ok) (hn : m.n ≤ 1000) (hl : Laid w) (hk : key.size ≤ 64) :
    Calls Tryd.prog 27 #[.pointer (some ⟨S, 0, none⟩), .string key, .string value, .bool true] w (SnapOut (m.put key.data.toList value) w) := by
  cases h : m.m key.data.toList with
  | none => exact snap_new S g mb m key value w hS hm hok hn hl hk h
  | some x => exact snap_same S g mb m key value w hS hm hok hn hl (by unfold maxLen; omega) (by rw [h]; rfl)

/-- Of what was there nothing turns but three blocks. -/
structure Turn3 (g b c : Nat) (w w' : World) : Prop where
  os : w'.os = w.os
  tape : w'.tape = w.tape
  output : w'.output = w.output
  size : w.heap.size ≤ w'.heap.size
  block : ∀ k, k < w.heap.size → k ≠ g → k ≠ b → k ≠ c → w'.heap[k]? = w.heap[k]?
section
variable {g b c : Nat} {w w' w'' : World}
theorem Turn3.refl (g b c : Nat) (w : World) : Turn3 g b c w w := ⟨rfl, rfl, rfl, Nat.le_refl _, fun _ _ _ _ _ => rfl⟩
theorem Turn3.trans (h : Turn3 g b c w w') (k : Turn3 g b c w' w'') : Turn3 g b c w w'' := ⟨k.os.trans h.os, k.tape.trans h.tape, k.output.trans h.output, Nat.le_trans h.size k.size, fun i hi a1 a2 a3 => (k.block i (Nat.lt_of_lt_of_le hi h.size) a1 a2 a3).trans (h.block i hi a1 a2 a3)⟩
theorem Turn3.of_turn (h : Turn g b w w') (c : Nat) : Turn3 g b c w w' := ⟨h.os, h.tape, h.output, h.size, fun k hk a1 a2 _ => h.block k hk a1 a2⟩
theorem Turn3.of_below (h : Below w.heap.size w w') (g b c : Nat) : Turn3 g b c w w' := ⟨h.os, h.tape, h.output, h.size, fun k hk _ _ _ => h.block k hk⟩
theorem Turn3.of_grown (h : w.grownBy w' (some c)) (g b : Nat) : Turn3 g b c w w' := ⟨h.os, h.tape, h.output, h.size, fun k hk _ _ h3 => h.block k hk (by simpa using h3)⟩
theorem Turn3.below {B : Nat} (h : Turn3 g b c w w') (hB : B ≤ w.heap.size) (h1 : B ≤ g) (h2 : B ≤ b) (h3 : B ≤ c) : Below B w w' := ⟨h.os, h.tape, h.output, h.size, fun k hk => h.block k (by omega) (by omega) (by omega) (by omega)⟩
end

/-- What Put makes of a store, where nothing is too long. -/
def sPut (d : DiskP) (m : MapP) (k v : ByteArray) : Int × DiskP × MapP :=
  if 1 ≤ k.size ∧ k.size ≤ 64 then
    if (dAppend d nLog (recP k v)).1 = 0 then
      if (dSync (dAppend d nLog (recP k v)).2 nLog).1 = 0 then (0, (dSync (dAppend d nLog (recP k v)).2 nLog).2, m.put k.data.toList v)
      else ((dSync (dAppend d nLog (recP k v)).2 nLog).1, (dSync (dAppend d nLog (recP k v)).2 nLog).2, m)
    else ((dAppend d nLog (recP k v)).1, (dAppend d nLog (recP k v)).2, m)
  else (170, d, m)
def PutOut (S g b mb : Nat) (r : Int × DiskP × MapP) (w : World) (e : Ending) (w' : World) : Prop := e = .returned (.int .i64 r.1) ∧ IsStore w' S g b mb r.2.1 r.2.2 ∧ Turn3 g b mb w w'

theorem put_bad (S g b mb : Nat) (d : DiskP) (m : MapP) (k v : ByteArray) (w : World) (h : IsStore w S g b mb d m) (hk : ¬ (1 ≤ k.size ∧ k.size ≤ 64)) :
    Calls Tryd.prog 9 #[.pointer (some ⟨S, 0, none⟩), .string k, .string v] w (PutOut S g b mb (sPut d m k v) w) := by
  have e : sPut d m k v = (170, d, m) := if_neg hk
  rw [e]
  have H := Lib.hid h
  clear h e
  go_enter Tryd.func9, Tryd.ntmps9
  go_wp2_with fail
  refine (smay_not k _ hk).mono ?_
  rintro e w' ⟨rfl, rfl⟩
  go_wp2_with fail
  go_ret
  exact ⟨rfl, H.out, Turn3.refl _ _ _ _⟩

theorem put_any (S g b mb : Nat) (d : DiskP) (m : MapP) (k v : ByteArray) (w : World) (h : IsStore w S g b mb d m) (hk : 1 ≤ k.size ∧ k.size ≤ 64) (hv : v.size ≤ 65536) (hok : (m.put k.data.toList v).Ok) (hn : m.n ≤ 1000) (hl : Laid w)
    (hsn : ∀ ss, KeysOf (m.put k.data.toList v) ss → (snapL ss (m.put k.data.toList v).m).length ≤ 262144) (hlog : (dKnown d nLog).1.has.size + (recP k v).size ≤ 262144) :
    Calls Tryd.prog 9 #[.pointer (some ⟨S, 0, none⟩), .string k, .string v] w (PutOut S g b mb (sPut d m k v) w) := by
  obtain ⟨R, hR⟩ : ∃ R, R = sPut d m k v := ⟨_, rfl⟩
  rw [← hR]
  have HP := Lib.hid hR
  clear hR
  have hrz := recP_size k v (by omega) (by omega)
  unfold sPut at HP
  rw [if_pos hk] at HP
  have H := Lib.hid h
  have HL := Lib.hid hl
  have HOK := Lib.hid hok
  have HSN := Lib.hid hsn
  have hvz : ¬ (65536 : Int) < (v.size : Int) := by omega
  have HK := Lib.hid hk
  clear h hl hok hsn hk
  go_enter Tryd.func9, Tryd.ntmps9
  go_wp2_with fail
  refine (smay_any k _ HK.out).mono ?_
  rintro e w' ⟨rfl, rfl⟩
  go_wp2_with fail
  refine (snap_put S g mb m k v w H.out.box H.out.map HOK.out hn HL.out HK.out.2).mono ?_
  rintro e w1 ⟨ss, hks, rfl, hb1⟩
  have hsz : ¬ (262144 : Int) < (ByteArray.size ⟨(snapL ss (m.put k.data.toList v).m).toArray⟩ : Int) := by
    rw [arr_size]
    have := HSN.out ss hks
    omega
  have H1 := Lib.hid (H.out.below hb1)
  have HT1 := Lib.hid (Turn3.of_below hb1 g b mb)
  have HL1 := Lib.hid (HL.out.stays hb1 (Nat.le_refl _))
  clear hks hb1
  generalize (⟨(snapL ss (m.put k.data.toList v).m).toArray⟩ : ByteArray) = sn at *
  go_wp2_with fail
  refine (record_any k v w1 (by have := HK.out.2; omega) (by omega) HL1.out).mono ?_
  rintro e w2 ⟨rfl, hb2⟩
  generalize recP k v = rc at *
  have H2 := Lib.hid (H1.out.below hb2)
  have HT2 := Lib.hid (HT1.out.trans (Turn3.of_below hb2 g b mb))
  have c2 := H2.out.box.c0
  clear hb2
  go_wp2_with fail
  have hrd := read_any g b d ⟨#[108, 111, 103]⟩ w2 H2.out.disk
  rw [show (⟨#[108, 111, 103]⟩ : ByteArray).data.toList = nLog from rfl] at hrd
  refine hrd.mono ?_
  rintro e w3 ⟨rfl, hb3⟩
  have H3 := Lib.hid (H2.out.below hb3)
  have HT3 := Lib.hid (HT2.out.trans (Turn3.of_below hb3 g b mb))
  have c3 := H3.out.box.c0
  have hlz : ¬ (262144 : Int) < ((dKnown d nLog).1.has.size : Int) + ((rc).size : Int) := by omega
  have HAP := Lib.hid (append_any g b d ⟨#[108, 111, 103]⟩ (rc) w3 H3.out.disk (by omega))
  rw [show (⟨#[108, 111, 103]⟩ : ByteArray).data.toList = nLog from rfl] at HAP
  clear hb3 hrd c2
  generalize (dKnown d nLog).1.has = lg at *
  generalize (dKnown d nLog).2 = lc at *
  generalize hr : dAppend d nLog (rc) = r at *
  clear hr
  obtain ⟨n1, d1⟩ := r
  simp only at HP HAP
  by_cases h0 : n1 = 0
  · subst h0
    simp only [if_true] at HP
    go_wp2_with fail
    refine HAP.out.mono ?_
    rintro e w4 ⟨rfl, hd4, ht4⟩
    have H4 := Lib.hid (H3.out.turn hd4 ht4)
    have HT4 := Lib.hid (HT3.out.trans (Turn3.of_turn ht4 mb))
    have c4 := H4.out.box.c0
    have HSY := Lib.hid (sync_any g b d1 ⟨#[108, 111, 103]⟩ w4 H4.out.disk)
    rw [show (⟨#[108, 111, 103]⟩ : ByteArray).data.toList = nLog from rfl] at HSY
    clear hd4 ht4 c3
    generalize hr : dSync d1 nLog = r at *
    clear hr
    obtain ⟨n2, d2⟩ := r
    simp only at HP HSY
    by_cases h02 : n2 = 0
    · subst h02
      simp only [if_true] at HP
      go_wp2_with fail
      refine HSY.out.mono ?_
      rintro e w5 ⟨rfl, hd5, ht5⟩
      have H5 := Lib.hid (H4.out.turn hd5 ht5)
      have HT5 := Lib.hid (HT4.out.trans (Turn3.of_turn ht5 mb))
      have c5 := H5.out.box.c1
      have hkm : k.size ≤ maxLen := by have := HK.out.2; unfold maxLen; omega
      clear hd5 ht5 c4
      go_wp2_with (at_mapUpdate; refine wpList_sput rfl _ _ _ rfl rfl H5.out.map (by omega) k hkm rfl v rfl ?_; intro w6 hM6 hg6 hs6)
      have hne1 := H5.out.ne_g
      have hne2 := H5.out.ne_b
      have hne3 := H5.out.ne_S
      have H6 : IsStore w6 S g b mb d2 (m.put k.data.toList v) := ⟨(hg6.block S H5.out.box.lt (by simpa using hne3)).trans H5.out.box, H5.out.disk.kept (hg6.block g H5.out.disk.lt (by simpa using Ne.symm hne1)) (hg6.block b H5.out.disk.ltb (by simpa using Ne.symm hne2)), hM6, hne1, hne2, hne3⟩
      have HH6 := Lib.hid H6
      have HT6 := Lib.hid (HT5.out.trans (Turn3.of_grown hg6 g b))
      clear H6 hM6 hg6 hs6 hne1 hne2 hne3
      go_wp2_with fail
      go_ret
      exact ⟨by rw [HP.out]; rfl, by rw [HP.out]; exact HH6.out, HT6.out⟩
    · simp only [h02, if_false] at HP
      go_wp2_with fail
      refine HSY.out.mono ?_
      rintro e w5 ⟨rfl, hd5, ht5⟩
      have H5 := Lib.hid (H4.out.turn hd5 ht5)
      have HT5 := Lib.hid (HT4.out.trans (Turn3.of_turn ht5 mb))
      clear hd5 ht5 c4
      go_wp2_with fail
      go_ret
      exact ⟨by rw [HP.out]; rfl, by rw [HP.out]; exact H5.out, HT5.out⟩
  · simp only [h0, if_false] at HP
    go_wp2_with fail
    refine HAP.out.mono ?_
    rintro e w4 ⟨rfl, hd4, ht4⟩
    have H4 := Lib.hid (H3.out.turn hd4 ht4)
    have HT4 := Lib.hid (HT3.out.trans (Turn3.of_turn ht4 mb))
    clear hd4 ht4 c3
    go_wp2_with fail
    go_ret
    exact ⟨by rw [HP.out]; rfl, by rw [HP.out]; exact H4.out, HT4.out⟩

end Go.Proofs.YtmlmjchifelpkaaDoor
