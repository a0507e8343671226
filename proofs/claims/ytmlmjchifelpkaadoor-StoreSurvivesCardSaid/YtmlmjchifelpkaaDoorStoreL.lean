/- What the two closures of a store's Open compute. -/
import Derived.Test.YtmlmjchifelpkaaDoorStoreK
namespace Go.Proofs.YtmlmjchifelpkaaDoor
open Go.RowKit Go.Lib Go.Maps Go.Sort
set_option linter.unusedVariables false
set_option maxRecDepth 100000

/-- What holds while a snap is read: a store, the variables that the closure captures. -/
structure SnapInv (w0 wa : World) (S g b mb sv la fa : Nat) (d : DiskP) (x : ByteArray) (m : MapP) (w : World) : Prop where
  st : IsStore w S g b mb d m
  csv : w.heap[sv]? = some (.cells #[.pointer (some ⟨S, 0, none⟩)] 26 (0, 0))
  cla : w.heap[la]? = some (.cells #[.string x] 9 (0, 0))
  cfa : w.heap[fa]? = some (.cells #[.bool false] 4 (0, 0))
  base : Below w0.heap.size w0 w
  turn : Turn g b wa w
  mbN : wa.heap.size ≤ mb
  laN : wa.heap.size ≤ la
  faN : wa.heap.size ≤ fa
  le : w0.heap.size ≤ wa.heap.size
structure LogInv (w0 wa : World) (S g b mb sv : Nat) (d : DiskP) (m : MapP) (w : World) : Prop where
  st : IsStore w S g b mb d m
  csv : w.heap[sv]? = some (.cells #[.pointer (some ⟨S, 0, none⟩)] 26 (0, 0))
  base : Below w0.heap.size w0 w
  turn : Turn g b wa w
  mbN : wa.heap.size ≤ mb
  le : w0.heap.size ≤ wa.heap.size

theorem IsStore.grown {w w' : World} {S g b mb : Nat} {d : DiskP} {m m' : MapP} (h : IsStore w S g b mb d m) (hM : IsMap w' mb m') (hg : w.grownBy w' (some mb)) : IsStore w' S g b mb d m' :=
  ⟨(hg.block S h.box.lt (by simpa using h.ne_S)).trans h.box, h.disk.kept (hg.block g h.disk.lt (by simpa using Ne.symm h.ne_g)) (hg.block b h.disk.ltb (by simpa using Ne.symm h.ne_b)), hM, h.ne_g, h.ne_b, h.ne_S⟩
theorem below_grown {w w' : World} {B c : Nat} (hg : w.grownBy w' (some c)) (h1 : B ≤ w.heap.size) (h2 : B ≤ c) : Below B w w' :=
  ⟨hg.os, hg.tape, hg.output, hg.size, fun k hk => hg.block k (by omega) (by simp; omega)⟩
theorem Turn.grown2 {g b c : Nat} {w w' w'' : World} (h : Turn g b w w') (hg : w'.grownBy w'' (some c)) (hc : w.heap.size ≤ c) : Turn g b w w'' :=
  h.trans (Turn.refl g b w') |> fun h => ⟨hg.os.trans h.os, hg.tape.trans h.tape, hg.output.trans h.output, Nat.le_trans h.size hg.size, fun k hk a1 a2 => (hg.block k (Nat.lt_of_lt_of_le hk h.size) (by simp; omega)).trans (h.block k hk a1 a2)⟩
theorem Turn.setC {g b c i : Nat} {w w' : World} {u : Value} (h : Turn g b w w') (hc : w.heap.size ≤ c) : Turn g b w (w'.setCell ⟨c, i, none⟩ u) :=
  ⟨h.os, h.tape, h.output, by simpa [World.setCell] using h.size, fun k hk a1 a2 => (Below.heap_setCell _ _ _ _ (by show k ≠ c; omega)).trans (h.block k hk a1 a2)⟩

theorem below_setC {B c i : Nat} {w : World} {v : Value} (hc : B ≤ c) : Below B w (w.setCell ⟨c, i, none⟩ v) :=
  ⟨rfl, rfl, rfl, by simp [World.setCell], fun k hk => Below.heap_setCell _ _ _ _ (by show k ≠ c; omega)⟩

theorem add_log (w0 wa : World) (S g b mb sv : Nat) (d : DiskP) (m : MapP) (k v : ByteArray) (w : World) (h : LogInv w0 wa S g b mb sv d m w) (hk : k.size ≤ 64) (hn : m.n ≤ 1000000) :
    Calls Tryd.prog 24 #[.string k, .string v, .pointer (some ⟨sv, 0, none⟩)] w fun e w' => e = .returned (.tuple #[]) ∧ LogInv w0 wa S g b mb sv d (m.put k.data.toList v) w' := by
  have csv := cell_of_one h.csv
  have c1 := h.st.box.c1
  have H := Lib.hid h
  clear h
  have hkm : k.size ≤ maxLen := by unfold maxLen; omega
  go_enter Tryd.func24, Tryd.ntmps24
  go_wp2_with (at_mapUpdate; refine wpList_sput rfl _ _ _ rfl rfl H.out.st.map hn k hkm rfl v rfl ?_; intro w6 hM6 hg6 hs6)
  go_end0
  have hsv : sv ≠ mb := fun e => by
    obtain ⟨D, ⟨es, clock, h1, _⟩, _⟩ := H.out.st.map
    rw [← e, H.out.csv] at h1
    cases h1
  have hlt := (Array.getElem?_eq_some_iff.1 H.out.csv).1
  have hne1 := H.out.st.ne_g
  have hne2 := H.out.st.ne_b
  have hne3 := H.out.st.ne_S
  have h1 := H.out.turn
  have hle := h1.size
  exact ⟨rfl, ⟨H.out.st.grown hM6 hg6, (hg6.block sv hlt (by simpa using hsv)).trans H.out.csv, H.out.base.trans (below_grown hg6 H.out.base.size (Nat.le_trans H.out.le H.out.mbN)), h1.grown2 hg6 H.out.mbN, H.out.mbN, H.out.le⟩⟩

theorem add_snap (w0 wa : World) (S g b mb sv la fa : Nat) (d : DiskP) (x : ByteArray) (m : MapP) (k v : ByteArray) (w : World) (h : SnapInv w0 wa S g b mb sv la fa d x m w) (hk : k.size ≤ 64) (hx : x.data.toList < k.data.toList) (hn : m.n ≤ 1000000) :
    Calls Tryd.prog 21 #[.string k, .string v, .pointer (some ⟨fa, 0, none⟩), .pointer (some ⟨la, 0, none⟩), .pointer (some ⟨sv, 0, none⟩)] w fun e w' => e = .returned (.tuple #[]) ∧ SnapInv w0 wa S g b mb sv la fa d k (m.put k.data.toList v) w' := by
  have csv := cell_of_one h.csv
  have cla := cell_of_one h.cla
  have cfa := cell_of_one h.cfa
  have c1 := h.st.box.c1
  have H := Lib.hid h
  clear h
  have hkm : k.size ≤ maxLen := by unfold maxLen; omega
  have hle : ∀ t : TypeId, binOp .leq t (.string k) (.string x) = pure (.bool false) := by
    intro t
    simp only [binOp, Op.stringOp, bytesLess_eq, Lib.toList_data]
    have h1 : ¬ k.data.toList < x.data.toList := fun h => List.lt_irrefl _ (List.lt_trans h hx)
    have h2 : k.data.toList ≠ x.data.toList := fun h => by rw [h] at hx; exact List.lt_irrefl _ hx
    have h3 : k.data ≠ x.data := fun h => h2 (by rw [h])
    simp [h1, beq_eq_false_iff_ne.2 h3]
  clear hx
  have hfl : fa ≠ la := fun e => by have h1 := H.out.cfa; rw [e, H.out.cla] at h1; cases h1
  have hfs : sv ≠ fa := fun e => by have h1 := H.out.csv; rw [e, H.out.cfa] at h1; cases h1
  have hls : sv ≠ la := fun e => by have h1 := H.out.csv; rw [e, H.out.cla] at h1; cases h1
  have hSf : S ≠ fa := fun e => by have h1 : w.heap[S]? = _ := H.out.st.box; rw [e, H.out.cfa] at h1; cases h1
  have hSl : S ≠ la := fun e => by have h1 : w.heap[S]? = _ := H.out.st.box; rw [e, H.out.cla] at h1; cases h1
  have hmf : mb ≠ fa := fun e => by
    obtain ⟨D, ⟨es, clock, h1, _⟩, _⟩ := H.out.st.map
    rw [e, H.out.cfa] at h1
    cases h1
  have hml : mb ≠ la := fun e => by
    obtain ⟨D, ⟨es, clock, h1, _⟩, _⟩ := H.out.st.map
    rw [e, H.out.cla] at h1
    cases h1
  have hms : mb ≠ sv := fun e => by
    obtain ⟨D, ⟨es, clock, h1, _⟩, _⟩ := H.out.st.map
    rw [e, H.out.csv] at h1
    cases h1
  have ffa := free_of_one H.out.cfa
  obtain ⟨w1, hw1⟩ : ∃ w1, w1 = w.setCell ⟨fa, 0, none⟩ (.bool false) := ⟨_, rfl⟩
  have e1 : ∀ j, j ≠ fa → w1.heap[j]? = w.heap[j]? := fun j hj => by rw [hw1]; exact Below.heap_setCell _ _ _ _ hj
  have k1la := (e1 la (Ne.symm hfl)).trans H.out.cla
  have k1sv := (e1 sv hfs).trans H.out.csv
  have k1S := (e1 S hSf).trans H.out.st.box
  have k1mb := e1 mb hmf
  have k1fa : w1.heap[fa]? = some (.cells #[.bool false] 4 (0, 0)) := by rw [hw1]; exact one_setCell H.out.cfa
  have b1 := Lib.hid (H.out.base.trans (below_setC (v := .bool false) (w := w) (c := fa) (i := 0) (Nat.le_trans H.out.le H.out.faN)))
  have t1 := Lib.hid (H.out.turn.setC (c := fa) (i := 0) (u := .bool false) H.out.faN)
  rw [← hw1] at b1 t1
  have c1la := cell_of_one k1la
  have f1la := free_of_one k1la
  obtain ⟨w2, hw2⟩ : ∃ w2, w2 = w1.setCell ⟨la, 0, none⟩ (.string k) := ⟨_, rfl⟩
  have e2 : ∀ j, j ≠ la → w2.heap[j]? = w1.heap[j]? := fun j hj => by rw [hw2]; exact Below.heap_setCell _ _ _ _ hj
  have k2sv := (e2 sv hls).trans k1sv
  have k2S : IsBox w2 S g mb := (e2 S hSl).trans k1S
  have k2mb := (e2 mb hml).trans k1mb
  have k2fa := (e2 fa hfl).trans k1fa
  have k2la : w2.heap[la]? = some (.cells #[.string k] 9 (0, 0)) := by rw [hw2]; exact one_setCell k1la
  have b2 := Lib.hid (b1.out.trans (below_setC (v := .string k) (w := w1) (c := la) (i := 0) (Nat.le_trans H.out.le H.out.laN)))
  have t2 := Lib.hid (t1.out.setC (c := la) (i := 0) (u := .string k) H.out.laN)
  rw [← hw2] at b2 t2
  have hM2 := Lib.hid (H.out.st.map.kept k2mb)
  have c2sv := cell_of_one k2sv
  have c2S := k2S.c1
  have K2 := Lib.hid k2S
  replace k2sv := Lib.hid k2sv
  replace k2fa := Lib.hid k2fa
  replace k2la := Lib.hid k2la
  have hN := Lib.hid (And.intro hfl (And.intro hfs (And.intro hls (And.intro hSf (And.intro hSl (And.intro hmf (And.intro hml hms)))))))
  clear e1 e2 k1la k1sv k1S k1mb k1fa k2S k2mb hfl hfs hls hSf hSl hmf hml hms b1 t1 c1
  subst hw2
  subst hw1
  go_enter Tryd.func21, Tryd.ntmps21
  go_wp2_with (at_mapUpdate; refine wpList_sput rfl _ _ _ rfl rfl hM2.out hn k hkm rfl v rfl ?_; intro w6 hM6 hg6 hs6)
  go_end0
  obtain ⟨hfl, hfs, hls, hSf, hSl, hmf, hml, hms⟩ := hN.out
  have hne1 := H.out.st.ne_g
  have hne2 := H.out.st.ne_b
  have hne3 := H.out.st.ne_S
  have hd2 : IsDisk ((w.setCell ⟨fa, 0, none⟩ (.bool false)).setCell ⟨la, 0, none⟩ (.string k)) g b d := by
    have hgf : g ≠ fa := fun e => by have h1 := H.out.st.disk.box; rw [e, H.out.cfa] at h1; cases h1
    have hgl : g ≠ la := fun e => by have h1 := H.out.st.disk.box; rw [e, H.out.cla] at h1; cases h1
    have hbf : b ≠ fa := fun e => by
      obtain ⟨D, ⟨es, clock, h1, _⟩, _⟩ := H.out.st.disk.files
      rw [e, H.out.cfa] at h1
      cases h1
    have hbl : b ≠ la := fun e => by
      obtain ⟨D, ⟨es, clock, h1, _⟩, _⟩ := H.out.st.disk.files
      rw [e, H.out.cla] at h1
      cases h1
    exact H.out.st.disk.kept ((Below.heap_setCell _ _ _ _ hgl).trans (Below.heap_setCell _ _ _ _ hgf)) ((Below.heap_setCell _ _ _ _ hbl).trans (Below.heap_setCell _ _ _ _ hbf))
  have hst : IsStore ((w.setCell ⟨fa, 0, none⟩ (.bool false)).setCell ⟨la, 0, none⟩ (.string k)) S g b mb d m := ⟨K2.out, hd2, hM2.out, hne1, hne2, hne3⟩
  have hl1 := lt_of_block k2sv.out
  have hl2 := lt_of_block k2la.out
  have hl3 := lt_of_block k2fa.out
  exact ⟨rfl, ⟨hst.grown hM6 hg6, (hg6.block sv hl1 (by simpa using hms.symm)).trans k2sv.out, (hg6.block la hl2 (by simpa using hml.symm)).trans k2la.out, (hg6.block fa hl3 (by simpa using hmf.symm)).trans k2fa.out,
    b2.out.trans (below_grown hg6 b2.out.size (Nat.le_trans H.out.le H.out.mbN)), t2.out.grown2 hg6 H.out.mbN, H.out.mbN, H.out.laN, H.out.faN, H.out.le⟩⟩

end Go.Proofs.YtmlmjchifelpkaaDoor
