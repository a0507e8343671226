/- Two stores side by side; the records of a map in another order. -/
import Derived.Test.YtmlmjchifelpkaaDoorStoreX
namespace Go.Proofs.YtmlmjchifelpkaaDoor
open Go.RowKit Go.Lib Go.Maps Go.Sort
set_option linter.unusedVariables false
set_option maxRecDepth 100000

/-- What another store's call turns is none of this store's. -/
theorem IsStore.other {w w' : World} {S g b mb g2 b2 m2 : Nat} {d : DiskP} {m : MapP} (h : IsStore w S g b mb d m) (ht : Turn3 g2 b2 m2 w w') (h1 : S ≠ g2 ∧ S ≠ b2 ∧ S ≠ m2) (h2 : g ≠ g2 ∧ g ≠ b2 ∧ g ≠ m2) (h3 : b ≠ g2 ∧ b ≠ b2 ∧ b ≠ m2) (h4 : mb ≠ g2 ∧ mb ≠ b2 ∧ mb ≠ m2) : IsStore w' S g b mb d m :=
  ⟨(ht.block S h.box.lt h1.1 h1.2.1 h1.2.2).trans h.box, h.disk.kept (ht.block g h.disk.lt h2.1 h2.2.1 h2.2.2) (ht.block b h.disk.ltb h3.1 h3.2.1 h3.2.2), h.map.kept (ht.block mb h.map.lt h4.1 h4.2.1 h4.2.2), h.ne_g, h.ne_b, h.ne_S⟩
theorem LogOnly.other {w w' : World} {S g b mb g2 b2 m2 : Nat} {ll : List (ByteArray × ByteArray)} {f : FileP} (h : LogOnly S g b mb ll f w) (ht : Turn3 g2 b2 m2 w w') (h1 : S ≠ g2 ∧ S ≠ b2 ∧ S ≠ m2) (h2 : g ≠ g2 ∧ g ≠ b2 ∧ g ≠ m2) (h3 : b ≠ g2 ∧ b ≠ b2 ∧ b ≠ m2) (h4 : mb ≠ g2 ∧ mb ≠ b2 ∧ mb ≠ m2) : LogOnly S g b mb ll f w' :=
  ⟨h.st.other ht h1 h2 h3 h4, h.has, h.small⟩
theorem StrsAt.turn3 {B g b c : Nat} {w w' : World} {v : Value} {ss : List ByteArray} (h : StrsAt B w v ss) (ht : Turn3 g b c w w') (hg : g < B) (hb : b < B) (hc : c < B) : StrsAt B w' v ss := by
  obtain ⟨p, cap, rfl, hm, hcc⟩ := h
  refine ⟨p, cap, rfl, hm, fun hne => ?_⟩
  obtain ⟨r, rfl, hB, hr, hcell⟩ := hcc hne
  refine ⟨r, rfl, hB, Nat.lt_of_lt_of_le hr ht.size, fun j hj => ?_⟩
  rw [← hcell j hj]
  exact World.cell?_of_block (ht.block r hr (by omega) (by omega) (by omega))

/-- Put of a key that may be. -/
theorem put_logok (S g b mb : Nat) (ll : List (ByteArray × ByteArray)) (f : FileP) (k v : ByteArray) (w : World) (h : LogOnly S g b mb ll f w) (hn : ll.length ≤ 99) (hk : 1 ≤ k.size ∧ k.size ≤ 64) (hv : v.size ≤ 1000) (hl : Laid w) :
    Calls Tryd.prog 9 #[.pointer (some ⟨S, 0, none⟩), .string k, .string v] w fun e w' => ∃ (f2 : FileP), e = .returned (.int .i64 0) ∧ LogOnly S g b mb (ll ++ [(k, v)]) f2 w' ∧ Turn3 g b mb w w' := by
  have hz : f.has.size ≤ ll.length * 1100 := by rw [Lib.size_eq, h.has]; exact recs_small ll h.small
  refine (put_small S g b mb none none f 0 (mapL ll MapP.nil) ll.length k v w h.st h.map (by omega) hz hk hv hl).mono ?_
  rintro e w' ⟨rfl, h1, h2⟩
  refine ⟨⟨f.has ++ recP k v, f.has ++ recP k v, true⟩, rfl, ⟨?_, ?_, ?_⟩, h2⟩
  · rw [mapL_app]; exact h1
  · show (f.has ++ recP k v).data.toList = _
    rw [ByteArray.data_append, Array.toList_append, h.has, recsL_app, recsL_one]
    rfl
  · intro r hr
    rcases List.mem_append.1 hr with h3 | h3
    · exact h.small r h3
    · simp at h3; subst h3; exact ⟨hk, hv⟩

/-- The records of a map, the last key first. -/
theorem recsOf_take (ss : List (List UInt8)) (f : List UInt8 → Option ByteArray) (k : Nat) (x : List UInt8) (h : ss[k]? = some x) : recsOf (ss.take (k + 1)) f = recsOf (ss.take k) f ++ [(⟨x.toArray⟩, (f x).getD ⟨#[]⟩)] := by
  obtain ⟨hk, hx⟩ := List.getElem?_eq_some_iff.1 h
  unfold recsOf
  rw [List.take_succ_eq_append_getElem hk, List.map_append, hx]
  rfl
theorem rev_back {m : MapP} {ss : List (List UInt8)} (h : KeysOf m ss) : (mapL (recsOf ss.reverse m.m) MapP.nil).m = m.m := by
  funext x
  rw [mapL_recs m.m ss.reverse MapP.nil ((List.reverse_perm ss).nodup_iff.2 h.nodup) x]
  by_cases hx : x ∈ ss
  · rw [if_pos (List.mem_reverse.2 hx)]
    obtain ⟨v, hv⟩ := Option.isSome_iff_exists.1 ((h.mem x).1 hx)
    rw [hv]; rfl
  · rw [if_neg (fun e => hx (List.mem_reverse.1 e))]
    cases hq : m.m x with
    | none => rfl
    | some v => exact absurd ((h.mem x).2 (by rw [hq]; rfl)) hx
theorem rev_at (ss : List (List UInt8)) (i : Nat) (h : i < ss.length) : ss.reverse[ss.length - 1 - i]? = some (ss.getD i []) := by
  rw [List.getElem?_reverse (by omega), show ss.length - 1 - (ss.length - 1 - i) = i by omega, List.getD_eq_getElem?_getD, List.getElem?_eq_getElem h]
  rfl

end Go.Proofs.YtmlmjchifelpkaaDoor
