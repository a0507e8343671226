/- What Names computes: the files' names, in order. -/
import Derived.Test.YtmlmjchifelpkaaDoorFileH
import Derived.Test.YtmlmjchifelpkaaDoorShelf
import Derived.Maps.RangeWalk
import Derived.Sort.KeysCollected
import Derived.Sort.OwnSorted
import Derived.Maps.AppendAt
import Derived.OwnWalk
namespace Go.Proofs.YtmlmjchifelpkaaDoor
open Go.RowKit Go.Lib Go.Maps Go.Sort
set_option linter.unusedVariables false
set_option maxRecDepth 100000

theorem info9 : (Tryd.prog.info? 9).map (fun i => (i.zero, i.size, i.bytes)) = some (some (.string ⟨#[]⟩), 1, 16) := by kernel_rfl

set_option maxRecDepth 100000 in
set_option maxHeartbeats 1000000 in
theorem names_raw (g b : Nat) (d : DiskP) (w : World) (h : IsDisk w g b d) (D0 : DataW Unit) (hown : w.ownsMap Tryd.prog 9 fR b d.n D0) (hsz : Maps.size D0 = d.n) :
    Calls Tryd.prog 33 #[.pointer (some ⟨g, 0, none⟩)] w fun e w' => ∃ (r cap : Nat) (ss : List (List UInt8)), e = .returned (.slice (some ⟨r, 0, none⟩) ss.length cap) ∧ ss.Perm (strKeys D0) ∧
      w'.ownsRow w.heap.size 9 1 (.slice (some ⟨r, 0, none⟩) ss.length cap) ss.length ((ss.mergeSort (fun x y => decide (x ≤ y))).map encStr) ∧ Below w.heap.size w w' := by
  obtain ⟨i0, hi, hz0, hz1, hz2⟩ := info_parts info9
  have hbl := hown.lt
  have hgl := h.lt
  have c0 := h.cell0
  have hn := h.ok.n_le
  have hsz2 : Maps.size D0 ≤ 64 := by omega
  clear hsz
  have H := Lib.hid h
  clear h
  go_enter Tryd.func33, Tryd.ntmps33
  go_wp2_with (first
    | (at_len; refine wpList_len_own _ rfl _ 46 rfl 9 59 Tryd.underlying46 _ b d.n _ rfl hown ?_)
    | (at_make; refine wpList_make_own _ rfl _ _ 34 rfl w.heap.size 9 i0 (.string ⟨#[]⟩) 1 Tryd.underlying34 hi hz0 hz1 _ _ _ (Maps.size D0) rfl rfl rfl (by rw [hz2]; omega) (by unfold maxLen; omega) (Nat.le_refl _) ?_; intro w1 hrow1 hg1; have c1 := hg1.cell c0 (by simp))
    | (at_range; refine wpList_range_own _ rfl _ 46 rfl 9 59 law9 Tryd.underlying46 _ b d.n _ rfl (hown.kept hg1 (by simp)) ?_; intro w0 hrg0 hg0 hs0)
    | go_in)
  go_frame
  go_loopw [3] (fun v wr => ∃ (left : Lit → Bool) (cnt : Nat) (ss : List (List UInt8)), wr.ranges Tryd.prog 9 fR b w1.heap.size d.n D0 left cnt ∧ ss.length + cnt ≤ Maps.size D0 ∧
      wr.ownsRow w.heap.size 9 1 v ss.length (ss.map encStr) ∧ v ≠ .slice none 0 0 ∧ Collected D0 left ss ∧ Below w.heap.size w wr)
    (fun _ wr => wr.rangeLeft b w1.heap.size)
  case atStart =>
    exact ⟨_, _, [], hrg0, by simp, hrow1.kept hg0 (Or.inr (by simp [Value.ownBlock])), by simp, Collected.start D0,
      ((Below.refl _ _).grown hg1 (Nat.le_refl _) (fun j hj => by cases hj)).grown hg0 hg1.size (fun j hj => by cases hj)⟩
  case round =>
    obtain ⟨left, cnt, ss, hrg, hcs, hrow, hnn, hC, hnx⟩ := hrel
    go_wp2_with (first
      | (at_next; refine wpList_next_ranges _ rfl _ rfl 9 law9 fR encStr fV (fun key kl hk => by obtain ⟨x, hx, _⟩ := Maps.keyOf_str Tryd.underlying9 hk; exact ⟨x, hx⟩) (fun v y hv => by obtain ⟨c, rfl, _⟩ := fR_inv hv; exact ⟨c, rfl⟩) b w1.heap.size d.n _ _ _ rfl hrg ?_ ?_)
      | go_in)
    · intro hc0 hl0
      rcases hrow.2 with ⟨hnil, _⟩ | ⟨r, cap, cur, rfl, hbase, hb, h1, h2, h3, h4⟩
      · exact absurd hnil hnn
      have hH : Holds encStr wr r 0 ss.toArray := holds_of_block hb (by simpa using h4)
      have hrl : r < wr.heap.size := (Array.getElem?_eq_some_iff.1 hb).1
      have hc := Tryd.slices_Sort_string r 0 cap ss wr hH hrl (by omega)
      go_wp2_with (go_at_call 32; refine hc.mono ?_; rintro e w' ⟨rfl, nn, os, rfl⟩)
      go_ret
      exact ⟨r, cap, ss, rfl, hC.perm hown law9 Tryd.underlying9 hl0, ownsRow_sorted (by simp) hbase hb h1 h2 h3, hnx.grown (grownBy_sorted _) hnx.size (fun j hj => by cases hj; exact hbase)⟩
    · intro x c kl yd yp w2 cnt2 hkey hlk hv hat hrg2 hlt hg2 hs2 hen
      obtain ⟨x', ex, rfl, _⟩ := Maps.keyOf_str Tryd.underlying9 hkey
      obtain rfl : x = x' := encStr_inj ex
      have hrow2 := hrow.kept hg2 (Or.inr (row_ne_iter hrow hrg).symm)
      clear hs2
      go_wp2_with (first
        | (at_builtin; refine wpList_append_own _ rfl _ _ 34 rfl w.heap.size 9 i0 (.string ⟨#[]⟩) 1 16 Tryd.underlying34 hi hz0 hz1 hz2 rfl (by decide) _ _ _ rfl (hrow2.alloc _) ⟨w2.heap.size, 0, none⟩ 1 1 [encStr x] rfl rfl (cell_one_new _ _ _) (by simp [Value.oneCell', encStr]) (by unfold maxLen; omega) (by omega) (by have := hnx.size; have := hg2.size; simp; omega) ?_; intro v' w3 hown' hg3 hnil3; go_frame)
        | go_in)
      have hrg3 := (hrg2.alloc _).kept hg3 (row_ne_low hrow2 hbl) (row_ne_iter hrow2 hrg2)
      go_roundw
      case rel =>
        refine ⟨_, cnt2, ss ++ [x], hrg3, by simp; omega, by simpa using hown', fun hv' => by have := (hnil3.1 hv').2; omega, hC.step hlk hat, ?_⟩
        exact ((hnx.grown hg2 hnx.size (fun j hj => by cases hj; exact hg1.size)).alloc (by have := hnx.size; have := hg2.size; omega) _).grown hg3 (by have := hnx.size; have := hg2.size; simp; omega) (fun j hj => (hrow2.lt j hj).1)
      case measure => rw [hrg3.left_eq, hrg.left_eq]; exact hlt

/-- The names of a disk, in order. -/
structure NamesOf (d : DiskP) (ss : List (List UInt8)) : Prop where
  mem : ∀ k, k ∈ ss ↔ (d.fs k).isSome = true
  nodup : ss.Nodup
  sorted : ss.Pairwise (fun a b => leB a b = true)
  len : ss.length = d.n
  small : ∀ k ∈ ss, k.length ≤ maxLen

theorem NamesOf.one {d e : DiskP} {ss ts : List (List UInt8)} (h : NamesOf d ss) (k : NamesOf e ts) (hf : ∀ x, (d.fs x).isSome = (e.fs x).isSome) : ss = ts := by
  refine List.Perm.eq_of_pairwise (le := fun a b => leB a b = true) (fun a b _ _ h1 h2 => ?_) h.sorted k.sorted ((List.perm_ext_iff_of_nodup h.nodup k.nodup).2 fun x => by rw [h.mem, k.mem, hf])
  simp only [leB, decide_eq_true_eq] at h1 h2
  exact List.le_antisymm h1 h2

theorem names_any (g b : Nat) (d : DiskP) (w : World) (h : IsDisk w g b d) :
    Calls Tryd.prog 33 #[.pointer (some ⟨g, 0, none⟩)] w fun e w' => ∃ (r cap : Nat) (ss : List (List UInt8)), e = .returned (.slice (some ⟨r, 0, none⟩) ss.length cap) ∧ NamesOf d ss ∧
      w'.ownsRow w.heap.size 9 1 (.slice (some ⟨r, 0, none⟩) ss.length cap) ss.length (ss.map encStr) ∧ Below w.heap.size w w' := by
  obtain ⟨D0, hown, hsz, hh, ha⟩ := h.files
  have hn := h.ok.n_le
  refine (names_raw g b d w h D0 hown hsz).mono ?_
  rintro e w' ⟨r, cap, ss, rfl, hp, hrow, hb⟩
  have tr : ∀ a b c : List UInt8, leB a b = true → leB b c = true → leB a c = true := fun a b c h1 h2 => by simp only [leB, decide_eq_true_eq] at *; exact List.le_trans h1 h2
  have to : ∀ a b : List UInt8, (leB a b || leB b a) = true := fun a b => by simp only [leB, Bool.or_eq_true, decide_eq_true_eq]; exact List.le_total a b
  have hpm := List.mergeSort_perm ss leB
  have hl : (ss.mergeSort leB).length = ss.length := hpm.length_eq
  refine ⟨r, cap, ss.mergeSort leB, by rw [hl], ?_, by rw [hl]; exact hrow, hb⟩
  obtain ⟨es, hD, hpw, _⟩ := hown.entries law9
  obtain ⟨es', hD', hko⟩ := hown.keysOf
  obtain rfl : es = es' := by rw [hD] at hD'; simpa using hD'
  have hkk : ∀ p ∈ es, ∃ x, p.1 = .string x := fun p hp => by obtain ⟨v, hv⟩ := hko p hp; obtain ⟨x, _, hx, _⟩ := Maps.keyOf_str Tryd.underlying9 hv; exact ⟨x, hx⟩
  have hq := hpm.trans hp
  have hnd : (strKeys D0).Nodup := by
    rw [hD]
    show (es.map fun p => strOf p.1).Nodup
    refine List.pairwise_map.2 (hpw.imp_of_mem fun {p q} hp' hq' hne e => hne ?_)
    obtain ⟨a, ha'⟩ := hkk p hp'
    obtain ⟨b', hb'⟩ := hkk q hq'
    rw [ha', hb'] at e ⊢
    exact congrArg _ e
  have hmem : ∀ x, x ∈ strKeys D0 ↔ has D0 (.string x) = true := fun x => by
    rw [hD, has_eq, List.any_eq_true]
    show x ∈ es.map (fun p => strOf p.1) ↔ _
    rw [List.mem_map]
    constructor
    · rintro ⟨p, hp', rfl⟩
      obtain ⟨a, ha'⟩ := hkk p hp'
      exact ⟨p, hp', by rw [ha']; simp [Lit.sameKey, strOf]⟩
    · rintro ⟨p, hp', hs⟩
      obtain ⟨a, ha'⟩ := hkk p hp'
      rw [ha'] at hs
      exact ⟨p, hp', by rw [ha']; simpa [Lit.sameKey, strOf] using hs⟩
  refine ⟨fun k => by rw [hq.mem_iff, hmem, hh], hq.nodup_iff.2 hnd, List.pairwise_mergeSort tr to ss, ?_, fun k hk => strKeys_le hown Tryd.underlying9 k (hq.mem_iff.1 hk)⟩
  rw [hq.length_eq, ← hsz, hD]
  show (es.map fun p => strOf p.1).length = es.length
  simp

end Go.Proofs.YtmlmjchifelpkaaDoor
