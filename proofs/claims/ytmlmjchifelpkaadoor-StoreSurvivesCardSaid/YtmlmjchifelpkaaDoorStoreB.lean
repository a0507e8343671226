/- What a store's Keys computes: its keys, in order. -/
import Derived.Test.YtmlmjchifelpkaaDoorStoreA
import Derived.Test.YtmlmjchifelpkaaDoorFileI
namespace Go.Proofs.YtmlmjchifelpkaaDoor
open Go.RowKit Go.Lib Go.Maps Go.Sort
set_option linter.unusedVariables false
set_option maxRecDepth 100000

set_option maxRecDepth 100000 in
set_option maxHeartbeats 1000000 in
theorem keys_raw (g b : Nat) (d : MapP) (w : World) (c0 : w.cell? ⟨g, 1, none⟩ = some (.map (some b))) (hn : d.n ≤ 1000000) (D0 : DataW Unit) (hown : w.ownsMap Tryd.prog 9 sR b d.n D0) (hsz : Maps.size D0 = d.n) :
    Calls Tryd.prog 14 #[.pointer (some ⟨g, 0, none⟩)] w fun e w' => ∃ (r : Nat) (ss : List (List UInt8)), e = .returned (.slice (some ⟨r, 0, none⟩) ss.length (Maps.size D0)) ∧ ss.Perm (strKeys D0) ∧
      w'.ownsRow w.heap.size 9 1 (.slice (some ⟨r, 0, none⟩) ss.length (Maps.size D0)) ss.length ((ss.mergeSort (fun x y => decide (x ≤ y))).map encStr) ∧ Below w.heap.size w w' := by
  obtain ⟨i0, hi, hz0, hz1, hz2⟩ := info_parts info9
  have hbl := hown.lt
  have hgl : g < w.heap.size := World.block_lt_of_cell? w _ c0
  have hsz2 : Maps.size D0 ≤ 1000000 := by omega
  clear hsz
  go_enter Tryd.func14, Tryd.ntmps14
  go_wp2_with (first
    | (at_len; refine wpList_len_own _ rfl _ 49 rfl 9 9 Tryd.underlying49 _ b d.n _ rfl hown ?_)
    | (at_make; refine wpList_make_own _ rfl _ _ 34 rfl w.heap.size 9 i0 (.string ⟨#[]⟩) 1 Tryd.underlying34 hi hz0 hz1 _ _ _ (Maps.size D0) rfl rfl rfl (by rw [hz2]; omega) (by unfold maxLen; omega) (Nat.le_refl _) ?_; intro w1 hrow1 hg1; have c1 := hg1.cell c0 (by simp))
    | (at_range; refine wpList_range_own _ rfl _ 49 rfl 9 9 law9 Tryd.underlying49 _ b d.n _ rfl (hown.kept hg1 (by simp)) ?_; intro w0 hrg0 hg0 hs0)
    | go_in)
  go_frame
  go_loopw [3] (fun v wr => ∃ (left : Lit → Bool) (cnt : Nat) (ss : List (List UInt8)), wr.ranges Tryd.prog 9 sR b w1.heap.size d.n D0 left cnt ∧ ss.length + cnt ≤ Maps.size D0 ∧
      v = .slice (some ⟨w.heap.size, 0, none⟩) ss.length (Maps.size D0) ∧ wr.ownsRow w.heap.size 9 1 v ss.length (ss.map encStr) ∧ Collected D0 left ss ∧ Below w.heap.size w wr)
    (fun _ wr => wr.rangeLeft b w1.heap.size)
  case atStart =>
    exact ⟨_, _, [], hrg0, by simp, rfl, hrow1.kept hg0 (Or.inr (by simp [Value.ownBlock])), Collected.start D0,
      ((Below.refl _ _).grown hg1 (Nat.le_refl _) (fun j hj => by cases hj)).grown hg0 hg1.size (fun j hj => by cases hj)⟩
  case round =>
    obtain ⟨left, cnt, ss, hrg, hcs, rfl, hrow, hC, hnx⟩ := hrel
    go_wp2_with (first
      | (at_next; refine wpList_next_ranges _ rfl _ rfl 9 law9 sR encStr sV (fun key kl hk => by obtain ⟨x, hx, _⟩ := Maps.keyOf_str Tryd.underlying9 hk; exact ⟨x, hx⟩) (fun v y hv => by obtain ⟨c, rfl, _⟩ := sR_inv hv; exact ⟨c, rfl⟩) b w1.heap.size d.n _ _ _ rfl hrg ?_ ?_)
      | go_in)
    · intro hc0 hl0
      rcases hrow.2 with ⟨hnil, _⟩ | ⟨r, cap, cur, hvv, hbase, hb, h1, h2, h3, h4⟩
      · cases hnil
      cases hvv
      have hH : Holds encStr wr w.heap.size 0 ss.toArray := holds_of_block hb (by simpa using h4)
      have hrl : w.heap.size < wr.heap.size := (Array.getElem?_eq_some_iff.1 hb).1
      have hc := Tryd.slices_Sort_string w.heap.size 0 (Maps.size D0) ss wr hH hrl (by omega)
      go_wp2_with (go_at_call 32; refine hc.mono ?_; rintro e w' ⟨rfl, nn, os, rfl⟩)
      go_ret
      exact ⟨w.heap.size, ss, rfl, hC.perm hown law9 Tryd.underlying9 hl0, ownsRow_sorted (by simp) hbase hb h1 h2 h3, hnx.grown (grownBy_sorted _) hnx.size (fun j hj => by cases hj; exact hbase)⟩
    · intro x c kl yd yp w2 cnt2 hkey hlk hv hat hrg2 hlt hg2 hs2 hen
      obtain ⟨x', ex, rfl, _⟩ := Maps.keyOf_str Tryd.underlying9 hkey
      obtain rfl : x = x' := encStr_inj ex
      have hrow2 := hrow.kept hg2 (Or.inr (row_ne_iter hrow hrg).symm)
      clear hs2
      go_wp2_with (first
        | (at_builtin; refine wpList_append_fits _ rfl _ _ 34 rfl w.heap.size 9 i0 1 Tryd.underlying34 hi hz1 _ _ _ _ rfl (hrow2.alloc _) ⟨w2.heap.size, 0, none⟩ 1 1 [encStr x] rfl rfl (cell_one_new _ _ _) (by simp [Value.oneCell', encStr]) (by omega) ?_; intro w3 hown' hg3; go_frame)
        | go_in)
      have hrg3 := (hrg2.alloc _).kept hg3 (row_ne_low hrow2 hbl) (row_ne_iter hrow2 hrg2)
      go_roundw
      case rel =>
        refine ⟨_, cnt2, ss ++ [x], hrg3, by simp; omega, by simp, by simpa using hown', hC.step hlk hat, ?_⟩
        exact ((hnx.grown hg2 hnx.size (fun j hj => by cases hj; exact hg1.size)).alloc (by have := hnx.size; have := hg2.size; omega) _).grown hg3 (by have := hnx.size; have := hg2.size; simp; omega) (fun j hj => (hrow2.lt j hj).1)
      case measure => rw [hrg3.left_eq, hrg.left_eq]; exact hlt

/-- The keys of a map, in order. -/
structure KeysOf (d : MapP) (ss : List (List UInt8)) : Prop where
  mem : ∀ k, k ∈ ss ↔ (d.m k).isSome = true
  nodup : ss.Nodup
  sorted : ss.Pairwise (fun a b => leB a b = true)
  len : ss.length = d.n
  small : ∀ k ∈ ss, k.length ≤ maxLen

theorem KeysOf.one {d e : MapP} {ss ts : List (List UInt8)} (h : KeysOf d ss) (k : KeysOf e ts) (hf : ∀ x, (d.m x).isSome = (e.m x).isSome) : ss = ts := by
  refine List.Perm.eq_of_pairwise (le := fun a b => leB a b = true) (fun a b _ _ h1 h2 => ?_) h.sorted k.sorted ((List.perm_ext_iff_of_nodup h.nodup k.nodup).2 fun x => by rw [h.mem, k.mem, hf])
  simp only [leB, decide_eq_true_eq] at h1 h2
  exact List.le_antisymm h1 h2

theorem keys_any (g b : Nat) (d : MapP) (w : World) (c0 : w.cell? ⟨g, 1, none⟩ = some (.map (some b))) (hn : d.n ≤ 1000000) (h : IsMap w b d) :
    Calls Tryd.prog 14 #[.pointer (some ⟨g, 0, none⟩)] w fun e w' => ∃ (r : Nat) (ss : List (List UInt8)), e = .returned (.slice (some ⟨r, 0, none⟩) ss.length ss.length) ∧ KeysOf d ss ∧
      w'.ownsRow w.heap.size 9 1 (.slice (some ⟨r, 0, none⟩) ss.length ss.length) ss.length (ss.map encStr) ∧ Below w.heap.size w w' := by
  obtain ⟨D0, hown, hsz, hh, ha⟩ := h
  refine (keys_raw g b d w c0 hn D0 hown hsz).mono ?_
  rintro e w' ⟨r, ss, rfl, hp, hrow, hb⟩
  have tr : ∀ a b c : List UInt8, leB a b = true → leB b c = true → leB a c = true := fun a b c h1 h2 => by simp only [leB, decide_eq_true_eq] at *; exact List.le_trans h1 h2
  have to : ∀ a b : List UInt8, (leB a b || leB b a) = true := fun a b => by simp only [leB, Bool.or_eq_true, decide_eq_true_eq]; exact List.le_total a b
  have hpm := List.mergeSort_perm ss leB
  have hl : (ss.mergeSort leB).length = ss.length := hpm.length_eq
  obtain ⟨es0, hD0, hpw0, _⟩ := hown.entries law9
  have hsl : Maps.size D0 = ss.length := by
    rw [hp.length_eq, hD0]
    show es0.length = (es0.map fun p => strOf p.1).length
    simp
  rw [hsl] at hrow ⊢
  refine ⟨r, ss.mergeSort leB, by rw [hl], ?_, by rw [hl]; exact hrow, hb⟩
  obtain ⟨es, hD, hpw, _⟩ := hown.entries law9
  obtain ⟨es', hD', hko⟩ := hown.keysOf
  obtain rfl : es = es' := by rw [hD] at hD'; simpa using hD'
  have hkk : ∀ p ∈ es, ∃ x, p.1 = .string x := fun p hp => by obtain ⟨v, hv⟩ := hko p hp; obtain ⟨x, _, hx, _⟩ := Maps.keyOf_str Tryd.underlying9 hv; exact ⟨x, hx⟩
  have hq := hpm.trans hp
  have hnd : (strKeys D0).Nodup := by
    rw [hD]
    show (es.map fun p => strOf p.1).Nodup
    refine List.pairwise_map.2 (hpw.imp_of_mem fun {p q} hp' hq' hne e => hne ?_)
    obtain ⟨a, ha'⟩ := hkk p hp'
    obtain ⟨b', hb'⟩ := hkk q hq'
    rw [ha', hb'] at e ⊢
    exact congrArg _ e
  have hmem : ∀ x, x ∈ strKeys D0 ↔ has D0 (.string x) = true := fun x => by
    rw [hD, has_eq, List.any_eq_true]
    show x ∈ es.map (fun p => strOf p.1) ↔ _
    rw [List.mem_map]
    constructor
    · rintro ⟨p, hp', rfl⟩
      obtain ⟨a, ha'⟩ := hkk p hp'
      exact ⟨p, hp', by rw [ha']; simp [Lit.sameKey, strOf]⟩
    · rintro ⟨p, hp', hs⟩
      obtain ⟨a, ha'⟩ := hkk p hp'
      rw [ha'] at hs
      exact ⟨p, hp', by rw [ha']; simpa [Lit.sameKey, strOf] using hs⟩
  refine ⟨fun k => by rw [hq.mem_iff, hmem, hh], hq.nodup_iff.2 hnd, List.pairwise_mergeSort tr to ss, ?_, fun k hk => strKeys_le hown Tryd.underlying9 k (hq.mem_iff.1 hk)⟩
  rw [hq.length_eq, ← hsz, hD]
  show (es.map fun p => strOf p.1).length = es.length
  simp

end Go.Proofs.YtmlmjchifelpkaaDoor
