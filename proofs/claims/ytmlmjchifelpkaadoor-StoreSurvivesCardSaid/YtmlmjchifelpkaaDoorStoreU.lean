/- Small stores: Put without a fuse, as the laws call it. -/
import Derived.Test.YtmlmjchifelpkaaDoorStoreT
namespace Go.Proofs.YtmlmjchifelpkaaDoor
open Go.RowKit Go.Lib Go.Maps Go.Sort
set_option linter.unusedVariables false
set_option maxRecDepth 100000

/-- Small: keys that may be, values of 1000 bytes at most, no more than n. -/
structure MapP.Small (m : MapP) (n : Nat) : Prop where
  n : m.n ≤ n
  key : ∀ k v, m.m k = some v → 1 ≤ k.length ∧ k.length ≤ 64 ∧ v.size ≤ 1000
theorem MapP.Small.ok {m : MapP} {n : Nat} (h : m.Small n) (hn : n ≤ 1000) : m.Ok := ⟨Nat.le_trans h.n hn, fun k v hk => by have := h.key k v hk; omega⟩
theorem MapP.Small.nil : MapP.nil.Small 0 := ⟨Nat.le_refl _, fun k v h => by cases h⟩
theorem MapP.Small.put {m : MapP} {n : Nat} (h : m.Small n) (k : List UInt8) (v : ByteArray) (hk : 1 ≤ k.length ∧ k.length ≤ 64) (hv : v.size ≤ 1000) : (m.put k v).Small (n + 1) := by
  refine ⟨?_, fun x y hx => ?_⟩
  · have := h.n
    unfold MapP.put
    dsimp only
    split <;> omega
  · have hx2 : putM m.m k v x = some y := hx
    unfold putM at hx2
    split at hx2
    · rename_i e
      cases hx2
      rw [e]
      exact ⟨hk.1, hk.2, hv⟩
    · exact h.key x y hx2
theorem MapP.Small.mono {m : MapP} {n k : Nat} (h : m.Small n) (hk : n ≤ k) : m.Small k := ⟨Nat.le_trans h.n hk, h.key⟩

theorem snapL_small {m : MapP} {n : Nat} (hm : m.Small n) : ∀ (ss : List (List UInt8)), (∀ k ∈ ss, (m.m k).isSome = true) → (snapL ss m.m).length ≤ ss.length * 1100
  | [], _ => by simp [snapL]
  | k :: ss, h => by
    have ih := snapL_small hm ss (fun x hx => h x (by simp [hx]))
    obtain ⟨v, hv⟩ := Option.isSome_iff_exists.1 (h k (by simp))
    obtain ⟨h1, h2, h3⟩ := hm.key k v hv
    have hz : ByteArray.size ⟨k.toArray⟩ = k.length := by show k.toArray.size = _; simp
    have := recP_size ⟨k.toArray⟩ v (by omega) (by omega)
    rw [Lib.size_eq] at this
    unfold snapL at ih ⊢
    rw [List.flatMap_cons, List.length_append, hv, Option.getD_some, List.length_cons]
    omega

theorem put_small (S g b mb : Nat) (s t : Option FileP) (f : FileP) (le : Int) (m : MapP) (n : Nat) (k v : ByteArray) (w : World) (h : IsStore w S g b mb (D3 s (some f) t false false le) m) (hm : m.Small n) (hn : n ≤ 100)
    (hf : f.has.size ≤ n * 1100) (hk : 1 ≤ k.size ∧ k.size ≤ 64) (hv : v.size ≤ 1000) (hl : Laid w) :
    Calls Tryd.prog 9 #[.pointer (some ⟨S, 0, none⟩), .string k, .string v] w fun e w' => e = .returned (.int .i64 0) ∧ IsStore w' S g b mb (D3 s (some ⟨f.has ++ recP k v, f.has ++ recP k v, true⟩) t false false le) (m.put k.data.toList v) ∧ Turn3 g b mb w w' := by
  have hkl : 1 ≤ k.data.toList.length ∧ k.data.toList.length ≤ 64 := by rw [← Lib.size_eq]; exact hk
  have hp := hm.put k.data.toList v hkl hv
  have hr := recP_size k v (by omega) (by omega)
  have hfz : f.has.size + (recP k v).size ≤ 262144 := by omega
  have hpu := put_up s t f le m k v hk hfz
  have := put_any S g b mb (D3 s (some f) t false false le) m k v w h hk (by omega) (hp.ok (by omega)) (Nat.le_trans hm.n (by omega)) hl (fun ss hss => by
    have h1 := snapL_small hp ss (fun x hx => (hss.mem x).1 hx)
    have h2 := hss.len
    have h3 := hp.n
    have h4 : ss.length * 1100 ≤ 101 * 1100 := Nat.mul_le_mul_right _ (by omega)
    omega) (by rw [k_l]; exact hfz)
  rw [hpu] at this
  exact this

theorem compact_small (S g b mb : Nat) (s t : Option FileP) (f : FileP) (le : Int) (m : MapP) (n : Nat) (w : World) (h : IsStore w S g b mb (D3 s (some f) t false false le) m) (hm : m.Small n) (hn : n ≤ 100) (hl : Laid w) :
    Calls Tryd.prog 12 #[.pointer (some ⟨S, 0, none⟩)] w fun e w' => e = .returned (.int .i64 0) ∧ ∃ ss, KeysOf m ss ∧ IsStore w' S g b mb (D3 (some ⟨⟨(snapL ss m.m).toArray⟩, ⟨(snapL ss m.m).toArray⟩, true⟩) (some ⟨⟨#[]⟩, ⟨#[]⟩, true⟩) none false false le) m ∧ Turn g b w w' := by
  refine (compact_any S g b mb _ m w h (hm.ok (by omega)) hl).mono ?_
  rintro e w' ⟨ss, hss, rfl, h1, h2⟩
  have h3 := snapL_small hm ss (fun x hx => (hss.mem x).1 hx)
  have h4 := hss.len
  have h5 := hm.n
  have h6 : ss.length * 1100 ≤ 100 * 1100 := Nat.mul_le_mul_right _ (by omega)
  rw [compact_up _ _ _ _ _ (by rw [arr_size]; omega)] at h1 ⊢
  exact ⟨rfl, ss, hss, h1, h2⟩

end Go.Proofs.YtmlmjchifelpkaaDoor
