/- A key is put among sorted ones: slices.BinarySearch and slices.Insert by the shelf's contracts. -/
import Derived.Test.YtmlmjchifelpkaaDoorStoreC
import Derived.Test.YtmlmjchifelpkaaDoorShelf
import Derived.Sort.Walk0
import Derived.Laws.IdiomCopy
namespace Go.Proofs.YtmlmjchifelpkaaDoor
open Go.RowKit Go.Lib Go.Maps Go.Sort
set_option linter.unusedVariables false
set_option maxRecDepth 100000

theorem split_at (x : List UInt8) : ∀ (ss : List (List UInt8)), ss.Pairwise (fun a b => leB a b = true) → ∃ A B, ss = A ++ B ∧ (∀ a ∈ A, a < x) ∧ (∀ b ∈ B, ¬ b < x)
  | [], _ => ⟨[], [], rfl, by simp, by simp⟩
  | a :: ss, h => by
    obtain ⟨h1, h2⟩ := List.pairwise_cons.1 h
    by_cases ha : a < x
    · obtain ⟨A, B, rfl, hA, hB⟩ := split_at x ss h2
      exact ⟨a :: A, B, rfl, by intro y hy; rcases List.mem_cons.1 hy with rfl | hy; exact ha; exact hA y hy, hB⟩
    · refine ⟨[], a :: ss, rfl, by simp, ?_⟩
      intro y hy
      rcases List.mem_cons.1 hy with rfl | hy
      · exact ha
      · intro hyx
        have := h1 y hy
        simp only [leB, decide_eq_true_eq] at this
        exact ha (List.lt_of_le_of_lt this hyx)

/-- Texts lie at block g. -/
def StrsIn (w : World) (g : Nat) (ss : List (List UInt8)) : Prop := ∀ j x, ss[j]? = some x → w.cell? ⟨g, j, none⟩ = some (encStr x)
theorem StrsIn.stays {w w' : World} {g : Nat} {ss : List (List UInt8)} (h : StrsIn w g ss) (hb : w'.heap[g]? = w.heap[g]?) : StrsIn w' g ss := fun j x hx => (World.cell?_of_block hb).trans (h j x hx)
theorem StrsIn.of_row {w : World} {B r n c : Nat} {ss : List (List UInt8)} (h : w.ownsRow B 9 1 (.slice (some ⟨r, 0, none⟩) n c) n (ss.map encStr)) : StrsIn w r ss := by
  intro j x hx
  rcases h.2 with ⟨h0, _⟩ | ⟨g, cap, cur, hv, hb, hg, hnc, hcm, hcs, ht⟩
  · cases h0
  · cases hv
    have : cur[j]? = some (encStr x) := by
      have hu : (ss.map encStr)[j]? = some (encStr x) := by rw [List.getElem?_map, hx]; rfl
      rw [← ht, List.getElem?_take] at hu
      split at hu
      · simpa using hu
      · cases hu
    exact cell_of_heap hg j _ this

theorem search_any (g c : Nat) (A B : List (List UInt8)) (x : List UInt8) (w : World) (h : StrsIn w g (A ++ B)) (hA : ∀ a ∈ A, a < x) (hB : ∀ b ∈ B, ¬ b < x) (hn : (A ++ B).length ≤ 1000000) :
    Calls Tryd.prog 41 #[.slice (some ⟨g, 0, none⟩) (A ++ B).length c, encStr x] w fun e w' => ∃ t, e = .returned (.tuple #[.int .i64 A.length, .bool t]) ∧ ∃ q, w' = w.drewN q := by
  have hbs : Lib.bsGo (fun t => Op.bytesLess ((if t < (A ++ B).length then (⟨((A ++ B).getD t []).toArray⟩ : ByteArray) else ⟨x.toArray⟩)).toList (⟨x.toArray⟩ : ByteArray).toList) (A ++ B).length 0 (A ++ B).length = A.length := by
    refine Lib.bsGo_spec _ A.length (fun t ht => ?_) (fun t ht => ?_) _ _ _ (by omega) (by omega) (by simp)
    · rw [if_pos (by simp; omega), bytesLess_eq, ByteArray.toList_eq, ByteArray.toList_eq]
      simp only [decide_eq_true_eq]
      refine hA _ ?_
      rw [List.getD_eq_getElem?_getD, List.getElem?_append_left ht, List.getElem?_eq_getElem ht]
      exact List.getElem_mem ht
    · rw [bytesLess_eq, ByteArray.toList_eq, ByteArray.toList_eq]
      simp only [decide_eq_false_iff_not]
      by_cases h1 : t < (A ++ B).length
      · rw [if_pos h1]
        refine hB _ ?_
        have h2 : t - A.length < B.length := by simp at h1; omega
        show (A ++ B).getD t [] ∈ B
        rw [List.getD_eq_getElem?_getD, List.getElem?_append_right ht, List.getElem?_eq_getElem h2]
        exact List.getElem_mem h2
      · rw [if_neg h1]
        exact List.lt_irrefl _
  have := Tryd.slices_BinarySearch_string g 0 (A ++ B).length c (fun t => if t < (A ++ B).length then (⟨((A ++ B).getD t []).toArray⟩ : ByteArray) else ⟨x.toArray⟩) ⟨x.toArray⟩ w (by omega) (fun j hj => by
    rw [Nat.zero_add, if_pos hj]
    exact h j _ (by rw [List.getD_eq_getElem?_getD, List.getElem?_eq_getElem hj]; rfl))
  rw [hbs] at this
  exact this.mono fun e w' ⟨h1, h2⟩ => ⟨_, h1, h2⟩

theorem end_world (w : World) (ss : List (List UInt8)) (Z : Array Value) (T : TypeId) : StrsIn (w.drew.alloc (.cells ((ss.map encStr).toArray ++ Z) T)) w.heap.size ss := by
  intro j y hy
  refine cell_of_heap (heap_alloc_new w.drew _) j _ ?_
  have hj : j < ss.length := (List.getElem?_eq_some_iff.1 hy).1
  rw [Array.getElem?_append_left (by simp; exact hj)]
  simp only [List.getElem?_toArray, List.getElem?_map, hy, Option.map_some]

theorem grow_world (w : World) (A B : List (List UInt8)) (x : List UInt8) (C : Array Value) (T : TypeId) (hC : A.length + 1 + B.length ≤ C.size) (hA : ∀ (j : Nat) (y : List UInt8), A[j]? = some y → C[j]? = some (encStr y)) (W : World)
    (hW : W = (((w.alloc (.cells C T)).drew.setCells w.heap.size A.length [encStr x]).drew).setCells w.heap.size (A.length + 1) (B.map encStr)) :
    StrsIn W w.heap.size (A ++ x :: B) ∧ Below w.heap.size w W ∧ w.heap.size < W.heap.size := by
  have h0 : (w.alloc (.cells C T)).drew.heap[w.heap.size]? = some (.cells C T (0, 0)) := heap_alloc_new w _
  have c0 : ∀ j v, C[j]? = some v → (w.alloc (.cells C T)).drew.cell? ⟨w.heap.size, j, none⟩ = some v := fun j v hv => cell_of_heap h0 j v hv
  have s0 : ∀ j, j < C.size → ((w.alloc (.cells C T)).drew.cell? ⟨w.heap.size, j, none⟩).isSome = true := fun j hj => by rw [c0 j C[j] (Array.getElem?_eq_getElem hj)]; rfl
  have hb0 : Below w.heap.size w (w.alloc (.cells C T)).drew := ((Below.refl _ w).alloc (Nat.le_refl _) _).drew
  have z0 : w.heap.size < (w.alloc (.cells C T)).drew.heap.size := by show _ < (w.alloc _).heap.size; simp
  generalize (w.alloc (.cells C T)).drew = w1 at *
  have hs1 : ∀ (vs : List Value) (o : Nat) (w' : World), Below w.heap.size w w' → w.heap.size < w'.heap.size → Below w.heap.size w (w'.setCells w.heap.size o vs) ∧ w.heap.size < (w'.setCells w.heap.size o vs).heap.size := by
    intro vs
    induction vs with
    | nil => intro o w' h1 h2; exact ⟨h1, h2⟩
    | cons v vs ih =>
      intro o w' h1 h2
      exact ih (o + 1) (w'.setCell ⟨w.heap.size, o, none⟩ v) (h1.setCell (Nat.le_refl _) _) (by simpa [World.setCell] using h2)
  obtain ⟨hb1, hz1⟩ := hs1 [encStr x] A.length w1 hb0 z0
  obtain ⟨hb2, hz2⟩ := hs1 (B.map encStr) (A.length + 1) (w1.setCells w.heap.size A.length [encStr x]).drew hb1.drew hz1
  subst hW
  refine ⟨?_, hb2, hz2⟩
  have e1 : ∀ j, j ≠ A.length → (w1.setCells w.heap.size A.length [encStr x]).cell? ⟨w.heap.size, j, none⟩ = w1.cell? ⟨w.heap.size, j, none⟩ := fun j hj => World.cell?_setCells_out w.heap.size [encStr x] A.length w1 ⟨w.heap.size, j, none⟩ (fun _ _ => by show j < A.length ∨ A.length + 1 ≤ j; omega)
  have e2 : (w1.setCells w.heap.size A.length [encStr x]).cell? ⟨w.heap.size, A.length, none⟩ = some (encStr x) :=
    World.cell?_setCells_in w.heap.size [encStr x] A.length w1 (fun j hj => s0 _ (by simp at hj; omega)) 0 (by simp)
  have s1 : ∀ j, j < C.size → ((w1.setCells w.heap.size A.length [encStr x]).cell? ⟨w.heap.size, j, none⟩).isSome = true := fun j hj => by
    by_cases h : j = A.length
    · subst h; rw [e2]; rfl
    · rw [e1 j h]; exact s0 j hj
  generalize w1.setCells w.heap.size A.length [encStr x] = w2 at *
  intro j y hy
  by_cases h : j < A.length + 1
  · have e3 : (w2.drew.setCells w.heap.size (A.length + 1) (B.map encStr)).cell? ⟨w.heap.size, j, none⟩ = w2.cell? ⟨w.heap.size, j, none⟩ := World.cell?_setCells_out w.heap.size (B.map encStr) (A.length + 1) w2.drew ⟨w.heap.size, j, none⟩ (fun _ _ => by show j < A.length + 1 ∨ _; omega)
    rw [e3]
    by_cases h2 : j = A.length
    · subst h2
      rw [List.getElem?_append_right (Nat.le_refl _)] at hy
      simp at hy
      subst hy
      exact e2
    · rw [List.getElem?_append_left (by omega)] at hy
      rw [e1 j h2]
      exact c0 j _ (hA j y hy)
  · rw [List.getElem?_append_right (by omega)] at hy
    have hj : j - A.length = (j - (A.length + 1)) + 1 := by omega
    rw [hj, List.getElem?_cons_succ] at hy
    have hjB : j - (A.length + 1) < B.length := (List.getElem?_eq_some_iff.1 hy).1
    have := World.cell?_setCells_in w.heap.size (B.map encStr) (A.length + 1) w2.drew (fun j hj => s1 _ (by simp at hj; omega)) (j - (A.length + 1)) (by simpa using hjB)
    rw [show A.length + 1 + (j - (A.length + 1)) = j by omega] at this
    rw [this]
    have h3 : B[j - (A.length + 1)] = y := by rw [List.getElem?_eq_getElem hjB] at hy; exact Option.some.inj hy
    simp [h3]

theorem insert_any (g : Nat) (A B : List (List UInt8)) (x : List UInt8) (vb : Nat) (w : World) (h : StrsIn w g (A ++ B)) (hv : w.cell? ⟨vb, 0, none⟩ = some (encStr x)) (hn : (A ++ B).length ≤ 1000000) :
    Calls Tryd.prog 42 #[.slice (some ⟨g, 0, none⟩) (A ++ B).length (A ++ B).length, .int .i64 A.length, .slice (some ⟨vb, 0, none⟩) 1 1] w fun e w' =>
      ∃ c, e = .returned (.slice (some ⟨w.heap.size, 0, none⟩) (A ++ x :: B).length c) ∧ StrsIn w' w.heap.size (A ++ x :: B) ∧ Below w.heap.size w w' ∧ w.heap.size < w'.heap.size := by
  have hl : (A ++ x :: B).length = (A ++ B).length + 1 := by simp; omega
  rw [hl]
  have hcs : ∀ j v, ((A ++ B).map encStr)[j]? = some v → w.cell? ⟨g, 0 + j, none⟩ = some v := fun j v hj => by
    rw [List.getElem?_map, Option.map_eq_some_iff] at hj
    obtain ⟨y, hy, rfl⟩ := hj
    rw [Nat.zero_add]
    exact h j y hy
  have hvs : ∀ j v, [encStr x][j]? = some v → w.cell? ⟨vb, 0 + j, none⟩ = some v := fun j v hj => by
    match j, hj with
    | 0, hj => simp at hj; subst hj; exact hv
  have h1 : ∀ v ∈ (A ++ B).map encStr, v.oneCell' = true := fun v hv => by
    obtain ⟨y, _, rfl⟩ := List.mem_map.1 hv
    rfl
  have h2 : ∀ v ∈ [encStr x], v.oneCell' = true := fun v hv => by simp at hv; subst hv; rfl
  by_cases hB : B = []
  · subst hB
    simp only [List.append_nil] at *
    have hnn : A.length ≤ 1000000 := hn
    have hcs2 : ∀ a, (some (⟨g, 0, none⟩ : Addr)) = some a → ∀ (j : Nat) v, (A.map encStr)[j]? = some v → w.cell? (a.add j) = some v := fun a ha j v hj => by
      cases ha
      have := hcs j v hj
      rw [Nat.zero_add] at this
      have e : (⟨g, 0, none⟩ : Addr).add j = ⟨g, j, none⟩ := by (by_cases hj0 : j = 0 <;> simp [Addr.add, hj0])
      rw [e]; exact this
    have h3 := Tryd.slices_Insert_string_end_grow (some ⟨g, 0, none⟩) A.length A.length vb 0 1 1 (A.map encStr) [encStr x] w (by omega) (Nat.le_refl _) (by omega) (by omega) (by simp) rfl (fun h => by cases h) hcs2 hvs h2
    have hq := end_world w (A ++ [x]) (Builtin.zeroCells (Value.string ⟨#[]⟩).cells (grownCap w (A.length + 1) A.length 9 - (A.length + 1))) 9
    have hm : A.map encStr ++ [encStr x] = (A ++ [x]).map encStr := by simp
    rw [hm] at h3
    generalize (Builtin.zeroCells (Value.string ⟨#[]⟩).cells (grownCap w (A.length + 1) A.length 9 - (A.length + 1))) = Z at *
    refine h3.mono ?_
    intro e w' hew
    rcases hew with ⟨he, hw⟩
    subst hw
    exact ⟨_, he, hq, ((Below.refl _ w).drew).alloc (Nat.le_refl _) _, by simp⟩
  · have hBl : 0 < B.length := List.length_pos_iff.2 hB
    have h3 := Tryd.slices_Insert_string_grow g 0 (A ++ B).length (A ++ B).length A.length vb 0 1 1 ((A ++ B).map encStr) [encStr x] w (by simp; omega) (by omega) (by omega) (by omega) (by omega) (by simp) rfl hcs hvs h1 h2
    have ht : ((A ++ B).map encStr).take A.length = A.map encStr := by rw [List.map_append, List.take_left' (by simp)]
    have hd : ((A ++ B).map encStr).drop A.length = B.map encStr := by rw [List.map_append, List.drop_left' (by simp)]
    rw [ht, hd] at h3
    have hzs : (Builtin.zeroCells (Value.string ⟨#[]⟩).cells ((A ++ B).length + 1 - A.length)).size = (A ++ B).length + 1 - A.length := by simp [Builtin.zeroCells, Value.cells]
    generalize Builtin.zeroCells (Value.string ⟨#[]⟩).cells ((A ++ B).length + 1 - A.length) = Z1 at *
    generalize Builtin.zeroCells (Value.string ⟨#[]⟩).cells (grownCap w ((A ++ B).length + 1) (A ++ B).length 9 - ((A ++ B).length + 1)) = Z2 at *
    refine h3.mono ?_
    intro e w' hew
    rcases hew with ⟨he, hw⟩
    obtain ⟨q1, q2, q3⟩ := grow_world w A B x ((A.map encStr).toArray ++ Z1 ++ Z2) 9 (by simp at hzs ⊢; omega) (fun j y hy => by
      have hj : j < A.length := (List.getElem?_eq_some_iff.1 hy).1
      rw [Array.append_assoc, Array.getElem?_append_left (by simp; exact hj)]
      simp only [List.getElem?_toArray, List.getElem?_map, hy, Option.map_some]) w' hw
    exact ⟨_, he, q1, q2, q3⟩

end Go.Proofs.YtmlmjchifelpkaaDoor
