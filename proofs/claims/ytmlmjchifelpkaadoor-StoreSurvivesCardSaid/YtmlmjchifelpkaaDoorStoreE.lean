/- What a store's snap computes. -/
import Derived.Test.YtmlmjchifelpkaaDoorStoreD
namespace Go.Proofs.YtmlmjchifelpkaaDoor
open Go.RowKit Go.Lib Go.Maps Go.Sort
set_option linter.unusedVariables false
set_option maxRecDepth 100000

/-- The bytes of a snap. -/
def snapL (ss : List (List UInt8)) (f : List UInt8 → Option ByteArray) : List UInt8 := ss.flatMap fun k => (recP ⟨k.toArray⟩ ((f k).getD ⟨#[]⟩)).data.toList
theorem snapL_snoc (ss : List (List UInt8)) (f : List UInt8 → Option ByteArray) (k : Nat) (x : List UInt8) (h : ss[k]? = some x) : snapL (ss.take (k + 1)) f = snapL (ss.take k) f ++ (recP ⟨x.toArray⟩ ((f x).getD ⟨#[]⟩)).data.toList := by
  obtain ⟨hk, hx⟩ := List.getElem?_eq_some_iff.1 h
  unfold snapL
  rw [List.take_succ_eq_append_getElem hk, List.flatMap_append, hx]
  simp only [List.flatMap_cons, List.flatMap_nil, List.append_nil]
theorem recP_size (k v : ByteArray) (hk : k.size ≤ 100000) (hv : v.size ≤ 100000) : (recP k v).size ≤ k.size + v.size + 18 := by
  have := encL_two_len k v hk hv
  have h2 := frameL_len ⟨(encL [k, v]).toArray⟩
  have h3 : ByteArray.size ⟨(encL [k, v]).toArray⟩ = (encL [k, v]).length := by show (encL [k, v]).toArray.size = _; simp
  unfold recP
  rw [frameP_eq]
  show (frameL ⟨(encL [k, v]).toArray⟩).toArray.size ≤ _
  simp only [List.size_toArray]
  omega
/-- What keys and values may be. -/
structure MapP.Ok (m : MapP) : Prop where
  n : m.n ≤ 1000
  key : ∀ k v, m.m k = some v → 1 ≤ k.length ∧ k.length ≤ 64 ∧ v.size ≤ 65536
theorem snapL_len (m : MapP) (hm : m.Ok) : ∀ (ss : List (List UInt8)), (∀ k ∈ ss, (m.m k).isSome = true) → (snapL ss m.m).length ≤ ss.length * 66000
  | [], _ => by simp [snapL]
  | k :: ss, h => by
    have ih := snapL_len m hm ss (fun x hx => h x (by simp [hx]))
    obtain ⟨v, hv⟩ := Option.isSome_iff_exists.1 (h k (by simp))
    obtain ⟨h1, h2, h3⟩ := hm.key k v hv
    have hz : ByteArray.size ⟨k.toArray⟩ = k.length := by show k.toArray.size = _; simp
    have := recP_size ⟨k.toArray⟩ v (by omega) (by omega)
    rw [Lib.size_eq] at this
    unfold snapL at ih ⊢
    rw [List.flatMap_cons, List.length_append, hv, Option.getD_some, List.length_cons]
    omega

theorem wpList_slook0 {w : World} {ops : Array Oper} {rest : List Oper} {o : Oper} {a : Act} {Q : Exit → Act → World → Prop} {b : Nat} {d : MapP} (hg : o.guard = none) (m x : Operand) (hop : o.op = Op.lookup 49 m x false)
    (hm : a.eval m = .map (some b)) (hF : IsMap w b d) (s : ByteArray) (hs : s.size ≤ maxLen) (hx : a.eval x = .string s) (f : ByteArray) (hf : (d.m s.data.toList).getD ⟨#[]⟩ = f)
    (hK : wpList Tryd.prog ops Q rest (a.put o.dst (.string f)) w) :
    wpList Tryd.prog ops Q (o :: rest) a w := by
  refine wpList_plain hg fun K' hK' => ?_
  have hrun : (Instr.lookup 49 (.map (some b)) (.string s) false).run Tryd.prog w = .ok (.string f) w := by
    obtain ⟨D, hown, _, hh, ha⟩ := hF
    have hkey := Go.WideMaps.keyOf_string_mk (P := Tryd.prog) (k := 9) Tryd.underlying9 hs
    obtain ⟨v, ps, hrun, hv⟩ := hown.lookup law9 Tryd.underlying49 (zeroS w) (sR_sV ⟨#[]⟩) hkey
    obtain ⟨f', rfl, hf'⟩ := sR_inv hv
    rw [hrun]
    congr 1
    subst hf
    cases hq : d.m s.data.toList with
    | none =>
      have h1 := hh s.data.toList
      rw [hq] at h1
      rw [atKey_of_not_has h1] at hf'
      exact congrArg sV (sD_inj (congrArg Prod.fst hf').symm)
    | some f'' =>
      rw [ha _ _ hq] at hf'
      exact congrArg sV (sD_inj (congrArg Prod.fst hf').symm)
  unfold Oper.wp
  simp [execOp, hop, hm, hx, hrun, Result.andThen]
  exact hK' _ _ hK

/-- The map that snap tells of. -/
def snapM (m : MapP) (k : List UInt8) (v : ByteArray) : Bool → MapP
  | true => m.put k v
  | false => m

theorem keys_put (m : MapP) (k : List UInt8) (v : ByteArray) (hk : k.length ≤ 64) (hm : m.m k = none) (A B : List (List UInt8)) (h : KeysOf m (A ++ B)) (hA : ∀ a ∈ A, a < k) (hB : ∀ b ∈ B, ¬ b < k) : KeysOf (m.put k v) (A ++ k :: B) := by
  have hnk : k ∉ A ++ B := fun hx => by have := (h.mem k).1 hx; rw [hm] at this; cases this
  refine ⟨fun x => ?_, ?_, ?_, ?_, ?_⟩
  · show x ∈ A ++ k :: B ↔ (putM m.m k v x).isSome = true
    unfold putM
    by_cases e : x = k
    · subst e; simp
    · rw [if_neg e, ← h.mem x]; simp [e]
  · have := h.nodup
    rw [List.nodup_append] at this ⊢
    obtain ⟨h1, h2, h3⟩ := this
    refine ⟨h1, List.nodup_cons.2 ⟨fun hx => hnk (by simp [hx]), h2⟩, fun a ha b hb e => ?_⟩
    subst e
    rcases List.mem_cons.1 hb with rfl | hb
    · exact hnk (by simp [ha])
    · exact h3 a ha a hb rfl
  · have := h.sorted
    rw [List.pairwise_append] at this ⊢
    obtain ⟨h1, h2, h3⟩ := this
    refine ⟨h1, List.pairwise_cons.2 ⟨fun b hb => ?_, h2⟩, fun a ha b hb => ?_⟩
    · simp only [leB, decide_eq_true_eq]; exact List.not_lt.1 (hB b hb)
    · rcases List.mem_cons.1 hb with rfl | hb
      · simp only [leB, decide_eq_true_eq]; exact List.le_of_lt (hA a ha)
      · exact h3 a ha b hb
  · have := h.len
    show _ = if (m.m k).isSome = true then m.n else m.n + 1
    rw [hm]
    simp at this ⊢
    omega
  · intro x hx
    rcases List.mem_append.1 hx with hx | hx
    · exact h.small x (by simp [hx])
    · rcases List.mem_cons.1 hx with rfl | hx
      · unfold maxLen; omega
      · exact h.small x (by simp [hx])
theorem keys_same (m : MapP) (k : List UInt8) (v : ByteArray) (hm : (m.m k).isSome = true) (ss : List (List UInt8)) (h : KeysOf m ss) : KeysOf (m.put k v) ss := by
  refine ⟨fun x => ?_, h.nodup, h.sorted, ?_, h.small⟩
  · rw [h.mem]
    show _ ↔ (putM m.m k v x).isSome = true
    unfold putM
    by_cases e : x = k
    · subst e; simp [hm]
    · rw [if_neg e]
  · show _ = if (m.m k).isSome = true then m.n else m.n + 1
    rw [if_pos hm]; exact h.len

end Go.Proofs.YtmlmjchifelpkaaDoor
