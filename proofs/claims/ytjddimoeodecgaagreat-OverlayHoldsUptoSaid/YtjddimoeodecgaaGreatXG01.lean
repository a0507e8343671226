/- An indexed heap as plain data: what container/heap makes of a list of entries. -/
import Derived.Handy
import Derived.WalkKit
import Derived.Test.YtjddimoeodecgaaGreatChecked
import Derived.Lib.Hide
import Derived.Deep.DeepFit
import Derived.Deep.LoopGhost
import Derived.Deep.DeepCutAuto
import Derived.Deep.RegionLaw
import Derived.Deep.AppendLies
import Derived.Deep.QuietTactic
import Derived.BigRegion
import Derived.BigQuiet
import Derived.Below
import Derived.WalkSpells
import Derived.OwnWalk
import Derived.KernelRfl
import Derived.Lib.Fold
namespace Go.Proofs.YtjddimoeodecgaaGreat
set_option linter.unusedVariables false

/-- An entry: a number and its key. -/
abbrev Ent := Nat × Nat
/-- Which entry stands ahead. -/
def ltE (a b : Ent) : Bool := if a.2 = b.2 then decide (a.1 < b.1) else decide (a.2 < b.2)
def atE (l : List Ent) (i : Nat) : Ent := l.getD i (0, 0)
def swapE (l : List Ent) (i k : Nat) : List Ent := (l.set i (atE l k)).set k (atE l i)

theorem swapE_len (l : List Ent) (i k : Nat) : (swapE l i k).length = l.length := by simp [swapE]
theorem swapE_at (l : List Ent) (i k j : Nat) (hi : i < l.length) (hk : k < l.length) : atE (swapE l i k) j = if j = k then atE l i else if j = i then atE l k else atE l j := by
  unfold swapE atE
  simp only [List.getD_eq_getElem?_getD, List.getElem?_set, List.length_set]
  by_cases e1 : j = k
  · subst e1; simp [hk]
  · rw [if_neg (fun e => e1 e.symm), if_neg e1]
    by_cases e2 : j = i
    · subst e2; simp [hi]
    · rw [if_neg (fun e => e2 e.symm), if_neg e2]
theorem swapE_perm (l : List Ent) (i k : Nat) (hi : i < l.length) (hk : k < l.length) : (swapE l i k).Perm l := by
  refine List.perm_iff_count.2 fun a => ?_
  unfold swapE
  have e1 : atE l k = l[k] := by unfold atE; rw [List.getD_eq_getElem?_getD, List.getElem?_eq_getElem hk]; rfl
  have e2 : atE l i = l[i] := by unfold atE; rw [List.getD_eq_getElem?_getD, List.getElem?_eq_getElem hi]; rfl
  have hle : ∀ (j : Nat) (hj : j < l.length), (if l[j] == a then 1 else 0) ≤ l.count a := by
    intro j hj
    split
    · rename_i hh
      have hm := List.getElem_mem hj
      rw [beq_iff_eq] at hh
      rw [hh] at hm
      exact List.count_pos_iff.2 hm
    · exact Nat.zero_le _
  have h1 := hle i hi
  rw [List.count_set (by simpa using hk), List.count_set hi, e1, e2]
  by_cases e : i = k
  · subst e
    rw [List.getElem_set_self]
    generalize (if l[i] == a then 1 else 0) = x at *
    omega
  · rw [List.getElem_set_ne e]
    generalize (if l[i] == a then 1 else 0) = x at *
    generalize (if l[k] == a then 1 else 0) = y at *
    omega

/-- Upward. -/
def upF (l : List Ent) (j : Nat) : List Ent :=
  if h : 0 < j ∧ ltE (atE l j) (atE l ((j - 1) / 2)) = true then upF (swapE l ((j - 1) / 2) j) ((j - 1) / 2) else l
termination_by j
decreasing_by omega
/-- The lesser child. -/
def kidF (l : List Ent) (i n : Nat) : Nat := if 2 * i + 2 < n ∧ ltE (atE l (2 * i + 2)) (atE l (2 * i + 1)) = true then 2 * i + 2 else 2 * i + 1
/-- Downward. -/
def downF (l : List Ent) (i n : Nat) : List Ent × Nat :=
  if h : 2 * i + 1 < n ∧ ltE (atE l (kidF l i n)) (atE l i) = true then downF (swapE l i (kidF l i n)) (kidF l i n) n else (l, i)
termination_by n - i
decreasing_by
  have : i < kidF l i n := by unfold kidF; split <;> omega
  omega
def fixF (l : List Ent) (i : Nat) : List Ent := if i < (downF l i l.length).2 then (downF l i l.length).1 else upF (downF l i l.length).1 i
def pushF (l : List Ent) (e : Ent) : List Ent := upF (l ++ [e]) l.length
def popF (l : List Ent) : List Ent := ((downF (swapE l 0 (l.length - 1)) 0 (l.length - 1)).1).take (l.length - 1)

theorem kidF_lt (l : List Ent) (i n : Nat) (h : 2 * i + 1 < n) : kidF l i n < n ∧ i < kidF l i n := by unfold kidF; split <;> omega

theorem upF_perm (l : List Ent) (j : Nat) (hj : j < l.length) : (upF l j).Perm l := by
  induction l, j using upF.induct with
  | case1 l j h ih =>
    rw [upF, dif_pos h]
    exact (ih (by rw [swapE_len]; omega)).trans (swapE_perm l _ _ (by omega) hj)
  | case2 l j h => rw [upF, dif_neg h]
theorem downF_perm (l : List Ent) (i n : Nat) (hi : i < l.length) (hn : n ≤ l.length) : (downF l i n).1.Perm l := by
  induction l, i using downF.induct (n := n) with
  | case1 l i h ih =>
    have hk := kidF_lt l i n h.1
    rw [downF, dif_pos h]
    exact (ih (by rw [swapE_len]; omega) (by rw [swapE_len]; exact hn)).trans (swapE_perm l _ _ hi (by omega))
  | case2 l i h => rw [downF, dif_neg h]
/-- What stands from n on stays. -/
theorem downF_high (l : List Ent) (i n : Nat) (hi : i < n) (hn : n ≤ l.length) : ∀ j, n ≤ j → atE (downF l i n).1 j = atE l j := by
  induction l, i using downF.induct (n := n) with
  | case1 l i h ih =>
    have hk := kidF_lt l i n h.1
    intro j hj
    rw [downF, dif_pos h, ih hk.1 (by rw [swapE_len]; exact hn) j hj, swapE_at l i _ j (by omega) (by omega), if_neg (by omega), if_neg (by omega)]
  | case2 l i h => intro j _; rw [downF, dif_neg h]
theorem downF_len (l : List Ent) (i n : Nat) (hi : i < l.length) (hn : n ≤ l.length) : (downF l i n).1.length = l.length := (downF_perm l i n hi hn).length_eq
theorem fixF_perm (l : List Ent) (i : Nat) (hi : i < l.length) : (fixF l i).Perm l := by
  unfold fixF
  have h1 := downF_perm l i l.length hi (Nat.le_refl _)
  split
  · exact h1
  · exact (upF_perm _ i (by rw [h1.length_eq]; exact hi)).trans h1
theorem pushF_perm (l : List Ent) (e : Ent) : (pushF l e).Perm (e :: l) := by
  unfold pushF
  refine (upF_perm _ _ (by simp)).trans ?_
  exact List.perm_append_comm (l₁ := l) (l₂ := [e])
theorem atE_take (l : List Ent) (n : Nat) (h : n < l.length) : l = l.take n ++ atE l n :: l.drop (n + 1) := by
  unfold atE
  rw [List.getD_eq_getElem?_getD, List.getElem?_eq_getElem h, Option.getD_some, List.getElem_cons_drop, List.take_append_drop]
theorem popF_perm (l : List Ent) (h : 0 < l.length) : (atE l 0 :: popF l).Perm l := by
  have h1 := swapE_perm l 0 (l.length - 1) h (by omega)
  have hl := swapE_len l 0 (l.length - 1)
  have key : ∀ d : List Ent, d.Perm l → atE d (l.length - 1) = atE l 0 → (atE l 0 :: d.take (l.length - 1)).Perm l := by
    intro d hd ha
    refine List.Perm.trans ?_ hd
    have hdl := hd.length_eq
    have e := atE_take d (l.length - 1) (by omega)
    rw [List.drop_eq_nil_of_le (by omega), ha] at e
    conv => rhs; rw [e]
    simpa using (List.perm_append_comm (l₁ := [atE l 0]) (l₂ := d.take (l.length - 1)))
  unfold popF
  by_cases hz : l.length - 1 = 0
  · have e : downF (swapE l 0 (l.length - 1)) 0 (l.length - 1) = (swapE l 0 (l.length - 1), 0) := by
      rw [downF, dif_neg (by omega)]
    rw [e]
    refine key _ h1 ?_
    rw [swapE_at l 0 _ _ h (by omega), if_pos rfl]
  · refine key _ ((downF_perm _ _ _ (by omega) (by omega)).trans h1) ?_
    rw [downF_high _ _ _ (by omega) (by omega) _ (Nat.le_refl _), swapE_at l 0 _ _ h (by omega), if_pos rfl]

end Go.Proofs.YtjddimoeodecgaaGreat

/- An indexed heap in memory; Len, Less, Swap. -/
namespace Go.Proofs.YtjddimoeodecgaaGreat
open Go.RowKit Go.Lib
set_option linter.unusedVariables false

def encE (l : List Ent) : List Value := l.flatMap fun e => [.int .i64 e.1, .int .u64 e.2]
theorem encE_len (l : List Ent) : (encE l).length = l.length * 2 := by
  induction l with
  | nil => rfl
  | cons e l ih => show (_ :: _ :: encE l).length = _; simp [ih]; omega
theorem encE_app (l m : List Ent) : encE (l ++ m) = encE l ++ encE m := by simp [encE]
theorem encE_at : ∀ (l : List Ent) (i : Nat), i < l.length → (encE l)[2 * i]? = some (.int .i64 (atE l i).1) ∧ (encE l)[2 * i + 1]? = some (.int .u64 (atE l i).2)
  | [], i, h => absurd h (Nat.not_lt_zero _)
  | e :: l, 0, _ => ⟨rfl, rfl⟩
  | e :: l, i + 1, h => by
    have := encE_at l i (by simpa using h)
    exact this

/-- The places of the numbers. -/
structure AtOk (zs : List Int) (l : List Ent) (N : Nat) : Prop where
  len : zs.length = N
  at_ : ∀ i, i < l.length → zs[(atE l i).1]? = some (i : Int)
  out : ∀ j, j < N → (∀ i, i < l.length → (atE l i).1 ≠ j) → zs[j]? = some (-1)

/-- A heap's tree in memory. -/
structure IsTree (w : World) (B T ab : Nat) (v : Value) (l : List Ent) (N : Nat) : Prop where
  cells : w.heap[T]? = some (.cells #[v, .slice (some ⟨ab, 0, none⟩) N N, .func (.func 137) #[] #[]] 185 (0, 0))
  row : w.ownsRow B 187 2 v l.length (encE l)
  places : ∃ zs : List Int, w.heap[ab]? = some (.cells (zs.map (Value.int .i64)).toArray 3 (0, 0)) ∧ AtOk zs l N
  ids : ∀ i j, i < l.length → j < l.length → (atE l i).1 = (atE l j).1 → i = j
  lt : ∀ i, i < l.length → (atE l i).1 < N ∧ (atE l i).2 < 18446744073709551616
  ne : T ≠ ab
  neT : v.ownBlock ≠ some T
  neA : v.ownBlock ≠ some ab
  bT : B ≤ T
  bA : B ≤ ab
  small : N ≤ 16384

/-- What a heap's call turns: its own blocks alone, and new ones. -/
structure HTurn (T ab : Nat) (v : Value) (w w' : World) (v' : Value) : Prop where
  os : w'.os = w.os
  tape : w'.tape = w.tape
  output : w'.output = w.output
  size : w.heap.size ≤ w'.heap.size
  block : ∀ k, k < w.heap.size → k ≠ T → k ≠ ab → v.ownBlock ≠ some k → w'.heap[k]? = w.heap[k]?
  own : v'.ownBlock = v.ownBlock ∨ ∃ k, v'.ownBlock = some k ∧ w.heap.size ≤ k
section
variable {T ab : Nat} {v v1 v2 : Value} {w w1 w2 : World}
theorem HTurn.refl (T ab : Nat) (v : Value) (w : World) : HTurn T ab v w w v := ⟨rfl, rfl, rfl, Nat.le_refl _, fun _ _ _ _ _ => rfl, Or.inl rfl⟩
theorem HTurn.trans (h : HTurn T ab v w w1 v1) (k : HTurn T ab v1 w1 w2 v2) : HTurn T ab v w w2 v2 := by
  refine ⟨k.os.trans h.os, k.tape.trans h.tape, k.output.trans h.output, Nat.le_trans h.size k.size, fun i hi a1 a2 a3 => ?_, ?_⟩
  · refine (k.block i (Nat.lt_of_lt_of_le hi h.size) a1 a2 (fun e => ?_)).trans (h.block i hi a1 a2 a3)
    rcases h.own with h1 | ⟨j, h1, h2⟩
    · exact a3 (h1.symm.trans e)
    · rw [h1] at e; cases e; omega
  · rcases k.own with k1 | ⟨j, k1, k2⟩
    · rw [k1]; exact h.own
    · exact Or.inr ⟨j, k1, Nat.le_trans h.size k2⟩
theorem HTurn.of_below (T ab : Nat) (v : Value) (h : Below w.heap.size w w1) : HTurn T ab v w w1 v := ⟨h.os, h.tape, h.output, h.size, fun k hk _ _ _ => h.block k hk, Or.inl rfl⟩
theorem HTurn.below {B : Nat} (h : HTurn T ab v w w1 v1) (hB : B ≤ w.heap.size) (hT : B ≤ T) (hA : B ≤ ab) (hv : ∀ k, v.ownBlock = some k → B ≤ k) : Below B w w1 :=
  ⟨h.os, h.tape, h.output, h.size, fun k hk => h.block k (by omega) (by omega) (by omega) (fun e => by have := hv k e; omega)⟩
end

theorem row_stays {w w' : World} {base : Nat} {e : TypeId} {size n : Nat} {v : Value} {xs : List Value} (h : w.ownsRow base e size v n xs) (hm : ∀ k, v.ownBlock = some k → w'.heap[k]? = w.heap[k]?) : w'.ownsRow base e size v n xs := by
  obtain ⟨h1, h2⟩ := h
  refine ⟨h1, ?_⟩
  rcases h2 with h2 | ⟨g, cap, cur, rfl, hg, hh, r⟩
  · exact .inl h2
  · exact .inr ⟨g, cap, cur, rfl, hg, (hm g (by simp [Value.ownBlock])).trans hh, r⟩
section
variable {w w' : World} {B T ab N : Nat} {v : Value} {l : List Ent}
theorem lt_of_block {w : World} {k : Nat} {o : Obj} (h : w.heap[k]? = some o) : k < w.heap.size := (Array.getElem?_eq_some_iff.1 h).1
theorem IsTree.ltT (h : IsTree w B T ab v l N) : T < w.heap.size := lt_of_block h.cells
theorem IsTree.ltA (h : IsTree w B T ab v l N) : ab < w.heap.size := by obtain ⟨zs, h1, _⟩ := h.places; exact lt_of_block h1
theorem IsTree.ltV (h : IsTree w B T ab v l N) (k : Nat) (hk : v.ownBlock = some k) : B ≤ k ∧ k < w.heap.size := h.row.lt k hk
theorem IsTree.kept (h : IsTree w B T ab v l N) (hT : w'.heap[T]? = w.heap[T]?) (hA : w'.heap[ab]? = w.heap[ab]?) (hV : ∀ k, v.ownBlock = some k → w'.heap[k]? = w.heap[k]?) : IsTree w' B T ab v l N := by
  obtain ⟨zs, h1, h2⟩ := h.places
  exact ⟨hT.trans h.cells, row_stays h.row hV, ⟨zs, hA.trans h1, h2⟩, h.ids, h.lt, h.ne, h.neT, h.neA, h.bT, h.bA, h.small⟩
theorem IsTree.below (h : IsTree w B T ab v l N) (hb : Below w.heap.size w w') : IsTree w' B T ab v l N :=
  h.kept (hb.block T h.ltT) (hb.block ab h.ltA) (fun k hk => hb.block k (h.ltV k hk).2)
theorem IsTree.cell0 (h : IsTree w B T ab v l N) : w.cell? ⟨T, 0, none⟩ = some v := by simp [World.cell?, h.cells]
theorem IsTree.cell1 (h : IsTree w B T ab v l N) : w.cell? ⟨T, 1, none⟩ = some (.slice (some ⟨ab, 0, none⟩) N N) := by simp [World.cell?, h.cells]
theorem IsTree.cell2 (h : IsTree w B T ab v l N) : w.cell? ⟨T, 2, none⟩ = some (.func (.func 137) #[] #[]) := by simp [World.cell?, h.cells]
theorem IsTree.thaw (h : IsTree w B T ab v l N) (i : Nat) : w.frozen? ⟨T, i, none⟩ = false := by simp [World.frozen?, h.cells]
/-- The row's slice, and its cells. -/
theorem IsTree.slice (h : IsTree w B T ab v l N) (hl : 0 < l.length) : ∃ lb cap, v = .slice (some ⟨lb, 0, none⟩) l.length cap ∧ l.length ≤ cap ∧ cap ≤ maxLen ∧ B ≤ lb ∧ lb < w.heap.size ∧ lb ≠ T ∧ lb ≠ ab ∧
    (∀ i, i < l.length → w.cell? ⟨lb, i * 2, none⟩ = some (.int .i64 (atE l i).1) ∧ w.cell? ⟨lb, i * 2 + 1, none⟩ = some (.int .u64 (atE l i).2)) ∧ ∀ i, w.frozen? ⟨lb, i, none⟩ = false := by
  have hr := h.row
  rcases hr.2 with ⟨_, h0⟩ | ⟨q, c, cur, rfl, hbase, hb, h1, h2, h3, h4⟩
  · omega
  · refine ⟨q, c, rfl, h1, h2, hbase, lt_of_block hb, fun e => h.neT (by rw [← e]; rfl), fun e => h.neA (by rw [← e]; rfl), fun i hi => ?_, fun i => by simp [World.frozen?, hb]⟩
    obtain ⟨e1, e2⟩ := encE_at l i hi
    have hln := encE_len l
    have c1 := hr.cellAt (i * 2) (by omega)
    have c2 := hr.cellAt (i * 2 + 1) (by omega)
    rw [c1, c2, show i * 2 = 2 * i by omega]
    exact ⟨e1, e2⟩
theorem IsTree.nilslice (h : IsTree w B T ab v l N) : ∃ A cap, v = .slice A l.length cap := by
  rcases h.row.2 with ⟨rfl, h0⟩ | ⟨q, c, cur, rfl, _⟩
  · exact ⟨none, 0, by rw [h0]⟩
  · exact ⟨_, c, rfl⟩
end

theorem len_any (B T ab N : Nat) (v : Value) (l : List Ent) (w : World) (h : IsTree w B T ab v l N) :
    Calls Tryz.prog 201 #[.pointer (some ⟨T, 0, none⟩)] w fun e w' => e = .returned (.int .i64 l.length) ∧ w = w' := by
  have c0 := h.cell0
  obtain ⟨A, cap, rfl⟩ := h.nilslice
  clear h
  go_enter Tryz.func201, Tryz.ntmps201
  go_wp2_with fail
  go_ret
  exact ⟨rfl, rfl⟩

theorem ahead_any (a b : Ent) (w : World) : Calls Tryz.prog 137 #[.agg #[.int .i64 a.1, .int .u64 a.2], .agg #[.int .i64 b.1, .int .u64 b.2]] w fun e w' => e = .returned (.bool (ltE a b)) ∧ Below w.heap.size w w' := by
  obtain ⟨i, x⟩ := a
  obtain ⟨j, y⟩ := b
  unfold ltE
  dsimp only
  by_cases hxy : x = y
  · subst hxy
    rw [if_pos rfl]
    by_cases h : i < j
    · have hz : (i : Int) < (j : Int) := by omega
      rw [decide_eq_true h]
      clear h
      go_enter Tryz.func137, Tryz.ntmps137
      go_wp2_with fail
      go_ret
      exact ⟨rfl, by go_grown⟩
    · have hz : ¬ (i : Int) < (j : Int) := by omega
      rw [decide_eq_false h]
      clear h
      go_enter Tryz.func137, Tryz.ntmps137
      go_wp2_with fail
      go_ret
      exact ⟨rfl, by go_grown⟩
  · rw [if_neg hxy]
    have hn : ¬ (x : Int) = (y : Int) := by omega
    by_cases h : x < y
    · have hz : (x : Int) < (y : Int) := by omega
      rw [decide_eq_true h]
      clear h hxy
      go_enter Tryz.func137, Tryz.ntmps137
      go_wp2_with fail
      go_ret
      exact ⟨rfl, by go_grown⟩
    · have hz : ¬ (x : Int) < (y : Int) := by omega
      rw [decide_eq_false h]
      clear h hxy
      go_enter Tryz.func137, Tryz.ntmps137
      go_wp2_with fail
      go_ret
      exact ⟨rfl, by go_grown⟩

set_option maxHeartbeats 4000000 in
theorem less_any (B T ab N : Nat) (v : Value) (l : List Ent) (i k : Nat) (w : World) (h : IsTree w B T ab v l N) (hi : i < l.length) (hk : k < l.length) (hl : l.length ≤ 16384) :
    Calls Tryz.prog 202 #[.pointer (some ⟨T, 0, none⟩), .int .i64 i, .int .i64 k] w fun e w' => e = .returned (.bool (ltE (atE l i) (atE l k))) ∧ Below w.heap.size w w' := by
  have c0 := h.cell0
  have c2 := h.cell2
  obtain ⟨lb, cap, rfl, hc1, hc2, _, hlb, _, _, hcell, _⟩ := h.slice (by omega)
  obtain ⟨x0, x1⟩ := hcell i hi
  obtain ⟨y0, y1⟩ := hcell k hk
  have hiz : (i : Int) < (l.length : Int) := by omega
  have hkz : (k : Int) < (l.length : Int) := by omega
  have HA := Lib.hid (fun wx => ahead_any (atE l i) (atE l k) wx)
  generalize atE l i = a at *
  generalize atE l k = b at *
  obtain ⟨a1, a2⟩ := a
  obtain ⟨b1, b2⟩ := b
  simp only at x0 x1 y0 y1 HA
  clear h hcell hi hk hl
  go_enter Tryz.func202, Tryz.ntmps202
  go_upto_region 1 with fail
  have d0 : w.drew.cell? ⟨T, 0, none⟩ = some (.slice (some ⟨lb, 0, none⟩) l.length cap) := c0
  have d2 : w.drew.cell? ⟨T, 2, none⟩ = some (.func (.func 137) #[] #[]) := c2
  have dx0 : w.drew.cell? ⟨lb, i * 2, none⟩ = some (.int .i64 a1) := x0
  have dx1 : w.drew.cell? ⟨lb, i * 2 + 1, none⟩ = some (.int .u64 a2) := x1
  have dy0 : w.drew.cell? ⟨lb, k * 2, none⟩ = some (.int .i64 b1) := y0
  have dy1 : w.drew.cell? ⟨lb, k * 2 + 1, none⟩ = some (.int .u64 b2) := y1
  go_region_with (go_at_call 137; (with_reducible refine (HA.out _).mono ?_); rintro e w1 ⟨rfl, hb1⟩)
  all_goals
    go_wp2_with fail
    go_ret
    exact ⟨rfl, (Below.refl _ w).drew.trans hb1⟩

end Go.Proofs.YtjddimoeodecgaaGreat
