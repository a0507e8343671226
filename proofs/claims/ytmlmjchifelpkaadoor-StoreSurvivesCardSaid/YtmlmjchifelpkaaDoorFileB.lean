/- A disk in memory: how it lies there, what a lookup, a store, a deletion of its map give. -/
import Derived.Test.YtmlmjchifelpkaaDoorFileA
import Derived.Maps.Range
import Derived.StillTailTactics
namespace Go.Proofs.YtmlmjchifelpkaaDoor
open Go.RowKit Go.Lib Go.Maps
set_option linter.unusedVariables false

def fD (f : FileP) : DataW Unit := .agg [.lit (.string f.has.data.toList), .lit (.string f.safe.data.toList), .lit (.bool f.kept)]
def fV (f : FileP) : Value := .agg #[.string f.has, .string f.safe, .bool f.kept]
def fR : Value → Option (DataW Unit × List MemPlace)
  | .agg a => match a.toList with
    | [.string h, .string s, .bool k] => some (fD ⟨h, s, k⟩, [])
    | _ => none
  | _ => none

theorem fR_fV (f : FileP) : fR (fV f) = some (fD f, []) := rfl

theorem fR_inv {v : Value} {z : DataW Unit × List MemPlace} (h : fR v = some z) : ∃ f, v = fV f ∧ z = (fD f, []) := by
  unfold fR at h
  split at h
  · rename_i a
    split at h
    · rename_i x y k e
      cases a with
      | mk l =>
        simp at e
        subst e
        cases h
        exact ⟨⟨x, y, k⟩, rfl, rfl⟩
    · cases h
  · cases h

theorem bytes_inj {x y : ByteArray} (h : x.data.toList = y.data.toList) : x = y := by
  cases x; cases y
  rename_i a b
  cases a; cases b
  simp at h
  rw [h]

theorem fD_inj {f g : FileP} (h : fD f = fD g) : f = g := by
  cases f; cases g
  simp only [fD, DataW.agg.injEq, List.cons.injEq, DataW.lit.injEq, Lit.string.injEq, Lit.bool.injEq, and_true] at h
  obtain ⟨h1, h2, h3⟩ := h
  rw [bytes_inj h1, bytes_inj h2, h3]

theorem law9 : Keyed Tryd.prog 9 := string_keyed Tryd.underlying9
theorem zeroF (w : World) : (zeroValue 59).run Tryd.prog w = .ok (fV FileP.nil) w := by kernel_rfl

/-- Block b of w is the map of the disk d. -/
def IsFiles (w : World) (b : Nat) (d : DiskP) : Prop :=
  ∃ D : DataW Unit, w.ownsMap Tryd.prog 9 fR b d.n D ∧ size D = d.n ∧ (∀ k, has D (.string k) = (d.fs k).isSome) ∧ ∀ k f, d.fs k = some f → ∀ z, D.atKey (.string k) z = fD f

/-- Block g of w is the disk d, block b its map. -/
structure IsDisk (w : World) (g b : Nat) (d : DiskP) : Prop where
  box : w.heap[g]? = some (.cells #[.map (some b), .bool d.fused, .bool d.down, .int .i64 d.left] 48 (0, 0))
  files : IsFiles w b d
  ok : d.Ok

theorem ownsMap_tight {w : World} {P : Program} {k : TypeId} {R : Value → Option (DataW Unit × List MemPlace)} {b n : Nat} {D : DataW Unit} (h : w.ownsMap P k R b n D) : w.ownsMap P k R b (size D) D := by
  obtain ⟨es, clock, hb, F, hs, rfl⟩ := h
  exact ⟨es, clock, hb, F, by simp [size, length_sorted], rfl⟩

section
variable {w : World} {g b : Nat} {d : DiskP}

theorem IsFiles.lt (h : IsFiles w b d) : b < w.heap.size := by obtain ⟨D, h1, _⟩ := h; exact h1.lt
theorem IsDisk.lt (h : IsDisk w g b d) : g < w.heap.size := (Array.getElem?_eq_some_iff.1 h.box).1
theorem IsDisk.ltb (h : IsDisk w g b d) : b < w.heap.size := h.files.lt
theorem IsDisk.ne (h : IsDisk w g b d) : g ≠ b := by
  obtain ⟨D, ⟨es, clock, hb, _⟩, _⟩ := h.files
  intro e
  have := h.box
  rw [e, hb] at this
  cases this

theorem IsFiles.kept {w' : World} (h : IsFiles w b d) (hb : w'.heap[b]? = w.heap[b]?) : IsFiles w' b d := by
  obtain ⟨D, ⟨es, clock, h1, rest⟩, h2⟩ := h
  exact ⟨D, ⟨es, clock, hb.trans h1, rest⟩, h2⟩
theorem IsDisk.kept {w' : World} (h : IsDisk w g b d) (hg : w'.heap[g]? = w.heap[g]?) (hb : w'.heap[b]? = w.heap[b]?) : IsDisk w' g b d :=
  ⟨hg.trans h.box, h.files.kept hb, h.ok⟩
theorem IsDisk.below {w' : World} {B : Nat} (h : IsDisk w g b d) (hB : Below B w w') (hg : g < B) (hb : b < B) : IsDisk w' g b d :=
  h.kept (hB.block g hg) (hB.block b hb)
theorem IsDisk.alloc (h : IsDisk w g b d) (o : Obj) : IsDisk (w.alloc o) g b d :=
  h.kept (Below.heap_alloc _ _ _ h.lt) (Below.heap_alloc _ _ _ h.ltb)
theorem IsDisk.setCell (h : IsDisk w g b d) (a : Addr) (u : Value) (hg : g ≠ a.block) (hb : b ≠ a.block) : IsDisk (w.setCell a u) g b d :=
  h.kept (Below.heap_setCell _ _ _ _ hg) (Below.heap_setCell _ _ _ _ hb)

theorem IsDisk.cell0 (h : IsDisk w g b d) : w.cell? ⟨g, 0, none⟩ = some (.map (some b)) := by simp [World.cell?, h.box]
theorem IsDisk.cell1 (h : IsDisk w g b d) : w.cell? ⟨g, 1, none⟩ = some (.bool d.fused) := by simp [World.cell?, h.box]
theorem IsDisk.cell2 (h : IsDisk w g b d) : w.cell? ⟨g, 2, none⟩ = some (.bool d.down) := by simp [World.cell?, h.box]
theorem IsDisk.cell3 (h : IsDisk w g b d) : w.cell? ⟨g, 3, none⟩ = some (.int .i64 d.left) := by simp [World.cell?, h.box]
theorem IsDisk.thaw (h : IsDisk w g b d) (i : Nat) : w.frozen? ⟨g, i, none⟩ = false := by simp [World.frozen?, h.box]

set_option maxRecDepth 100000 in
theorem IsFiles.look (h : IsFiles w b d) (s : ByteArray) (hs : s.size ≤ maxLen) :
    (Instr.lookup 46 (.map (some b)) (.string s) true).run Tryd.prog w = .ok (.tuple #[fV ((d.fs s.data.toList).getD FileP.nil), .bool (d.fs s.data.toList).isSome]) w := by
  obtain ⟨D, hown, _, hh, ha⟩ := h
  have hkey := Go.WideMaps.keyOf_string_mk (P := Tryd.prog) (k := 9) Tryd.underlying9 hs
  obtain ⟨v, ps, hrun, hv⟩ := hown.look_ok law9 Tryd.underlying46 (zeroF w) (fR_fV FileP.nil) hkey
  obtain ⟨f, rfl, hf⟩ := fR_inv hv
  rw [hrun, hh]
  congr 6
  cases hq : d.fs s.data.toList with
  | none =>
    have h1 := hh s.data.toList
    rw [hq] at h1
    rw [atKey_of_not_has h1] at hf
    exact fD_inj (congrArg Prod.fst hf).symm
  | some f' =>
    rw [ha _ _ hq] at hf
    exact fD_inj (congrArg Prod.fst hf).symm

theorem isFiles_put {w' : World} {D D' : DataW Unit} {n : Nat} {s : List UInt8} {f : FileP} (hown' : w'.ownsMap Tryd.prog 9 fR b n D') (hD' : D' = D.put (.string s) (fD f)) (hown : w.ownsMap Tryd.prog 9 fR b d.n D) (hsz : size D = d.n)
    (hh : ∀ k, has D (.string k) = (d.fs k).isSome) (ha : ∀ k f, d.fs k = some f → ∀ z, D.atKey (.string k) z = fD f) (hk : WideAt.IsKeyLit (.string s)) : IsFiles w' b (d.put s f) := by
  have hT := hown.tidy law9
  have hI := hown.isMap
  have e1 : size D' = (d.put s f).n := by
    rw [hD', size_put hT, hh s, hsz]
    rfl
  refine ⟨D', ?_, e1, fun k => ?_, fun k g' hg' z => ?_⟩
  · have := ownsMap_tight hown'
    rw [e1] at this
    exact this
  · subst hD'
    show _ = (putF d.fs s f k).isSome
    unfold putF
    by_cases e : k = s
    · subst e; rw [has_put_same hI hk]; simp
    · rw [if_neg e, has_put_other (by simpa using e), hh]
  · subst hD'
    change putF d.fs s f k = some g' at hg'
    unfold putF at hg'
    by_cases e : k = s
    · subst e; rw [if_pos rfl] at hg'; cases hg'; exact atKey_put_same hI hk _ _
    · rw [if_neg e] at hg'; rw [atKey_put_other (by simpa using e)]; exact ha _ _ hg' z

theorem isFiles_del {w' : World} {D D' : DataW Unit} {n : Nat} {s : List UInt8} (hown' : w'.ownsMap Tryd.prog 9 fR b n D') (hD' : D' = D.del (.string s)) (hown : w.ownsMap Tryd.prog 9 fR b d.n D) (hsz : size D = d.n)
    (hh : ∀ k, has D (.string k) = (d.fs k).isSome) (ha : ∀ k f, d.fs k = some f → ∀ z, D.atKey (.string k) z = fD f) : IsFiles w' b (d.del s) := by
  have hT := hown.tidy law9
  have e1 : size D' = (d.del s).n := by
    have := size_del (k := .string s) hT
    rw [hh s, hsz] at this
    rw [hD']
    show _ = if (d.fs s).isSome = true then d.n - 1 else d.n
    split <;> rename_i h <;> simp [h] at this <;> omega
  refine ⟨D', ?_, e1, fun k => ?_, fun k g' hg' z => ?_⟩
  · have := ownsMap_tight hown'
    rw [e1] at this
    exact this
  · subst hD'
    show _ = (delF d.fs s k).isSome
    unfold delF
    by_cases e : k = s
    · subst e; rw [has_del_same]; simp
    · rw [if_neg e, has_del_other (by simpa using e), hh]
  · subst hD'
    change delF d.fs s k = some g' at hg'
    unfold delF at hg'
    by_cases e : k = s
    · subst e; rw [if_pos rfl] at hg'; cases hg'
    · rw [if_neg e] at hg'; rw [atKey_del_other (by simpa using e)]; exact ha _ _ hg' z

end

theorem mapTurned_size {w w' : World} {b : Nat} (h : w.mapTurned w' b) : w'.heap.size = w.heap.size := by
  obtain ⟨es, clock, es', clock', hb, rfl⟩ := h
  simp [ChangeMaps.setBlock]

section
variable {w : World} {ops : Array Oper} {rest : List Oper} {o : Oper} {a : Act} {Q : Exit → Act → World → Prop}

theorem wpList_put {b : Nat} {d : DiskP} (hg : o.guard = none) (m x v : Operand) (hop : o.op = Op.mapUpdate 46 m x v)
    (hm : a.eval m = .map (some b)) (hF : IsFiles w b d) (hn : d.n ≤ 64) (s : ByteArray) (hs : s.size ≤ maxLen) (hx : a.eval x = .string s) (f : FileP) (hv : a.eval v = .agg #[.string f.has, .string f.safe, .bool f.kept])
    (hK : ∀ w', IsFiles w' b (d.put s.data.toList f) → w.grownBy w' (some b) → w'.heap.size = w.heap.size → wpList Tryd.prog ops Q rest (a.put o.dst undef) w') :
    wpList Tryd.prog ops Q (o :: rest) a w := by
  obtain ⟨D, hown, hsz, hh, ha⟩ := hF
  have hkey := Go.WideMaps.keyOf_string_mk (P := Tryd.prog) (k := 9) Tryd.underlying9 hs
  refine wpList_mapUpdate_in w hg m x v _ hop 9 59 law9 Tryd.underlying46 fR b d.n D hm hown (by unfold maxLen; omega) (.string s) (fV f) _ hx hv hkey _ [] (fR_fV f) ?_
  intro w' h1 h2
  exact hK w' (isFiles_put h1 rfl hown hsz hh ha (law9.key hkey)) h2.grown (mapTurned_size h2)

theorem wpList_drop {b : Nat} {d : DiskP} (hg : o.guard = none) (m x : Operand) (hop : o.op = Op.call { callee := Callee.builtin Builtin.delete, args := #[m, x], argTypes := #[46, 9] })
    (hm : a.eval m = .map (some b)) (hF : IsFiles w b d) (s : ByteArray) (hs : s.size ≤ maxLen) (hx : a.eval x = .string s)
    (hK : ∀ w', IsFiles w' b (d.del s.data.toList) → w.grownBy w' (some b) → w'.heap.size = w.heap.size → wpList Tryd.prog ops Q rest (a.put o.dst (.tuple #[])) w') :
    wpList Tryd.prog ops Q (o :: rest) a w := by
  obtain ⟨D, hown, hsz, hh, ha⟩ := hF
  have hkey := Go.WideMaps.keyOf_string_mk (P := Tryd.prog) (k := 9) Tryd.underlying9 hs
  refine wpList_delete_own w hg m x _ _ hop 59 law9 Tryd.underlying46 fR b d.n D hm hown (.string s) _ hx hkey ?_
  intro w' h1 h2
  exact hK w' (isFiles_del h1 rfl hown hsz hh ha) h2.grown (mapTurned_size h2)

theorem wpList_look {b : Nat} {d : DiskP} (hg : o.guard = none) (m x : Operand) (hop : o.op = Op.lookup 46 m x true)
    (hm : a.eval m = .map (some b)) (hF : IsFiles w b d) (s : ByteArray) (hs : s.size ≤ maxLen) (hx : a.eval x = .string s) (f : FileP) (hf : (d.fs s.data.toList).getD FileP.nil = f)
    (hK : wpList Tryd.prog ops Q rest (a.put o.dst (.tuple #[.agg #[.string f.has, .string f.safe, .bool f.kept], .bool (d.fs s.data.toList).isSome])) w) :
    wpList Tryd.prog ops Q (o :: rest) a w := by
  refine wpList_plain hg fun K' hK' => ?_
  have hrun := hF.look s hs
  subst hf
  unfold Oper.wp
  simp [execOp, hop, hm, hx, hrun, Result.andThen]
  exact hK' _ _ hK
end
end Go.Proofs.YtmlmjchifelpkaaDoor
