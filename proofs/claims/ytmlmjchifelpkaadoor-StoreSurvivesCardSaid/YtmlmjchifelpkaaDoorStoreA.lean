/- A store's map of texts in memory. -/
import Derived.Test.YtmlmjchifelpkaaDoorFileB
namespace Go.Proofs.YtmlmjchifelpkaaDoor
open Go.RowKit Go.Lib Go.Maps
set_option linter.unusedVariables false
set_option maxRecDepth 100000

/-- Texts by keys. -/
structure MapP where
  m : List UInt8 → Option ByteArray
  n : Nat
def putM (m : List UInt8 → Option ByteArray) (k : List UInt8) (v : ByteArray) : List UInt8 → Option ByteArray := fun x => if x = k then some v else m x
def MapP.put (d : MapP) (k : List UInt8) (v : ByteArray) : MapP := { m := putM d.m k v, n := if (d.m k).isSome then d.n else d.n + 1 }
def MapP.nil : MapP := ⟨fun _ => none, 0⟩

def sD (v : ByteArray) : DataW Unit := .lit (.string v.data.toList)
def sV (v : ByteArray) : Value := .string v
def sR : Value → Option (DataW Unit × List MemPlace)
  | .string s => some (sD s, [])
  | _ => none
theorem sR_sV (v : ByteArray) : sR (sV v) = some (sD v, []) := rfl
theorem sR_inv {v : Value} {z : DataW Unit × List MemPlace} (h : sR v = some z) : ∃ f, v = sV f ∧ z = (sD f, []) := by
  unfold sR at h
  split at h
  · cases h; exact ⟨_, rfl, rfl⟩
  · cases h
theorem sD_inj {f g : ByteArray} (h : sD f = sD g) : f = g := by
  simp only [sD, DataW.lit.injEq, Lit.string.injEq] at h
  exact bytes_inj h
theorem zeroS (w : World) : (zeroValue 9).run Tryd.prog w = .ok (sV ⟨#[]⟩) w := by kernel_rfl

/-- Block b of w is the map d. -/
def IsMap (w : World) (b : Nat) (d : MapP) : Prop :=
  ∃ D : DataW Unit, w.ownsMap Tryd.prog 9 sR b d.n D ∧ size D = d.n ∧ (∀ k, has D (.string k) = (d.m k).isSome) ∧ ∀ k f, d.m k = some f → ∀ z, D.atKey (.string k) z = sD f

section
variable {w : World} {g b : Nat} {d : MapP}
theorem IsMap.lt (h : IsMap w b d) : b < w.heap.size := by obtain ⟨D, h1, _⟩ := h; exact h1.lt
theorem IsMap.kept {w' : World} (h : IsMap w b d) (hb : w'.heap[b]? = w.heap[b]?) : IsMap w' b d := by
  obtain ⟨D, ⟨es, clock, h1, rest⟩, h2⟩ := h
  exact ⟨D, ⟨es, clock, hb.trans h1, rest⟩, h2⟩
set_option maxRecDepth 100000 in
theorem IsMap.look (h : IsMap w b d) (s : ByteArray) (hs : s.size ≤ maxLen) :
    (Instr.lookup 49 (.map (some b)) (.string s) true).run Tryd.prog w = .ok (.tuple #[sV ((d.m s.data.toList).getD (⟨#[]⟩ : ByteArray)), .bool (d.m s.data.toList).isSome]) w := by
  obtain ⟨D, hown, _, hh, ha⟩ := h
  have hkey := Go.WideMaps.keyOf_string_mk (P := Tryd.prog) (k := 9) Tryd.underlying9 hs
  obtain ⟨v, ps, hrun, hv⟩ := hown.look_ok law9 Tryd.underlying49 (zeroS w) (sR_sV (⟨#[]⟩ : ByteArray)) hkey
  obtain ⟨f, rfl, hf⟩ := sR_inv hv
  rw [hrun, hh]
  congr 6
  cases hq : d.m s.data.toList with
  | none =>
    have h1 := hh s.data.toList
    rw [hq] at h1
    rw [atKey_of_not_has h1] at hf
    exact sD_inj (congrArg Prod.fst hf).symm
  | some f' =>
    rw [ha _ _ hq] at hf
    exact sD_inj (congrArg Prod.fst hf).symm

theorem isMap_put {w' : World} {D D' : DataW Unit} {n : Nat} {s : List UInt8} {f : ByteArray} (hown' : w'.ownsMap Tryd.prog 9 sR b n D') (hD' : D' = D.put (.string s) (sD f)) (hown : w.ownsMap Tryd.prog 9 sR b d.n D) (hsz : size D = d.n)
    (hh : ∀ k, has D (.string k) = (d.m k).isSome) (ha : ∀ k f, d.m k = some f → ∀ z, D.atKey (.string k) z = sD f) (hk : WideAt.IsKeyLit (.string s)) : IsMap w' b (d.put s f) := by
  have hT := hown.tidy law9
  have hI := hown.isMap
  have e1 : size D' = (d.put s f).n := by
    rw [hD', size_put hT, hh s, hsz]
    rfl
  refine ⟨D', ?_, e1, fun k => ?_, fun k g' hg' z => ?_⟩
  · have := ownsMap_tight hown'
    rw [e1] at this
    exact this
  · subst hD'
    show _ = (putM d.m s f k).isSome
    unfold putM
    by_cases e : k = s
    · subst e; rw [has_put_same hI hk]; simp
    · rw [if_neg e, has_put_other (by simpa using e), hh]
  · subst hD'
    change putM d.m s f k = some g' at hg'
    unfold putM at hg'
    by_cases e : k = s
    · subst e; rw [if_pos rfl] at hg'; cases hg'; exact atKey_put_same hI hk _ _
    · rw [if_neg e] at hg'; rw [atKey_put_other (by simpa using e)]; exact ha _ _ hg' z

end

section
variable {w : World} {ops : Array Oper} {rest : List Oper} {o : Oper} {a : Act} {Q : Exit → Act → World → Prop}
theorem wpList_sput {b : Nat} {d : MapP} (hg : o.guard = none) (m x v : Operand) (hop : o.op = Op.mapUpdate 49 m x v)
    (hm : a.eval m = .map (some b)) (hF : IsMap w b d) (hn : d.n ≤ 1000000) (s : ByteArray) (hs : s.size ≤ maxLen) (hx : a.eval x = .string s) (f : ByteArray) (hv : a.eval v = .string f)
    (hK : ∀ w', IsMap w' b (d.put s.data.toList f) → w.grownBy w' (some b) → w'.heap.size = w.heap.size → wpList Tryd.prog ops Q rest (a.put o.dst undef) w') :
    wpList Tryd.prog ops Q (o :: rest) a w := by
  obtain ⟨D, hown, hsz, hh, ha⟩ := hF
  have hkey := Go.WideMaps.keyOf_string_mk (P := Tryd.prog) (k := 9) Tryd.underlying9 hs
  refine wpList_mapUpdate_in w hg m x v _ hop 9 9 law9 Tryd.underlying49 sR b d.n D hm hown (by unfold maxLen; omega) (.string s) (sV f) _ hx hv hkey _ [] (sR_sV f) ?_
  intro w' h1 h2
  exact hK w' (isMap_put h1 rfl hown hsz hh ha (law9.key hkey)) h2.grown (mapTurned_size h2)

theorem wpList_slook {b : Nat} {d : MapP} (hg : o.guard = none) (m x : Operand) (hop : o.op = Op.lookup 49 m x true)
    (hm : a.eval m = .map (some b)) (hF : IsMap w b d) (s : ByteArray) (hs : s.size ≤ maxLen) (hx : a.eval x = .string s) (f : ByteArray) (hf : (d.m s.data.toList).getD (⟨#[]⟩ : ByteArray) = f)
    (hK : wpList Tryd.prog ops Q rest (a.put o.dst (.tuple #[.string f, .bool (d.m s.data.toList).isSome])) w) :
    wpList Tryd.prog ops Q (o :: rest) a w := by
  refine wpList_plain hg fun K' hK' => ?_
  have hrun := hF.look s hs
  subst hf
  unfold Oper.wp
  simp [execOp, hop, hm, hx, hrun, Result.andThen]
  exact hK' _ _ hK
end
end Go.Proofs.YtmlmjchifelpkaaDoor
