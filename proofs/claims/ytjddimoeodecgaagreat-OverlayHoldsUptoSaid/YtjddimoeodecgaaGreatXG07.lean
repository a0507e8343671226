/- A map of whole numbers in memory. -/
import Derived.WalkKit
import Derived.Maps.Range
import Derived.Lib.Hide
import Derived.StillTailTactics
import Derived.Test.YtjddimoeodecgaaGreatProg
import Derived.Test.YtjddimoeodecgaaGreatXQx0
import Derived.Test.YtjddimoeodecgaaGreatXShelf
import Derived.Test.YtjddimoeodecgaaGreatXG02
import Derived.Shelf.SlSortCmp.WholeK
import Derived.Deep.DeepCutAuto
import Derived.BigRegion
import Derived.Laws.StructEq
namespace Go.Proofs.YtjddimoeodecgaaGreat
open Go.RowKit Go.Lib Go.Maps
set_option linter.unusedVariables false
set_option maxRecDepth 100000

theorem ownsMap_tight {w : World} {P : Program} {k : TypeId} {R : Value → Option (DataW Unit × List MemPlace)} {b n : Nat} {D : DataW Unit} (h : w.ownsMap P k R b n D) : w.ownsMap P k R b (size D) D := by
  obtain ⟨es, clock, hb, F, hs, rfl⟩ := h
  exact ⟨es, clock, hb, F, by simp [size, length_sorted], rfl⟩

theorem mapTurned_size {w w' : World} {b : Nat} (h : w.mapTurned w' b) : w'.heap.size = w.heap.size := by
  obtain ⟨es, clock, es', clock', hb, rfl⟩ := h
  simp [ChangeMaps.setBlock]

/-- Numbers by numbers. -/
structure MapI where
  m : Int → Option Int
  n : Nat
def putI (m : Int → Option Int) (k : Int) (v : Int) : Int → Option Int := fun x => if x = k then some v else m x
def MapI.put (d : MapI) (k : Int) (v : Int) : MapI := { m := putI d.m k v, n := if (d.m k).isSome then d.n else d.n + 1 }
def MapI.nil : MapI := ⟨fun _ => none, 0⟩

def iD (v : Int) : DataW Unit := .lit (.int .i64 v)
def iV (v : Int) : Value := .int .i64 v
def iR : Value → Option (DataW Unit × List MemPlace)
  | .int .i64 s => some (iD s, [])
  | _ => none
theorem iR_iV (v : Int) : iR (iV v) = some (iD v, []) := rfl
theorem iR_inv {v : Value} {z : DataW Unit × List MemPlace} (h : iR v = some z) : ∃ f, v = iV f ∧ z = (iD f, []) := by
  unfold iR at h
  split at h
  · cases h; exact ⟨_, rfl, rfl⟩
  · cases h
theorem iD_inj {f g : Int} (h : iD f = iD g) : f = g := by
  simp only [iD, DataW.lit.injEq, Lit.int.injEq, true_and] at h
  exact h
theorem zeroI (w : World) : (zeroValue 3).run Tryz.prog w = .ok (iV 0) w := by kernel_rfl
theorem lawInt : Keyed Tryz.prog 3 := int_keyed Tryz.underlying3

/-- Block b of w is the map d. -/
def IsMapI (w : World) (b : Nat) (d : MapI) : Prop :=
  ∃ D : DataW Unit, w.ownsMap Tryz.prog 3 iR b d.n D ∧ size D = d.n ∧ (∀ k, has D (.int .i64 k) = (d.m k).isSome) ∧ ∀ k f, d.m k = some f → ∀ z, D.atKey (.int .i64 k) z = iD f

section
variable {w : World} {g b : Nat} {d : MapI}
theorem IsMapI.lt (h : IsMapI w b d) : b < w.heap.size := by obtain ⟨D, h1, _⟩ := h; exact h1.lt
theorem IsMapI.kept {w' : World} (h : IsMapI w b d) (hb : w'.heap[b]? = w.heap[b]?) : IsMapI w' b d := by
  obtain ⟨D, ⟨es, clock, h1, rest⟩, h2⟩ := h
  exact ⟨D, ⟨es, clock, hb.trans h1, rest⟩, h2⟩
theorem IsMapI.made (w : World) : IsMapI (w.alloc (.map #[] 0)) w.heap.size MapI.nil :=
  ⟨.map [], World.ownsMap_made w _ _ _, rfl, fun k => rfl, fun k f hf => by cases hf⟩

theorem wf_i {s : Int} (h0 : -9223372036854775808 ≤ s) (h1 : s < 9223372036854775808) : (Lit.int .i64 s).wf = true := WalkArith.wf_i64 (by omega)
theorem IsMapI.look (h : IsMapI w b d) (s : Int) (hs : (Lit.int .i64 s).wf = true) :
    (Instr.lookup 158 (.map (some b)) (.int .i64 s) true).run Tryz.prog w = .ok (.tuple #[iV ((d.m s).getD 0), .bool (d.m s).isSome]) w := by
  obtain ⟨D, hown, _, hh, ha⟩ := h
  have hkey := keyOf_int_mk (P := Tryz.prog) (k := 3) Tryz.underlying3 hs
  obtain ⟨v, ps, hrun, hv⟩ := hown.look_ok lawInt Tryz.underlying158 (zeroI w) (iR_iV 0) hkey
  obtain ⟨f, rfl, hf⟩ := iR_inv hv
  rw [hrun, hh]
  congr 6
  cases hq : d.m s with
  | none =>
    have h1 := hh s
    rw [hq] at h1
    rw [atKey_of_not_has h1] at hf
    exact iD_inj (congrArg Prod.fst hf).symm
  | some f' =>
    rw [ha _ _ hq] at hf
    exact iD_inj (congrArg Prod.fst hf).symm

theorem isMapI_put {w' : World} {D D' : DataW Unit} {n : Nat} {s : Int} {f : Int} (hown' : w'.ownsMap Tryz.prog 3 iR b n D') (hD' : D' = D.put (.int .i64 s) (iD f)) (hown : w.ownsMap Tryz.prog 3 iR b d.n D) (hsz : size D = d.n)
    (hh : ∀ k, has D (.int .i64 k) = (d.m k).isSome) (ha : ∀ k f, d.m k = some f → ∀ z, D.atKey (.int .i64 k) z = iD f) (hk : WideAt.IsKeyLit (.int .i64 s)) : IsMapI w' b (d.put s f) := by
  have hT := hown.tidy lawInt
  have hI := hown.isMap
  have e1 : size D' = (d.put s f).n := by
    rw [hD', size_put hT, hh s, hsz]
    rfl
  refine ⟨D', ?_, e1, fun k => ?_, fun k g' hg' z => ?_⟩
  · have := ownsMap_tight hown'
    rw [e1] at this
    exact this
  · subst hD'
    show _ = (putI d.m s f k).isSome
    unfold putI
    by_cases e : k = s
    · subst e; rw [has_put_same hI hk]; simp
    · rw [if_neg e, has_put_other (by simpa using e), hh]
  · subst hD'
    change putI d.m s f k = some g' at hg'
    unfold putI at hg'
    by_cases e : k = s
    · subst e; rw [if_pos rfl] at hg'; cases hg'; exact atKey_put_same hI hk _ _
    · rw [if_neg e] at hg'; rw [atKey_put_other (by simpa using e)]; exact ha _ _ hg' z
end

section
variable {w : World} {ops : Array Oper} {rest : List Oper} {o : Oper} {a : Act} {Q : Exit → Act → World → Prop}
theorem wpList_iput {b : Nat} {d : MapI} (hg : o.guard = none) (m x v : Operand) (hop : o.op = Op.mapUpdate 158 m x v)
    (hm : a.eval m = .map (some b)) (hF : IsMapI w b d) (hn : d.n ≤ 1000000) (s : Int) (hs : (Lit.int .i64 s).wf = true) (hx : a.eval x = .int .i64 s) (f : Int) (hv : a.eval v = .int .i64 f)
    (hK : ∀ w', IsMapI w' b (d.put s f) → w.grownBy w' (some b) → w'.heap.size = w.heap.size → wpList Tryz.prog ops Q rest (a.put o.dst undef) w') :
    wpList Tryz.prog ops Q (o :: rest) a w := by
  obtain ⟨D, hown, hsz, hh, ha⟩ := hF
  have hkey := keyOf_int_mk (P := Tryz.prog) (k := 3) Tryz.underlying3 hs
  refine wpList_mapUpdate_in w hg m x v _ hop 3 3 lawInt Tryz.underlying158 iR b d.n D hm hown (by unfold maxLen; omega) (.int .i64 s) (iV f) _ hx hv hkey _ [] (iR_iV f) ?_
  intro w' h1 h2
  exact hK w' (isMapI_put h1 rfl hown hsz hh ha (lawInt.key hkey)) h2.grown (mapTurned_size h2)

theorem wpList_ilook {b : Nat} {d : MapI} (hg : o.guard = none) (m x : Operand) (hop : o.op = Op.lookup 158 m x true)
    (hm : a.eval m = .map (some b)) (hF : IsMapI w b d) (s : Int) (hs : (Lit.int .i64 s).wf = true) (hx : a.eval x = .int .i64 s) (f : Int) (hf : (d.m s).getD 0 = f)
    (hK : wpList Tryz.prog ops Q rest (a.put o.dst (.tuple #[.int .i64 f, .bool (d.m s).isSome])) w) :
    wpList Tryz.prog ops Q (o :: rest) a w := by
  refine wpList_plain hg fun K' hK' => ?_
  have hrun := hF.look s hs
  subst hf
  unfold Oper.wp
  simp [execOp, hop, hm, hx, hrun, Result.andThen]
  exact hK' _ _ hK
theorem wpList_inone {b : Nat} {d : MapI} (hg : o.guard = none) (m x : Operand) (hop : o.op = Op.lookup 158 m x true)
    (hm : a.eval m = .map (some b)) (hF : IsMapI w b d) (s : Int) (hs : (Lit.int .i64 s).wf = true) (hx : a.eval x = .int .i64 s) (hf : d.m s = none)
    (hK : wpList Tryz.prog ops Q rest (a.put o.dst (.tuple #[.int .i64 0, .bool false])) w) :
    wpList Tryz.prog ops Q (o :: rest) a w :=
  wpList_ilook hg m x hop hm hF s hs hx 0 (by rw [hf]; rfl) (by rw [hf]; exact hK)
theorem wpList_isome {b : Nat} {d : MapI} (hg : o.guard = none) (m x : Operand) (hop : o.op = Op.lookup 158 m x true)
    (hm : a.eval m = .map (some b)) (hF : IsMapI w b d) (s : Int) (hs : (Lit.int .i64 s).wf = true) (hx : a.eval x = .int .i64 s) (f : Int) (hf : d.m s = some f)
    (hK : wpList Tryz.prog ops Q rest (a.put o.dst (.tuple #[.int .i64 f, .bool true])) w) :
    wpList Tryz.prog ops Q (o :: rest) a w :=
  wpList_ilook hg m x hop hm hF s hs hx f (by rw [hf]; rfl) (by rw [hf]; exact hK)
end
end Go.Proofs.YtjddimoeodecgaaGreat

/- nest's labels.many, in the print's form. -/
namespace Go.Proofs.YtjddimoeodecgaaGreat.Q
open Go.RowKit Go.Proofs.YtjddimoeodecgaaGreatW.PrintWords Go.Proofs.YtjddimoeodecgaaGreatW.PrintLast
set_option linter.unusedVariables false
set_option maxRecDepth 100000

theorem row_spot {w : World} {ad : Addr} {l : List Int} (h : Kd.C (Kd.int .i64) w (some ad) l.length l) (h0 : 0 < l.length) : ∃ b o, ad = ⟨b, o, none⟩ ∧ ∀ j, j < l.length → w.cell? ⟨b, o + j, none⟩ = some (.int .i64 (l.getD j 0)) := by
  have hc : ∀ j, j < l.length → w.cell? (ad.add j) = some (.int .i64 (l.getD j 0)) := fun j hj => by
    obtain ⟨ad', c, e, h1, h2, h3⟩ := Kd.C_get h 0 (j : Int) (by omega) (by omega)
    cases e
    rw [Int.toNat_natCast] at h2 h3
    have e2 : c = [Value.int .i64 (l.getD j 0)] := h2
    subst e2
    have h4 := h3 0 _ rfl
    rwa [Nat.add_zero, show (Kd.int .i64).sz = 1 from rfl, Nat.mul_one] at h4
  obtain ⟨b, o, sp⟩ := ad
  have h1 := hc 0 h0
  have hs : sp = none := by
    cases sp with
    | none => rfl
    | some q =>
      simp [Addr.add, World.cell?] at h1
      split at h1 <;> simp at h1
  subst hs
  refine ⟨b, o, rfl, fun j hj => ?_⟩
  have := hc j hj
  unfold Addr.add at this
  split at this
  · rename_i e; subst e; exact this
  · exact this

def nest_labels_many.f (l : List Int) : Option Int := if 0 < l.length then some (wrap64 (Lib.maxOf l + 1)) else none

theorem nest_labels_many.calls (A : Option Addr) (c : Nat) (l : List Int) (r : Int) (w : World) (hr : Kd.C (Kd.int .i64) w A l.length l) (hc : l.length ≤ c) (h : nest_labels_many.f l = some r) :
    Calls Tryz.prog 111 #[.slice A l.length c] w fun e w' => e = .returned (.int .i64 r) ∧ Drawn0 w w' := by
  unfold nest_labels_many.f at h
  split at h
  · rename_i h0
    injection h with h
    obtain ⟨ad, hA⟩ : ∃ ad, A = some ad := by
      obtain ⟨ad, _, e, _⟩ := Kd.C_get hr 0 0 (by omega) (by omega)
      exact ⟨ad, e⟩
    subst hA
    obtain ⟨b, o, rfl, hcell⟩ := row_spot hr h0
    have hmax := Kd.C_max hr
    have HM := Lib.hid (fun w' (hw : w' = w) => Tryz.slices_Max_int_f146 b o l.length c l w' h0 (Nat.le_refl _) hmax (by rw [hw]; exact hcell))
    rw [List.take_length] at HM
    have HH := Lib.hid h
    clear hr h hcell hmax
    go_enter Tryz.func111, Tryz.ntmps111
    go_wp2_with (refine (HM.out _ rfl).mono ?_; rintro e w' ⟨rfl, rfl⟩)
    go_ret
    exact ⟨by rw [← HH.out]; rfl, ⟨0, rfl⟩⟩
  · cases h

end Go.Proofs.YtjddimoeodecgaaGreat.Q

/- nest.within, in the print's form. -/
namespace Go.Proofs.YtjddimoeodecgaaGreat.Q
open Go.RowKit Go.Lib Go.Proofs.YtjddimoeodecgaaGreatW.PrintWords Go.Proofs.YtjddimoeodecgaaGreatW.PrintLast Go.Proofs.YtjddimoeodecgaaGreat
set_option linter.unusedVariables false
set_option maxRecDepth 100000

def nestGo : (Int → Option Int) → List (Int × Int) → Bool
  | _, [] => true
  | m, (c, a) :: t => match m c with
    | none => nestGo (putI m c a) t
    | some p => if p = a then nestGo (putI m c a) t else false

def nest_within.f (l0 l1 : List Int) : Option Bool := if l0.length ≤ l1.length ∧ l0.length ≤ 16384 ∧ ∀ v ∈ l0, -9223372036854775808 ≤ v ∧ v < 9223372036854775808 then some (nestGo (fun _ => none) (l0.zip l1)) else none

theorem int_cell {w : World} {A : Option Addr} {l : List Int} (h : Kd.C (Kd.int .i64) w A l.length l) (j : Nat) (hj : j < l.length) : ∃ ad, A = some ad ∧ w.cell? (ad.add j) = some (.int .i64 (l.getD j 0)) := by
  obtain ⟨ad', c, e, h1, h2, h3⟩ := Kd.C_get h 0 (j : Int) (by omega) (by omega)
  rw [Int.toNat_natCast] at h2 h3
  have e2 : c = [Value.int .i64 (l.getD j 0)] := h2
  subst e2
  have h4 := h3 0 _ rfl
  rw [Nat.add_zero, show (Kd.int .i64).sz = 1 from rfl, Nat.mul_one] at h4
  exact ⟨ad', e, h4⟩

set_option maxHeartbeats 1000000 in
theorem nest_within.calls (A0 : Option Addr) (c0 : Nat) (l0 : List Int) (A1 : Option Addr) (c1 : Nat) (l1 : List Int) (r : Bool) (w : World) (hr0 : Kd.C (Kd.int .i64) w A0 l0.length l0) (hc0 : l0.length ≤ c0) (hr1 : Kd.C (Kd.int .i64) w A1 l1.length l1) (hc1 : l1.length ≤ c1) (h : nest_within.f l0 l1 = some r) :
    Calls Tryz.prog 71 #[.slice A0 l0.length c0, .slice A1 l1.length c1] w fun e w' => e = .returned (.bool r) ∧ Below w.heap.size w w' := by
  unfold nest_within.f at h
  split at h
  · rename_i h0
    injection h with h
    obtain ⟨hle, hmax, hwf⟩ := h0
    have H := Lib.hid h
    have HR0 := Lib.hid hr0
    have HR1 := Lib.hid hr1
    have HWF := Lib.hid hwf
    have hmm := @run_makeMap Tryz.prog
    clear h hr0 hr1 hwf hc0 hc1
    go_enter Tryz.func71, Tryz.ntmps71
    go_wp2_with fail
    clear hmm
    have hw0 : Below w.heap.size w (w.alloc (.map #[] 0)) := (Below.refl _ w).alloc (Nat.le_refl _) _
    have hM0 := Lib.hid (IsMapI.made w)
    have HW0 := Lib.hid hw0
    clear hw0
    generalize (w.alloc (.map #[] 0)) = w1 at *
    generalize hgx : w.heap.size = gx at *
    have HGX := Lib.hid hgx
    clear hgx
    go_loopg [13] l0.length (fun gg s13 wr => ∃ (k : Nat) (d : MapI), k ≤ l0.length ∧ l0.length - k ≤ gg ∧ s13 = .int .i64 (k : Nat) ∧ d.n ≤ k ∧ Hid (IsMapI wr gx d) ∧ Hid (nestGo d.m ((l0.zip l1).drop k) = r) ∧ Hid (Below gx w wr))
    case atStart => exact ⟨0, MapI.nil, by omega, by omega, rfl, by show 0 ≤ 0; omega, hM0, H, HW0⟩
    case round =>
      obtain ⟨k, d, hk, hgg, rfl, hn, HM, HG, HB⟩ := hrel
      by_cases hlt : k < l0.length
      · have hbw : Below w.heap.size w wr := by rw [HGX.out]; exact HB.out
        obtain ⟨ad0, hA0, x0⟩ := int_cell (Kd.C_below HR0.out hbw) k hlt
        obtain ⟨ad1, hA1, x1⟩ := int_cell (Kd.C_below HR1.out hbw) k (by omega)
        subst hA0
        subst hA1
        have hw0 := HWF.out (l0.getD k 0) (by rw [List.getD_eq_getElem?_getD, List.getElem?_eq_getElem hlt]; exact List.getElem_mem hlt)
        have HWK := Lib.hid (wf_i hw0.1 hw0.2)
        have hz : (l0.zip l1).drop k = (l0.getD k 0, l1.getD k 0) :: (l0.zip l1).drop (k + 1) := by
          have hl1 : k < l1.length := by omega
          have hzl : k < (l0.zip l1).length := by rw [List.length_zip]; omega
          rw [List.drop_eq_getElem_cons hzl, List.getElem_zip]
          congr 2
          · rw [List.getD_eq_getElem?_getD, List.getElem?_eq_getElem hlt]; rfl
          · rw [List.getD_eq_getElem?_getD, List.getElem?_eq_getElem hl1]; rfl
        have hg2 := HG.out
        rw [hz] at hg2
        clear hz hw0 hbw HG
        generalize l0.getD k 0 = ck at *
        generalize l1.getD k 0 = ak at *
        have hkz : (k : Int) < (l0.length : Int) := by omega
        have hkz1 : (k : Int) < (l1.length : Int) := by omega
        have hk1 : k + 1 ≤ l0.length := hlt
        have hwk : IntKind.i64.wrap ((k : Int) + 1) = ((k + 1 : Nat) : Int) := by rw [IntWalk.i64_in _ (by omega)]; omega
        cases hq : d.m ck with
        | none =>
          have hgk : nestGo (d.put ck ak).m ((l0.zip l1).drop (k + 1)) = r := by rw [← hg2]; simp only [nestGo, hq]; rfl
          have HGK := Lib.hid hgk
          have HQ := Lib.hid hq
          clear hgk hq hg2
          go_wp2_with (first | (at_lookup; refine wpList_inone rfl _ _ rfl rfl HM.out ck HWK.out rfl HQ.out ?_) | (at_mapUpdate; refine wpList_iput rfl _ _ _ rfl rfl HM.out (by omega) ck HWK.out rfl ak rfl ?_; intro w2 hm2 hgr2 hs2; have HM2 := Lib.hid hm2; have HGR2 := Lib.hid hgr2; clear hm2 hgr2 hs2))
          go_roundg (l0.length - (k + 1))
          case measure => omega
          case rel =>
            have hlt1 := HM.out.lt
            exact ⟨k + 1, d.put ck ak, hk1, by omega, rfl, by show (if (d.m ck).isSome then d.n else d.n + 1) ≤ k + 1; split <;> omega, HM2, HGK, Lib.hid (HB.out.grown HGR2.out (by have := HB.out.size; have := HGX.out; omega) (fun j hj => by cases hj; exact Nat.le_refl _))⟩
        | some p =>
          by_cases hpa : p = ak
          · have hgk : nestGo (d.put ck ak).m ((l0.zip l1).drop (k + 1)) = r := by rw [← hg2]; simp only [nestGo, hq]; rw [if_pos hpa]; rfl
            have HGK := Lib.hid hgk
            have HQ := Lib.hid hq
            clear hgk hq hg2
            subst hpa
            go_wp2_with (first | (at_lookup; refine wpList_isome rfl _ _ rfl rfl HM.out ck HWK.out rfl p HQ.out ?_) | (at_mapUpdate; refine wpList_iput rfl _ _ _ rfl rfl HM.out (by omega) ck HWK.out rfl p rfl ?_; intro w2 hm2 hgr2 hs2; have HM2 := Lib.hid hm2; have HGR2 := Lib.hid hgr2; clear hm2 hgr2 hs2))
            go_roundg (l0.length - (k + 1))
            case measure => omega
            case rel =>
              have hlt1 := HM.out.lt
              exact ⟨k + 1, d.put ck p, hk1, by omega, rfl, by show (if (d.m ck).isSome then d.n else d.n + 1) ≤ k + 1; split <;> omega, HM2, HGK, Lib.hid (HB.out.grown HGR2.out (by have := HB.out.size; have := HGX.out; omega) (fun j hj => by cases hj; exact Nat.le_refl _))⟩
          · have hgk : r = false := by rw [← hg2]; simp only [nestGo, hq]; rw [if_neg hpa]
            have HGK := Lib.hid hgk
            have HQ := Lib.hid hq
            clear hgk hq hg2
            go_wp2_with (first | (at_lookup; refine wpList_isome rfl _ _ rfl rfl HM.out ck HWK.out rfl p HQ.out ?_))
            go_ret
            have hgx := HGX.out
            subst hgx
            exact ⟨by rw [HGK.out]; rfl, HB.out⟩
      · have hke : k = l0.length := by omega
        subst hke
        have hzz : ¬ (l0.length : Int) < (l0.length : Int) := by omega
        go_wp2_with fail
        go_ret
        have hgx := HGX.out
        subst hgx
        have hg2 := HG.out
        rw [List.drop_eq_nil_of_le (by rw [List.length_zip]; omega)] at hg2
        exact ⟨by rw [← hg2]; rfl, HB.out⟩
  · cases h

end Go.Proofs.YtjddimoeodecgaaGreat.Q

/- natcut.order: how pairs are compared. -/
namespace Go.Proofs.YtjddimoeodecgaaGreat
open Go.RowKit Go.Lib Go.Sort
set_option linter.unusedVariables false
set_option maxRecDepth 100000

/-- A pair of vertices of n + 1. -/
abbrev PR (n : Nat) := Fin (n + 1) × Fin (n + 1)
def pEnc {n : Nat} (x : PR n) : List Value := [.int .i64 x.1.val, .int .i64 x.2.val]
def pCmp {n : Nat} (x y : PR n) : Int := if x.1 = y.1 then (x.2.val : Int) - y.2.val else (x.1.val : Int) - y.1.val
theorem pEnc_len {n : Nat} (x : PR n) : (pEnc x).length = 2 := rfl
theorem pEnc_one {n : Nat} (x : PR n) : ∀ v ∈ pEnc x, v.oneCell' = true := by
  intro v hv
  simp [pEnc] at hv
  rcases hv with rfl | rfl <;> rfl

theorem pCmp_swo (n : Nat) : SWO (ltOf (pCmp (n := n))) := by
  refine ⟨fun x => ?_, fun x y z h1 h2 => ?_, fun x y z h1 h2 => ?_⟩ <;> simp only [ltOf, pCmp, decide_eq_true_eq, decide_eq_false_iff_not, Fin.ext_iff] at *
  · split <;> omega
  · split at h1 <;> split at h2 <;> split <;> omega
  · split at h1 <;> split at h2 <;> split <;> omega

set_option maxHeartbeats 1000000 in
theorem order_any (n : Nat) (hn : n < 1024) (x y : PR n) (w : World) :
    Calls Tryz.prog 166 #[.agg (pEnc x).toArray, .agg (pEnc y).toArray] w fun e w' => e = .returned (.int .i64 (pCmp x y)) ∧ ∃ os', w' = grow w os' := by
  obtain ⟨⟨x1, hx1⟩, ⟨x2, hx2⟩⟩ := x
  obtain ⟨⟨y1, hy1⟩, ⟨y2, hy2⟩⟩ := y
  have hal : ∀ (w : World) (o1 o2 : Obj), (w.alloc o1).alloc o2 = grow w #[o1, o2] := fun w o1 o2 => by rw [alloc_eq_grow, alloc_eq_grow, grow_grow]; rfl
  have HAL := Lib.hid hal
  clear hal
  simp only [pEnc, pCmp, Fin.mk.injEq]
  have e1 : wrap64 ((x1 : Int) - (y1 : Int)) = (x1 : Int) - y1 := by unfold wrap64; omega
  have e2 : wrap64 ((x2 : Int) - (y2 : Int)) = (x2 : Int) - y2 := by unfold wrap64; omega
  by_cases hxy : x1 = y1
  · subst hxy
    rw [if_pos rfl]
    go_enter Tryz.func166, Tryz.ntmps166
    go_wp2_with fail
    go_ret
    exact ⟨rfl, _, HAL.out _ _ _⟩
  · rw [if_neg hxy]
    have hxz : ¬ (x1 : Int) = (y1 : Int) := by omega
    go_enter Tryz.func166, Tryz.ntmps166
    go_wp2_with fail
    go_ret
    exact ⟨rfl, _, HAL.out _ _ _⟩

/-- Block b may have changed; new ones may be. -/
structure PTurn (b : Nat) (w w' : World) : Prop where
  os : w'.os = w.os
  tape : w'.tape = w.tape
  output : w'.output = w.output
  size : w.heap.size ≤ w'.heap.size
  block : ∀ k, k < w.heap.size → k ≠ b → w'.heap[k]? = w.heap[k]?
theorem PTurn.refl (b : Nat) (w : World) : PTurn b w w := ⟨rfl, rfl, rfl, Nat.le_refl _, fun _ _ _ => rfl⟩
theorem PTurn.trans {b : Nat} {w1 w2 w3 : World} (h : PTurn b w1 w2) (k : PTurn b w2 w3) : PTurn b w1 w3 :=
  ⟨k.os.trans h.os, k.tape.trans h.tape, k.output.trans h.output, Nat.le_trans h.size k.size, fun j hj hb => (k.block j (Nat.lt_of_lt_of_le hj h.size) hb).trans (h.block j hj hb)⟩
theorem PTurn.set {b : Nat} {w w' : World} (h : PTurn b w w') (j : Nat) (u : Value) : PTurn b w (w'.setCell ⟨b, j, none⟩ u) :=
  ⟨h.os, h.tape, h.output, by have := h.size; simpa [World.setCell] using this, fun k hk hb => (heap_setCell_other w' ⟨b, j, none⟩ k u hb).trans (h.block k hk hb)⟩
theorem PTurn.drew {b : Nat} {w w' : World} (h : PTurn b w w') : PTurn b w w'.drew := ⟨h.os, h.tape, h.output, h.size, h.block⟩

theorem sortWorldK_turn {α : Type} [Inhabited α] (enc : α → List Value) (k : Nat) (w : World) (blk off m : Nat) (dk : Array α) (os : Array Obj) : PTurn blk w (sortWorldK enc k w blk off m dk os) := by
  have hsz : (mapBlock (Sort.ahead w m) blk (putCells id off (flatK enc k dk))).heap.size = w.heap.size := by simp [mapBlock, Sort.ahead]
  refine ⟨rfl, rfl, rfl, ?_, fun j hj hb => ?_⟩
  · show w.heap.size ≤ ((mapBlock (Sort.ahead w m) blk (putCells id off (flatK enc k dk))).heap ++ os).size
    rw [Array.size_append, hsz]
    omega
  · show ((mapBlock (Sort.ahead w m) blk (putCells id off (flatK enc k dk))).heap ++ os)[j]? = w.heap[j]?
    rw [Array.getElem?_append_left (by rw [hsz]; exact hj)]
    simp only [mapBlock, Sort.ahead, Array.getElem?_modify]
    rw [if_neg (fun e => hb e.symm)]

theorem cmpLays_any (n : Nat) (hn : n < 1024) (blk off size : Nat) (w : World) : CmpLays Tryz.prog 166 #[] (pEnc (n := n)) 2 pCmp blk off size w := by
  intro m os dk hs x y
  refine (order_any n hn x y _).mono ?_
  rintro e w' ⟨he, os', hw⟩
  exact ⟨he, 0, os', by rw [hw]; rfl⟩

theorem sort_pairs (n : Nat) (hn : n < 1024) (blk cap : Nat) (d : Array (PR n)) (w : World) (hH : HoldsK pEnc 2 w blk 0 d) (hblk : blk < w.heap.size) (hsz : d.size ≤ 16384) :
    Calls Tryz.prog 165 #[.slice (some ⟨blk, 0, none⟩) d.size cap, .func (.func 166) #[] #[]] w fun e w' => e = .returned (.tuple #[]) ∧ ∃ d' : Array (PR n), d'.size = d.size ∧ HoldsK pEnc 2 w' blk 0 d' ∧ PTurn blk w w' := by
  have h := Tryz.slices_SortFunc_eq 2 (fun w => Tryz.isAgg196 w) (fun w => Tryz.sizeOf196 w) (pEnc (n := n)) pEnc_len pEnc_one pCmp (pCmp_swo n) 166 #[] blk 0 cap d w (fun _ _ => rfl) (cmpLays_any n hn blk 0 d.size w) hH hblk (by omega)
  refine h.mono ?_
  rintro e w' ⟨he, m, os, hw⟩
  have hs : (pdq (ltOf pCmp) d 0 d.size (Lib.bitLen d.size) true true).size = d.size := (pdq_sorts (ltOf (pCmp (n := n))) (pCmp_swo n) d 0 d.size _ true true (Nat.zero_le _) (Nat.le_refl _) (Or.inl rfl)).1.1
  refine ⟨he, _, hs, ?_, ?_⟩
  · rw [hw]; exact holdsK_sortWorldK_c pEnc 2 w blk 0 d _ m os hH hblk hs
  · rw [hw]; exact sortWorldK_turn _ _ _ _ _ _ _ _

end Go.Proofs.YtjddimoeodecgaaGreat

/- slices.Compact and slices.Clip of pairs: what they leave is pairs. -/
namespace Go.Proofs.YtjddimoeodecgaaGreat
open Go.RowKit Go.Lib Go.Sort
set_option linter.unusedVariables false
set_option maxRecDepth 100000

theorem eqIn_pair (a b c d : Int) (w : World) : (Op.equalIn 10000 196 (.agg #[.int .i64 a, .int .i64 b]) (.agg #[.int .i64 c, .int .i64 d])).run Tryz.prog w = .ok (a == c && b == d) w := by
  have u3 := Tryz.underlying3
  have a3 := Tryz.isAgg3
  have z3 := Tryz.sizeOf3
  have hS : Tryz.prog.underlying 196 = some (.struct (Tryz.prog.fieldsOf 196)) := by kernel_rfl
  have hp : Tryz.prog.stoodInHeld 196 = false := by kernel_rfl
  rw [show (10000 : Nat) = 9999 + 1 from rfl, run_equalIn_agg w 9999 196 _ _ hS hp]
  simp only [Program.fieldsOf, Tryz.underlying196]
  go_simp
  by_cases h1 : a = c <;> by_cases h2 : b = d <;> simp [h1, h2]
theorem eql_pair (a b c d : Int) (w : World) : (binOp .eql 196 (.agg #[.int .i64 a, .int .i64 b]) (.agg #[.int .i64 c, .int .i64 d])).run Tryz.prog w = .ok (.bool (a == c && b == d)) w := by
  rw [run_eql_struct, eqIn_pair]; rfl
theorem neq_pair (a b c d : Int) (w : World) : (binOp .neq 196 (.agg #[.int .i64 a, .int .i64 b]) (.agg #[.int .i64 c, .int .i64 d])).run Tryz.prog w = .ok (.bool (!(a == c && b == d))) w := by
  rw [run_neq_struct, eqIn_pair]; rfl
theorem guard_pair (op : BinOp) (x y : Operand) (xs ys : Array Value) (w : World) : (eqGuard op 196 x y (.agg xs) (.agg ys)).run Tryz.prog w = .ok () w := run_eqGuard_agg (P := Tryz.prog) w op 196 x y xs ys (by kernel_rfl)

/-- Row blk holds m pairs of vertices of n + 1. -/
def PairsAt (n : Nat) (w : World) (blk m : Nat) : Prop := ∀ i, i < m → ∃ a b : Nat, a < n + 1 ∧ b < n + 1 ∧ w.cell? ⟨blk, i * 2, none⟩ = some (.int .i64 a) ∧ w.cell? ⟨blk, i * 2 + 1, none⟩ = some (.int .i64 b) ∧ w.frozen? ⟨blk, i * 2, none⟩ = false ∧ w.frozen? ⟨blk, i * 2 + 1, none⟩ = false
theorem pairs_of {n : Nat} {w : World} {blk : Nat} {d : Array (PR n)} (h : HoldsK pEnc 2 w blk 0 d) : PairsAt n w blk d.size := by
  intro i hi
  obtain ⟨x0, f0⟩ := h.cell hi (show 0 < 2 by omega)
  obtain ⟨x1, f1⟩ := h.cell hi (show 1 < 2 by omega)
  rw [Nat.zero_add] at x0 x1 f0 f1
  exact ⟨d[i]!.1.val, d[i]!.2.val, d[i]!.1.isLt, d[i]!.2.isLt, x0, x1, f0, f1⟩
theorem PairsAt.kept {n : Nat} {w w' : World} {blk m : Nat} (h : PairsAt n w blk m) (hb : w'.heap[blk]? = w.heap[blk]?) : PairsAt n w' blk m := fun i hi => by
  obtain ⟨a, b, h1, h2, h3, h4, h5, h6⟩ := h i hi
  refine ⟨a, b, h1, h2, (World.cell?_of_block (w := w) hb).trans h3, (World.cell?_of_block (w := w) hb).trans h4, (World.frozen?_of_block (w := w) hb).trans h5, (World.frozen?_of_block (w := w) hb).trans h6⟩
theorem PairsAt.set {n : Nat} {w : World} {blk m : Nat} (h : PairsAt n w blk m) (i a b : Nat) (hi : i < m) (ha : a < n + 1) (hb : b < n + 1) : PairsAt n ((w.setCell ⟨blk, i * 2, none⟩ (.int .i64 a)).setCell ⟨blk, i * 2 + 1, none⟩ (.int .i64 b)) blk m := by
  obtain ⟨a0, b0, _, _, e0, e1, f0, f1⟩ := h i hi
  intro j hj
  obtain ⟨a', b', h1, h2, h3, h4, h5, h6⟩ := h j hj
  by_cases e : j = i
  · subst e
    have q1 : (w.setCell ⟨blk, j * 2, none⟩ (.int .i64 a)).cell? ⟨blk, j * 2 + 1, none⟩ = some (.int .i64 b0) := by rw [World.cell?_setCell_other (h := by simp) ..]; exact e1
    refine ⟨a, b, ha, hb, ?_, World.cell?_setCell_same (h := q1) .., ?_, ?_⟩
    · rw [World.cell?_setCell_other (h := by simp) ..]; exact World.cell?_setCell_same (h := e0) ..
    · simp [f0]
    · simp [f1]
  · have n1 : j * 2 ≠ i * 2 := by omega
    have n2 : j * 2 ≠ i * 2 + 1 := by omega
    have n3 : j * 2 + 1 ≠ i * 2 := by omega
    have n4 : j * 2 + 1 ≠ i * 2 + 1 := by omega
    refine ⟨a', b', h1, h2, ?_, ?_, ?_, ?_⟩
    · rw [World.cell?_setCell_other (h := by simp <;> omega) .., World.cell?_setCell_other (h := by simp <;> omega) ..]; exact h3
    · rw [World.cell?_setCell_other (h := by simp <;> omega) .., World.cell?_setCell_other (h := by simp <;> omega) ..]; exact h4
    · simp [h5]
    · simp [h6]

theorem clip_any (blk m cap : Nat) (w : World) (hm : m ≤ cap) :
    Calls Tryz.prog 167 #[.slice (some ⟨blk, 0, none⟩) m cap] w fun e w' => e = .returned (.slice (some ⟨blk, 0, none⟩) m m) ∧ w = w' := by
  have h0 : ¬ (cap : Int) < (m : Int) := by omega
  go_enter Tryz.func167, Tryz.ntmps167
  go_wp2_with fail
  go_ret
  exact ⟨rfl, rfl⟩

end Go.Proofs.YtjddimoeodecgaaGreat

/- slices.Compact of pairs: what it leaves is pairs. -/
namespace Go.Proofs.YtjddimoeodecgaaGreat
open Go.RowKit Go.Lib Go.Sort
set_option linter.unusedVariables false
set_option maxRecDepth 100000

theorem PTurn.setCells {b : Nat} {w : World} : ∀ (vs : List Value) (o : Nat) (w' : World), PTurn b w w' → PTurn b w (w'.setCells b o vs)
  | [], _, _, h => h
  | v :: r, o, w', h => PTurn.setCells r (o + 1) _ (h.set o v)
theorem run_clear_pairs (w : World) (ty : TypeId) (b o n c : Nat) (hn : 0 < n) (hc : ∀ j, j < n * 2 → (w.cell? ⟨b, o + j, none⟩).isSome = true) (hf : ∀ j, j < n * 2 → w.frozen? ⟨b, o + j, none⟩ = false) :
    (Builtin.clear_ #[193] ty #[.slice (some ⟨b, o, none⟩) n c]).run Tryz.prog w = .ok (.tuple #[]) (w.setCells b o (List.replicate (n * 2) (.int .i64 0))) := by
  have hzc : (Builtin.zeroCells (Value.agg #[.int .i64 0, .int .i64 0]).cells n).toList = List.replicate (n * 2) (Value.int .i64 0) := by
    apply List.ext_getElem
    · simp [Builtin.zeroCells, Value.cells]
    · intro i h1 h2
      have : i % 2 = 0 ∨ i % 2 = 1 := by omega
      rcases this with h | h <;> simp [Builtin.zeroCells, Value.cells, h]
  have hst := run_storeCells_cells (P := Tryz.prog) b o (List.replicate (n * 2) (Value.int .i64 0)) 0 w (by simpa using hc) (by simpa using hf) (by intro v hv'; rw [List.eq_of_mem_replicate hv']; rfl)
  simp only [Nat.add_zero] at hst
  obtain ⟨m, rfl⟩ : ∃ m, n = m + 1 := ⟨n - 1, by omega⟩
  simp [Builtin.clear_, run_underlying Tryz.underlying193, hzc, hst]

set_option maxHeartbeats 4000000 in
theorem compact_any (n blk m cap : Nat) (w : World) (h : PairsAt n w blk m) (hblk : blk < w.heap.size) (hm : m ≤ 16384) (hc : m ≤ cap) :
    Calls Tryz.prog 168 #[.slice (some ⟨blk, 0, none⟩) m cap] w fun e w' => ∃ m', e = .returned (.slice (some ⟨blk, 0, none⟩) m' cap) ∧ m' ≤ m ∧ PairsAt n w' blk m' ∧ PTurn blk w w' := by
  have H := Lib.hid h
  clear h
  by_cases hlt : m < 2
  · have h1 : (m : Int) < 2 := by omega
    go_enter Tryz.func168, Tryz.ntmps168
    go_wp2_with fail
    go_ret
    exact ⟨m, rfl, Nat.le_refl _, H.out, PTurn.refl _ _⟩
  · have h1 : ¬ (m : Int) < 2 := by omega
    go_enter Tryz.func168, Tryz.ntmps168
    go_wp2_with fail
    go_loopg [3] m (fun gg s3 wr => ∃ k : Nat, 1 ≤ k ∧ k ≤ m ∧ m - k ≤ gg ∧ s3 = .int .i64 k ∧ Hid (PairsAt n wr blk m) ∧ Hid (PTurn blk w wr))
    case atStart => exact ⟨1, Nat.le_refl _, by omega, by omega, rfl, H, Lib.hid (PTurn.refl _ _)⟩
    case round =>
      obtain ⟨k, hk1, hk, hg, rfl, HP, HT⟩ := hrel
      by_cases hkm : k < m
      · obtain ⟨a1, b1, ha1, hb1, x0, x1, f0, f1⟩ := HP.out k hkm
        obtain ⟨a2, b2, ha2, hb2, y0, y1, g0, g1⟩ := HP.out (k - 1) (by omega)
        have hkz : (k : Int) < (m : Int) := by omega
        have hks : ((k : Int) - 1) = ((k - 1 : Nat) : Int) := by omega
        have hk1z : ((k - 1 : Nat) : Int) < (m : Int) := by omega
        have hws : IntKind.i64.wrap ((k : Int) - 1) = ((k - 1 : Nat) : Int) := by rw [IntWalk.i64_in _ (by omega)]; omega
        go_upto_region 6 with fail
        go_cut [25] (fun s25 wx => ∃ bb : Bool, s25 = .bool bb ∧ Hid (PairsAt n wx blk m ∧ PTurn blk wr wx))
        case first =>
          have dx0 : wr.drew.cell? ⟨blk, k * 2, none⟩ = some (.int .i64 (a1 : Int)) := x0
          have dx1 : wr.drew.cell? ⟨blk, k * 2 + 1, none⟩ = some (.int .i64 (b1 : Int)) := x1
          have dy0 : wr.drew.cell? ⟨blk, (k - 1) * 2, none⟩ = some (.int .i64 (a2 : Int)) := y0
          have dy1 : wr.drew.cell? ⟨blk, (k - 1) * 2 + 1, none⟩ = some (.int .i64 (b2 : Int)) := y1
          have hq1 := eql_pair a1 b1 a2 b2
          have hq2 := guard_pair
          go_region
          all_goals
            go_wp2_with fail
            go_meet
            exact ⟨_, rfl, Lib.hid ⟨HP.out, (PTurn.refl _ _).drew⟩⟩
        case rest =>
          obtain ⟨bb, rfl, HC⟩ := hcut
          clear x0 x1 y0 y1 f0 f1 g0 g1 hks hk1z hws
          cases bb with
          | false =>
            have hwk : IntKind.i64.wrap ((k : Int) + 1) = ((k + 1 : Nat) : Int) := by rw [IntWalk.i64_in _ (by omega)]; omega
            go_wp2_with fail
            have HWK := Lib.hid hwk
            clear hwk
            go_roundg (m - (k + 1))
            case measure => omega
            case rel => exact ⟨k + 1, by omega, by omega, Nat.le_refl _, rfl, Lib.hid HC.out.1, Lib.hid (HT.out.trans HC.out.2)⟩
          | true =>
            have hkc : ¬ cap = k := by omega
            have hkc2 : ¬ k = cap := by omega
            have hmk : ((m : Int) - (k : Int)) = ((m - k : Nat) : Int) := by omega
            have hck : ((cap : Int) - (k : Int)) = ((cap - k : Nat) : Int) := by omega
            go_wp2_with fail
            clear hmk hck hkz
            have hkmc : k ≤ m := by omega
            go_loopg [3, 5] m (fun gg s3 s5 wq => ∃ kk k2 : Nat, 1 ≤ k2 ∧ k + k2 ≤ m ∧ m - (k + k2) ≤ gg ∧ 1 ≤ kk ∧ kk < k + k2 ∧ s3 = .int .i64 kk ∧ s5 = .int .i64 k2 ∧ Hid (PairsAt n wq blk m) ∧ Hid (PTurn blk w wq))
            case atStart => exact ⟨k, 1, Nat.le_refl _, by omega, by omega, hk1, by omega, rfl, rfl, Lib.hid HC.out.1, Lib.hid (HT.out.trans HC.out.2)⟩
            case round =>
              obtain ⟨kk, k2, h21, h2m, h2g, hkk1, hkk, rfl, rfl, HP2, HT2⟩ := hrel
              by_cases h2lt : k + k2 < m
              · obtain ⟨a1, b1, ha1, hb1, x0, x1, f0, f1⟩ := HP2.out (k + k2) h2lt
                obtain ⟨a2, b2, ha2, hb2, y0, y1, g0, g1⟩ := HP2.out (k + k2 - 1) (by omega)
                have e0 : (k + k2) * 2 = k * 2 + k2 * 2 := by omega
                have e1 : (k + k2 - 1) * 2 = k * 2 + (k2 - 1) * 2 := by omega
                rw [e0] at x0 x1 f0 f1
                rw [e1] at y0 y1 g0 g1
                clear e0 e1 f0 f1 g0 g1
                have hk2z : (k2 : Int) < ((m - k : Nat) : Int) := by omega
                have hk21z : ((k2 - 1 : Nat) : Int) < ((m - k : Nat) : Int) := by omega
                have hws : IntKind.i64.wrap ((k2 : Int) - 1) = ((k2 - 1 : Nat) : Int) := by rw [IntWalk.i64_in _ (by omega)]; omega
                go_upto_region 11 with fail
                go_cut [44] (fun s44 wx => ∃ bb : Bool, s44 = .bool bb ∧ Hid (PairsAt n wx blk m ∧ PTurn blk wr wx))
                case first =>
                  have dx0 : wr.drew.cell? ⟨blk, k * 2 + k2 * 2, none⟩ = some (.int .i64 (a1 : Int)) := x0
                  have dx1 : wr.drew.cell? ⟨blk, k * 2 + k2 * 2 + 1, none⟩ = some (.int .i64 (b1 : Int)) := x1
                  have dy0 : wr.drew.cell? ⟨blk, k * 2 + (k2 - 1) * 2, none⟩ = some (.int .i64 (a2 : Int)) := y0
                  have dy1 : wr.drew.cell? ⟨blk, k * 2 + (k2 - 1) * 2 + 1, none⟩ = some (.int .i64 (b2 : Int)) := y1
                  have hq1 := neq_pair a1 b1 a2 b2
                  have hq2 := guard_pair
                  go_region
                  all_goals
                    go_wp2_with fail
                    go_meet
                    exact ⟨_, rfl, Lib.hid ⟨HP2.out, (PTurn.refl _ _).drew⟩⟩
                case rest =>
                  obtain ⟨bb, rfl, HC2⟩ := hcut
                  clear x0 x1 y0 y1 hk21z hws
                  cases bb with
                  | false =>
                    have hwk : IntKind.i64.wrap ((k2 : Int) + 1) = ((k2 + 1 : Nat) : Int) := by rw [IntWalk.i64_in _ (by omega)]; omega
                    go_wp2_with fail
                    have HWK := Lib.hid hwk
                    clear hwk
                    go_roundg (m - (k + (k2 + 1)))
                    case measure => omega
                    case rel => exact ⟨kk, k2 + 1, by omega, by omega, Nat.le_refl _, hkk1, by omega, rfl, rfl, Lib.hid HC2.out.1, Lib.hid (HT2.out.trans HC2.out.2)⟩
                  | true =>
                    obtain ⟨a1, b1, ha1, hb1, x0, x1, f0, f1⟩ := HC2.out.1 (k + k2) h2lt
                    obtain ⟨a3, b3, _, _, z0, z1, u0, u1⟩ := HC2.out.1 kk (by omega)
                    have e0 : (k + k2) * 2 = k * 2 + k2 * 2 := by omega
                    rw [e0] at x0 x1 f0 f1
                    clear e0 f0 f1
                    have hkkz : (kk : Int) < (m : Int) := by omega
                    have hwk : IntKind.i64.wrap ((k2 : Int) + 1) = ((k2 + 1 : Nat) : Int) := by rw [IntWalk.i64_in _ (by omega)]; omega
                    have hwkk : IntKind.i64.wrap ((kk : Int) + 1) = ((kk + 1 : Nat) : Int) := by rw [IntWalk.i64_in _ (by omega)]; omega
                    go_wp2_with fail
                    have HWK := Lib.hid hwk
                    have HWKK := Lib.hid hwkk
                    clear hwk hwkk
                    go_roundg (m - (k + (k2 + 1)))
                    case measure => omega
                    case rel => exact ⟨kk + 1, k2 + 1, by omega, by omega, Nat.le_refl _, by omega, by omega, rfl, rfl, Lib.hid (HC2.out.1.set kk a1 b1 (by omega) ha1 hb1), Lib.hid (HT2.out.trans ((HC2.out.2.set _ _).set _ _))⟩
              · have hend : k + k2 = m := by omega
                have hkc3 : ¬ cap = kk := by omega
                have hkc4 : ¬ kk = cap := by omega
                have hcl : ∀ ty, (Builtin.clear_ #[193] ty #[.slice (some ⟨blk, kk * 2, none⟩) (m - kk) (cap - kk)]).run Tryz.prog wr = .ok (.tuple #[]) (wr.setCells blk (kk * 2) (List.replicate ((m - kk) * 2) (.int .i64 0))) := fun ty => run_clear_pairs wr ty blk (kk * 2) (m - kk) (cap - kk) (by omega) (fun j hj => by
                  obtain ⟨a, b, _, _, c0, c1, _, _⟩ := HP2.out (kk + j / 2) (by omega)
                  rcases Nat.mod_two_eq_zero_or_one j with hj2 | hj2
                  · rw [show kk * 2 + j = (kk + j / 2) * 2 by omega, c0]; rfl
                  · rw [show kk * 2 + j = (kk + j / 2) * 2 + 1 by omega, c1]; rfl) (fun j hj => by
                  obtain ⟨a, b, _, _, _, _, c0, c1⟩ := HP2.out (kk + j / 2) (by omega)
                  rcases Nat.mod_two_eq_zero_or_one j with hj2 | hj2
                  · rw [show kk * 2 + j = (kk + j / 2) * 2 by omega, c0]
                  · rw [show kk * 2 + j = (kk + j / 2) * 2 + 1 by omega, c1])
                have hps : PairsAt n (wr.setCells blk (kk * 2) (List.replicate ((m - kk) * 2) (.int .i64 0))) blk kk := fun i hi => by
                  obtain ⟨a, b, h1, h2, h3, h4, h5, h6⟩ := HP2.out i (by omega)
                  refine ⟨a, b, h1, h2, ?_, ?_, ?_, ?_⟩
                  · rw [World.cell?_setCells_out _ _ _ _ _ (fun _ _ => Or.inl (by show i * 2 < kk * 2; omega))]; exact h3
                  · rw [World.cell?_setCells_out _ _ _ _ _ (fun _ _ => Or.inl (by show i * 2 + 1 < kk * 2; omega))]; exact h4
                  · rw [World.frozen?_setCells]; exact h5
                  · rw [World.frozen?_setCells]; exact h6
                have HPS := Lib.hid hps
                have HPT := Lib.hid (PTurn.setCells (List.replicate ((m - kk) * 2) (.int .i64 0)) (kk * 2) wr HT2.out)
                have hkkm : kk ≤ m := by omega
                have h2n : ¬ (k2 : Int) < ((m - k : Nat) : Int) := by omega
                clear hps
                generalize wr.setCells blk (kk * 2) (List.replicate ((m - kk) * 2) (.int .i64 0)) = wz at *
                go_wp2_with fail
                go_ret
                exact ⟨kk, rfl, hkkm, HPS.out, HPT.out⟩
      · have : k = m := by omega
        subst this
        have hkz : ¬ (k : Int) < (k : Int) := by omega
        go_wp2_with fail
        go_ret
        exact ⟨k, rfl, Nat.le_refl _, HP.out, HT.out⟩

end Go.Proofs.YtjddimoeodecgaaGreat
