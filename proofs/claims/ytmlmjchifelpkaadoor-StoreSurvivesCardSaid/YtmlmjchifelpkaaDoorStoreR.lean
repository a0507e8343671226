/- with: pairs by keys, with one more; among. -/
import Derived.Test.YtmlmjchifelpkaaDoorStoreQ
import Derived.Deep.DeepCutAuto
namespace Go.Proofs.YtmlmjchifelpkaaDoor
open Go.RowKit Go.Lib Go.Maps Go.Sort
set_option linter.unusedVariables false
set_option maxRecDepth 100000

def w1 (k : List UInt8) (p : List (List UInt8) × Bool) (x : List UInt8) : List (List UInt8) × Bool := if p.2 = false ∧ ¬ x < k then (p.1 ++ [k], true) else p
def w2 (k : List UInt8) (p : List (List UInt8) × Bool) (x : List UInt8) : List (List UInt8) × Bool := if x = k then p else (p.1 ++ [x], p.2)
def wAll (k : List UInt8) (ss : List (List UInt8)) : List (List UInt8) × Bool := ss.foldl (fun p x => w2 k (w1 k p x) x) ([], false)
def wFin (k : List UInt8) (ss : List (List UInt8)) : List (List UInt8) := if (wAll k ss).2 then (wAll k ss).1 else (wAll k ss).1 ++ [k]

theorem wAll_step (k : List UInt8) (ss : List (List UInt8)) (j : Nat) (h : j < ss.length) : wAll k (ss.take (j + 1)) = w2 k (w1 k (wAll k (ss.take j)) (ss.getD j [])) (ss.getD j []) := by
  have e : ss.getD j [] = ss[j] := by simp [List.getD, List.getElem?_eq_getElem h]
  unfold wAll
  rw [List.take_succ_eq_append_getElem h, List.foldl_append, e]
  rfl
theorem wAll_len (k : List UInt8) (ss : List (List UInt8)) : (wAll k ss).1.length ≤ 2 * ss.length := by
  suffices ∀ (p : List (List UInt8) × Bool), (ss.foldl (fun p x => w2 k (w1 k p x) x) p).1.length ≤ p.1.length + 2 * ss.length by
    have := this ([], false)
    simpa [wAll] using this
  induction ss with
  | nil => intro p; simp
  | cons x ss ih =>
    intro p
    have h := ih (w2 k (w1 k p x) x)
    have h2 : (w2 k (w1 k p x) x).1.length ≤ p.1.length + 2 := by
      unfold w2 w1
      split <;> split <;> simp
    rw [List.foldl_cons, List.length_cons]
    omega
theorem fold_low (k : List UInt8) (A : List (List UInt8)) : ∀ (acc : List (List UInt8)), (∀ a ∈ A, a < k) → A.foldl (fun p x => w2 k (w1 k p x) x) (acc, false) = (acc ++ A, false) := by
  induction A with
  | nil => intro acc _; simp
  | cons a A ih =>
    intro acc h
    have ha := h a (by simp)
    have hne : a ≠ k := fun e => by rw [e] at ha; exact List.lt_irrefl _ ha
    have e : w2 k (w1 k (acc, false) a) a = (acc ++ [a], false) := by simp [w1, w2, ha, hne]
    rw [List.foldl_cons, e, ih _ (fun b hb => h b (by simp [hb]))]
    simp
theorem fold_high (k : List UInt8) (B : List (List UInt8)) : ∀ (acc : List (List UInt8)), (∀ b ∈ B, b ≠ k) → B.foldl (fun p x => w2 k (w1 k p x) x) (acc, true) = (acc ++ B, true) := by
  induction B with
  | nil => intro acc _; simp
  | cons a A ih =>
    intro acc h
    have hne := h a (by simp)
    have e : w2 k (w1 k (acc, true) a) a = (acc ++ [a], true) := by simp [w1, w2, hne]
    rw [List.foldl_cons, e, ih _ (fun b hb => h b (by simp [hb]))]
    simp

/-- The keys, with one more. -/
theorem with_keys {m : MapP} {ss : List (List UInt8)} (h : KeysOf m ss) (k : List UInt8) (v : ByteArray) (hk : k.length ≤ 64) : KeysOf (m.put k v) (wFin k ss) := by
  obtain ⟨A, B, rfl, hA, hB⟩ := split_at k ss h.sorted
  have hst := (List.pairwise_append.1 h.sorted).2.1
  have hnd := (List.nodup_append.1 h.nodup).2.1
  have e0 : wAll k (A ++ B) = B.foldl (fun p x => w2 k (w1 k p x) x) (A, false) := by
    unfold wAll
    rw [List.foldl_append, fold_low k A [] hA]
    rfl
  cases B with
  | nil =>
    have hnk : k ∉ A := fun hx => List.lt_irrefl _ (hA k hx)
    have hm : m.m k = none := by
      cases hq : m.m k with
      | none => rfl
      | some x => exact absurd (by simpa using (h.mem k).2 (by rw [hq]; rfl)) hnk
    have : wFin k (A ++ []) = A ++ [k] := by unfold wFin; rw [e0]; simp
    rw [this]
    exact keys_put m k v hk hm A [] h hA hB
  | cons b B =>
    have hb : ¬ b < k := hB b (by simp)
    obtain ⟨hb1, hb2⟩ := List.pairwise_cons.1 hst
    have hn1 := (List.nodup_cons.1 hnd).1
    by_cases e : b = k
    · subst e
      have hall : ∀ y ∈ B, y ≠ b := fun y hy e => hn1 (e ▸ hy)
      have e1 : wFin b (A ++ b :: B) = A ++ b :: B := by
        unfold wFin
        rw [e0, List.foldl_cons]
        have e2 : w2 b (w1 b (A, false) b) b = (A ++ [b], true) := by
          have : ¬ b < b := List.lt_irrefl _
          simp [w1, w2, this]
        rw [e2, fold_high b B _ hall]
        simp
      rw [e1]
      exact keys_same m b v ((h.mem b).1 (by simp)) _ h
    · have hall : ∀ y ∈ B, y ≠ k := fun y hy e' => by
        have h1 := hb1 y hy
        simp only [leB, decide_eq_true_eq] at h1
        rw [e'] at h1
        exact e (List.le_antisymm h1 (List.not_lt.1 hb))
      have e1 : wFin k (A ++ b :: B) = A ++ k :: b :: B := by
        unfold wFin
        rw [e0, List.foldl_cons]
        have e2 : w2 k (w1 k (A, false) b) b = (A ++ [k, b], true) := by simp [w1, w2, hb, e]
        rw [e2, fold_high k B _ hall]
        simp
      have hnk : k ∉ A ++ b :: B := fun hx => by
        rcases List.mem_append.1 hx with h1 | h1
        · exact List.lt_irrefl _ (hA k h1)
        · rcases List.mem_cons.1 h1 with h2 | h2
          · exact e h2.symm
          · exact hall k h2 rfl
      have hm : m.m k = none := by
        cases hq : m.m k with
        | none => rfl
        | some x => exact absurd ((h.mem k).2 (by rw [hq]; rfl)) hnk
      rw [e1]
      exact keys_put m k v hk hm A (b :: B) h hA hB

theorem toldL_app (a b : List (List UInt8)) (f : List UInt8 → Option ByteArray) : toldL (a ++ b) f = toldL a f ++ toldL b f := by unfold toldL; rw [List.flatMap_append]
theorem toldL_at (f : List UInt8 → Option ByteArray) : ∀ (ss : List (List UInt8)) (j : Nat), j < ss.length → (toldL ss f).getD (2 * j) ⟨#[]⟩ = ⟨(ss.getD j []).toArray⟩ ∧ (toldL ss f).getD (2 * j + 1) ⟨#[]⟩ = (f (ss.getD j [])).getD ⟨#[]⟩
  | [], _, h => absurd h (Nat.not_lt_zero _)
  | k :: ss, 0, _ => ⟨rfl, rfl⟩
  | k :: ss, j + 1, h => by
    have := toldL_at f ss j (by simpa using h)
    exact this

theorem geq_not {x k : ByteArray} (h : x.data.toList < k.data.toList) : ∀ t : TypeId, binOp .geq t (.string x) (.string k) = pure (.bool false) := by
  intro t
  simp only [binOp, Op.stringOp, bytesLess_eq, Lib.toList_data]
  simp only [h, decide_true, Bool.not_true]
theorem geq_yes {x k : ByteArray} (h : ¬ x.data.toList < k.data.toList) : ∀ t : TypeId, binOp .geq t (.string x) (.string k) = pure (.bool true) := by
  intro t
  simp only [binOp, Op.stringOp, bytesLess_eq, Lib.toList_data]
  simp only [h, decide_false, Bool.not_false]

set_option maxHeartbeats 1000000 in
theorem with_any (B : Nat) (vl : Value) (ss : List (List UInt8)) (f : List UInt8 → Option ByteArray) (k x : ByteArray) (w : World) (h : StrsAt B w vl (toldL ss f)) (hsl : ss.length ≤ 1000) :
    Calls Tryd.prog 17 #[vl, .string k, .string x] w fun e w' => ∃ v', e = .returned v' ∧ StrsAt w.heap.size w' v' (toldL (wFin k.data.toList ss) (putM f k.data.toList x)) ∧ Below w.heap.size w w' := by
  obtain ⟨i0, hi, hz0, hz1, hz2⟩ := info_parts info9
  obtain ⟨p, cap, rfl, hm, hc⟩ := h
  have hln : (toldL ss f).length = 2 * ss.length := toldL_len f ss
  have HLN := Lib.hid hln
  obtain ⟨L, hL⟩ : ∃ L, L = 2 * ss.length := ⟨_, rfl⟩
  rw [hln, ← hL]
  have hLL : L ≤ 2000 := by omega
  have HL := Lib.hid hL
  have HC := Lib.hid hc
  clear hc hm hln hL
  go_enter Tryd.func17, Tryd.ntmps17
  go_wp2_with fail
  go_loopg [7, 8, 9] ss.length (fun gg s7 s8 s9 wr => ∃ (kk i : Nat) (ls : List (List UInt8)) (bb : Bool), kk ≤ ss.length ∧ ss.length - kk ≤ gg ∧ Hid (i = 2 * kk) ∧ s9 = .int .i64 i ∧ Hid ((ls, bb) = wAll k.data.toList (ss.take kk)) ∧ s8 = .bool bb ∧ Hid (wr.ownsRow w.heap.size 9 1 s7 (2 * ls.length) ((toldL ls (putM f k.data.toList x)).map Value.string)) ∧ Hid (Below w.heap.size w wr))
  case atStart => exact ⟨0, 0, [], false, Nat.zero_le _, by omega, Lib.hid rfl, rfl, Lib.hid rfl, rfl, World.ownsRow_nil _ _ _ _, Below.refl _ _⟩
  case round =>
    obtain ⟨kk, i, ls, bb, hkk, hgg, HI, rfl, HW, rfl, HR, HB⟩ := hrel
    by_cases hlt : kk < ss.length
    · have hl1 : (i : Int) + 1 < (L : Int) := by have := HI.out; have := HL.out; omega
      have hl0 : (i : Int) < (L : Int) := by omega
      have hne : toldL ss f ≠ [] := fun e => by have := HLN.out; rw [e] at this; simp at this; omega
      obtain ⟨r, rfl, -, hr, hcell⟩ := HC.out hne
      obtain ⟨t1, t2⟩ := toldL_at f ss kk hlt
      have c1 := hcell (2 * kk) (by rw [HLN.out]; omega)
      have c2 := hcell (2 * kk + 1) (by rw [HLN.out]; omega)
      rw [t1, ← HI.out] at c1
      rw [t2, ← HI.out] at c2
      have l1 := (HB.out.cell (p := ⟨r, i, none⟩) hr).trans c1
      have l2 := (HB.out.cell (p := ⟨r, i + 1, none⟩) hr).trans c2
      have hst := wAll_step k.data.toList ss kk hlt
      rw [← HW.out] at hst
      have hlsn : ls.length ≤ 2 * kk := by
        have := wAll_len k.data.toList (ss.take kk)
        rw [← HW.out, List.length_take] at this
        have h2 : ls.length ≤ 2 * min kk ss.length := this
        omega
      obtain ⟨s, hs⟩ : ∃ s : ByteArray, s = ⟨(ss.getD kk []).toArray⟩ := ⟨_, rfl⟩
      obtain ⟨y, hy⟩ : ∃ y : ByteArray, y = (f (ss.getD kk [])).getD ⟨#[]⟩ := ⟨_, rfl⟩
      rw [← hs] at l1
      rw [← hy] at l2
      have hsk : s.data.toList = ss.getD kk [] := by rw [hs]
      rw [← hsk] at hst hy
      have HST := Lib.hid hst
      have HY := Lib.hid hy
      obtain ⟨q, hq⟩ : ∃ q : Bool, q = decide (¬ s.data.toList < k.data.toList) := ⟨_, rfl⟩
      have hge : ∀ t : TypeId, binOp .geq t (.string s) (.string k) = pure (.bool q) := by
        rw [hq]
        by_cases hlt2 : s.data.toList < k.data.toList
        · rw [decide_eq_false (fun h => h hlt2)]; exact geq_not hlt2
        · rw [decide_eq_true hlt2]; exact geq_yes hlt2
      have HQ := Lib.hid hq
      obtain ⟨cc, hcc⟩ : ∃ cc : Bool, cc = (!bb && q) := ⟨_, rfl⟩
      have HCC := Lib.hid hcc
      clear hcc
      have c1' : w.cell? ⟨r, i, none⟩ = some (.string s) := by rw [c1, hs]
      have c2' : w.cell? ⟨r, i + 1, none⟩ = some (.string y) := by rw [c2, hy, hsk]
      clear c1 c2 t1 t2 hs hsk hst hy hcell hne hq
      go_upto_region 6 with fail
      go_cut [26] (fun s26 wx => s26 = .bool cc ∧ wx = wr)
      case first =>
        cases bb with
        | false => go_wp2_with fail; go_meet; exact ⟨by rw [HCC.out]; cases q <;> rfl, rfl⟩
        | true => go_wp2_with fail; go_meet; exact ⟨by rw [HCC.out]; cases q <;> rfl, rfl⟩
      case rest =>
        obtain ⟨rfl, rfl⟩ := hcut
        go_upto_if 26 with fail
        go_cut [7, 8] (fun s7 s8 wx => ∃ (ls2 : List (List UInt8)) (b2 : Bool), Hid ((ls2, b2) = w1 k.data.toList (ls, bb) s.data.toList) ∧ s8 = .bool b2 ∧ Hid (wx.ownsRow w.heap.size 9 1 s7 (2 * ls2.length) ((toldL ls2 (putM f k.data.toList x)).map Value.string)) ∧ Hid (Below w.heap.size w wx))
        case first =>
          have hb0 := HB.out.size
          cases cc with
          | true =>
            have hc : (!bb && q) = true := HCC.out.symm
            have HX : Hid ((ls ++ [k.data.toList], true) = w1 k.data.toList (ls, bb) s.data.toList) := Lib.hid (by
              have h2 := HQ.out
              cases bb with
              | true => cases hc
              | false =>
                have h3 : q = true := by simpa using hc
                rw [h3] at h2
                unfold w1
                rw [if_pos ⟨rfl, of_decide_eq_true h2.symm⟩])
            have HT : Hid ((toldL (ls ++ [k.data.toList]) (putM f k.data.toList x)).map Value.string = (toldL ls (putM f k.data.toList x)).map Value.string ++ [.string k, .string x]) := Lib.hid (by
              have e1 : toldL [k.data.toList] (putM f k.data.toList x) = [k, x] := by
                unfold toldL putM
                simp
              rw [toldL_app, e1, List.map_append]
              rfl)
            go_wp2_with (first
              | (at_builtin; (refine wpList_append_own _ rfl _ _ 34 rfl w.heap.size 9 i0 (.string ⟨#[]⟩) 1 16 Tryd.underlying34 hi hz0 hz1 hz2 rfl (by decide) _ _ _ rfl (HR.out.alloc _) ⟨wc.heap.size, 0, none⟩ 2 2 [.string k, .string x] rfl rfl (cell_pair_new _ _ _ _) (by simp [Value.oneCell']) (by unfold maxLen; omega) (by omega) (by simp; omega) ?_; intro v' w3 hown' hg3 hnil3))
              | go_in)
            have hBelow := (HB.out.alloc hb0 (.cells #[.string k, .string x] 9)).grown hg3 (by simp; omega) (fun j hj => (HR.out.lt j hj).1)
            have HBelow := Lib.hid hBelow
            have HOwn : Hid (w3.ownsRow w.heap.size 9 1 v' (2 * (ls ++ [k.data.toList]).length) ((toldL (ls ++ [k.data.toList]) (putM f k.data.toList x)).map Value.string)) := Lib.hid (by
              rw [HT.out, List.length_append, List.length_singleton, show 2 * (ls.length + 1) = 2 * ls.length + 2 by omega]
              exact hown')
            clear hBelow hown' hg3 hnil3
            go_wp2_with fail
            go_meet
            exact ⟨_, true, HX, rfl, HOwn, HBelow⟩
          | false =>
            have hc2 : (!bb && q) = false := HCC.out.symm
            have HX : Hid ((ls, bb) = w1 k.data.toList (ls, bb) s.data.toList) := Lib.hid (by
              have h2 := HQ.out
              unfold w1
              rw [if_neg]
              rintro ⟨h3, h4⟩
              have h3 : bb = false := h3
              rw [decide_eq_true h4] at h2
              rw [h3, h2] at hc2
              cases hc2)
            go_wp2_with fail
            go_meet
            exact ⟨_, bb, HX, rfl, HR, HB⟩
        case rest =>
          obtain ⟨ls2, b2, HW2, rfl, HR2, HB2⟩ := hcut
          obtain ⟨wy, rfl⟩ : ∃ x : World, x = wc := ⟨_, rfl⟩
          have hb2 := HB2.out.size
          have hls2 : ls2.length ≤ 2 * kk + 2 := by
            have h2 := congrArg (fun p => p.1.length) HW2.out
            have h3 : (w1 k.data.toList (ls, bb) s.data.toList).1.length ≤ ls.length + 1 := by unfold w1; split <;> simp
            have h4 : ls2.length = (w1 k.data.toList (ls, bb) s.data.toList).1.length := h2
            omega
          have m1 := (HB2.out.cell (p := ⟨r, i, none⟩) hr).trans c1'
          have m2 := (HB2.out.cell (p := ⟨r, i + 1, none⟩) hr).trans c2'
          clear l1 l2 HR HB
          by_cases hsk : s.data.toList = k.data.toList
          · have hxx : (s.toList == k.toList) = true := by simp only [Lib.toList_data, beq_iff_eq]; exact hsk
            have HSK := Lib.hid hsk
            clear hsk
            go_wp2_with fail
            go_roundg (ss.length - (kk + 1))
            case measure => omega
            case rel =>
              refine ⟨kk + 1, i + 2, ls2, b2, by omega, by omega, Lib.hid (by have := HI.out; omega), by go_num, Lib.hid ?_, rfl, HR2, HB2⟩
              rw [HST.out, ← HW2.out]
              unfold w2
              rw [if_pos HSK.out]
          · have hxx : (s.toList == k.toList) = false := by simp only [Lib.toList_data, beq_eq_false_iff_ne, ne_eq]; exact hsk
            have HSK := Lib.hid hsk
            have HT : Hid ((toldL (ls2 ++ [s.data.toList]) (putM f k.data.toList x)).map Value.string = (toldL ls2 (putM f k.data.toList x)).map Value.string ++ [.string s, .string y]) := Lib.hid (by
              have e1 : toldL [s.data.toList] (putM f k.data.toList x) = [s, y] := by
                unfold toldL putM
                simp only [List.flatMap_cons, List.flatMap_nil, List.append_nil]
                rw [if_neg hsk, ← HY.out]
              rw [toldL_app, e1, List.map_append]
              rfl)
            clear hsk
            go_upto_region 10 with fail
            have hr1 := HR2.out
            have hwr : IntKind.i64.wrap ((i : Int) + 1) = (i : Int) + 1 := IntWalk.i64_in _ (by omega)
            have hw0 : (0 : Int) ≤ (i : Int) + 1 := by omega
            have m1d : wy.drew.cell? ⟨r, i, none⟩ = some (.string s) := m1
            have m2d : wy.drew.cell? ⟨r, i + 1, none⟩ = some (.string y) := m2
            go_region_law (refine step_append_lies _ (by rfl) _ _ _ (by rfl) w.heap.size 9 i0 _ 1 16 Tryd.underlying34 hi hz0 hz1 hz2 rfl (by omega) _ _ _ (by rfl) (hr1.drew.alloc _) ⟨wy.drew.heap.size, 0, none⟩ 2 2 [.string s, .string y] (by rfl) (by rfl) (cell_pair_new _ _ _ _) (by simp [Value.oneCell']) (by omega) (by unfold maxLen; omega) (by omega) (by simp; omega) (wy.heap.size + 1) (by simp) ?_; intro gg3 cap3 w3 hown' hg3 hat hlt3; have hBelow := ((HB2.out.drew).alloc hb2 (.cells #[.string s, .string y] 9)).grown hg3 (by simp; omega) (fun j hj => (hr1.lt j hj).1); have HBelow := Lib.hid hBelow; have HOwn := Lib.hid hown'; clear hBelow hown' hg3 hat hlt3)
            all_goals
              go_wp2_with fail
              go_roundg (ss.length - (kk + 1))
            all_goals first
              | (show _ < _; omega)
              | (refine ⟨kk + 1, i + 2, ls2 ++ [s.data.toList], b2, by omega, by omega, Lib.hid (by have := HI.out; omega), by go_num, Lib.hid ?_, rfl, Lib.hid ?_, HBelow⟩
                 · rw [HST.out, ← HW2.out]
                   unfold w2
                   rw [if_neg HSK.out]
                 · rw [HT.out, List.length_append, List.length_singleton, show 2 * (ls2.length + 1) = 2 * ls2.length + 2 by omega]
                   exact HOwn.out)
    · have hk : kk = ss.length := by omega
      have hl1 : ¬ (i : Int) + 1 < (L : Int) := by have := HI.out; have := HL.out; omega
      have hl0 : (i : Int) ≤ 2000 := by have := HI.out; omega
      subst hk
      have HWW : Hid ((ls, bb) = wAll k.data.toList ss) := Lib.hid (by have := HW.out; rwa [List.take_length] at this)
      have hlsn : ls.length ≤ 2 * ss.length := by
        have := wAll_len k.data.toList ss
        rw [← HWW.out] at this
        exact this
      have hb0 := HB.out.size
      have hfin : ∀ (v' : Value) (ls3 : List (List UInt8)) (w3 : World), wFin k.data.toList ss = ls3 → ls3.length ≤ 3000 → w3.ownsRow w.heap.size 9 1 v' (2 * ls3.length) ((toldL ls3 (putM f k.data.toList x)).map Value.string) → StrsAt w.heap.size w3 v' (toldL (wFin k.data.toList ss) (putM f k.data.toList x)) := by
        intro v' ls3 w3 he hz hown
        rw [he]
        have hln3 := toldL_len (putM f k.data.toList x) ls3
        rcases hown.2 with ⟨rfl, h0⟩ | ⟨q, c, cur, rfl, hbase, hb, h1, h2, h3, h4⟩
        · have e0 : toldL ls3 (putM f k.data.toList x) = [] := List.length_eq_zero_iff.1 (by omega)
          exact ⟨none, 0, by rw [e0]; rfl, by rw [e0]; exact Nat.zero_le _, fun hne => absurd e0 hne⟩
        · refine ⟨some ⟨q, 0, none⟩, c, by rw [hln3], by rw [hln3]; unfold maxLen; omega, fun _ => ⟨q, rfl, hbase, (Array.getElem?_eq_some_iff.1 hb).1, fun j hj => ?_⟩⟩
          have := hown.cellAt j (by omega)
          rw [this, List.getElem?_map, List.getD_eq_getElem?_getD, List.getElem?_eq_getElem hj]
          rfl
      have HFIN := Lib.hid hfin
      clear hfin HW hlt
      cases bb with
      | true =>
        have HE : Hid (wFin k.data.toList ss = ls) := Lib.hid (by unfold wFin; rw [← HWW.out]; rfl)
        go_wp2_with fail
        go_ret
        exact ⟨_, rfl, HFIN.out _ _ _ HE.out (by omega) HR.out, HB.out⟩
      | false =>
        have HE : Hid (wFin k.data.toList ss = ls ++ [k.data.toList]) := Lib.hid (by unfold wFin; rw [← HWW.out]; rfl)
        have HT : Hid ((toldL (ls ++ [k.data.toList]) (putM f k.data.toList x)).map Value.string = (toldL ls (putM f k.data.toList x)).map Value.string ++ [.string k, .string x]) := Lib.hid (by
          have e1 : toldL [k.data.toList] (putM f k.data.toList x) = [k, x] := by
            unfold toldL putM
            simp
          rw [toldL_app, e1, List.map_append]
          rfl)
        go_wp2_with (first
          | (at_builtin; refine wpList_append_own _ rfl _ _ 34 rfl w.heap.size 9 i0 (.string ⟨#[]⟩) 1 16 Tryd.underlying34 hi hz0 hz1 hz2 rfl (by decide) _ _ _ rfl (HR.out.alloc _) ⟨wr.heap.size, 0, none⟩ 2 2 [.string k, .string x] rfl rfl (cell_pair_new _ _ _ _) (by simp [Value.oneCell']) (by unfold maxLen; omega) (by omega) (by simp; omega) ?_; intro v' w3 hown' hg3 hnil3)
          | go_in)
        have hBelow := (HB.out.alloc hb0 (.cells #[.string k, .string x] 9)).grown hg3 (by simp; omega) (fun j hj => (HR.out.lt j hj).1)
        have HBelow := Lib.hid hBelow
        have HOwn : Hid (w3.ownsRow w.heap.size 9 1 v' (2 * (ls ++ [k.data.toList]).length) ((toldL (ls ++ [k.data.toList]) (putM f k.data.toList x)).map Value.string)) := Lib.hid (by
          rw [HT.out, List.length_append, List.length_singleton, show 2 * (ls.length + 1) = 2 * ls.length + 2 by omega]
          exact hown')
        clear hBelow hown' hg3 hnil3
        go_wp2_with fail
        go_ret
        exact ⟨_, rfl, HFIN.out _ _ _ HE.out (by rw [List.length_append, List.length_singleton]; omega) HOwn.out, HBelow.out⟩

end Go.Proofs.YtmlmjchifelpkaaDoor
