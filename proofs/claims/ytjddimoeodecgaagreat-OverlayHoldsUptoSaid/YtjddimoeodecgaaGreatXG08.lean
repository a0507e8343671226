/- natcut.pairs: it makes pairs. -/
import Derived.Test.YtjddimoeodecgaaGreatXG07
import Derived.Test.YtjddimoeodecgaaGreatXG05
import Derived.Test.YtjddimoeodecgaaGreatXQx1
import Derived.Lib.Slices
import Derived.Test.YtjddimoeodecgaaGreatXG06
namespace Go.Proofs.YtjddimoeodecgaaGreat
open Go.RowKit Go.Lib Go.Sort Go.Proofs.YtjddimoeodecgaaGreatW.PrintWords Go.Proofs.YtjddimoeodecgaaGreatW.PrintLast Go.Proofs.YtjddimoeodecgaaGreatW.PrintMore
set_option linter.unusedVariables false
set_option maxRecDepth 100000

/-- m pairs of vertices of n + 1 lie where P points. -/
def PairsIn (n : Nat) (w : World) (P : Option Addr) (m : Nat) : Prop := m = 0 ∨ ∃ b, P = some ⟨b, 0, none⟩ ∧ b < w.heap.size ∧ PairsAt n w b m

theorem pEncs_get {n : Nat} : ∀ (pl : List (PR n)) (t : Nat), t < pl.length * 2 → (pl.flatMap pEnc)[t]? = some ((pEnc (pl.toArray[t / 2]!))[t % 2]!)
  | [], t, h => by simp at h
  | a :: r, 0, _ => by simp [pEnc]
  | a :: r, 1, _ => by simp [pEnc]
  | a :: r, t + 2, h => by
    have ih := pEncs_get r t (by simp at h; omega)
    have e1 : (t + 2) / 2 = t / 2 + 1 := by omega
    have e2 : (t + 2) % 2 = t % 2 := by omega
    rw [e1, e2, List.flatMap_cons, List.getElem?_append_right (by simp [pEnc]), show t + 2 - (pEnc a).length = t from rfl, ih]
    have hlt : t / 2 < r.length := by simp at h; omega
    congr 2
    simp [hlt]
theorem holdsK_of_pairs {n : Nat} {w : World} {g : Nat} {cur : Array Value} {e : TypeId} {pl : List (PR n)} (hb : w.heap[g]? = some (.cells cur e (0, 0))) (ht : cur.toList.take (pl.length * 2) = pl.flatMap pEnc) : HoldsK pEnc 2 w g 0 pl.toArray := by
  intro t h
  rw [size_flatK] at h
  have h' : t < pl.length * 2 := by simpa using h
  rw [get_flatK _ _ _ _ h]
  have h1 := pEncs_get pl t h'
  rw [← ht, List.getElem?_take, if_pos h'] at h1
  constructor
  · rw [Nat.zero_add, cell_of_row w g t cur e (0, 0) hb]
    rw [← Array.getElem?_toList, h1]
    rfl
  · simp [World.frozen?, hb]

theorem pairInfo : (Tryz.prog.info? 196).map (fun i => (i.zero, i.size, i.bytes)) = some (some (.agg #[.int .i64 0, .int .i64 0]), 2, 16) := by kernel_rfl

theorem Below.grown {B : Nat} {w0 w w' : World} {row : Option Nat} (h : Below B w0 w) (hg : w.grownBy w' row) (hrow : ∀ k, row = some k → B ≤ k) (hB : B ≤ w.heap.size) : Below B w0 w' :=
  ⟨hg.os.trans h.os, hg.tape.trans h.tape, hg.output.trans h.output, Nat.le_trans h.size hg.size, fun k hk => (hg.block k (by omega) (fun e => by have := hrow k e.symm; omega)).trans (h.block k hk)⟩

theorem compact_nil (w : World) : Calls Tryz.prog 168 #[.slice none 0 0] w fun e w' => e = .returned (.slice none 0 0) ∧ w = w' := by
  go_enter Tryz.func168, Tryz.ntmps168
  go_wp2_with fail
  go_ret
  exact ⟨rfl, rfl⟩
theorem clip_nil (w : World) : Calls Tryz.prog 167 #[.slice none 0 0] w fun e w' => e = .returned (.slice none 0 0) ∧ w = w' := by
  go_enter Tryz.func167, Tryz.ntmps167
  go_wp2_with fail
  go_ret
  exact ⟨rfl, rfl⟩

set_option maxHeartbeats 4000000 in
theorem pairs_any (n : Nat) (arcs : List Q.S95) (A : Option Addr) (c : Nat) (a0 : Int) (w : World) (hg : Q.GOk (n + 1) arcs) (hr : Kd.C Q.k95 w A arcs.length arcs) (hc : arcs.length ≤ c) :
    Calls Tryz.prog 143 #[.agg #[.int .i64 a0, .slice A arcs.length c]] w fun e w' => ∃ P m cp, e = .returned (.slice P m cp) ∧ m ≤ 8192 ∧ m ≤ cp ∧ PairsIn n w' P m ∧ Below w.heap.size w w' := by
  obtain ⟨i0, hi, hz0, hz1, hz2⟩ := info_parts pairInfo
  have hn2 := hg.n2
  have hm := hg.m
  have HG := Lib.hid hg
  have HR := Lib.hid hr
  have HC := Lib.hid hc
  clear hg hr hc
  go_enter Tryz.func143, Tryz.ntmps143
  go_wp2_with fail
  go_loopg [3, 9] arcs.length (fun gg s3 s9 wr => ∃ (i : Nat) (pl : List (PR n)), i ≤ arcs.length ∧ arcs.length - i ≤ gg ∧ s9 = .int .i64 i ∧ pl.length ≤ i ∧ Hid (wr.ownsRow w.heap.size 196 2 s3 pl.length (pl.flatMap pEnc)) ∧ Hid (Below w.heap.size w wr))
  case atStart => exact ⟨0, [], Nat.zero_le _, by omega, rfl, Nat.le_refl _, Lib.hid (World.ownsRow_nil _ _ _ _), Lib.hid ((Below.refl _ w).alloc (Nat.le_refl _) _)⟩
  case round =>
    obtain ⟨i, pl, hi1, hgg, rfl, hpl, HO, HB⟩ := hrel
    by_cases hlt : i < arcs.length
    · have hltz : (i : Int) < (arcs.length : Int) := by omega
      obtain ⟨ad, rfl, c0, c1, c2⟩ := arc_at (Kd.C_below HR.out HB.out) i hlt
      have hwk : IntKind.i64.wrap ((i : Int) + 1) = ((i + 1 : Nat) : Int) := by rw [IntWalk.i64_in _ (by omega)]; omega
      have ha : arcs.getD i Q.z95 ∈ arcs := by rw [List.getD_eq_getElem?_getD, List.getElem?_eq_getElem hlt]; exact List.getElem_mem hlt
      obtain ⟨⟨q0, q1⟩, ⟨q2, q3⟩⟩ := HG.out.ends _ ha
      generalize (arcs.getD i Q.z95).f2 = x2 at *
      generalize hx0 : (arcs.getD i Q.z95).f0 = x0 at *
      generalize hx1 : (arcs.getD i Q.z95).f1 = x1 at *
      clear hx0 hx1 ha
      obtain ⟨a, rfl⟩ : ∃ a : Nat, x0 = (a : Int) := ⟨x0.toNat, (Int.toNat_of_nonneg q0).symm⟩
      obtain ⟨b, rfl⟩ : ∃ b : Nat, x1 = (b : Int) := ⟨x1.toNat, (Int.toNat_of_nonneg q2).symm⟩
      have ha : a < n + 1 := by omega
      have hb : b < n + 1 := by omega
      clear q0 q1 q2 q3
      by_cases hxy : (a : Int) = (b : Int)
      · go_wp2_with fail
        have HWK := Lib.hid hwk
        clear hwk
        go_roundg (arcs.length - (i + 1))
        case measure => omega
        case rel => exact ⟨i + 1, pl, by omega, Nat.le_refl _, rfl, by omega, Lib.hid (HO.out.alloc _), Lib.hid (HB.out.alloc (HB.out.size) _)⟩
      · have hmin : min (a : Int) (b : Int) = ((min a b : Nat) : Int) := by omega
        have hmax : max (a : Int) (b : Int) = ((max a b : Nat) : Int) := by omega
        go_wp2_with (at_builtin; go_loud (refine wpList_append_own _ rfl _ _ 193 rfl w.heap.size 196 i0 _ 2 16 Tryz.underlying193 hi hz0 hz1 hz2 rfl (by decide) _ _ _ rfl ((HO.out.alloc _).alloc _) ⟨wr.heap.size + 1, 0, none⟩ 1 1 [.int .i64 ((min a b : Nat) : Int), .int .i64 ((max a b : Nat) : Int)] rfl rfl (World.news_of_block (heap_alloc2_new _ _ _)) (by intro u hu; simp at hu; rcases hu with rfl | rfl <;> rfl) (by unfold maxLen; omega) (by omega) (by have := HB.out.size; simp; omega) ?_; intro v' w3 hown' hg3 hnil3; go_frame))
        have HWK := Lib.hid hwk
        clear hwk
        go_roundg (arcs.length - (i + 1))
        case measure => omega
        case rel =>
          refine ⟨i + 1, pl ++ [(⟨min a b, by omega⟩, ⟨max a b, by omega⟩)], by omega, Nat.le_refl _, rfl, by simp; omega, Lib.hid ?_, Lib.hid ?_⟩
          · simpa [pEnc] using hown'
          · refine Below.grown ((HB.out.alloc HB.out.size _).alloc (by have := HB.out.size; simp; omega) _) hg3 (fun k hk => (HO.out.lt k hk).1) (by have := HB.out.size; simp; omega)
    · have : i = arcs.length := by omega
      subst this
      have hkz : ¬ (arcs.length : Int) < (arcs.length : Int) := by omega
      obtain ⟨hlen, ⟨rfl, hn0⟩ | ⟨g, cap, cur, rfl, hbase, hgb, h1, h2, h3, h4⟩⟩ := HO.out
      · go_wp2_with (first
          | (go_at_call 165; refine (Tryz.slices_SortFunc_none (α := PR n) none 0 _ _).mono ?_; rintro e w' ⟨rfl, rfl⟩)
          | (go_at_call 168; refine (compact_nil _).mono ?_; rintro e w' ⟨rfl, rfl⟩)
          | (go_at_call 167; refine (clip_nil _).mono ?_; rintro e w' ⟨rfl, rfl⟩))
        go_ret
        exact ⟨_, _, _, rfl, Nat.zero_le _, Nat.le_refl _, Or.inl rfl, HB.out⟩
      · have hglt : g < wr.heap.size := (Array.getElem?_eq_some_iff.1 hgb).1
        have hH : HoldsK pEnc 2 wr g 0 pl.toArray := holdsK_of_pairs hgb h4
        have hcapz : pl.length ≤ cap := h1
        have HS := Lib.hid (sort_pairs n (by omega) g cap pl.toArray wr hH hglt (by simp; omega))
        simp only [List.size_toArray] at HS
        have hsz0 := HB.out.size
        clear hlen hgb h1 h2 h3 h4 hH HO
        go_wp2_with (first
          | (go_at_call 165; refine HS.out.mono ?_; rintro e w1 ⟨rfl, d', hd', hH', ht1⟩; have hp1 := pairs_of hH'; rw [hd'] at hp1; have HP1 := Lib.hid hp1; have HT1 := Lib.hid ht1; clear hH' ht1 hp1)
          | (go_at_call 168; refine (compact_any n g pl.length cap _ HP1.out (by have := HT1.out.size; omega) (by omega) hcapz).mono ?_; rintro e w2 ⟨m', rfl, hm', hp2, ht2⟩; have HP2 := Lib.hid hp2; have HT2 := Lib.hid ht2; clear hp2 ht2)
          | (go_at_call 167; refine (clip_any g m' cap _ (by omega)).mono ?_; rintro e w3 ⟨rfl, rfl⟩))
        go_ret
        have ht := HT1.out.trans HT2.out
        refine ⟨_, m', _, rfl, by omega, Nat.le_refl _, Or.inr ⟨g, rfl, by have := ht.size; omega, HP2.out⟩, ?_⟩
        exact ⟨ht.os.trans HB.out.os, ht.tape.trans HB.out.tape, ht.output.trans HB.out.output, by have := ht.size; omega, fun k hk => (ht.block k (by omega) (by omega)).trans (HB.out.block k hk)⟩

end Go.Proofs.YtjddimoeodecgaaGreat

/- natcut.right in plain words. -/
namespace Go.Proofs.YtjddimoeodecgaaGreat.Q
open Go.RowKit Go.Proofs.YtjddimoeodecgaaGreatW.PrintWords Go.Proofs.YtjddimoeodecgaaGreatW.PrintLast
set_option linter.unusedVariables false
set_option maxRecDepth 100000

/-- Labels that are right, from a next one on. -/
def rightGo : Nat → List Int → Bool
  | _, [] => true
  | nx, l :: r => if l < 0 then false else if l > (nx : Int) then false else rightGo (if l = (nx : Int) then nx + 1 else nx) r
def rightP (N : Nat) (l : List Int) : Bool := rightGo 0 l && decide (l.length = N)

/-- What is said of labels. -/
def rightE (N : Nat) (l : List Int) : Int := if rightP N l = true then 0 else 80
theorem rightE_of {N : Nat} {l : List Int} (h : rightP N l = true) : rightE N l = 0 := by unfold rightE; rw [if_pos h]
theorem rightE_no {N : Nat} {l : List Int} (h : rightP N l = false) : rightE N l = 80 := by unfold rightE; rw [h]; rfl

theorem rightGo_in : ∀ (l : List Int) (nx : Nat), rightGo nx l = true → ∀ x ∈ l, 0 ≤ x ∧ x < (nx + l.length : Nat)
  | [], _, _, _, h => by cases h
  | a :: r, nx, h, x, hx => by
    unfold rightGo at h
    split at h
    · cases h
    split at h
    · cases h
    rename_i h1 h2
    have ih := rightGo_in r _ h
    rcases List.mem_cons.1 hx with rfl | hx
    · simp; omega
    · have := ih x hx
      simp
      split at this <;> omega
theorem rightP_in {N : Nat} {l : List Int} (h : rightP N l = true) : l.length = N ∧ ∀ x ∈ l, 0 ≤ x ∧ x < (N : Int) := by
  unfold rightP at h
  rw [Bool.and_eq_true, decide_eq_true_eq] at h
  refine ⟨h.2, fun x hx => ?_⟩
  have := rightGo_in l 0 h.1 x hx
  rw [← h.2]
  omega

theorem right_loop (N : Nat) (arcs : List S95) (l : List Int) (hl : l.length ≤ 9223372036854775807) (d : Nat) : ∀ (k i nx : Nat), i + d = l.length → nx ≤ i → 2 * d < k →
    natcut_right.l0 k l (nx : Int) l (l.length : Int) (i : Int) (N : Int) arcs = some (rightGo nx (l.drop i) && decide (l.length = N)) := by
  induction d with
  | zero =>
    intro k i nx hi hnx hk
    obtain ⟨k, rfl⟩ : ∃ m, k = m + 1 := ⟨k - 1, by omega⟩
    simp only [natcut_right.l0]
    rw [if_neg (by omega), List.drop_of_length_le (by omega)]
    simp only [rightGo, Bool.true_and]
    congr 1
    rw [Bool.eq_iff_iff]
    simp
    omega
  | succ d ih =>
    intro k i nx hi hnx hk
    obtain ⟨k, rfl⟩ : ∃ m, k = m + 2 := ⟨k - 2, by omega⟩
    have hlt : i < l.length := by omega
    have hr : rd l (i : Int) = l[i] := by unfold rd; simp [hlt]
    have hw : wrap64 ((i : Int) + 1) = ((i + 1 : Nat) : Int) := by unfold wrap64; omega
    have hw2 : wrap64 ((nx : Int) + 1) = ((nx + 1 : Nat) : Int) := by unfold wrap64; omega
    have hdrop : l.drop i = l[i] :: l.drop (i + 1) := List.drop_eq_getElem_cons hlt
    simp only [natcut_right.l0]
    rw [if_pos (by omega), if_pos (by omega), if_pos (by omega), hr, hdrop]
    by_cases h0 : l[i] < 0
    · rw [if_pos h0]
      simp only [natcut_right.j1]
      rw [if_pos trivial]
      simp [rightGo, h0]
    · rw [if_neg h0]
      simp only [natcut_right.j1]
      by_cases h1 : l[i] > (nx : Int)
      · rw [if_pos (by simpa using h1)]
        unfold rightGo
        rw [if_neg h0, if_pos h1]
        rfl
      · rw [if_neg (by simpa using h1), hw, hw2]
        unfold rightGo
        rw [if_neg h0, if_neg h1]
        by_cases h2 : l[i] = (nx : Int)
        · rw [if_pos h2, if_pos h2]
          exact ih k (i + 1) (nx + 1) (by omega) (by omega) (by omega)
        · rw [if_neg h2, if_neg h2]
          exact ih k (i + 1) nx (by omega) (by omega) (by omega)
theorem right_f (N : Nat) (arcs : List S95) (l : List Int) (hl : l.length ≤ 9223372036854775807) : natcut_right.f (2 * l.length + 1) (N : Int) arcs l = some (rightP N l) := by
  unfold natcut_right.f
  exact right_loop N arcs l hl l.length _ 0 0 (by omega) (by omega) (by omega)

end Go.Proofs.YtjddimoeodecgaaGreat.Q

/- How many of each label (plain). -/
namespace Go.Proofs.YtjddimoeodecgaaGreat.Q
open Go.RowKit Go.Proofs.YtjddimoeodecgaaGreatW.PrintWords Go.Proofs.YtjddimoeodecgaaGreatW.PrintLast
set_option linter.unusedVariables false
set_option maxRecDepth 100000

/-- How many labels. -/
def manyOf (l : List Int) : Nat := (Lib.maxOf l).toNat + 1
def countsTo (l : List Int) (i : Nat) : List Int := (List.range (manyOf l)).map (fun x : Nat => (((l.take i).count (x : Int) : Nat) : Int))
/-- How many of each label. -/
def countsOf (l : List Int) : List Int := countsTo l l.length
theorem countsTo_len (l : List Int) (i : Nat) : (countsTo l i).length = manyOf l := by simp [countsTo]
theorem countsTo_zero (l : List Int) : countsTo l 0 = List.replicate (manyOf l) 0 := by
  apply List.ext_getElem
  · simp [countsTo]
  · intro j h1 h2; simp [countsTo]
theorem countsTo_get (l : List Int) (i x : Nat) (hx : x < manyOf l) : (countsTo l i).getD x 0 = ((l.take i).count (x : Int) : Nat) := by
  simp [countsTo, hx]
theorem countsTo_step (l : List Int) (i x : Nat) (hi : i < l.length) (hx : l.getD i 0 = (x : Int)) (hm : x < manyOf l) : (countsTo l i).set x ((((l.take i).count (x : Int) : Nat) : Int) + 1) = countsTo l (i + 1) := by
  have he : l.take (i + 1) = l.take i ++ [(x : Int)] := by
    rw [List.take_add_one, ← hx, List.getD_eq_getElem?_getD, List.getElem?_eq_getElem hi]
    rfl
  apply List.ext_getElem
  · simp [countsTo]
  · intro j h1 h2
    rw [List.getElem_set]
    by_cases e : x = j
    · subst e
      rw [if_pos rfl]
      simp [countsTo, he]
    · rw [if_neg e]
      have : ¬ (x : Int) = (j : Int) := by omega
      simp [countsTo, he, this]

theorem foldl_max_ge : ∀ (l : List Int) (a : Int), a ≤ l.foldl max a ∧ ∀ x ∈ l, x ≤ l.foldl max a
  | [], a => ⟨Int.le_refl _, fun x hx => by cases hx⟩
  | b :: r, a => by
    have ih := foldl_max_ge r (max a b)
    refine ⟨?_, fun x hx => ?_⟩
    · have := ih.1; simp only [List.foldl_cons]; omega
    · rcases List.mem_cons.1 hx with rfl | hx
      · have := ih.1; simp only [List.foldl_cons]; omega
      · exact ih.2 x hx
theorem le_maxOf {l : List Int} {x : Int} (h : x ∈ l) : x ≤ Lib.maxOf l := (foldl_max_ge l _).2 x h
theorem maxOf_mem {l : List Int} (h : 0 < l.length) : Lib.maxOf l ∈ l := by
  have aux : ∀ (l : List Int) (a : Int), l.foldl max a = a ∨ l.foldl max a ∈ l := by
    intro l
    induction l with
    | nil => intro a; exact Or.inl rfl
    | cons b r ih =>
      intro a
      simp only [List.foldl_cons]
      rcases ih (max a b) with e | e
      · rw [e]
        by_cases hab : a ≤ b
        · right; rw [Int.max_eq_right hab]; simp
        · left; exact Int.max_eq_left (by omega)
      · right; exact List.mem_cons_of_mem _ e
  cases l with
  | nil => simp at h
  | cons b r =>
    rcases aux (b :: r) b with e | e
    · show List.foldl max b (b :: r) ∈ b :: r
      rw [e]; simp
    · exact e

/-- Labels that are right lie below the greatest one. -/
theorem lt_many {l : List Int} (h : ∀ x ∈ l, 0 ≤ x) {i : Nat} (hi : i < l.length) : ∃ x : Nat, l.getD i 0 = (x : Int) ∧ x < manyOf l := by
  have hm : l.getD i 0 ∈ l := by rw [List.getD_eq_getElem?_getD, List.getElem?_eq_getElem hi]; exact List.getElem_mem hi
  have h0 := h _ hm
  have h1 := le_maxOf hm
  refine ⟨(l.getD i 0).toNat, (Int.toNat_of_nonneg h0).symm, ?_⟩
  unfold manyOf
  omega

end Go.Proofs.YtjddimoeodecgaaGreat.Q

/- natcut.Count: what it answers is wrong with labels. -/
namespace Go.Proofs.YtjddimoeodecgaaGreat
open Go.RowKit Go.Lib Go.Sort Go.Proofs.YtjddimoeodecgaaGreatW.PrintWords Go.Proofs.YtjddimoeodecgaaGreatW.PrintLast Go.Proofs.YtjddimoeodecgaaGreatW.PrintMore
set_option linter.unusedVariables false
set_option maxRecDepth 100000

set_option maxHeartbeats 4000000 in
theorem count_any (N : Nat) (arcs : List Q.S95) (A : Option Addr) (c : Nat) (LA : Option Addr) (lc : Nat) (l : List Int) (w : World) (hg : Q.GOk N arcs) (hr : Kd.C Q.k95 w A arcs.length arcs) (hc : arcs.length ≤ c) (hl : Kd.C (Kd.int .i64) w LA l.length l) (hlc : l.length ≤ lc) :
    Calls Tryz.prog 107 #[.agg #[.int .i64 (N : Int), .slice A arcs.length c], .slice LA l.length lc] w fun e w' => ∃ x : Int, e = .returned (.tuple #[.int .i64 x, .int .i64 (Q.rightE N l)]) ∧ Below w.heap.size w w' := by
  have hmax := Kd.C_max hl
  have hn1 := hg.n1
  obtain ⟨n, hN⟩ : ∃ n, N = n + 1 := ⟨N - 1, by omega⟩
  have HCHK : Hid (∀ wx : World, Kd.C Q.k95 wx A arcs.length arcs → Calls Tryz.prog 55 #[.agg #[.int .i64 (N : Int), .slice A arcs.length c]] wx fun e w' => e = .returned (.tuple #[.int .i64 0, .int .i64 0]) ∧ Below wx.heap.size wx w') :=
    Lib.hid (fun wx h => Q.graph_Check.calls (arcs.length + 2) (N : Int) A c arcs 0 0 wx h hc (Q.check_f N arcs hg _ (Nat.le_refl _)))
  have HRGT : Hid (∀ wx : World, Kd.C Q.k95 wx A arcs.length arcs → Kd.C (Kd.int .i64) wx LA l.length l → Calls Tryz.prog 142 #[.agg #[.int .i64 (N : Int), .slice A arcs.length c], .slice LA l.length lc] wx fun e w' => e = .returned (.bool (Q.rightP N l)) ∧ Below wx.heap.size wx w') :=
    Lib.hid (fun wx h h2 => Q.natcut_right.calls (2 * l.length + 1) (N : Int) A c arcs LA lc l _ wx h hc h2 hlc (Q.right_f N arcs l hmax))
  have HPRS : Hid (∀ wx : World, Kd.C Q.k95 wx A arcs.length arcs → Calls Tryz.prog 143 #[.agg #[.int .i64 (N : Int), .slice A arcs.length c]] wx fun e w' => ∃ P m cp, e = .returned (.slice P m cp) ∧ m ≤ 8192 ∧ m ≤ cp ∧ PairsIn n w' P m ∧ Below wx.heap.size wx w') :=
    Lib.hid (fun wx h => pairs_any n arcs A c _ wx (hN ▸ hg) h hc)
  have HN2 := Lib.hid hg.n2
  have HR := Lib.hid hr
  have HL := Lib.hid hl
  have HNN := Lib.hid hN
  clear hg hr hc hl hlc hmax hN hn1
  go_enter Tryz.func107, Tryz.ntmps107
  go_upto_region 1 with fail
  have hb1 : Below w.heap.size w (w.alloc (.cells #[.int .i64 (N : Int), .slice A arcs.length c] 24)) := (Below.refl _ w).alloc (Nat.le_refl _) _
  have c0 : (w.alloc (.cells #[.int .i64 (N : Int), .slice A arcs.length c] 24)).cell? ⟨w.heap.size, 0, none⟩ = some (.int .i64 (N : Int)) := by simp
  have c1 : (w.alloc (.cells #[.int .i64 (N : Int), .slice A arcs.length c] 24)).cell? ⟨w.heap.size, 1, none⟩ = some (.slice A arcs.length c) := by simp
  have hs1 : w.heap.size + 1 ≤ (w.alloc (.cells #[.int .i64 (N : Int), .slice A arcs.length c] 24)).heap.size := by simp
  generalize (w.alloc (.cells #[.int .i64 (N : Int), .slice A arcs.length c] 24)) = w1 at *
  have HR1 := Lib.hid (Kd.C_below HR.out hb1)
  have HL1 := Lib.hid (Kd.C_below HL.out hb1)
  have HB1 := Lib.hid hb1
  generalize hgx : w.heap.size = gx at *
  have HGX := Lib.hid hgx
  clear hb1 hgx
  go_upto_region 4 with (with_reducible refine (HCHK.out _ HR1.out).mono ?_; rintro e w2 ⟨rfl, hb2⟩; have HB2 := Lib.hid hb2; clear hb2)
  have d0 := (HB2.out.cell (p := ⟨gx, 0, none⟩) (by show gx < w1.heap.size; omega)).trans c0
  have d1 := (HB2.out.cell (p := ⟨gx, 1, none⟩) (by show gx < w1.heap.size; omega)).trans c1
  have hs2 : gx + 1 ≤ w2.heap.size := by have := HB2.out.size; omega
  have HR2 := Lib.hid (Kd.C_below HR1.out HB2.out)
  have HL2 := Lib.hid (Kd.C_below HL1.out HB2.out)
  clear c0 c1 HCHK HR1 HL1
  have HB2T := Lib.hid (HB1.out.trans (HB2.out.mono (by omega)))
  have HRGT2 : Hid (Calls Tryz.prog 142 #[.agg #[.int .i64 (N : Int), .slice A arcs.length c], .slice LA l.length lc] w2 fun e w' => e = .returned (.bool (Q.rightP N l)) ∧ Below w2.heap.size w2 w') := Lib.hid (HRGT.out _ HR2.out HL2.out)
  clear HRGT HB1 HB2
  cases hrp : Q.rightP N l with
  | false =>
    rw [hrp] at HRGT2
    go_wp2_with (with_reducible refine HRGT2.out.mono ?_; rintro e w3 ⟨rfl, hb3⟩; have HB3 := Lib.hid hb3; clear hb3)
    go_ret2
    have hgx := HGX.out
    subst hgx
    exact ⟨0, by rw [Q.rightE_no hrp]; rfl, HB2T.out.trans (HB3.out.mono (by omega))⟩
  | true =>
    have HRIN := Lib.hid (Q.rightP_in hrp)
    rw [hrp] at HRGT2
    go_upto_region 7 with (go_at_call 142; go_loud (with_reducible refine HRGT2.out.mono ?_); rintro e w3 ⟨rfl, hb3⟩; have HB3 := Lib.hid hb3; clear hb3)
    have e0 := (HB3.out.cell (p := ⟨gx, 0, none⟩) (by show gx < w2.heap.size; omega)).trans d0
    have e1 := (HB3.out.cell (p := ⟨gx, 1, none⟩) (by show gx < w2.heap.size; omega)).trans d1
    have hs3 : gx + 1 ≤ w3.heap.size := by have := HB3.out.size; omega
    have HR3 := Lib.hid (Kd.C_below HR2.out HB3.out)
    have HL3 := Lib.hid (Kd.C_below HL2.out HB3.out)
    have HB3T := Lib.hid (HB2T.out.trans (HB3.out.mono (by omega)))
    clear d0 d1 HR2 HL2 HB3 HB2T HRGT2
    go_upto_region 8 with (with_reducible refine (HPRS.out _ HR3.out).mono ?_; rintro e w4 ⟨P, m, cp, rfl, hm1, hm2, hpi, hb4⟩; have HP := Lib.hid hpi; have HB4 := Lib.hid hb4; clear hpi hb4)
    have HL4 := Lib.hid (Kd.C_below HL3.out HB4.out)
    have HB4T := Lib.hid (HB3T.out.trans (HB4.out.mono (by omega)))
    have hs4 : gx + 1 ≤ w4.heap.size := by have := HB4.out.size; omega
    clear e0 e1 HL3 HB4 HB3T HPRS HR3
    go_loopg [8, 26] m (fun gg s8 s26 wr => ∃ (i : Nat) (x : Int), i ≤ m ∧ m - i ≤ gg ∧ s26 = .int .i64 i ∧ s8 = .int .i64 x ∧ Hid (Below w4.heap.size w4 wr))
    case atStart => exact ⟨0, 0, Nat.zero_le _, by omega, rfl, rfl, Lib.hid (Below.refl _ _)⟩
    case round =>
      obtain ⟨i, x, hi1, hgg, rfl, rfl, HB⟩ := hrel
      by_cases hlt : i < m
      · have hltz : (i : Int) < (m : Int) := by omega
        have hwk : IntKind.i64.wrap ((i : Int) + 1) = ((i + 1 : Nat) : Int) := by rw [IntWalk.i64_in _ (by omega)]; omega
        rcases HP.out with hm0 | ⟨b, rfl, hbl, hpa⟩
        · omega
        have hN := HNN.out
        have hln := HRIN.out.1
        have hlz : l.length < 2000 := by have := HN2.out; omega
        obtain ⟨u, v, hu, hv, x0, x1, -, -⟩ := (hpa.kept (HB.out.block b hbl)) i hlt
        obtain ⟨lad, rfl, y0⟩ := Q.int_cell (Kd.C_below HL4.out HB.out) u (by omega)
        obtain ⟨lad', hlad, y1⟩ := Q.int_cell (Kd.C_below HL4.out HB.out) v (by omega)
        cases hlad
        have huz : (u : Int) < (l.length : Int) := by omega
        have hvz : (v : Int) < (l.length : Int) := by omega
        clear hpa hbl hN hln
        go_upto_region 10 with fail
        have hb5 : Below w4.heap.size w4 (wr.alloc (.cells #[.int .i64 (u : Int), .int .i64 (v : Int)] 196)) := HB.out.alloc HB.out.size _
        have g0 : (wr.alloc (.cells #[.int .i64 (u : Int), .int .i64 (v : Int)] 196)).cell? ⟨wr.heap.size, 0, none⟩ = some (.int .i64 (u : Int)) := by simp
        have g1 : (wr.alloc (.cells #[.int .i64 (u : Int), .int .i64 (v : Int)] 196)).cell? ⟨wr.heap.size, 1, none⟩ = some (.int .i64 (v : Int)) := by simp
        have z0 : (wr.alloc (.cells #[.int .i64 (u : Int), .int .i64 (v : Int)] 196)).cell? (lad.add u) = some (.int .i64 (l.getD u 0)) := (World.cell?_of_block (w := wr) (heap_alloc_old wr _ (World.block_lt_of_cell? wr _ y0))).trans y0
        have z1 : (wr.alloc (.cells #[.int .i64 (u : Int), .int .i64 (v : Int)] 196)).cell? (lad.add v) = some (.int .i64 (l.getD v 0)) := (World.cell?_of_block (w := wr) (heap_alloc_old wr _ (World.block_lt_of_cell? wr _ y1))).trans y1
        generalize (wr.alloc (.cells #[.int .i64 (u : Int), .int .i64 (v : Int)] 196)) = wA at *
        generalize l.getD u 0 = lu at *
        generalize l.getD v 0 = lv at *
        clear x0 x1 y0 y1
        go_cut [40] (fun s40 wx => ∃ bb : Bool, s40 = .bool bb ∧ Hid (Below w4.heap.size w4 wx))
        case first =>
          have dg0 : wA.drew.cell? ⟨wr.heap.size, 0, none⟩ = some (.int .i64 (u : Int)) := g0
          have dg1 : wA.drew.cell? ⟨wr.heap.size, 1, none⟩ = some (.int .i64 (v : Int)) := g1
          have dz0 : wA.drew.cell? (lad.add u) = some (.int .i64 lu) := z0
          have dz1 : wA.drew.cell? (lad.add v) = some (.int .i64 lv) := z1
          go_region
          all_goals
            go_wp2_with fail
            go_meet
            exact ⟨_, rfl, Lib.hid hb5.drew⟩
        case rest =>
          obtain ⟨bb, rfl, HC⟩ := hcut
          clear g0 g1 z0 z1 hb5
          cases bb with
          | false =>
            go_wp2_with fail
            have HWK := Lib.hid hwk
            clear hwk
            go_roundg (m - (i + 1))
            case measure => omega
            case rel => exact ⟨i + 1, _, by omega, Nat.le_refl _, rfl, rfl, HC⟩
          | true =>
            go_wp2_with fail
            have HWK := Lib.hid hwk
            clear hwk
            go_roundg (m - (i + 1))
            case measure => omega
            case rel => exact ⟨i + 1, _, by omega, Nat.le_refl _, rfl, rfl, HC⟩
      · have : i = m := by omega
        subst this
        have hkz : ¬ (i : Int) < (i : Int) := by omega
        go_wp2_with fail
        go_ret2
        have hgx := HGX.out
        subst hgx
        exact ⟨⟨_, by rw [Q.rightE_of hrp]; rfl⟩, HB4T.out.trans (HB.out.mono (by omega))⟩

end Go.Proofs.YtjddimoeodecgaaGreat

/- split.sizes, split.looked, split.Sizes. -/
namespace Go.Proofs.YtjddimoeodecgaaGreat
open Go.RowKit Go.Lib Go.Sort Go.Proofs.YtjddimoeodecgaaGreatW.PrintWords Go.Proofs.YtjddimoeodecgaaGreatW.PrintLast Go.Proofs.YtjddimoeodecgaaGreatW.PrintMore
set_option linter.unusedVariables false
set_option maxRecDepth 100000

set_option maxHeartbeats 4000000 in
theorem sizes_any (LA : Option Addr) (lc : Nat) (l : List Int) (w : World) (hl : Kd.C (Kd.int .i64) w LA l.length l) (h0 : 0 < l.length) (hN : l.length ≤ 1024) (hin : ∀ x ∈ l, 0 ≤ x ∧ x < 1024) :
    Calls Tryz.prog 145 #[.slice LA l.length lc] w fun e w' => ∃ q, e = .returned (.slice (some ⟨q, 0, none⟩) (Q.manyOf l) (Q.manyOf l)) ∧ w.heap.size ≤ q ∧ w'.heap[q]? = some (.cells ((Q.countsOf l).map (Value.int .i64)).toArray 3 (0, 0)) ∧ Below w.heap.size w w' := by
  obtain ⟨ad, hA⟩ : ∃ ad, LA = some ad := by
    obtain ⟨ad, e, _⟩ := Q.int_cell hl 0 h0
    exact ⟨ad, e⟩
  subst hA
  obtain ⟨b, o, rfl, hcell⟩ := Q.row_spot hl h0
  have hmax := Kd.C_max hl
  have hmm := hin _ (Q.maxOf_mem h0)
  have hmany : Lib.maxOf l + 1 = (Q.manyOf l : Int) := by unfold Q.manyOf; omega
  have hmany2 : Q.manyOf l ≤ 1024 := by unfold Q.manyOf; omega
  have HM := Lib.hid (fun w' (hw : w' = w) => Tryz.slices_Max_int b o l.length lc l w' h0 (Nat.le_refl _) hmax (by rw [hw]; exact hcell))
  rw [List.take_length] at HM
  have hws : IntKind.i64.wrap (Lib.maxOf l + 1) = ((Q.manyOf l : Nat) : Int) := by rw [IntWalk.i64_in _ (by omega)]; omega
  have HNN := Lib.hid (fun x (hx : x ∈ l) => (hin x hx).1)
  have hmk := make_ints (Q.manyOf l) (by omega)
  have HC0 := Lib.hid hcell
  have HCZ := Lib.hid (Q.countsTo_zero l)
  have hlk : ∀ i, i < l.length → ∃ x : Nat, l.getD i 0 = (x : Int) ∧ x < Q.manyOf l := fun i hi => Q.lt_many HNN.out hi
  have HLK := Lib.hid hlk
  have HCG := Lib.hid (Q.countsTo_get l)
  have HCS := Lib.hid (Q.countsTo_step l)
  have HCL := Lib.hid (Q.countsTo_len l)
  clear hl hmax hmm hmany hin hcell hlk
  have HCO : Hid (Q.countsTo l l.length = Q.countsOf l) := Lib.hid rfl
  generalize Lib.maxOf l = mx at *
  generalize Q.manyOf l = ml at *
  go_enter Tryz.func145, Tryz.ntmps145
  go_upto_region 2 with (go_at_call 109; refine (HM.out _ rfl).mono ?_; rintro e w' ⟨rfl, hw⟩; have hw2 := hw.symm; subst hw2; clear hw)
  have hA1 : (w.alloc (.cells (Array.replicate ml (Value.int .i64 0)) 3)).heap[w.heap.size]? = some (.cells ((Q.countsTo l 0).map (Value.int .i64)).toArray 3 (0, 0)) := by
    rw [heap_alloc_new, HCZ.out]
    simp
  have hb1 : Below w.heap.size w (w.alloc (.cells (Array.replicate ml (Value.int .i64 0)) 3)) := (Below.refl _ w).alloc (Nat.le_refl _) _
  generalize (w.alloc (.cells (Array.replicate ml (Value.int .i64 0)) 3)) = w1 at *
  have HA1 := Lib.hid hA1
  have HB1 := Lib.hid hb1
  generalize hgx : w.heap.size = gx at *
  have HGX := Lib.hid hgx
  clear hA1 hb1 hgx hmk hws HM
  go_wp2_with fail
  go_loopg [12] l.length (fun gg s12 wr => ∃ i : Nat, i ≤ l.length ∧ l.length - i ≤ gg ∧ s12 = .int .i64 i ∧ Hid (wr.heap[gx]? = some (.cells ((Q.countsTo l i).map (Value.int .i64)).toArray 3 (0, 0))) ∧ Hid (Below gx w wr))
  case atStart => exact ⟨0, Nat.zero_le _, by omega, rfl, HA1, HB1⟩
  case round =>
    obtain ⟨i, hi1, hgg, rfl, HA, HB⟩ := hrel
    by_cases hlt : i < l.length
    · have hltz : (i : Int) < (l.length : Int) := by omega
      have hwk : IntKind.i64.wrap ((i : Int) + 1) = ((i + 1 : Nat) : Int) := by rw [IntWalk.i64_in _ (by omega)]; omega
      obtain ⟨x, hx, hxm⟩ := HLK.out i hlt
      have HX := Lib.hid hx
      have x0 : wr.cell? ⟨b, o + i, none⟩ = some (.int .i64 (x : Int)) := by
        have h := HC0.out i hlt
        rw [hx] at h
        have hbl := World.block_lt_of_cell? w _ h
        rw [HGX.out] at hbl
        exact (HB.out.cell (p := ⟨b, o + i, none⟩) hbl).trans h
      clear hx
      have hcg := HCG.out i x hxm
      have hcc : (l.take i).count (x : Int) ≤ l.length := Nat.le_trans (List.count_le_length) (by simp; omega)
      have x1 : wr.cell? ⟨gx, x, none⟩ = some (.int .i64 (((l.take i).count (x : Int) : Nat) : Int)) := by
        rw [cell_of_row wr gx x _ _ _ HA.out, ← hcg]
        simp [HCL.out i, hxm]
      have f1 : wr.frozen? ⟨gx, x, none⟩ = false := by simp [World.frozen?, HA.out]
      have HCS2 := Lib.hid (HCS.out i x hlt HX.out hxm)
      have hxz : (x : Int) < (ml : Int) := by omega
      clear hcg
      generalize (l.take i).count (x : Int) = cnt at *
      have hwc : IntKind.i64.wrap ((cnt : Int) + 1) = (cnt : Int) + 1 := by rw [IntWalk.i64_in _ (by omega)]
      go_wp2_with fail
      have HWK := Lib.hid hwk
      have HWC := Lib.hid hwc
      clear hwk hwc
      go_roundg (l.length - (i + 1))
      case measure => omega
      case rel =>
        refine ⟨i + 1, by omega, Nat.le_refl _, rfl, Lib.hid ?_, Lib.hid (HB.out.setCell (Nat.le_refl _) _)⟩
        rw [heap_setCell_same wr gx x _ _ _ HA.out, ← HCS2.out]
        simp [List.map_set]
    · have : i = l.length := by omega
      subst this
      have hkz : ¬ (l.length : Int) < (l.length : Int) := by omega
      go_wp2_with fail
      go_ret
      have hgx := HGX.out
      subst hgx
      exact ⟨_, rfl, Nat.le_refl _, by rw [HA.out, HCO.out], HB.out⟩

end Go.Proofs.YtjddimoeodecgaaGreat

/- split.looked, split.Sizes. -/
namespace Go.Proofs.YtjddimoeodecgaaGreat
open Go.RowKit Go.Lib Go.Sort Go.Proofs.YtjddimoeodecgaaGreatW.PrintWords Go.Proofs.YtjddimoeodecgaaGreatW.PrintLast Go.Proofs.YtjddimoeodecgaaGreatW.PrintMore
set_option linter.unusedVariables false
set_option maxRecDepth 100000

theorem below_box {w w' : World} {o : Obj} (h : Below (w.alloc o).heap.size (w.alloc o) w') : Below w.heap.size w w' := ((Below.refl w.heap.size w).alloc (Nat.le_refl _) _).trans (h.mono (by simp))

set_option maxHeartbeats 1000000 in
theorem splitLooked_any (N : Nat) (arcs : List Q.S95) (A : Option Addr) (c : Nat) (LA : Option Addr) (lc : Nat) (l : List Int) (w : World) (hg : Q.GOk N arcs) (hr : Kd.C Q.k95 w A arcs.length arcs) (hc : arcs.length ≤ c) (hl : Kd.C (Kd.int .i64) w LA l.length l) (hlc : l.length ≤ lc) :
    Calls Tryz.prog 144 #[.agg #[.int .i64 (N : Int), .slice A arcs.length c], .slice LA l.length lc, .int .i64 1] w fun e w' => e = .returned (.int .i64 (Q.rightE N l)) ∧ Below w.heap.size w w' := by
  have hb1 : Below w.heap.size w (w.alloc (.cells #[.int .i64 (N : Int), .slice A arcs.length c] 24)) := (Below.refl _ w).alloc (Nat.le_refl _) _
  have HCN := Lib.hid (count_any N arcs A c LA lc l (w.alloc (.cells #[.int .i64 (N : Int), .slice A arcs.length c] 24)) hg (Kd.C_below hr hb1) hc (Kd.C_below hl hb1) hlc)
  clear hg hr hc hl hlc hb1
  cases hrp : Q.rightP N l with
  | false =>
    rw [Q.rightE_no hrp] at *
    go_enter Tryz.func144, Tryz.ntmps144
    go_wp2_with (go_at_call 107; (with_reducible refine HCN.out.mono ?_); rintro e w' ⟨x, rfl, hb⟩; have HB := Lib.hid hb; clear hb)
    go_ret
    exact ⟨rfl, below_box HB.out⟩
  | true =>
    rw [Q.rightE_of hrp] at *
    go_enter Tryz.func144, Tryz.ntmps144
    go_wp2_with (go_at_call 107; (with_reducible refine HCN.out.mono ?_); rintro e w' ⟨x, rfl, hb⟩; have HB := Lib.hid hb; clear hb)
    go_ret
    exact ⟨rfl, below_box HB.out⟩

set_option maxHeartbeats 1000000 in
theorem splitSizes_no (N : Nat) (arcs : List Q.S95) (A : Option Addr) (c : Nat) (LA : Option Addr) (lc : Nat) (l : List Int) (w : World) (hg : Q.GOk N arcs) (hr : Kd.C Q.k95 w A arcs.length arcs) (hc : arcs.length ≤ c) (hl : Kd.C (Kd.int .i64) w LA l.length l) (hlc : l.length ≤ lc) (hrp : Q.rightP N l = true) :
    Calls Tryz.prog 108 #[.agg #[.int .i64 (N : Int), .slice A arcs.length c], .slice LA l.length lc] w fun e w' => ∃ q, e = .returned (.tuple #[.slice (some ⟨q, 0, none⟩) (Q.manyOf l) (Q.manyOf l), .int .i64 0]) ∧ w'.heap[q]? = some (.cells ((Q.countsOf l).map (Value.int .i64)).toArray 3 (0, 0)) ∧ Below w.heap.size w w' := by
  have hb1 : Below w.heap.size w (w.alloc (.cells #[.int .i64 (N : Int), .slice A arcs.length c] 24)) := (Below.refl _ w).alloc (Nat.le_refl _) _
  have HCN := Lib.hid (splitLooked_any N arcs A c LA lc l (w.alloc (.cells #[.int .i64 (N : Int), .slice A arcs.length c] 24)) hg (Kd.C_below hr hb1) hc (Kd.C_below hl hb1) hlc)
  rw [Q.rightE_of hrp] at HCN
  have hin := Q.rightP_in hrp
  have h1 := hg.n1
  have h2 := hg.n2
  have HSZ := Lib.hid (fun w' (hl' : Kd.C (Kd.int .i64) w' LA l.length l) => sizes_any LA lc l w' hl' (by omega) (by omega) (fun x hx => by have := hin.2 x hx; omega))
  have HL := Lib.hid (Kd.C_below hl hb1)
  clear hg hr hc hl hlc hb1 hin h1 h2
  go_enter Tryz.func108, Tryz.ntmps108
  go_wp2_with (first
    | (go_at_call 144; (with_reducible refine HCN.out.mono ?_); rintro e w1 ⟨rfl, hb⟩; have HB := Lib.hid hb; clear hb)
    | (go_at_call 145; (with_reducible refine (HSZ.out _ ?hh).mono ?_); (case hh => exact Kd.C_below HL.out HB.out); rintro e w2 ⟨q, rfl, hq, hrow, hb2⟩; have HQ := Lib.hid hq; have HROW := Lib.hid hrow; have HB2 := Lib.hid hb2; clear hq hrow hb2))
  go_ret2
  refine ⟨q, rfl, HROW.out, below_box (HB.out.trans (HB2.out.mono ?_))⟩
  have := HB.out.size
  omega

end Go.Proofs.YtjddimoeodecgaaGreat

/- What nest.first answers (plain). -/
namespace Go.Proofs.YtjddimoeodecgaaGreat.Q
open Go.RowKit Go.Proofs.YtjddimoeodecgaaGreatW.PrintWords Go.Proofs.YtjddimoeodecgaaGreatW.PrintLast
set_option linter.unusedVariables false
set_option maxRecDepth 100000

def gokB (N : Nat) (arcs : List S95) : Bool := decide (1 ≤ N) && decide (N ≤ 1024) && decide (arcs.length ≤ 8192) && arcs.all (fun a => decide ((0 ≤ a.f0 ∧ a.f0 < (N : Int)) ∧ (0 ≤ a.f1 ∧ a.f1 < (N : Int)) ∧ (0 ≤ a.f2 ∧ a.f2 < 4294967296)))
theorem gokB_iff (N : Nat) (arcs : List S95) : gokB N arcs = true ↔ GOk N arcs := by
  unfold gokB
  simp only [Bool.and_eq_true, decide_eq_true_eq, List.all_eq_true]
  constructor
  · rintro ⟨⟨⟨h1, h2⟩, h3⟩, h4⟩
    exact ⟨h1, h2, h3, fun a ha => ⟨(h4 a ha).1, (h4 a ha).2.1⟩, fun a ha => (h4 a ha).2.2⟩
  · intro h
    exact ⟨⟨⟨h.n1, h.n2⟩, h.m⟩, fun a ha => ⟨(h.ends a ha).1, (h.ends a ha).2, h.wt a ha⟩⟩

def nest_first.f (a0 : Int) (arcs : List S95) (cells : List Int) (bound : Int) : Option Int :=
  if 0 ≤ a0 ∧ gokB a0.toNat arcs = true then (if rightP a0.toNat cells = true then (if bound < Lib.maxOf (countsOf cells) then some 90 else some 0) else some 80) else none

/-- Fields that fit. -/
def ArcsFit (arcs : List S95) : Prop := ∀ a ∈ arcs, (-9223372036854775808 ≤ a.f0 ∧ a.f0 < 9223372036854775808) ∧ (-9223372036854775808 ≤ a.f1 ∧ a.f1 < 9223372036854775808) ∧ (0 ≤ a.f2 ∧ a.f2 < 4294967296)

theorem u64_ge (x N : Int) (hx : -9223372036854775808 ≤ x ∧ x < 9223372036854775808) (hN : 0 ≤ N ∧ N ≤ 1024) (h : ¬ IntKind.u64.wrap x ≥ IntKind.u64.wrap N) : 0 ≤ x ∧ x < N := by
  have w2 : IntKind.u64.wrap N = N := IntWalk.u64_in _ (by omega)
  rw [w2] at h
  by_cases h0 : 0 ≤ x
  · rw [IntWalk.u64_in _ (by omega)] at h
    omega
  · exfalso
    apply h
    have e : IntKind.u64.wrap x = x + 18446744073709551616 := by
      unfold IntKind.wrap
      simp [IntKind.bits, IntKind.signed]
      omega
    omega

theorem check_tot_loop (N : Int) (hN : 0 ≤ N ∧ N ≤ 1024) (arcs : List S95) (hf : ArcsFit arcs) (hm : arcs.length ≤ 8192) (d : Nat) : ∀ (k n : Nat), n + d = arcs.length → d < k →
    ∃ x e, graph_Check.l0 k arcs (arcs.length : Int) (n : Int) N arcs = some (x, e) ∧ (e = 0 → ∀ a ∈ arcs.drop n, (0 ≤ a.f0 ∧ a.f0 < N) ∧ (0 ≤ a.f1 ∧ a.f1 < N)) := by
  induction d with
  | zero =>
    intro k n hn hk
    obtain ⟨k, rfl⟩ : ∃ m, k = m + 1 := ⟨k - 1, by omega⟩
    simp only [graph_Check.l0]
    rw [if_neg (by omega)]
    exact ⟨0, 0, rfl, fun _ a ha => by rw [List.drop_of_length_le (by omega)] at ha; cases ha⟩
  | succ d ih =>
    intro k n hn hk
    obtain ⟨k, rfl⟩ : ∃ m, k = m + 1 := ⟨k - 1, by omega⟩
    have hlt : n < arcs.length := by omega
    have hr : rd_T95 arcs (n : Int) = arcs[n] := by unfold rd_T95; simp [hlt]
    have ha : arcs[n] ∈ arcs := List.getElem_mem hlt
    obtain ⟨p0, p1, p2⟩ := hf _ ha
    have hw : wrap64 ((n : Int) + 1) = ((n + 1 : Nat) : Int) := by unfold wrap64; omega
    simp only [graph_Check.l0]
    rw [if_pos (by omega), if_pos (by omega), if_pos (by omega), hr, hw]
    by_cases h1 : IntKind.u64.wrap (arcs[n]).f0 ≥ IntKind.u64.wrap N
    · rw [if_pos h1]
      exact ⟨_, _, rfl, fun h => by omega⟩
    · rw [if_neg h1]
      by_cases h2 : IntKind.u64.wrap (arcs[n]).f1 ≥ IntKind.u64.wrap N
      · rw [if_pos h2]
        exact ⟨_, _, rfl, fun h => by omega⟩
      · rw [if_neg h2]
        obtain ⟨x, e, he, hz⟩ := ih k (n + 1) (by omega) (by omega)
        refine ⟨x, e, he, fun h0 a ha => ?_⟩
        rw [List.drop_eq_getElem_cons hlt] at ha
        rcases List.mem_cons.1 ha with rfl | ha
        · exact ⟨u64_ge _ _ p0 hN h1, u64_ge _ _ p1 hN h2⟩
        · exact hz h0 a ha
/-- graph.Check always answers; it answers 0 of graphs that may be alone. -/
theorem check_tot (N : Int) (arcs : List S95) (hf : ArcsFit arcs) : ∃ x e, graph_Check.f (arcs.length + 3) N arcs = some (x, e) ∧ (e = 0 → 1 ≤ N ∧ GOk N.toNat arcs) := by
  unfold graph_Check.f
  by_cases h1 : N < 1
  · rw [if_pos h1]
    simp only [graph_Check.j0]
    exact ⟨_, _, rfl, fun h => by omega⟩
  · rw [if_neg h1]
    by_cases h2 : N > 1024
    · rw [decide_eq_true h2]
      simp only [graph_Check.j0]
      exact ⟨_, _, rfl, fun h => by omega⟩
    · rw [decide_eq_false h2]
      simp only [graph_Check.j0]
      rw [if_neg (by simp)]
      by_cases h3 : (arcs.length : Int) > 8192
      · rw [if_pos h3]
        exact ⟨_, _, rfl, fun h => by omega⟩
      · rw [if_neg h3]
        obtain ⟨x, e, he, hz⟩ := check_tot_loop N (by omega) arcs hf (by omega) arcs.length (arcs.length + 2) 0 (by omega) (by omega)
        refine ⟨x, e, he, fun h0 => ⟨by omega, ⟨by omega, by omega, by omega, fun a ha => ?_, fun a ha => (hf a ha).2.2⟩⟩⟩
        have := hz h0 a (by simpa using ha)
        omega

end Go.Proofs.YtjddimoeodecgaaGreat.Q

/- nest.first, in the print's form. -/
namespace Go.Proofs.YtjddimoeodecgaaGreat.Q
open Go.RowKit Go.Lib Go.Sort Go.Proofs.YtjddimoeodecgaaGreat Go.Proofs.YtjddimoeodecgaaGreatW.PrintWords Go.Proofs.YtjddimoeodecgaaGreatW.PrintLast
set_option linter.unusedVariables false
set_option maxRecDepth 100000

theorem countsOf_len (l : List Int) : (countsOf l).length = manyOf l := countsTo_len l _

set_option maxHeartbeats 1000000 in
theorem first_any (N : Nat) (arcs : List S95) (A : Option Addr) (c : Nat) (LA : Option Addr) (lc : Nat) (l : List Int) (bound : Int) (w : World) (hg : GOk N arcs) (hr : Kd.C k95 w A arcs.length arcs) (hc : arcs.length ≤ c) (hl : Kd.C (Kd.int .i64) w LA l.length l) (hlc : l.length ≤ lc) :
    Calls Tryz.prog 70 #[.agg #[.int .i64 (N : Int), .slice A arcs.length c], .slice LA l.length lc, .int .i64 bound] w fun e w' => ∃ r, nest_first.f (N : Int) arcs l bound = some r ∧ e = .returned (.int .i64 r) ∧ Below w.heap.size w w' := by
  have hf : nest_first.f (N : Int) arcs l bound = (if rightP N l = true then (if bound < Lib.maxOf (countsOf l) then some 90 else some 0) else some 80) := by
    unfold nest_first.f
    rw [if_pos ⟨by omega, by rw [Int.toNat_natCast]; exact (gokB_iff N arcs).2 hg⟩, Int.toNat_natCast]
  have hb1 : Below w.heap.size w (w.alloc (.cells #[.int .i64 (N : Int), .slice A arcs.length c] 24)) := (Below.refl _ w).alloc (Nat.le_refl _) _
  have HCN := Lib.hid (count_any N arcs A c LA lc l (w.alloc (.cells #[.int .i64 (N : Int), .slice A arcs.length c] 24)) hg (Kd.C_below hr hb1) hc (Kd.C_below hl hb1) hlc)
  have HSZ : Hid (rightP N l = true → ∀ w', Kd.C k95 w' A arcs.length arcs → Kd.C (Kd.int .i64) w' LA l.length l → Calls Tryz.prog 108 #[.agg #[.int .i64 (N : Int), .slice A arcs.length c], .slice LA l.length lc] w' fun e w2 => ∃ q, e = .returned (.tuple #[.slice (some ⟨q, 0, none⟩) (manyOf l) (manyOf l), .int .i64 0]) ∧ w2.heap[q]? = some (.cells ((countsOf l).map (Value.int .i64)).toArray 3 (0, 0)) ∧ Below w'.heap.size w' w2) :=
    Lib.hid (fun hrp w' h1 h2 => splitSizes_no N arcs A c LA lc l w' hg h1 hc h2 hlc hrp)
  have hml : manyOf l ≤ 9223372036854775807 ∨ rightP N l = false := by
    cases hrp : rightP N l with
    | false => exact Or.inr rfl
    | true =>
      left
      have hin := rightP_in hrp
      have h1 := hg.n1
      have h2 := hg.n2
      have := hin.2 _ (maxOf_mem (l := l) (by omega))
      unfold manyOf
      omega
  have HR := Lib.hid (Kd.C_below hr hb1)
  have HL := Lib.hid (Kd.C_below hl hb1)
  have HF := Lib.hid hf
  have HB1 := Lib.hid hb1
  have c0 : (w.alloc (.cells #[.int .i64 (N : Int), .slice A arcs.length c] 24)).cell? ⟨w.heap.size, 0, none⟩ = some (.int .i64 (N : Int)) := by simp
  have c1 : (w.alloc (.cells #[.int .i64 (N : Int), .slice A arcs.length c] 24)).cell? ⟨w.heap.size, 1, none⟩ = some (.slice A arcs.length c) := by simp
  have hsz : w.heap.size < (w.alloc (.cells #[.int .i64 (N : Int), .slice A arcs.length c] 24)).heap.size := by simp
  clear hg hr hc hl hlc hf hb1
  go_enter Tryz.func70, Tryz.ntmps70
  go_upto_region 1 with fail
  generalize (w.alloc (.cells #[.int .i64 (N : Int), .slice A arcs.length c] 24)) = w1 at *
  generalize hgx : w.heap.size = gx at *
  have HGX := Lib.hid hgx
  clear hgx
  cases hrp : rightP N l with
  | false =>
    rw [rightE_no hrp] at HCN
    rw [hrp] at HF
    go_wp2_with (go_at_call 107; (with_reducible refine HCN.out.mono ?_); rintro e w2 ⟨x, rfl, hb⟩; have HB := Lib.hid hb; clear hb)
    go_ret
    have hgx := HGX.out
    subst hgx
    exact ⟨80, by rw [HF.out]; rfl, rfl, HB1.out.trans (HB.out.mono (by omega))⟩
  | true =>
    rw [rightE_of hrp] at HCN
    rw [hrp, if_pos rfl] at HF
    have HSZ2 := Lib.hid (HSZ.out hrp)
    have hml2 : manyOf l ≤ 9223372036854775807 := by
      rcases hml with h | h
      · exact h
      · rw [hrp] at h; cases h
    have hm0 : 0 < manyOf l := by unfold manyOf; omega
    have hcl := countsOf_len l
    have HMX : Hid (∀ (q : Nat) (wx : World), wx.heap[q]? = some (.cells ((countsOf l).map (Value.int .i64)).toArray 3 (0, 0)) → Calls Tryz.prog 109 #[.slice (some ⟨q, 0, none⟩) (manyOf l) (manyOf l)] wx fun e w' => e = .returned (.int .i64 (Lib.maxOf (countsOf l))) ∧ w' = wx) := Lib.hid (fun q wx hq => by
      have h := Tryz.slices_Max_int q 0 (manyOf l) (manyOf l) (countsOf l) wx hm0 (by omega) hml2 (fun j hj => by
        rw [Nat.zero_add, cell_of_row wx q j _ _ _ hq]
        simp [hj])
      rw [← hcl, List.take_length, hcl] at h
      exact h)
    clear HSZ hml hml2 hm0 hcl
    go_upto_region 4 with (go_at_call 107; (with_reducible refine HCN.out.mono ?_); rintro e w2 ⟨x, rfl, hb⟩; have HB := Lib.hid hb; clear hb)
    have d0 := (HB.out.cell (p := ⟨gx, 0, none⟩) hsz).trans c0
    have d1 := (HB.out.cell (p := ⟨gx, 1, none⟩) hsz).trans c1
    have HSZ3 := Lib.hid (HSZ2.out w2 (Kd.C_below HR.out HB.out) (Kd.C_below HL.out HB.out))
    clear c0 c1 HSZ2 HCN
    go_upto_region 7 with (go_at_call 108; (with_reducible refine HSZ3.out.mono ?_); rintro e w3 ⟨q, rfl, hrow, hb2⟩; have HMX2 := Lib.hid (HMX.out q _ hrow); have HB2 := Lib.hid hb2; clear hrow hb2)
    have HBT := Lib.hid ((HB1.out.trans (HB.out.mono (by omega))).trans (HB2.out.mono (by have := HB.out.size; omega)))
    clear d0 d1 HMX HSZ3 HB HB2 HB1
    by_cases hbig : bound < Lib.maxOf (countsOf l)
    · rw [if_pos hbig] at HF
      generalize Lib.maxOf (countsOf l) = mx at *
      go_wp2_with (go_at_call 109; (with_reducible refine HMX2.out.mono ?_); rintro e w4 ⟨rfl, hw⟩; have hw2 := hw.symm; subst hw2; clear hw)
      go_ret
      have hgx := HGX.out
      subst hgx
      exact ⟨90, HF.out, rfl, HBT.out⟩
    · rw [if_neg hbig] at HF
      generalize Lib.maxOf (countsOf l) = mx at *
      go_wp2_with (go_at_call 109; (with_reducible refine HMX2.out.mono ?_); rintro e w4 ⟨rfl, hw⟩; have hw2 := hw.symm; subst hw2; clear hw)
      go_ret
      have hgx := HGX.out
      subst hgx
      exact ⟨0, HF.out, rfl, HBT.out⟩

end Go.Proofs.YtjddimoeodecgaaGreat.Q
