/- A search goes on until nothing is left: near.all. -/
import Derived.Test.YtjddimoeodecgaaGreatXG05
import Derived.Test.YtjddimoeodecgaaGreatXG04
import Derived.Test.YtjddimoeodecgaaGreatXQx1
import Derived.BigRegion
namespace Go.Proofs.YtjddimoeodecgaaGreat
open Go.RowKit Go.Lib Go.Proofs.YtjddimoeodecgaaGreatW.PrintWords Go.Proofs.YtjddimoeodecgaaGreatW.PrintLast Go.Proofs.YtjddimoeodecgaaGreatW.PrintMore
set_option linter.unusedVariables false
set_option maxRecDepth 100000

theorem next_none {B K X db yb hp T ab N : Nat} {A : Option Addr} {m c : Nat} {back : Bool} {OA : Option Addr} {oc : Nat} {L : List (List Int)} {v : Value} {ds : List Nat} {ys : List Int} (f : Value) (w : World)
    (h : IsSearch B K X db yb hp T ab N A m c back OA oc L w v ds ys []) :
    Calls Tryz.prog 106 #[.pointer (some ⟨X, 0, none⟩), f] w fun e w' => e = .returned (.tuple #[.int .i64 0, .int .u64 0, .bool false]) ∧ w = w' := by
  have HPOP := Lib.hid (hpop_none K hp T ab N v w h.heap)
  have y6 := h.x6
  clear h
  go_enter Tryz.func106, Tryz.ntmps106
  go_wp2_with (with_reducible refine HPOP.out.mono ?_; rintro e w1 ⟨rfl, rfl⟩)
  go_ret3
  exact ⟨rfl, rfl⟩

/-- A search's turns, up to its end. -/
inductive Runs (back : Bool) (arcs : List Q.S95) (may : Nat → Bool) (L : List (List Int)) : Nat → Se → Se → Prop
  | done (st : Se) (h : st.l = []) : Runs back arcs may L 0 st st
  | turn (n : Nat) (st fin : Se) (h : 0 < st.l.length) (r : Runs back arcs may L n (nextS back arcs may L st) fin) : Runs back arcs may L (n + 1) st fin

set_option maxHeartbeats 2000000 in
theorem all_any {B K X db yb hp T ab N : Nat} {A : Option Addr} {arcs : List Q.S95} {c : Nat} {back : Bool} {OA : Option Addr} {oc : Nat} {L : List (List Int)} {v : Value} {st : Se} (n : Nat) (fin : Se) (F : Nat) (caps : Array Value) (may : Nat → Bool) (w0 w : World)
    (h : IsSearch B K X db yb hp T ab N A arcs.length c back OA oc L w v st.d st.y st.l) (hr : Kd.C Q.k95 w0 A arcs.length arcs) (hw : Below w0.heap.size w0 w) (hBw : w0.heap.size ≤ B) (hg : Q.GOk N arcs) (hO : Q.OutsAt back N arcs arcs.length L) (hok : SeOk N st)
    (hrun : ∀ (args : Array Value) (w : World), (callFunc F args).run Tryz.prog w = .ok (.enter F args) w)
    (hmay : ∀ (wx : World) (i : Nat), i < arcs.length → Below w0.heap.size w0 wx → Calls Tryz.prog F (#[.int .i64 i] ++ caps) wx fun e w' => e = .returned (.bool (may i)) ∧ Below wx.heap.size wx w')
    (hruns : Runs back arcs may L n st fin) :
    Calls Tryz.prog 66 #[.pointer (some ⟨X, 0, none⟩), .func (.func F) #[] caps] w fun e w' => e = .returned (.slice (some ⟨db, 0, none⟩) N N) ∧ ∃ v', IsSearch B K X db yb hp T ab N A arcs.length c back OA oc L w' v' fin.d fin.y fin.l ∧ SeOk N fin ∧ Below w0.heap.size w0 w' := by
  have H := Lib.hid h
  have HR := Lib.hid hr
  have HW := Lib.hid hw
  have HG := Lib.hid hg
  have HO := Lib.hid hO
  have HOK := Lib.hid hok
  have HRUN := Lib.hid hrun
  have HMAY := Lib.hid hmay
  have HRS := Lib.hid hruns
  clear h hr hw hg hO hok hrun hmay hruns
  go_enter Tryz.func66, Tryz.ntmps66
  go_wp2_with fail
  go_loopg [5] (n + 2) (fun gg s5 wr => ∃ (s : Se) (vv : Value) (bb : Bool), s5 = .bool bb ∧ Hid (IsSearch B K X db yb hp T ab N A arcs.length c back OA oc L wr vv s.d s.y s.l) ∧ Hid (SeOk N s) ∧ Hid (Below w0.heap.size w0 wr) ∧ Hid ((bb = true ∧ ∃ k, k + 1 ≤ gg ∧ Runs back arcs may L k s fin) ∨ (bb = false ∧ s = fin)))
  case atStart => exact ⟨st, v, true, rfl, H, HOK, HW, Lib.hid (Or.inl ⟨rfl, n, by omega, HRS.out⟩)⟩
  case round =>
    obtain ⟨s, vv, bb, rfl, HS, HSO, HB, HC⟩ := hrel
    cases bb with
    | true =>
      obtain ⟨_, k, hk, hrs⟩ | ⟨h0, _⟩ := HC.out
      · cases hrs with
        | done _ hl0 =>
          have hs1 : IsSearch B K X db yb hp T ab N A arcs.length c back OA oc L wr vv fin.d fin.y [] := by rw [← hl0]; exact HS.out
          have HN := Lib.hid (next_none (.func (.func F) #[] caps) wr hs1)
          have HL0 := Lib.hid hl0
          clear hs1 hl0 HC
          go_wp2_with (with_reducible refine HN.out.mono ?_; rintro e w1 ⟨rfl, rfl⟩)
          go_roundg 0
          case measure => omega
          case rel => exact ⟨fin, vv, false, rfl, HS, HSO, HB, Lib.hid (Or.inr ⟨rfl, rfl⟩)⟩
        | turn k s fin hl0 hrs =>
          have HN := Lib.hid (next_any (ds := s.d) (ys := s.y) (l := s.l) F caps may w0 wr HS.out HR.out HB.out hBw HG.out HO.out HSO.out hl0 HRUN.out HMAY.out)
          have HRS2 := Lib.hid hrs
          clear hrs HC
          go_wp2_with (with_reducible refine HN.out.mono ?_; rintro e w1 ⟨rfl, v1, hs1, ho1, hb1⟩; have HS1 := Lib.hid hs1; have HO1 := Lib.hid ho1; have HB1 := Lib.hid hb1; clear hs1 ho1 hb1)
          go_roundg (k + 1)
          case measure => omega
          case rel => exact ⟨_, v1, true, rfl, HS1, HO1, HB1, Lib.hid (Or.inl ⟨rfl, k, by omega, HRS2.out⟩)⟩
      · exact absurd h0 (by simp)
    | false =>
      obtain ⟨h0, _⟩ | ⟨_, hs⟩ := HC.out
      · exact absurd h0 (by simp)
      · subst hs
        have x4 := HS.out.x4
        clear HC
        go_wp2_with fail
        go_ret
        exact ⟨rfl, ⟨vv, HS.out⟩, HSO.out, HB.out⟩

end Go.Proofs.YtjddimoeodecgaaGreat

/- What a search finds, as plain data. -/
namespace Go.Proofs.YtjddimoeodecgaaGreat
set_option linter.unusedVariables false
set_option maxRecDepth 100000

/-- Number x is the length of a walk from s to u over arcs that may be gone. -/
inductive Rch (back : Bool) (arcs : List Q.S95) (may : Nat → Bool) (s : Nat) : Nat → Nat → Prop
  | start : Rch back arcs may s s 0
  | arc (x i : Nat) (hi : i < arcs.length) (hm : may i = true) (h : Rch back arcs may s (Q.hd back (arcs.getD i Q.z95)) x) : Rch back arcs may s (Q.tl back (arcs.getD i Q.z95)) (addD x (arcs.getD i Q.z95).f2.toNat)

/-- What a search leaves of a state; ex: arcs not yet looked at. -/
structure Inv (back : Bool) (N : Nat) (arcs : List Q.S95) (may : Nat → Bool) (s : Nat) (ex : Nat → Prop) (st : Se) : Prop where
  ok : SeOk N st
  zero : st.d.getD s 0 = 0
  rch : ∀ u, u < N → st.d.getD u 0 = infN ∨ Rch back arcs may s u (st.d.getD u 0)
  rel : ∀ i, i < arcs.length → may i = true → ¬ ex i → (∃ e ∈ st.l, e.1 = Q.hd back (arcs.getD i Q.z95)) ∨ st.d.getD (Q.tl back (arcs.getD i Q.z95)) 0 ≤ addD (st.d.getD (Q.hd back (arcs.getD i Q.z95)) 0) (arcs.getD i Q.z95).f2.toNat

theorem addD_mono {a b : Nat} (w : Nat) (h : a ≤ b) : addD a w ≤ addD b w := by unfold addD; split <;> split <;> omega
theorem addD_ge (a w : Nat) (h : a < 18446744073709551616) : a ≤ addD a w := by unfold addD; split <;> omega

theorem set_sum : ∀ (l : List Nat) (u n : Nat), u < l.length → (l.set u n).sum + l.getD u 0 = l.sum + n
  | [], u, n, h => absurd h (by simp)
  | a :: l, 0, n, h => by simp; omega
  | a :: l, u + 1, n, h => by
    have := set_sum l u n (by simpa using h)
    simp at this ⊢
    omega

theorem set_getD (l : List Nat) (u n x : Nat) (hu : u < l.length) : (l.set u n).getD x 0 = if x = u then n else l.getD x 0 := by
  by_cases e : x = u
  · subst e
    rw [if_pos rfl, List.getD_eq_getElem?_getD, List.getElem?_set_self hu]
    rfl
  · rw [if_neg e, List.getD_eq_getElem?_getD, List.getElem?_set_ne (fun z => e z.symm), ← List.getD_eq_getElem?_getD]

section
variable {back : Bool} {N : Nat} {arcs : List Q.S95} {may : Nat → Bool} {s : Nat}
theorem relax_inv (hg : Q.GOk N arcs) {ex : Nat → Prop} {st : Se} (h : Inv back N arcs may s ex st) (j : Nat) (hj : j < arcs.length) (v0 d0 : Nat) (hv : Q.hd back (arcs.getD j Q.z95) = v0) (hd0 : st.d.getD v0 0 = d0) (hvN : v0 < N) :
    Inv back N arcs may s (fun i => ex i ∧ i ≠ j) (relaxS back arcs may d0 st (j : Int)) ∧ (relaxS back arcs may d0 st (j : Int)).d.getD v0 0 = d0 := by
  have hok' := relax_ok (back := back) hg may d0 h.ok (j : Int) (by rw [Int.toNat_natCast]; exact hj)
  have hmem : arcs.getD j Q.z95 ∈ arcs := by rw [List.getD_eq_getElem?_getD, List.getElem?_eq_getElem hj]; exact List.getElem_mem hj
  have hu := hg.tl back hmem
  have hdl : d0 < 18446744073709551616 := by rw [← hd0]; exact h.ok.lt v0
  have hge := addD_ge d0 (arcs.getD j Q.z95).f2.toNat hdl
  have hp := lowF_perm st.l (Q.tl back (arcs.getD j Q.z95)) (addD d0 (arcs.getD j Q.z95).f2.toNat) h.ok.ids
  unfold relaxS at hok' ⊢
  simp only [Int.toNat_natCast] at hok' ⊢
  by_cases hc : addD d0 (arcs.getD j Q.z95).f2.toNat < st.d.getD (Q.tl back (arcs.getD j Q.z95)) 0 ∧ may j = true
  · rw [if_pos hc] at hok' ⊢
    obtain ⟨hlt, hm⟩ := hc
    have hul : Q.tl back (arcs.getD j Q.z95) < st.d.length := by rw [h.ok.dlen]; exact hu
    have hset := fun x => set_getD st.d (Q.tl back (arcs.getD j Q.z95)) (addD d0 (arcs.getD j Q.z95).f2.toNat) x hul
    have hne : v0 ≠ Q.tl back (arcs.getD j Q.z95) := fun e => by rw [← e, hd0] at hlt; omega
    have hv0 : (st.d.set (Q.tl back (arcs.getD j Q.z95)) (addD d0 (arcs.getD j Q.z95).f2.toNat)).getD v0 0 = d0 := by rw [hset, if_neg hne]; exact hd0
    refine ⟨⟨hok', ?_, fun x hx => ?_, fun i hi hmi hx => ?_⟩, hv0⟩
    · show (st.d.set _ _).getD s 0 = 0
      rw [hset]
      split
      · rename_i e
        rw [← e, h.zero] at hlt
        omega
      · exact h.zero
    · show (st.d.set _ _).getD x 0 = infN ∨ Rch back arcs may s x ((st.d.set _ _).getD x 0)
      rw [hset]
      split
      · rename_i e
        subst e
        rcases h.rch v0 hvN with h1 | h1
        · rw [hd0] at h1
          have := h.ok.lt (Q.tl back (arcs.getD j Q.z95))
          unfold infN at h1
          omega
        · rw [hd0, ← hv] at h1
          exact Or.inr (Rch.arc d0 j hj hm h1)
      · exact h.rch x hx
    · show (∃ e ∈ lowF st.l _ _, e.1 = _) ∨ (st.d.set _ _).getD _ 0 ≤ addD ((st.d.set _ _).getD _ 0) _
      have hin : ∀ x, (∃ e ∈ st.l, e.1 = x) → ∃ e ∈ lowF st.l (Q.tl back (arcs.getD j Q.z95)) (addD d0 (arcs.getD j Q.z95).f2.toNat), e.1 = x := by
        rintro x ⟨e, he, rfl⟩
        by_cases e1 : e.1 = Q.tl back (arcs.getD j Q.z95)
        · exact ⟨_, hp.mem_iff.2 List.mem_cons_self, e1.symm⟩
        · exact ⟨e, hp.mem_iff.2 (List.mem_cons_of_mem _ (List.mem_filter.2 ⟨he, by simpa using e1⟩)), rfl⟩
      by_cases eu : Q.hd back (arcs.getD i Q.z95) = Q.tl back (arcs.getD j Q.z95)
      · exact Or.inl ⟨_, hp.mem_iff.2 List.mem_cons_self, eu.symm⟩
      · rw [hset, hset, if_neg eu]
        by_cases ei : i = j
        · subst ei
          right
          rw [if_pos rfl, hv, hd0]
          exact Nat.le_refl _
        · rcases h.rel i hi hmi (fun x => hx ⟨x, ei⟩) with h1 | h1
          · exact Or.inl (hin _ h1)
          · right
            split
            · rename_i et
              rw [et] at h1
              omega
            · exact h1
  · rw [if_neg hc] at hok' ⊢
    refine ⟨⟨h.ok, h.zero, h.rch, fun i hi hmi hx => ?_⟩, hd0⟩
    by_cases ei : i = j
    · subst ei
      right
      rw [hv, hd0]
      rcases Nat.lt_or_ge (addD d0 (arcs.getD i Q.z95).f2.toNat) (st.d.getD (Q.tl back (arcs.getD i Q.z95)) 0) with h1 | h1
      · exact absurd ⟨h1, hmi⟩ hc
      · exact h1
    · exact h.rel i hi hmi (fun x => hx ⟨x, ei⟩)

theorem fold_inv (hg : Q.GOk N arcs) (v0 d0 : Nat) (hvN : v0 < N) : ∀ (rest : List Int) (st : Se), Inv back N arcs may s (fun i => (i : Int) ∈ rest) st → st.d.getD v0 0 = d0 → (∀ i ∈ rest, ∃ j : Nat, i = (j : Int) ∧ j < arcs.length ∧ Q.hd back (arcs.getD j Q.z95) = v0) →
    Inv back N arcs may s (fun _ => False) (rest.foldl (relaxS back arcs may d0) st)
  | [], st, h, _, _ => ⟨h.ok, h.zero, h.rch, fun i hi hm _ => h.rel i hi hm (by simp)⟩
  | i :: rest, st, h, hd0, hm => by
    obtain ⟨j, rfl, hj, hv⟩ := hm i List.mem_cons_self
    obtain ⟨h1, h2⟩ := relax_inv hg h j hj v0 d0 hv hd0 hvN
    refine fold_inv hg v0 d0 hvN rest _ ⟨h1.ok, h1.zero, h1.rch, fun i hi hmi hx => h1.rel i hi hmi (fun q => ?_)⟩ h2 (fun i hi => hm i (List.mem_cons_of_mem _ hi))
    rcases List.mem_cons.1 q.1 with e | e
    · exact q.2 (by omega)
    · exact hx e

theorem next_inv (hg : Q.GOk N arcs) {L : List (List Int)} (hO : Q.OutsAt back N arcs arcs.length L) {st : Se} (h : Inv back N arcs may s (fun _ => False) st) (hl : 0 < st.l.length) : Inv back N arcs may s (fun _ => False) (nextS back arcs may L st) := by
  have hv : (atE st.l 0).1 < N := h.ok.idlt 0 hl
  have hk := h.ok.key _ (atE_mem st.l 0 hl)
  have hp := popF_perm st.l hl
  unfold nextS
  refine fold_inv hg _ _ hv _ _ ⟨pop_ok h.ok hl, h.zero, h.rch, fun i hi hm hx => ?_⟩ hk.symm (fun i hi => ?_)
  · rcases h.rel i hi hm (by simp) with ⟨e, he, h1⟩ | h1
    · rcases List.mem_cons.1 (hp.mem_iff.2 he) with h2 | h2
      · exact absurd ((hO.mem _ (i : Int) hv).2 ⟨i, rfl, hi, hi, by rw [← h1, h2]⟩) hx
      · exact Or.inl ⟨e, h2, h1⟩
    · exact Or.inr h1
  · obtain ⟨k, h1, _, h3, h4⟩ := (hO.mem _ i hv).1 hi
    exact ⟨k, h1, h3, h4⟩

theorem relax_down {key : Nat} (hg : Q.GOk N arcs) {st : Se} (h : SeOk N st) (i : Int) (hi : i.toNat < arcs.length) : (relaxS back arcs may key st i).d.sum < st.d.sum ∨ relaxS back arcs may key st i = st := by
  have hmem : arcs.getD i.toNat Q.z95 ∈ arcs := by rw [List.getD_eq_getElem?_getD, List.getElem?_eq_getElem hi]; exact List.getElem_mem hi
  have hu := hg.tl back hmem
  unfold relaxS
  simp only []
  split
  · rename_i hc
    left
    have := set_sum st.d (Q.tl back (arcs.getD i.toNat Q.z95)) (addD key (arcs.getD i.toNat Q.z95).f2.toNat) (by rw [h.dlen]; exact hu)
    have := hc.1
    show (st.d.set _ _).sum < _
    omega
  · exact Or.inr rfl
theorem fold_down {key : Nat} (hg : Q.GOk N arcs) : ∀ (rest : List Int) (st : Se), SeOk N st → (∀ i ∈ rest, i.toNat < arcs.length) → SeOk N (rest.foldl (relaxS back arcs may key) st) ∧ ((rest.foldl (relaxS back arcs may key) st).d.sum < st.d.sum ∨ rest.foldl (relaxS back arcs may key) st = st)
  | [], st, h, _ => ⟨h, Or.inr rfl⟩
  | i :: rest, st, h, hm => by
    have hi := hm i List.mem_cons_self
    obtain ⟨h1, h2⟩ := fold_down (key := key) hg rest _ (relax_ok (back := back) hg may key h i hi) (fun i hi => hm i (List.mem_cons_of_mem _ hi))
    refine ⟨h1, ?_⟩
    rw [List.foldl_cons]
    rcases relax_down (back := back) (may := may) (key := key) hg h i hi with h3 | h3 <;> rcases h2 with h4 | h4
    · left; omega
    · left; rw [h4]; exact h3
    · left; rw [h3] at h4; rw [h3]; exact h4
    · right; rw [h4, h3]
theorem next_down (hg : Q.GOk N arcs) {L : List (List Int)} (hO : Q.OutsAt back N arcs arcs.length L) {st : Se} (h : SeOk N st) (hl : 0 < st.l.length) : SeOk N (nextS back arcs may L st) ∧ ((nextS back arcs may L st).d.sum < st.d.sum ∨ ((nextS back arcs may L st).d = st.d ∧ (nextS back arcs may L st).l.length + 1 = st.l.length)) := by
  have hv : (atE st.l 0).1 < N := h.idlt 0 hl
  have hp := popF_perm st.l hl
  obtain ⟨h1, h2⟩ := fold_down (back := back) (may := may) (key := (atE st.l 0).2) hg (L.getD (atE st.l 0).1 []) _ (pop_ok h hl) (fun i hi => by
    obtain ⟨k, h1, _, h3, h4⟩ := (hO.mem _ i hv).1 hi
    rw [h1, Int.toNat_natCast]
    exact h3)
  refine ⟨h1, ?_⟩
  rcases h2 with h2 | h2
  · exact Or.inl h2
  · right
    unfold nextS
    rw [h2]
    refine ⟨rfl, ?_⟩
    have := hp.length_eq
    simpa using this

theorem runs_end (hg : Q.GOk N arcs) {L : List (List Int)} (hO : Q.OutsAt back N arcs arcs.length L) : ∀ (m : Nat) (st : Se), SeOk N st → st.d.sum * (N + 1) + st.l.length ≤ m → ∃ n fin, Runs back arcs may L n st fin := by
  intro m
  induction m with
  | zero =>
    intro st h hm
    exact ⟨0, st, Runs.done st (List.eq_nil_of_length_eq_zero (by omega))⟩
  | succ m ih =>
    intro st h hm
    by_cases hl : 0 < st.l.length
    · obtain ⟨h1, h2⟩ := next_down (may := may) hg hO h hl
      have hf := h1.few
      have : (nextS back arcs may L st).d.sum * (N + 1) + (nextS back arcs may L st).l.length ≤ m := by
        rcases h2 with h2 | ⟨h2, h3⟩
        · have : ((nextS back arcs may L st).d.sum + 1) * (N + 1) ≤ st.d.sum * (N + 1) := Nat.mul_le_mul_right _ h2
          rw [Nat.add_mul] at this
          omega
        · rw [h2]; omega
      obtain ⟨n, fin, hr⟩ := ih _ h1 this
      exact ⟨n + 1, fin, Runs.turn n st fin hl hr⟩
    · exact ⟨0, st, Runs.done st (List.eq_nil_of_length_eq_zero (by omega))⟩

theorem runs_inv (hg : Q.GOk N arcs) {L : List (List Int)} (hO : Q.OutsAt back N arcs arcs.length L) {n : Nat} {st fin : Se} (hr : Runs back arcs may L n st fin) (h : Inv back N arcs may s (fun _ => False) st) : Inv back N arcs may s (fun _ => False) fin ∧ fin.l = [] := by
  induction hr with
  | done st hl => exact ⟨h, hl⟩
  | turn n st fin hl _ ih => exact ih (next_inv hg hO h hl)

/-- Distances: from s to each vertex. -/
structure Sol (back : Bool) (N : Nat) (arcs : List Q.S95) (may : Nat → Bool) (s : Nat) (d : List Nat) : Prop where
  len : d.length = N
  lt : ∀ u, d.getD u 0 < 18446744073709551616
  rch : ∀ u, u < N → d.getD u 0 = infN ∨ Rch back arcs may s u (d.getD u 0)
  low : ∀ u x, u < N → Rch back arcs may s u x → d.getD u 0 ≤ x
theorem Inv.sol (hg : Q.GOk N arcs) {st : Se} (h : Inv back N arcs may s (fun _ => False) st) (hl : st.l = []) : Sol back N arcs may s st.d := by
  refine ⟨h.ok.dlen, h.ok.lt, h.rch, fun u x hu hr => ?_⟩
  induction hr with
  | start => rw [h.zero]; exact Nat.zero_le _
  | arc x i hi hm _ ih =>
    have hmem : arcs.getD i Q.z95 ∈ arcs := by rw [List.getD_eq_getElem?_getD, List.getElem?_eq_getElem hi]; exact List.getElem_mem hi
    rcases h.rel i hi hm (by simp) with ⟨e, he, _⟩ | h1
    · rw [hl] at he; cases he
    · exact Nat.le_trans h1 (addD_mono _ (ih (hg.hd back hmem)))
theorem Sol.unique {d1 d2 : List Nat} (h1 : Sol back N arcs may s d1) (h2 : Sol back N arcs may s d2) : d1 = d2 := by
  refine List.ext_getElem (h1.len.trans h2.len.symm) (fun u hu1 hu2 => ?_)
  have e1 : d1.getD u 0 = d1[u] := by rw [List.getD_eq_getElem?_getD, List.getElem?_eq_getElem hu1]; rfl
  have e2 : d2.getD u 0 = d2[u] := by rw [List.getD_eq_getElem?_getD, List.getElem?_eq_getElem hu2]; rfl
  rw [← e1, ← e2]
  have hu : u < N := by rw [← h1.len]; exact hu1
  have l1 := h1.lt u
  have l2 := h2.lt u
  refine Nat.le_antisymm ?_ ?_
  · rcases h2.rch u hu with h | h
    · rw [h]; unfold infN; omega
    · exact h1.low u _ hu h
  · rcases h1.rch u hu with h | h
    · rw [h]; unfold infN; omega
    · exact h2.low u _ hu h

theorem start_ok (hN : s < N) : SeOk N ⟨(List.replicate N infN).set s 0, List.replicate N (-1), lowF [] s 0⟩ := by
  have hp := lowF_perm [] s 0 (by simp)
  have hs : s < (List.replicate N infN).length := by simpa using hN
  refine (seOk_iff N _).2 ⟨by simp, by simp, ?_, fun e he => ?_, fun u => ?_⟩
  · rw [(hp.map (·.1)).nodup_iff]
    simp
  · have := hp.mem_iff.1 he
    simp at this
    subst this
    refine ⟨hN, ?_⟩
    show 0 = ((List.replicate N infN).set s 0).getD s 0
    rw [set_getD _ _ _ _ hs, if_pos rfl]
  · show ((List.replicate N infN).set s 0).getD u 0 < _
    rw [set_getD _ _ _ _ hs]
    split
    · omega
    · rw [List.getD_eq_getElem?_getD]
      by_cases hu : u < N
      · simp [hu, infN]
      · simp [hu]
theorem start_inv (hg : Q.GOk N arcs) (hN : s < N) : Inv back N arcs may s (fun _ => False) ⟨(List.replicate N infN).set s 0, List.replicate N (-1), lowF [] s 0⟩ := by
  have hp := lowF_perm [] s 0 (by simp)
  have hs : s < (List.replicate N infN).length := by simpa using hN
  refine ⟨start_ok hN, ?_, fun u hu => ?_, fun i hi hm _ => ?_⟩
  · show ((List.replicate N infN).set s 0).getD s 0 = 0
    rw [set_getD _ _ _ _ hs, if_pos rfl]
  · show ((List.replicate N infN).set s 0).getD u 0 = infN ∨ Rch back arcs may s u (((List.replicate N infN).set s 0).getD u 0)
    rw [set_getD _ _ _ _ hs]
    split
    · rename_i e; subst e; exact Or.inr Rch.start
    · left; simp [List.getD_eq_getElem?_getD, hu]
  · show (∃ e ∈ lowF [] s 0, _) ∨ ((List.replicate N infN).set s 0).getD _ 0 ≤ addD (((List.replicate N infN).set s 0).getD _ 0) _
    by_cases e : Q.hd back (arcs.getD i Q.z95) = s
    · exact Or.inl ⟨(s, 0), hp.mem_iff.2 List.mem_cons_self, e.symm⟩
    · right
      rw [set_getD _ _ _ _ hs, set_getD _ _ _ _ hs, if_neg e]
      have hmem : arcs.getD i Q.z95 ∈ arcs := by rw [List.getD_eq_getElem?_getD, List.getElem?_eq_getElem hi]; exact List.getElem_mem hi
      have hh := hg.hd back hmem
      have e1 : (List.replicate N infN).getD (Q.hd back (arcs.getD i Q.z95)) 0 = infN := by rw [List.getD_eq_getElem?_getD, List.getElem?_replicate, if_pos hh]; rfl
      have e2 : ∀ u, (List.replicate N infN).getD u 0 ≤ infN := fun u => by
        rw [List.getD_eq_getElem?_getD]
        by_cases hu : u < N
        · simp [hu]
        · simp [hu]
      have h3 := addD_ge infN (arcs.getD i Q.z95).f2.toNat (by unfold infN; omega)
      rw [e1]
      split
      · exact Nat.zero_le _
      · exact Nat.le_trans (e2 _) h3

/-- There are distances. -/
theorem sol_any (back : Bool) {N : Nat} {arcs : List Q.S95} (hg : Q.GOk N arcs) (may : Nat → Bool) (s : Nat) (hs : s < N) {L : List (List Int)} (hO : Q.OutsAt back N arcs arcs.length L) :
    ∃ n fin, Runs back arcs may L n ⟨(List.replicate N infN).set s 0, List.replicate N (-1), lowF [] s 0⟩ fin ∧ Sol back N arcs may s fin.d := by
  obtain ⟨n, fin, hr⟩ := runs_end (may := may) hg hO _ _ (start_ok hs) (Nat.le_refl _)
  obtain ⟨h1, h2⟩ := runs_inv hg hO hr (start_inv hg hs)
  exact ⟨n, fin, hr, h1.sol hg h2⟩
end

end Go.Proofs.YtjddimoeodecgaaGreat

/- graph.Check and near.looked of a graph that may be. -/
namespace Go.Proofs.YtjddimoeodecgaaGreat.Q
open Go.RowKit Go.Proofs.YtjddimoeodecgaaGreatW.PrintWords Go.Proofs.YtjddimoeodecgaaGreatW.PrintLast
set_option linter.unusedVariables false
set_option maxRecDepth 100000

theorem check_loop (N : Nat) (arcs : List S95) (h : GOk N arcs) (d : Nat) : ∀ (k n : Nat), n + d = arcs.length → d < k → graph_Check.l0 k arcs (arcs.length : Int) (n : Int) (N : Int) arcs = some (0, 0) := by
  induction d with
  | zero =>
    intro k n hn hk
    obtain ⟨k, rfl⟩ : ∃ m, k = m + 1 := ⟨k - 1, by omega⟩
    simp only [graph_Check.l0]
    rw [if_neg (by omega)]
  | succ d ih =>
    intro k n hn hk
    obtain ⟨k, rfl⟩ : ∃ m, k = m + 1 := ⟨k - 1, by omega⟩
    have hlt : n < arcs.length := by omega
    have hr : rd_T95 arcs (n : Int) = arcs.getD n z95 := by unfold rd_T95; simp
    have ha : arcs.getD n z95 ∈ arcs := by rw [List.getD_eq_getElem?_getD, List.getElem?_eq_getElem hlt]; exact List.getElem_mem hlt
    obtain ⟨⟨p0, p1⟩, q0, q1⟩ := h.ends _ ha
    have hm := h.m
    have hN := h.n2
    have hw : wrap64 ((n : Int) + 1) = ((n + 1 : Nat) : Int) := by unfold wrap64; omega
    have w0 : IntKind.u64.wrap (arcs.getD n z95).f0 = (arcs.getD n z95).f0 := IntWalk.u64_in _ (by omega)
    have w1 : IntKind.u64.wrap (arcs.getD n z95).f1 = (arcs.getD n z95).f1 := IntWalk.u64_in _ (by omega)
    have w2 : IntKind.u64.wrap (N : Int) = (N : Int) := IntWalk.u64_in _ (by omega)
    simp only [graph_Check.l0]
    rw [if_pos (by omega), if_pos (by omega), if_pos (by omega), hr, w0, w1, w2, if_neg (by omega), if_neg (by omega), hw]
    exact ih k (n + 1) (by omega) (by omega)
theorem check_f (N : Nat) (arcs : List S95) (h : GOk N arcs) (k : Nat) (hk : arcs.length + 2 ≤ k) : graph_Check.f k (N : Int) arcs = some (0, 0) := by
  obtain ⟨k, rfl⟩ : ∃ m, k = m + 1 := ⟨k - 1, by omega⟩
  have h1 := h.n1
  have h2 := h.n2
  have h3 := h.m
  unfold graph_Check.f
  rw [if_neg (by omega), decide_eq_false (by omega)]
  simp only [graph_Check.j0]
  rw [if_neg (by simp), if_neg (by omega)]
  exact check_loop N arcs h arcs.length k 0 (by omega) (by omega)
theorem looked_loop (N : Nat) (hN : N ≤ 1024) (l : List Int) (arcs : List S95) (hl : ∀ v ∈ l, 0 ≤ v ∧ v < (N : Int)) (hlen : l.length ≤ 16384) (d : Nat) : ∀ (k n : Nat), n + d = l.length → d < k → near_looked.l0 k l (l.length : Int) (n : Int) (N : Int) arcs = some 0 := by
  induction d with
  | zero =>
    intro k n hn hk
    obtain ⟨k, rfl⟩ : ∃ m, k = m + 1 := ⟨k - 1, by omega⟩
    simp only [near_looked.l0]
    rw [if_neg (by omega)]
  | succ d ih =>
    intro k n hn hk
    obtain ⟨k, rfl⟩ : ∃ m, k = m + 1 := ⟨k - 1, by omega⟩
    have hlt : n < l.length := by omega
    have hr : rd l (n : Int) = l.getD n 0 := by unfold rd; simp
    have ha : l.getD n 0 ∈ l := by rw [List.getD_eq_getElem?_getD, List.getElem?_eq_getElem hlt]; exact List.getElem_mem hlt
    obtain ⟨p0, p1⟩ := hl _ ha
    have hw : wrap64 ((n : Int) + 1) = ((n + 1 : Nat) : Int) := by unfold wrap64; omega
    simp only [near_looked.l0]
    rw [if_pos (by omega), if_pos (by omega), if_pos (by omega), hr, if_neg (by omega), if_neg (by omega), hw]
    exact ih k (n + 1) (by omega) (by omega)
theorem looked_f (N : Nat) (arcs : List S95) (h : GOk N arcs) (l : List Int) (hl : ∀ v ∈ l, 0 ≤ v ∧ v < (N : Int)) (hlen : l.length ≤ 16384) : near_looked.f (arcs.length + l.length + 2) (N : Int) arcs l = some 0 := by
  unfold near_looked.f
  rw [check_f N arcs h _ (by omega)]
  simp only [Option.bind_some, if_pos]
  exact looked_loop N h.n2 l arcs hl hlen l.length _ 0 (by omega) (by omega)

end Go.Proofs.YtjddimoeodecgaaGreat.Q

/- near.Within's closure, and near.Within. -/
namespace Go.Proofs.YtjddimoeodecgaaGreat
open Go.RowKit Go.Lib Go.Proofs.YtjddimoeodecgaaGreatW.PrintWords Go.Proofs.YtjddimoeodecgaaGreatW.PrintLast Go.Proofs.YtjddimoeodecgaaGreatW.PrintMore
set_option linter.unusedVariables false
set_option maxRecDepth 100000

theorem one_int (w : World) (b : Nat) (x : Int) (h : w.cell? ⟨b, 0, none⟩ = some (.int .i64 x)) : Kd.C (Kd.int .i64) w (some ⟨b, 0, none⟩) [x].length [x] := by
  refine ⟨rfl, by simp, fun _ => ⟨_, rfl, fun j p hj => ?_⟩⟩
  match j, hj with
  | 0, hj =>
    simp at hj
    subst hj
    refine ⟨[.int .i64 x], rfl, rfl, fun i u hu => ?_⟩
    match i, hu with
    | 0, hu => simp at hu; subst hu; simpa [Addr.add] using h

/-- A truth among truths. -/
theorem bool_at {w : World} {A : Option Addr} {l : List Bool} (h : Kd.C Kd.bool w A l.length l) (i : Nat) (hi : i < l.length) : ∃ ad, A = some ad ∧ w.cell? (ad.add i) = some (.bool (l.getD i false)) := by
  obtain ⟨ad, c, h0, h1, h2, h3⟩ := Kd.C_get h false (i : Int) (by omega) (by omega)
  rw [Int.toNat_natCast] at h2 h3
  have e : c = [Value.bool (l.getD i false)] := h2
  subst e
  have h4 := h3 0 _ rfl
  rw [Nat.add_zero, show (Kd.bool).sz = 1 from rfl, Nat.mul_one] at h4
  exact ⟨ad, h0, h4⟩

/-- Whether an arc stays within. -/
def inMay (arcs : List Q.S95) (l : List Bool) (i : Nat) : Bool := l.getD (Q.tl false (arcs.getD i Q.z95)) false

theorem may_any {N : Nat} {A : Option Addr} {arcs : List Q.S95} {c : Nat} {inA : Option Addr} {l : List Bool} {ic : Nat} (g3 g5 : Nat) (w : World) (hg : Q.GOk N arcs) (hr : Kd.C Q.k95 w A arcs.length arcs) (hi : Kd.C Kd.bool w inA l.length l) (hl : l.length = N)
    (c31 : w.cell? ⟨g3, 1, none⟩ = some (.slice A arcs.length c)) (c50 : w.cell? ⟨g5, 0, none⟩ = some (.slice inA l.length ic)) (i : Nat) (hi0 : i < arcs.length) :
    Calls Tryz.prog 124 #[.int .i64 i, .pointer (some ⟨g5, 0, none⟩), .pointer (some ⟨g3, 0, none⟩)] w fun e w' => e = .returned (.bool (inMay arcs l i)) ∧ Below w.heap.size w w' := by
  have hmem : arcs.getD i Q.z95 ∈ arcs := by rw [List.getD_eq_getElem?_getD, List.getElem?_eq_getElem hi0]; exact List.getElem_mem hi0
  obtain ⟨_, q0, q1⟩ := hg.ends _ hmem
  have ht := hg.tl false hmem
  obtain ⟨ad, rfl, _, a1, _⟩ := arc_at hr i hi0
  obtain ⟨ab, rfl, b1⟩ := bool_at hi (Q.tl false (arcs.getD i Q.z95)) (by omega)
  have e : (arcs.getD i Q.z95).f1 = ((Q.tl false (arcs.getD i Q.z95) : Nat) : Int) := by unfold Q.tl; rw [if_neg (by simp)]; omega
  rw [e] at a1
  have e2 : inMay arcs l i = l.getD (Q.tl false (arcs.getD i Q.z95)) false := rfl
  rw [e2]
  generalize l.getD (Q.tl false (arcs.getD i Q.z95)) false = bb at *
  generalize Q.tl false (arcs.getD i Q.z95) = u at *
  have hiz : (i : Int) < (arcs.length : Int) := by omega
  have huz : (u : Int) < (l.length : Int) := by omega
  have d31 : w.drew.cell? ⟨g3, 1, none⟩ = some (.slice (some ad) arcs.length c) := c31
  have d50 : w.drew.cell? ⟨g5, 0, none⟩ = some (.slice (some ab) l.length ic) := c50
  have da1 : w.drew.cell? ⟨(ad.add (i * 3)).block, (ad.add (i * 3)).off + 1, none⟩ = some (.int .i64 (u : Int)) := a1
  have db1 : w.drew.cell? (ab.add u) = some (.bool bb) := b1
  clear hr hi hl hmem q0 q1 e e2 ht hi0 hg
  generalize arcs.length = m at *
  generalize l.length = n at *
  go_enter Tryz.func124, Tryz.ntmps124
  go_wp2_with fail
  go_region
  all_goals
    go_wp2_with fail
    go_ret
    exact ⟨rfl, (Below.refl _ w).drew⟩

end Go.Proofs.YtjddimoeodecgaaGreat

/- near.Within. -/
namespace Go.Proofs.YtjddimoeodecgaaGreat
open Go.RowKit Go.Lib Go.Proofs.YtjddimoeodecgaaGreatW.PrintWords Go.Proofs.YtjddimoeodecgaaGreatW.PrintLast Go.Proofs.YtjddimoeodecgaaGreatW.PrintMore
set_option linter.unusedVariables false
set_option maxRecDepth 100000

/-- Distances within some vertices. -/
def InSol (N : Nat) (arcs : List Q.S95) (l : List Bool) (s : Nat) (d : List Nat) : Prop := if l.getD s false = true then Sol false N arcs (inMay arcs l) s d else d = List.replicate N infN
theorem InSol.len {N : Nat} {arcs : List Q.S95} {l : List Bool} {s : Nat} {d : List Nat} (h : InSol N arcs l s d) : d.length = N := by
  unfold InSol at h
  split at h
  · exact h.len
  · rw [h]; simp

set_option maxHeartbeats 4000000 in
theorem within_any (N : Nat) (arcs : List Q.S95) (A : Option Addr) (c s : Nat) (inA : Option Addr) (l : List Bool) (ic : Nat) (w : World) (hg : Q.GOk N arcs) (hr : Kd.C Q.k95 w A arcs.length arcs) (hc : arcs.length ≤ c) (hi : Kd.C Kd.bool w inA l.length l) (hic : l.length ≤ ic) (hl : l.length = N) (hs : s < N) :
    Calls Tryz.prog 98 #[.agg #[.int .i64 N, .slice A arcs.length c], .int .i64 s, .slice inA l.length ic] w fun e w' => ∃ d q, e = .returned (.tuple #[.slice (some ⟨q, 0, none⟩) N N, .int .i64 0]) ∧ InSol N arcs l s d ∧ w.heap.size ≤ q ∧ w'.heap[q]? = some (.cells (d.map (fun x : Nat => Value.int .u64 (x : Int))).toArray 43 (0, 0)) ∧ Below w.heap.size w w' := by
  subst hl
  have hn1 := hg.n1
  have hn2 := hg.n2
  have HG := Lib.hid hg
  have HR := Lib.hid hr
  have HC := Lib.hid hc
  have HI := Lib.hid hi
  have HIC := Lib.hid hic
  have HLK := Lib.hid (Q.looked_f l.length arcs hg [(s : Int)] (by intro v hv; simp at hv; subst hv; omega) (by simp))
  obtain ⟨ab, hab, b1⟩ := bool_at hi s hs
  subst hab
  have hblk : w.cell? (ab.add s) = some (.bool (l.getD s false)) := b1
  clear hg hr hc hi hic b1
  go_enter Tryz.func98, Tryz.ntmps98
  go_upto_region 1 with fail
  have hb1 : Below w.heap.size w ((w.alloc (.cells #[.int .i64 l.length, .slice A arcs.length c] 24)).alloc (.cells #[.slice (some ab) l.length ic] 137)) := ((Below.refl _ w).alloc (Nat.le_refl _) _).alloc (by rw [World.size_alloc]; omega) _
  have c30 : ((w.alloc (.cells #[.int .i64 l.length, .slice A arcs.length c] 24)).alloc (.cells #[.slice (some ab) l.length ic] 137)).cell? ⟨w.heap.size, 0, none⟩ = some (.int .i64 l.length) := by rw [alloc_cell_old _ _ _ _ (by simp)]; simp
  have c31 : ((w.alloc (.cells #[.int .i64 l.length, .slice A arcs.length c] 24)).alloc (.cells #[.slice (some ab) l.length ic] 137)).cell? ⟨w.heap.size, 1, none⟩ = some (.slice A arcs.length c) := by rw [alloc_cell_old _ _ _ _ (by simp)]; simp
  have c50 : ((w.alloc (.cells #[.int .i64 l.length, .slice A arcs.length c] 24)).alloc (.cells #[.slice (some ab) l.length ic] 137)).cell? ⟨w.heap.size + 1, 0, none⟩ = some (.slice (some ab) l.length ic) := by
    have h := heap_alloc_new (w.alloc (.cells #[.int .i64 l.length, .slice A arcs.length c] 24)) (.cells #[.slice (some ab) l.length ic] 137 (0, 0))
    rw [World.size_alloc] at h
    unfold World.cell?
    simp only [h]
    rfl
  have hsz : ((w.alloc (.cells #[.int .i64 l.length, .slice A arcs.length c] 24)).alloc (.cells #[.slice (some ab) l.length ic] 137)).heap.size = w.heap.size + 2 := by simp
  have hr1 := Kd.C_below HR.out hb1
  have hi1 := Kd.C_below HI.out hb1
  generalize ((w.alloc (.cells #[.int .i64 l.length, .slice A arcs.length c] 24)).alloc (.cells #[.slice (some ab) l.length ic] 137)) = w1 at *
  have HB1 := Lib.hid hb1
  generalize hgx : w.heap.size = gx at *
  have HGX := Lib.hid hgx
  have HSZ := Lib.hid hsz
  clear hb1 hgx hblk hsz
  have HR1 := Lib.hid hr1
  have HI1 := Lib.hid hi1
  clear hr1 hi1
  have HLOOK : Hid (∀ (wx : World) (b : Nat), Kd.C Q.k95 wx A arcs.length arcs → wx.cell? ⟨b, 0, none⟩ = some (.int .i64 s) → Calls Tryz.prog 64 #[.agg #[.int .i64 l.length, .slice A arcs.length c], .slice (some ⟨b, 0, none⟩) 1 1] wx fun e w' => e = .returned (.int .i64 0) ∧ Below wx.heap.size wx w') :=
    Lib.hid (fun wx b h1 h2 => Q.near_looked.calls (arcs.length + [(s : Int)].length + 2) l.length A c arcs (some ⟨b, 0, none⟩) 1 [(s : Int)] 0 wx h1 HC.out (one_int wx b s h2) (by simp) HLK.out)
  go_upto_region 2 with (with_reducible refine (HLOOK.out _ _ ?hra ?hrb).mono ?_; (case hra => exact Kd.C_alloc HR1.out _); (case hrb => simp); rintro e w2 ⟨rfl, hb2⟩; have HB2 := Lib.hid hb2; clear hb2)
  clear HLOOK HLK
  have hb2 : Below w1.heap.size w1 w2 := ((Below.refl _ w1).alloc (Nat.le_refl _) _).trans (HB2.out.mono (by simp))
  clear HB2
  have hsz := HSZ.out
  have d30 := (hb2.cell (p := ⟨gx, 0, none⟩) (by show gx < w1.heap.size; omega)).trans c30
  have d31 := (hb2.cell (p := ⟨gx, 1, none⟩) (by show gx < w1.heap.size; omega)).trans c31
  have d50 := (hb2.cell (p := ⟨gx + 1, 0, none⟩) (by show gx + 1 < w1.heap.size; omega)).trans c50
  have hr2 := Kd.C_below HR1.out hb2
  have hi2 := Kd.C_below HI1.out hb2
  have hbw : Below gx w w2 := HB1.out.trans (hb2.mono (by omega))
  have hsz2 : gx + 2 ≤ w2.heap.size := by have := hb2.size; omega
  obtain ⟨ab', hab', b1⟩ := bool_at hi2 s hs
  cases hab'
  have HR2 := Lib.hid hr2
  have HI2 := Lib.hid hi2
  have HBW := Lib.hid hbw
  clear c30 c31 c50 hb2 hr2 hi2 hbw hsz HR1 HI1 HB1
  have hsN : (s : Int) < (l.length : Int) := by omega
  cases hbb : l.getD s false with
  | false =>
    rw [hbb] at b1
    have HBB := Lib.hid hbb
    clear hbb
    have e30 : (w2.alloc (.cells #[.int .u64 18446744073709551615] 43)).cell? ⟨gx, 0, none⟩ = some (.int .i64 l.length) := (alloc_cell_old _ _ _ _ (by omega)).trans d30
    go_wp2_with (go_at_call 102; go_loud ((with_reducible refine (repeat_dist (.int .u64 18446744073709551615) rfl _ l.length _ ?hrr ?hrl hn1 (by omega)).mono ?_); (case hrl => simp); (case hrr => simp); rintro e wD ⟨qD, rfl, hqD, hrowD, hbD⟩; have HQD := Lib.hid hqD; have HROWD := Lib.hid hrowD; have HBD := Lib.hid hbD; clear hqD hrowD hbD))
    go_ret2
    have hgx := HGX.out
    subst hgx
    have hqd := HQD.out
    have hsz2' := hsz2
    simp only [World.size_alloc] at hqd
    have hal : Below w.heap.size w (w2.alloc (.cells #[.int .u64 18446744073709551615] 43)) := HBW.out.alloc (by omega) _
    refine ⟨List.replicate l.length infN, qD, rfl, ?_, by omega, ?_, hal.trans (HBD.out.mono (by rw [World.size_alloc]; omega))⟩
    · unfold InSol
      rw [HBB.out, if_neg (by simp)]
    · rw [HROWD.out]
      simp [infN]
  | true =>
    rw [hbb] at b1
    have HBB := Lib.hid hbb
    clear hbb
    go_upto_region 8 with fail
    obtain ⟨L, hL, hO⟩ := Q.outs_f false l.length arcs HG.out
    obtain ⟨n, fin, hruns, hsol⟩ := sol_any false HG.out (inMay arcs l) s hs hO
    have HBEG := Lib.hid (begin_any l.length arcs A c s false w2 HG.out HR2.out HC.out hs L hL)
    have HO := Lib.hid hO
    have HRUNS := Lib.hid hruns
    have HSOL := Lib.hid hsol
    have HMAY : Hid (∀ (wx : World) (i : Nat), i < arcs.length → Below w2.heap.size w2 wx → Calls Tryz.prog 124 (#[.int .i64 i] ++ #[.pointer (some ⟨gx + 1, 0, none⟩), .pointer (some ⟨gx, 0, none⟩)]) wx fun e w' => e = .returned (.bool (inMay arcs l i)) ∧ Below wx.heap.size wx w') :=
      Lib.hid (fun wx i hi hb => may_any (A := A) (c := c) (ic := ic) gx (gx + 1) wx HG.out (Kd.C_below HR2.out hb) (Kd.C_below HI2.out hb) rfl ((hb.cell (p := ⟨gx, 1, none⟩) (by show gx < w2.heap.size; omega)).trans d31) ((hb.cell (p := ⟨gx + 1, 0, none⟩) (by show gx + 1 < w2.heap.size; omega)).trans d50) i hi)
    have HMF : Hid (∀ (fn : Fn) (first cap : Array Value) (w : World), (Instr.makeFunc fn first cap).run Tryz.prog w = .ok (.func fn first cap) w) := Lib.hid (fun _ _ _ _ => rfl)
    clear hL hO hruns hsol
    have hmf := HMF.out
    go_wp2_with (first
      | (go_at_call 65; (with_reducible refine HBEG.out.mono ?_); rintro e w3 ⟨K, X, db, yb, hp, T, abh, v3, OA, oc, rfl, hs3, hb3⟩; have HS3 := Lib.hid hs3; have HB3 := Lib.hid hb3; clear hs3 hb3)
      | (go_at_call 66; go_loud ((with_reducible refine (all_any (st := ⟨(List.replicate l.length infN).set s 0, List.replicate l.length (-1), lowF [] s 0⟩) n fin 124 #[.pointer (some ⟨gx + 1, 0, none⟩), .pointer (some ⟨gx, 0, none⟩)] (inMay arcs l) w2 _ HS3.out HR2.out HB3.out (Nat.le_refl _) HG.out HO.out (start_ok hs) (fun _ _ => rfl) HMAY.out HRUNS.out).mono ?_); rintro e w4 ⟨rfl, v4, hs4, ho4, hb4⟩; have HS4 := Lib.hid hs4; have HB4 := Lib.hid hb4; clear hs4 ho4 hb4)))
    go_ret2
    have hgx := HGX.out
    subst hgx
    have hbs := HS4.out.bs.2.1
    refine ⟨fin.d, db, rfl, ?_, by omega, HS4.out.drow, HBW.out.trans (HB4.out.mono (by omega))⟩
    unfold InSol
    rw [HBB.out, if_pos rfl]
    exact HSOL.out

end Go.Proofs.YtjddimoeodecgaaGreat
