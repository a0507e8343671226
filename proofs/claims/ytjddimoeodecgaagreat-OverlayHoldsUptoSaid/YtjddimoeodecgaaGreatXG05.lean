/- One turn of a search, as plain data. -/
import Derived.Test.YtjddimoeodecgaaGreatXG04
import Derived.Laws.Externs
import Derived.Deep.DeepCutAuto
import Derived.BigRegion
namespace Go.Proofs.YtjddimoeodecgaaGreat
set_option linter.unusedVariables false
set_option maxRecDepth 100000

/-- Two distances in sum. -/
def addD (a b : Nat) : Nat := if a + b < 18446744073709551616 then a + b else 18446744073709551615
theorem addD_lt (a b : Nat) : addD a b < 18446744073709551616 := by unfold addD; split <;> omega

/-- A search's state: distances, arcs, heap. -/
structure Se where
  d : List Nat
  y : List Int
  l : List Ent

/-- One arc is looked at. -/
def relaxS (back : Bool) (arcs : List Q.S95) (may : Nat → Bool) (key : Nat) (st : Se) (i : Int) : Se :=
  let a := arcs.getD i.toNat Q.z95
  let n := addD key a.f2.toNat
  let u := Q.tl back a
  if n < st.d.getD u 0 ∧ may i.toNat = true then ⟨st.d.set u n, st.y.set u i, lowF st.l u n⟩ else st

/-- What must be so of the state. -/
structure SeOk (N : Nat) (st : Se) : Prop where
  dlen : st.d.length = N
  ylen : st.y.length = N
  ids : ∀ i j, i < st.l.length → j < st.l.length → (atE st.l i).1 = (atE st.l j).1 → i = j
  idlt : ∀ i, i < st.l.length → (atE st.l i).1 < N
  key : ∀ e ∈ st.l, e.2 = st.d.getD e.1 0
  lt : ∀ u, st.d.getD u 0 < 18446744073709551616

theorem inj_le : ∀ (N n : Nat) (f : Nat → Nat), (∀ i, i < n → f i < N) → (∀ i j, i < n → j < n → f i = f j → i = j) → n ≤ N := by
  intro N
  induction N with
  | zero =>
    intro n f h _
    cases n with
    | zero => exact Nat.le_refl _
    | succ n => exact absurd (h 0 (by omega)) (by omega)
  | succ N ih =>
    intro n f h hi
    cases n with
    | zero => omega
    | succ n =>
      have := ih n (fun i => if f i = N then f n else f i) (fun i hin => by
        have h1 := h i (by omega)
        have h2 := h n (by omega)
        show (if f i = N then f n else f i) < N
        split
        · rename_i e
          have : f n ≠ N := fun e2 => by have := hi i n (by omega) (by omega) (e.trans e2.symm); omega
          omega
        · omega) (fun i j hin hjn hij => by
        have hij' : (if f i = N then f n else f i) = (if f j = N then f n else f j) := hij
        split at hij' <;> split at hij'
        · rename_i e1 e2; exact hi i j (by omega) (by omega) (e1.trans e2.symm)
        · rename_i e1 e2; have := hi n j (by omega) (by omega) hij'; omega
        · rename_i e1 e2; have := hi i n (by omega) (by omega) hij'; omega
        · exact hi i j (by omega) (by omega) hij')
      omega

theorem SeOk.few {N : Nat} {st : Se} (h : SeOk N st) : st.l.length ≤ N := inj_le N _ (fun i => (atE st.l i).1) h.idlt h.ids
theorem atE_mem (l : List Ent) (i : Nat) (h : i < l.length) : atE l i ∈ l := by
  unfold atE
  rw [List.getD_eq_getElem?_getD, List.getElem?_eq_getElem h]
  exact List.getElem_mem h
theorem mem_atE {l : List Ent} {e : Ent} (h : e ∈ l) : ∃ i, i < l.length ∧ atE l i = e := by
  obtain ⟨i, hi, he⟩ := List.getElem_of_mem h
  refine ⟨i, hi, ?_⟩
  unfold atE
  rw [List.getD_eq_getElem?_getD, List.getElem?_eq_getElem hi]
  exact he
theorem nodup_ids (l : List Ent) : (∀ i j, i < l.length → j < l.length → (atE l i).1 = (atE l j).1 → i = j) ↔ (l.map (·.1)).Nodup := by
  rw [List.nodup_iff_pairwise_ne, List.pairwise_iff_getElem]
  constructor
  · intro h i j hi hj hij e
    rw [List.length_map] at hi hj
    have := h i j hi hj (by
      unfold atE
      rw [List.getD_eq_getElem?_getD, List.getElem?_eq_getElem hi, List.getD_eq_getElem?_getD, List.getElem?_eq_getElem hj]
      simpa using e)
    omega
  · intro h i j hi hj e
    have e' : l[i].1 = l[j].1 := by
      unfold atE at e
      rw [List.getD_eq_getElem?_getD, List.getElem?_eq_getElem hi, List.getD_eq_getElem?_getD, List.getElem?_eq_getElem hj] at e
      exact e
    rcases Nat.lt_trichotomy i j with h1 | h1 | h1
    · exact (h i j (by simpa using hi) (by simpa using hj) h1 (by rw [List.getElem_map, List.getElem_map]; exact e')).elim
    · exact h1
    · exact (h j i (by simpa using hj) (by simpa using hi) h1 (by rw [List.getElem_map, List.getElem_map]; exact e'.symm)).elim
/-- The same by lists. -/
theorem seOk_iff (N : Nat) (st : Se) : SeOk N st ↔ st.d.length = N ∧ st.y.length = N ∧ (st.l.map (·.1)).Nodup ∧ (∀ e ∈ st.l, e.1 < N ∧ e.2 = st.d.getD e.1 0) ∧ ∀ u, st.d.getD u 0 < 18446744073709551616 := by
  constructor
  · intro h
    refine ⟨h.dlen, h.ylen, (nodup_ids _).1 h.ids, fun e he => ⟨?_, h.key e he⟩, h.lt⟩
    obtain ⟨i, hi, rfl⟩ := mem_atE he
    exact h.idlt i hi
  · rintro ⟨h1, h2, h3, h4, h5⟩
    exact ⟨h1, h2, (nodup_ids _).2 h3, fun i hi => (h4 _ (atE_mem _ i hi)).1, fun e he => (h4 e he).2, h5⟩

theorem relax_ok {N : Nat} {back : Bool} {arcs : List Q.S95} (hg : Q.GOk N arcs) (may : Nat → Bool) (key : Nat) {st : Se} (h : SeOk N st) (i : Int) (hi : i.toNat < arcs.length) : SeOk N (relaxS back arcs may key st i) := by
  have ha : arcs.getD i.toNat Q.z95 ∈ arcs := by rw [List.getD_eq_getElem?_getD, List.getElem?_eq_getElem hi]; exact List.getElem_mem hi
  have hu := hg.tl back ha
  unfold relaxS
  simp only []
  split
  · rename_i hc
    have hn := addD_lt key (arcs.getD i.toNat Q.z95).f2.toNat
    generalize addD key (arcs.getD i.toNat Q.z95).f2.toNat = n at *
    generalize Q.tl back (arcs.getD i.toNat Q.z95) = u at *
    have hset : ∀ x, (st.d.set u n).getD x 0 = if x = u then n else st.d.getD x 0 := fun x => by
      by_cases e : x = u
      · subst e
        rw [if_pos rfl, List.getD_eq_getElem?_getD, List.getElem?_set_self (by rw [h.dlen]; exact hu)]
        rfl
      · rw [if_neg e, List.getD_eq_getElem?_getD, List.getElem?_set_ne (fun z => e z.symm), ← List.getD_eq_getElem?_getD]
    have hp := lowF_perm st.l u n h.ids
    obtain ⟨h1, h2, h3, h4, h5⟩ := (seOk_iff N st).1 h
    refine (seOk_iff N _).2 ⟨by simpa using h1, by simpa using h2, ?_, fun e he => ?_, fun x => ?_⟩
    · rw [(hp.map (·.1)).nodup_iff]
      simp only [List.map_cons, List.nodup_cons, List.mem_map, List.mem_filter, not_exists]
      refine ⟨?_, (List.filter_sublist.map _).nodup h3⟩
      rintro e ⟨⟨_, e2⟩, e3⟩
      simp [e3] at e2
    · have hm := hp.mem_iff.1 he
      rw [List.mem_cons, List.mem_filter] at hm
      rcases hm with rfl | ⟨hm, hne⟩
      · exact ⟨hu, by simp only [hset, if_pos]⟩
      · obtain ⟨g1, g2⟩ := h4 e hm
        refine ⟨g1, ?_⟩
        simp only [hset]
        rw [if_neg (by simpa using hne)]
        exact g2
    · simp only [hset]
      split
      · exact hn
      · exact h5 x
  · exact h

theorem pop_ok {N : Nat} {st : Se} (h : SeOk N st) (hl : 0 < st.l.length) : SeOk N ⟨st.d, st.y, popF st.l⟩ := by
  obtain ⟨h1, h2, h3, h4, h5⟩ := (seOk_iff N st).1 h
  have hp := popF_perm st.l hl
  refine (seOk_iff N _).2 ⟨h1, h2, ?_, fun e he => ?_, h5⟩
  · have := ((hp.map (·.1)).nodup_iff).2 h3
    rw [List.map_cons, List.nodup_cons] at this
    exact this.2
  · exact h4 e (hp.mem_iff.1 (List.mem_cons_of_mem _ he))

end Go.Proofs.YtjddimoeodecgaaGreat

/- dist.Add; near.far. -/
namespace Go.Proofs.YtjddimoeodecgaaGreat
open Go.RowKit Go.Lib Go.Proofs.YtjddimoeodecgaaGreatW.PrintWords Go.Proofs.YtjddimoeodecgaaGreatW.PrintLast Go.Proofs.YtjddimoeodecgaaGreatW.PrintMore
set_option linter.unusedVariables false
set_option maxRecDepth 100000

theorem add64_run (a b : Nat) (w : World) :
    (callFunc 68 #[.int .u64 a, .int .u64 b, .int .u64 0]).run Tryz.prog w =
      .ok (.value (.tuple #[.int .u64 (((a + b) % 18446744073709551616 : Nat) : Int), .int .u64 (((a + b) / 18446744073709551616 : Nat) : Int)])) w := by
  rw [run_callFunc_extern Tryz.func68 (by kernel_rfl) (by kernel_rfl) (by kernel_rfl) (e := add64Entry) (by kernel_rfl), run_add64 a b 0 (by omega) (by omega) (by omega) (by omega)]
  simp only [Result.andThen]
  congr 5 <;> omega

theorem add_any (a b : Nat) (ha : a < 18446744073709551616) (hb : b < 18446744073709551616) (w : World) :
    Calls Tryz.prog 25 #[.int .u64 a, .int .u64 b] w fun e w' => e = .returned (.int .u64 (addD a b : Nat)) ∧ w = w' := by
  have hc := add64_run a b
  by_cases h : a + b < 18446744073709551616
  · have hd : addD a b = a + b := by unfold addD; rw [if_pos h]
    rw [hd]
    have h1 : (a + b) % 18446744073709551616 = a + b := by omega
    have h2 : (a + b) / 18446744073709551616 = 0 := by omega
    rw [h1, h2] at hc
    clear hd h1 h2 h ha hb
    go_enter Tryz.func25, Tryz.ntmps25
    go_wp2_with (simp only [hc])
    go_ret
    exact ⟨rfl, rfl⟩
  · have hd : addD a b = 18446744073709551615 := by unfold addD; rw [if_neg h]
    rw [hd]
    have h2 : (a + b) / 18446744073709551616 = 1 := by omega
    rw [h2] at hc
    generalize (a + b) % 18446744073709551616 = r at hc
    clear hd h2 h ha hb
    go_enter Tryz.func25, Tryz.ntmps25
    go_wp2_with (simp only [hc])
    go_ret
    exact ⟨rfl, rfl⟩

/-- An arc's cells. -/
theorem arc_at {w : World} {A : Option Addr} {arcs : List Q.S95} (hr : Kd.C Q.k95 w A arcs.length arcs) (i : Nat) (hi : i < arcs.length) :
    ∃ ad, A = some ad ∧ w.cell? (ad.add (i * 3)) = some (.int .i64 (arcs.getD i Q.z95).f0) ∧ w.cell? ⟨(ad.add (i * 3)).block, (ad.add (i * 3)).off + 1, none⟩ = some (.int .i64 (arcs.getD i Q.z95).f1) ∧ w.cell? ⟨(ad.add (i * 3)).block, (ad.add (i * 3)).off + 2, none⟩ = some (.int .u32 (arcs.getD i Q.z95).f2) := by
  obtain ⟨ad, h0, h1, h2, h3⟩ := Q.at_T95 hr (i : Int) (by omega) (by omega)
  have e : Q.rd_T95 arcs (i : Int) = arcs.getD i Q.z95 := by unfold Q.rd_T95; simp
  rw [e, Int.toNat_natCast] at h1 h2 h3
  exact ⟨ad, h0, h1, h2, h3⟩

theorem far_any {B K X db yb hp T ab N : Nat} {A : Option Addr} {arcs : List Q.S95} {c : Nat} {back : Bool} {OA : Option Addr} {oc : Nat} {L : List (List Int)} {w : World} {v : Value} {ds : List Nat} {ys : List Int} {l : List Ent} (h : IsSearch B K X db yb hp T ab N A arcs.length c back OA oc L w v ds ys l) (hr : Kd.C Q.k95 w A arcs.length arcs) (hg : Q.GOk N arcs) (i : Nat) (hi : i < arcs.length) :
    Calls Tryz.prog 141 #[.pointer (some ⟨X, 0, none⟩), .int .i64 i] w fun e w' => e = .returned (.int .i64 (Q.tl back (arcs.getD i Q.z95) : Nat)) ∧ w = w' := by
  obtain ⟨ad, rfl, c0, c1, c2⟩ := arc_at hr i hi
  have ha : arcs.getD i Q.z95 ∈ arcs := by rw [List.getD_eq_getElem?_getD, List.getElem?_eq_getElem hi]; exact List.getElem_mem hi
  obtain ⟨⟨q0, q1⟩, ⟨q2, q3⟩⟩ := hg.ends _ ha
  have hiz : (i : Int) < (arcs.length : Int) := by omega
  have y1 := h.x1
  have y2 := h.x2
  cases back with
  | true =>
    have e : ((Q.tl true (arcs.getD i Q.z95) : Nat) : Int) = (arcs.getD i Q.z95).f0 := by unfold Q.tl; rw [if_pos rfl]; omega
    rw [e]
    clear e hr h c1 c2 hg ha q0 q1 q2 q3
    generalize (arcs.getD i Q.z95).f0 = x at *
    generalize arcs.length = m at *
    go_enter Tryz.func141, Tryz.ntmps141
    go_wp2_with fail
    go_ret
    exact ⟨rfl, rfl⟩
  | false =>
    have e : ((Q.tl false (arcs.getD i Q.z95) : Nat) : Int) = (arcs.getD i Q.z95).f1 := by unfold Q.tl; rw [if_neg (by simp)]; omega
    rw [e]
    clear e hr h c0 c2 hg ha q0 q1 q2 q3
    generalize (arcs.getD i Q.z95).f1 = x at *
    generalize arcs.length = m at *
    go_enter Tryz.func141, Tryz.ntmps141
    go_wp2_with fail
    go_ret
    exact ⟨rfl, rfl⟩

end Go.Proofs.YtjddimoeodecgaaGreat

/- What one turn of a search leaves as it was. -/
namespace Go.Proofs.YtjddimoeodecgaaGreat
open Go.RowKit Go.Lib Go.Proofs.YtjddimoeodecgaaGreatW.PrintWords Go.Proofs.YtjddimoeodecgaaGreatW.PrintLast Go.Proofs.YtjddimoeodecgaaGreatW.PrintMore
set_option linter.unusedVariables false
set_option maxRecDepth 100000

/-- A row of the lists of arcs: where its slice lies, where its cells lie. -/
theorem outs_row {w : World} {B : Nat} {ok : Nat → Prop} {OA : Option Addr} {oc : Nat} {L : List (List Int)} (h : (Kd.slice 3 (Kd.int .i64)).R 25 w B ok (.slice OA L.length oc) L) (i : Nat) (hi : i < L.length) :
    ∃ ad A0 c0, OA = some ad ∧ ok ad.block ∧ ad.block < w.heap.size ∧ w.cell? (ad.add i) = some (.slice A0 (L.getD i []).length c0) ∧ (L.getD i []).length ≤ c0 ∧
      ∀ k, k < (L.getD i []).length → ∃ a2, A0 = some a2 ∧ ok a2.block ∧ a2.block < w.heap.size ∧ w.cell? (a2.add k) = some (.int .i64 ((L.getD i []).getD k 0)) := by
  obtain ⟨ad, c, hv⟩ := Kd.R_slice1 h (by omega)
  injection hv with hA hn hc
  subst hA
  have hb := Kd.R_bound h
  obtain ⟨cs, hlen, hM, hcell⟩ := Kd.R_getA hb [] (i : Int) (by omega) (by omega)
  rw [Int.toNat_natCast] at hM hcell
  obtain ⟨v, rfl, hR⟩ := hM
  obtain ⟨A0, c0, rfl, hl0, _⟩ := Kd.R_reads hR
  have hbk := hb.1 ad.block (by simp [Value.ownBlock])
  have h0 := hcell 0 _ rfl
  rw [Nat.add_zero, show (Kd.slice 3 (Kd.int .i64)).sz = 1 from rfl, Nat.mul_one] at h0
  refine ⟨ad, A0, c0, rfl, hbk.1, hbk.2.2.1, h0, hl0, fun k hk => ?_⟩
  obtain ⟨a2, c2, hv2⟩ := Kd.R_slice1 hR (by omega)
  injection hv2 with hA2 hn2 hc2
  subst hA2
  obtain ⟨cs2, hlen2, hM2, hcell2⟩ := Kd.R_getA hR 0 (k : Int) (by omega) (by omega)
  rw [Int.toNat_natCast] at hM2 hcell2
  have e2 : cs2 = [Value.int .i64 ((L.getD i []).getD k 0)] := hM2
  subst e2
  have h2 := hcell2 0 _ rfl
  rw [Nat.add_zero, show (Kd.int .i64).sz = 1 from rfl, Nat.mul_one] at h2
  have hbk2 := hR.1 a2.block (by simp [Value.ownBlock])
  exact ⟨a2, rfl, hbk2.1.1, hbk2.1.2.2.1, h2⟩

section
variable {B K X db yb hp T ab N : Nat} {A : Option Addr} {m c : Nat} {back : Bool} {OA : Option Addr} {oc : Nat} {L : List (List Int)} {w w' : World} {v v' : Value} {ds : List Nat} {ys : List Int} {l l' : List Ent}
theorem IsSearch.turnBelow (h : IsSearch B K X db yb hp T ab N A m c back OA oc L w v ds ys l) (ht : HTurn T ab v w w' v') : Below B w w' := by
  have hB := h.bs.2.2.2
  have h1 := h.heap.tree.bT
  have h2 := h.heap.tree.bA
  refine ⟨ht.os, ht.tape, ht.output, ht.size, fun k hk => ?_⟩
  have hX := h.ltX
  have hbX := h.bs.1
  refine ht.block k (by omega) (by omega) (by omega) (fun e => ?_)
  have := (h.heap.tree.ltV k e).1
  omega
/-- What a search does not write. -/
def Kept (K db yb : Nat) (w w' : World) : Prop := ∀ k, k < K → k ≠ db → k ≠ yb → k < w.heap.size → w'.heap[k]? = w.heap[k]?
theorem Kept.refl (K db yb : Nat) (w : World) : Kept K db yb w w := fun _ _ _ _ _ => rfl
theorem Kept.trans {w1 w2 w3 : World} (h : Kept K db yb w1 w2) (k : Kept K db yb w2 w3) (hs : w1.heap.size ≤ w2.heap.size) : Kept K db yb w1 w3 := fun a h1 h2 h3 h4 => (k a h1 h2 h3 (by omega)).trans (h a h1 h2 h3 h4)
theorem Kept.below (h : Below w.heap.size w w') : Kept K db yb w w' := fun a _ _ _ h4 => h.block a h4
theorem IsSearch.turnKept (h : IsSearch B K X db yb hp T ab N A m c back OA oc L w v ds ys l) (ht : HTurn T ab v w w' v') : Kept K db yb w w' := by
  have h1 := h.heap.tree.bT
  have h2 := h.heap.tree.bA
  intro k hk _ _ hl
  refine ht.block k hl (by omega) (by omega) (fun e => ?_)
  have := (h.heap.tree.ltV k e).1
  omega
theorem Kept.setD (K db yb : Nat) (w : World) (i : Nat) (u : Value) : Kept K db yb w (w.setCell ⟨db, i, none⟩ u) := fun k _ h1 _ _ => heap_setCell_other w ⟨db, i, none⟩ k u h1
theorem Kept.setY (K db yb : Nat) (w : World) (i : Nat) (u : Value) : Kept K db yb w (w.setCell ⟨yb, i, none⟩ u) := fun k _ _ h2 _ => heap_setCell_other w ⟨yb, i, none⟩ k u h2
theorem Kept.cell (h : Kept K db yb w w') {a : Addr} (h1 : a.block < K) (h2 : a.block ≠ db) (h3 : a.block ≠ yb) (h4 : a.block < w.heap.size) : w'.cell? a = w.cell? a := World.cell?_of_block (w := w) (h a.block h1 h2 h3 h4)
end

end Go.Proofs.YtjddimoeodecgaaGreat

/- One turn of a search: near.next. -/
namespace Go.Proofs.YtjddimoeodecgaaGreat
open Go.RowKit Go.Lib Go.Proofs.YtjddimoeodecgaaGreatW.PrintWords Go.Proofs.YtjddimoeodecgaaGreatW.PrintLast Go.Proofs.YtjddimoeodecgaaGreatW.PrintMore
set_option linter.unusedVariables false
set_option maxRecDepth 100000

theorem add_block (a : Addr) (k : Nat) : (a.add k).block = a.block := by
  unfold Addr.add
  first | rfl | (split <;> rfl)
theorem Kept.cellAdd {K db yb : Nat} {w w' : World} (h : Kept K db yb w w') {a : Addr} (k : Nat) (h1 : a.block < K) (h2 : a.block ≠ db) (h3 : a.block ≠ yb) (h4 : a.block < w.heap.size) : w'.cell? (a.add k) = w.cell? (a.add k) :=
  h.cell (a := a.add k) (by rw [add_block]; exact h1) (by rw [add_block]; exact h2) (by rw [add_block]; exact h3) (by rw [add_block]; exact h4)

/-- What is so at each round. -/
structure NextAt (B K X db yb hp T ab N : Nat) (A : Option Addr) (arcs : List Q.S95) (c : Nat) (back : Bool) (OA : Option Addr) (oc : Nat) (L : List (List Int)) (w0 w1 : World) (may : Nat → Bool) (d0 : Nat) (row : List Int) (st0 : Se) (k : Nat) (st : Se) (v : Value) (w : World) : Prop where
  eq : st = (row.take k).foldl (relaxS back arcs may d0) st0
  srch : IsSearch B K X db yb hp T ab N A arcs.length c back OA oc L w v st.d st.y st.l
  ok : SeOk N st
  below : Below w0.heap.size w0 w
  kept : Kept K db yb w1 w
  size : w1.heap.size ≤ w.heap.size

theorem NextAt.step {B K X db yb hp T ab N : Nat} {A : Option Addr} {arcs : List Q.S95} {c : Nat} {back : Bool} {OA : Option Addr} {oc : Nat} {L : List (List Int)} {w0 w1 : World} {may : Nat → Bool} {d0 : Nat} {row : List Int} {st0 : Se} {k : Nat} {st : Se} {v : Value} {w : World}
    (h : NextAt B K X db yb hp T ab N A arcs c back OA oc L w0 w1 may d0 row st0 k st v w) (hg : Q.GOk N arcs) (hk : k < row.length) (j : Nat) (hj : row.getD k 0 = (j : Int)) (hjl : j < arcs.length) (st' : Se) (hst : st' = relaxS back arcs may d0 st (j : Int)) (v' : Value) (w' : World)
    (hs : IsSearch B K X db yb hp T ab N A arcs.length c back OA oc L w' v' st'.d st'.y st'.l) (hb : Below w0.heap.size w0 w') (hkp : Kept K db yb w w') (hsz : w.heap.size ≤ w'.heap.size) :
    NextAt B K X db yb hp T ab N A arcs c back OA oc L w0 w1 may d0 row st0 (k + 1) st' v' w' := by
  refine ⟨?_, hs, ?_, hb, h.kept.trans hkp h.size, Nat.le_trans h.size hsz⟩
  · rw [hst, List.take_add_one, List.foldl_append, ← h.eq, List.getElem?_eq_getElem hk]
    have : row[k] = (j : Int) := by rw [← hj, List.getD_eq_getElem?_getD, List.getElem?_eq_getElem hk]; rfl
    rw [this]
    rfl
  · rw [hst]
    exact relax_ok hg may d0 h.ok _ (by rw [Int.toNat_natCast]; exact hjl)

/-- What a turn leaves. -/
def nextS (back : Bool) (arcs : List Q.S95) (may : Nat → Bool) (L : List (List Int)) (st : Se) : Se := (L.getD (atE st.l 0).1 []).foldl (relaxS back arcs may (atE st.l 0).2) ⟨st.d, st.y, popF st.l⟩

set_option maxHeartbeats 4000000 in
theorem next_any {B K X db yb hp T ab N : Nat} {A : Option Addr} {arcs : List Q.S95} {c : Nat} {back : Bool} {OA : Option Addr} {oc : Nat} {L : List (List Int)} {v : Value} {ds : List Nat} {ys : List Int} {l : List Ent} (F : Nat) (caps : Array Value) (may : Nat → Bool) (w0 w : World)
    (h : IsSearch B K X db yb hp T ab N A arcs.length c back OA oc L w v ds ys l) (hr : Kd.C Q.k95 w0 A arcs.length arcs) (hw : Below w0.heap.size w0 w) (hBw : w0.heap.size ≤ B) (hg : Q.GOk N arcs) (hO : Q.OutsAt back N arcs arcs.length L) (hok : SeOk N ⟨ds, ys, l⟩) (hl : 0 < l.length)
    (hrun : ∀ (args : Array Value) (w : World), (callFunc F args).run Tryz.prog w = .ok (.enter F args) w)
    (hmay : ∀ (wx : World) (i : Nat), i < arcs.length → Below w0.heap.size w0 wx → Calls Tryz.prog F (#[.int .i64 i] ++ caps) wx fun e w' => e = .returned (.bool (may i)) ∧ Below wx.heap.size wx w') :
    Calls Tryz.prog 106 #[.pointer (some ⟨X, 0, none⟩), .func (.func F) #[] caps] w fun e w' => e = .returned (.tuple #[.int .i64 (atE l 0).1, .int .u64 (atE l 0).2, .bool true]) ∧
      ∃ v', IsSearch B K X db yb hp T ab N A arcs.length c back OA oc L w' v' (nextS back arcs may L ⟨ds, ys, l⟩).d (nextS back arcs may L ⟨ds, ys, l⟩).y (nextS back arcs may L ⟨ds, ys, l⟩).l ∧ SeOk N (nextS back arcs may L ⟨ds, ys, l⟩) ∧ Below w0.heap.size w0 w' := by
  have hfew : l.length ≤ 16384 := by have := hok.few; have := hg.n2; simp only at *; omega
  have hv0 : (atE l 0).1 < N := hok.idlt 0 hl
  have hd0 : (atE l 0).2 < 18446744073709551616 := by have := hok.key _ (atE_mem l 0 hl); rw [this]; exact hok.lt _
  have HPOP := Lib.hid (hpop_any K hp T ab N v l w h.heap hl hfew)
  have HPO := Lib.hid (pop_ok hok hl)
  generalize hfin : nextS back arcs may L ⟨ds, ys, l⟩ = fin at *
  have HFIN := Lib.hid hfin
  clear hfin
  generalize hst0 : (⟨ds, ys, popF l⟩ : Se) = st0 at *
  have HST0 := Lib.hid hst0
  clear hst0
  have y6 := h.x6
  have HR := Lib.hid hr
  have HW := Lib.hid hw
  have HG := Lib.hid hg
  have HO := Lib.hid hO
  have HMAY := Lib.hid hmay
  have H := Lib.hid h
  generalize he0 : atE l 0 = e0 at *
  have HE0 := Lib.hid he0
  clear he0
  obtain ⟨v0, d0⟩ := e0
  simp only at hv0 hd0
  simp only [] at HPOP
  clear hr hw hg hO hmay h hok
  go_enter Tryz.func106, Tryz.ntmps106
  go_upto_region 2 with (with_reducible refine HPOP.out.mono ?_; rintro e w1 ⟨rfl, v1, hh1, ht1⟩; have HH1 := Lib.hid hh1; have HT1 := Lib.hid ht1; clear hh1 ht1)
  clear HPOP y6
  have hs1 := H.out.turned HH1.out HT1.out
  have hw1 : Below w0.heap.size w0 w1 := HW.out.trans ((H.out.turnBelow HT1.out).mono hBw)
  obtain ⟨ad, A0, c0, rfl, okad, ltad, hcell, hc0, hin⟩ := outs_row hs1.outs v0 (by rw [HO.out.len]; exact hv0)
  have hLv : (v0 : Int) < (L.length : Int) := by rw [HO.out.len]; omega
  have y3 := hs1.x3
  have hrl := HO.out.few v0 hv0
  have hmm := HG.out.m
  have HMEM : Hid (∀ i ∈ L.getD v0 [], ∃ j : Nat, i = (j : Int) ∧ j < arcs.length) := Lib.hid (fun i hi => by
    obtain ⟨j, h1, _, h3, _⟩ := (HO.out.mem v0 i hv0).1 hi
    exact ⟨j, h1, h3⟩)
  generalize hrow : L.getD v0 [] = row at *
  have HROW := Lib.hid hrow
  have HIN := Lib.hid hin
  have HS1 := Lib.hid hs1
  have HW1 := Lib.hid hw1
  have HOKAD := Lib.hid okad
  clear hrow hin hs1 hw1 okad
  go_wp2_with fail
  clear hcell hLv y3
  go_loopg [31] row.length (fun gg s31 wr => ∃ k st vv, k ≤ row.length ∧ row.length - k ≤ gg ∧ s31 = .int .i64 (k : Nat) ∧ Hid (NextAt B K X db yb hp T ab N A arcs c back (some ad) oc L w0 w1 may d0 row st0 k st vv wr))
  case atStart =>
    refine ⟨0, st0, v1, by omega, by omega, rfl, Lib.hid ⟨rfl, ?_, HPO.out, HW1.out, Kept.refl _ _ _ _, Nat.le_refl _⟩⟩
    have e := HST0.out
    subst e
    exact HS1.out
  case round =>
    obtain ⟨k, st, vv, hk, hgg, rfl, HAT⟩ := hrel
    by_cases hlt : k < row.length
    · obtain ⟨j, hj, hjl⟩ := HMEM.out (row.getD k 0) (by rw [List.getD_eq_getElem?_getD, List.getElem?_eq_getElem hlt]; exact List.getElem_mem hlt)
      have HJ := Lib.hid hj
      obtain ⟨a2, rfl, oka2, lta2, hcell2⟩ := HIN.out k hlt
      have c6 := (HAT.out.kept.cellAdd k oka2.1 oka2.2.2.1 oka2.2.2.2 lta2).trans hcell2
      rw [hj] at c6
      have hra := Kd.C_below HR.out HAT.out.below
      have HFAR := Lib.hid (far_any HAT.out.srch hra HG.out j hjl)
      have hmem : arcs.getD j Q.z95 ∈ arcs := by rw [List.getD_eq_getElem?_getD, List.getElem?_eq_getElem hjl]; exact List.getElem_mem hjl
      obtain ⟨hwt0, hwt1⟩ := HG.out.wt _ hmem
      have hu := HG.out.tl back hmem
      have HREL : Hid (relaxS back arcs may d0 st (j : Int) = if addD d0 (arcs.getD j Q.z95).f2.toNat < st.d.getD (Q.tl back (arcs.getD j Q.z95)) 0 ∧ may j = true then ⟨st.d.set (Q.tl back (arcs.getD j Q.z95)) (addD d0 (arcs.getD j Q.z95).f2.toNat), st.y.set (Q.tl back (arcs.getD j Q.z95)) (j : Int), lowF st.l (Q.tl back (arcs.getD j Q.z95)) (addD d0 (arcs.getD j Q.z95).f2.toNat)⟩ else st) := Lib.hid rfl
      obtain ⟨adA, hA, a0, a1, a3⟩ := arc_at hra j hjl
      subst hA
      obtain ⟨wt, hwt⟩ : ∃ wt : Nat, (arcs.getD j Q.z95).f2 = (wt : Int) := ⟨_, (Int.toNat_of_nonneg hwt0).symm⟩
      rw [hwt, Int.toNat_natCast] at HREL
      rw [hwt] at a3 hwt1
      have HADD := Lib.hid (add_any d0 wt hd0 (by omega))
      have hnn := addD_lt d0 wt
      have y1 := HAT.out.srch.x1
      have y4 := HAT.out.srch.x4
      have z4 := HAT.out.srch.cD _ hu
      have hdu := HAT.out.ok.lt (Q.tl back (arcs.getD j Q.z95))
      have HNEXT := Lib.hid (fun st' hst v' w' hs hb hkp hsz => HAT.out.step HG.out hlt j hj hjl st' hst v' w' hs hb hkp hsz)
      generalize Q.tl back (arcs.getD j Q.z95) = u at *
      generalize addD d0 wt = nn at *
      generalize hdd : st.d.getD u 0 = du at *
      have HDD := Lib.hid hdd
      have hkz : (k : Int) < (row.length : Int) := by omega
      have hjz : (j : Int) < (arcs.length : Int) := by omega
      have huz : (u : Int) < (N : Int) := by omega
      have HMJ := Lib.hid (HMAY.out wr j hjl HAT.out.below)
      have hcv : IntKind.u64.wrap (wt : Int) = (wt : Int) := IntWalk.u64_in _ (by omega)
      have hk1 : k + 1 ≤ row.length := hlt
      have hwk : IntKind.i64.wrap ((k : Int) + 1) = ((k + 1 : Nat) : Int) := by rw [IntWalk.i64_in _ (by omega)]; omega
      clear hj hcell2 hra hmem hwt0 hwt1 a0 a1 hwt hdd hlt
      by_cases hless : nn < du
      · have hlz : (nn : Int) < (du : Int) := by omega
        cases hmj : may j with
        | true =>
          have HST' := Lib.hid (HREL.out.trans (if_pos ⟨hless, hmj⟩))
          rw [hmj] at HMJ
          clear HREL hmj
          go_upto_region 10 with (first | (with_reducible refine (HADD.out _).mono ?_; rintro e w' ⟨rfl, rfl⟩) | (with_reducible refine HFAR.out.mono ?_; rintro e w' ⟨rfl, rfl⟩) | (refine HMJ.out.mono ?_; rintro e wm ⟨rfl, hbm⟩; have HBM := Lib.hid hbm; clear hbm))
          have hsm := HAT.out.srch.below HBM.out
          have hkm : Kept K db yb wr wm := Kept.below HBM.out
          have hzm := HBM.out.size
          have hbm : Below w0.heap.size w0 wm := HAT.out.below.trans (HBM.out.mono (by have := HAT.out.below.size; omega))
          have HSM := Lib.hid hsm
          have HKM := Lib.hid hkm
          have HZM := Lib.hid hzm
          have HBM2 := Lib.hid hbm
          clear hsm hkm hzm hbm
          go_cut [] (fun wx => Hid (IsSearch B K X db yb hp T ab N (some adA) arcs.length c back (some ad) oc L wx vv (st.d.set u nn) (st.y.set u (j : Int)) st.l ∧ Below w0.heap.size w0 wx ∧ Kept K db yb wm wx ∧ wm.heap.size ≤ wx.heap.size))
          case first =>
            have b4 := HSM.out.x4
            have b5 := HSM.out.x5
            have b6 := HSM.out.cD u hu
            have b7 := HSM.out.cY u hu
            have b8 := HSM.out.fD u
            have b9 := HSM.out.fY u
            have d4 : wm.drew.cell? ⟨X, 4, none⟩ = some (.slice (some ⟨db, 0, none⟩) N N) := b4
            have d5 : wm.drew.cell? ⟨X, 5, none⟩ = some (.slice (some ⟨yb, 0, none⟩) N N) := b5
            have d6 : wm.drew.cell? ⟨db, u, none⟩ = some (.int .u64 (st.d.getD u 0 : Nat)) := b6
            have d7 : wm.drew.cell? ⟨yb, u, none⟩ = some (.int .i64 (st.y.getD u 0)) := b7
            have d8 : wm.drew.frozen? ⟨db, u, none⟩ = false := b8
            have d9 : wm.drew.frozen? ⟨yb, u, none⟩ = false := b9
            obtain ⟨n1, n2, n3⟩ := HSM.out.ne
            have n4 := Ne.symm n3
            go_region
            all_goals
              go_wp2_with fail
              go_meet
              have hs2 := (HSM.out.setD u nn).setY u (j : Int)
              have hb2 := (HBM2.out.setCell (p := ⟨db, u, none⟩) (by show w0.heap.size ≤ db; have := HSM.out.bs.2.1; omega) (.int .u64 (nn : Int))).setCell (p := ⟨yb, u, none⟩) (by show w0.heap.size ≤ yb; have := HSM.out.bs.2.2.1; omega) (.int .i64 (j : Int))
              have hk2 := (Kept.setD K db yb wm u (.int .u64 (nn : Int))).trans (Kept.setY K db yb _ u (.int .i64 (j : Int))) (by simp [World.setCell])
              exact Lib.hid ⟨hs2.below (Below.refl _ _).drew, hb2.drew, hk2.trans (Kept.below (Below.refl _ _).drew) (by simp [World.setCell]), by simp [World.setCell]⟩
          case rest =>
            have HC := Lib.hid hcut.out
            clear hcut
            have x6 := HC.out.1.x6
            have hq := HAT.out.ok
            have hfew2 := hq.few
            have hn2 := HG.out.n2
            have HLO := Lib.hid (lower_any K hp T ab N vv st.l u nn wc HC.out.1.heap hu hnn (by omega) (fun i hi he => by
              have h1 := hq.key _ (atE_mem st.l i hi)
              rw [he, HDD.out] at h1
              omega) (fun _ => by omega))
            clear hq hfew2 hn2
            go_upto_region 12 with (with_reducible refine HLO.out.mono ?_; rintro e w4 ⟨rfl, v4, hh4, ht4⟩; have HH4 := Lib.hid hh4; have HT4 := Lib.hid ht4; clear hh4 ht4)
            clear HLO x6
            go_wp2_with fail
            go_roundg (row.length - (k + 1))
            case measure => omega
            case rel =>
              have hs5 := HC.out.1.turned HH4.out HT4.out
              have hb5 : Below w0.heap.size w0 w4 := HC.out.2.1.trans ((HC.out.1.turnBelow HT4.out).mono hBw)
              have hk5 := (HKM.out.trans HC.out.2.2.1 HZM.out).trans (HC.out.1.turnKept HT4.out) (Nat.le_trans HZM.out HC.out.2.2.2)
              exact ⟨k + 1, ⟨st.d.set u nn, st.y.set u (j : Int), lowF st.l u nn⟩, v4, hk1, by omega, rfl, Lib.hid (HNEXT.out _ HST'.out.symm _ _ hs5 hb5 hk5 (Nat.le_trans HZM.out (Nat.le_trans HC.out.2.2.2 HT4.out.size)))⟩
        | false =>
          have HST' := Lib.hid (HREL.out.trans (if_neg (fun x => by rw [hmj] at x; exact absurd x.2 (by simp))))
          rw [hmj] at HMJ
          clear HREL hmj
          go_wp2_with (first | (with_reducible refine (HADD.out _).mono ?_; rintro e w' ⟨rfl, rfl⟩) | (with_reducible refine HFAR.out.mono ?_; rintro e w' ⟨rfl, rfl⟩) | (refine HMJ.out.mono ?_; rintro e wm ⟨rfl, hbm⟩; have HBM := Lib.hid hbm; clear hbm))
          go_roundg (row.length - (k + 1))
          case measure => omega
          case rel => exact ⟨k + 1, st, vv, hk1, by omega, rfl, Lib.hid (HNEXT.out _ HST'.out.symm _ _ (HAT.out.srch.below HBM.out) (HAT.out.below.trans (HBM.out.mono (by have := HAT.out.below.size; omega))) (Kept.below HBM.out) HBM.out.size)⟩
      · have hlz : ¬ (nn : Int) < (du : Int) := by omega
        have HST' := Lib.hid (HREL.out.trans (if_neg (fun x => hless x.1)))
        clear HREL
        go_wp2_with (first | (with_reducible refine (HADD.out _).mono ?_; rintro e w' ⟨rfl, rfl⟩) | (with_reducible refine HFAR.out.mono ?_; rintro e w' ⟨rfl, rfl⟩) | (refine HMJ.out.mono ?_; rintro e wm ⟨rfl, hbm⟩; have HBM := Lib.hid hbm; clear hbm))
        go_roundg (row.length - (k + 1))
        case measure => omega
        case rel => exact ⟨k + 1, st, vv, hk1, by omega, rfl, Lib.hid (HNEXT.out _ HST'.out.symm _ _ HAT.out.srch HAT.out.below (Kept.refl _ _ _ _) (Nat.le_refl _))⟩
    · have hke : k = row.length := by omega
      subst hke
      have hkz : ¬ (row.length : Int) < (row.length : Int) := by omega
      go_wp2_with fail
      go_ret3
      have e1 := HAT.out.eq
      rw [List.take_length] at e1
      have e2 : fin = st := by
        rw [e1, ← HFIN.out, ← HST0.out, ← HROW.out]
        unfold nextS
        rw [HE0.out]
      subst e2
      exact ⟨rfl, ⟨vv, HAT.out.srch⟩, HAT.out.ok, HAT.out.below⟩

end Go.Proofs.YtjddimoeodecgaaGreat
