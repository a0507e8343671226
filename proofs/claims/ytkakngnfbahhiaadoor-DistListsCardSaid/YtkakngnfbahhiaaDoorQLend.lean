/- The contracts of LendDists, KeptDists, SpoilDists: what is lent is the beginning of a row of the call's own that bears a mark behind its end; it is kept where that row still stands; what is spoilt is one row. -/
import Derived.Test.YtkakngnfbahhiaaDoorQJoins
namespace Go.Proofs.YtkakngnfbahhiaaDoor.Q
open Go.RowKit Go.Proofs.YtkakngnfbahhiaaDoorW.PrintWords Go.Proofs.YtkakngnfbahhiaaDoorW.PrintLast
set_option linter.unusedVariables false

set_option maxHeartbeats 8000000 in
set_option maxRecDepth 100000 in
theorem lend_any (A0 : Option Addr) (c0 : Nat) (l0 : List Int) (w : World) (hr0 : Kd.C (Kd.int .u64) w A0 l0.length l0) (hc0 : l0.length ≤ c0) (hlen : l0.length < 17592186044415) :
    Calls Tryd.prog 21 #[.slice A0 l0.length c0] w fun e w' => ∃ A c, e = .returned (.slice A l0.length c) ∧ Kd.R (Kd.int .u64) 23 w' w.heap.size (fun _ => True) (.slice A (l0 ++ [77]).length c) (l0 ++ [77]) ∧ Below w.heap.size w w' := by
  have HR0 := Aside0.mk hr0
  have HC0 := Aside0.mk hc0
  have HL := Aside0.mk hlen
  clear hr0 hc0 hlen
  have HB := Aside0.mk (Below.refl w.heap.size w)
  go_enter Tryd.func21, Tryd.ntmps21
  go_wp2_with (first
    | ((with_reducible refine gate_dst (N := 4) rfl ?_); refine Kd.R_lit (Kd.int .u64) _ 23 ?hg (N := 4) ?hd (xs := ([] : List Int)) (inner := []) (ok := fun _ => True) (okp := fun _ => True) ?hr ?hp (fun _ hk => hk) trivial (Below.refl _ _) (Nat.le_refl _) (by simp) ?_; (case hd => rfl); (case hg => rfl); (case hr => first | (go_simp; done) | (go_simp; rfl)); (case hp => exact (Reps.none _ _)); intro v102 w6 ho7 hb hg_ hnew_; clear hg_ hnew_; have HO1 := Aside0.mk (Kd.R_lower ho7 (below_size HB.out)); have n1_ := Aside0.mk (below_step HB.out hb); clear HB; have HB := n1_; clear n1_; clear hb ho7)
    | ((with_reducible refine gate_builtin (b := .append) (xs := #[.tmp 4, .tmp 5]) rfl ?_); at_builtin; refine Kd.R_append_rows (Kd.int .u64) (w0 := w) w.heap.size rfl (.tmp 4) (.tmp 5) 40 23 (.int .u64 0) 8 rfl Tryd.underlying40 info23 rfl (by decide) (by omega) v102 ([] : List Int) l0 _ _ _ (fun _ => True) (fun _ => False) rfl rfl ?aO ?aR (fun _ _ h => h) (fun _ h => h.elim) ?aF ?aB ?aS ?aL ?_; (case aR => exact (Kd.C_below HR0.out HB.out)); (case aB => exact HB.out); (case aF => exact (fun _ _ => trivial)); (case aO => exact HO1.out); (case aS => exact (below_size HB.out)); (case aL => have := HL.out; simp; omega); intro v105 w8 ho hb hg hat; rw [List.nil_append] at ho; have HO2 := Aside0.mk ho; have n0_ := Aside0.mk hb; clear HB HO1; have HB := n0_; clear n0_; clear ho hb hg hat)
    | ((with_reducible refine gate_builtin (b := .append) (xs := #[.tmp 7, .tmp 8]) rfl ?_); at_builtin; refine Kd.R_append (Kd.int .u64) (w0 := w) w.heap.size rfl (.tmp 7) (.tmp 8) 40 23 (.int .u64 0) 8 rfl Tryd.underlying40 info23 rfl (by decide) (by omega) v105 l0 77 [.int .u64 77] (fun _ => True) (fun _ => False) rfl rfl ?aP (fun _ hk => hk.elim) ?aF ?aO ?aB ?aS ?aL ?_; (case aP => exact rfl); (case aB => exact (by repeat (first | exact HB.out | apply below_alloc | apply pw_below_drewN | apply below_drew1))); (case aF => exact (fun _ _ => trivial)); (case aO => exact (by (with_reducible repeat (first | apply Kd.R_alloc | apply Kd.R_drewN | apply Kd.R_drew)); exact HO2.out)); (case aS => exact (below_size (by repeat (first | exact HB.out | apply below_alloc | apply pw_below_drewN | apply below_drew1)))); (case aL => have := HL.out; omega); intro v108 w9 ho hb hg hat; have HO3 := Aside0.mk ho; have n0_ := Aside0.mk hb; clear HB HO2; have HB := n0_; clear n0_; clear ho hb hg hat; obtain ⟨Ao, co, eo⟩ := Kd.R_slice HO3.out; subst eo; obtain ⟨i0, hi0, _, hsz0, _⟩ := info_parts info23; have hcut := cut_to (P := Tryd.prog) 40 23 .i64 Tryd.underlying40 hi0 Ao (l0.length + 1) co (l0.length : Int) (by omega) (by omega) (by have := (Kd.R_reads' HO3.out).2.1; simpa using this); rw [Int.toNat_natCast] at hcut; clear hi0 hsz0))
  go_ret
  exact ⟨_, _, rfl, by (with_reducible repeat (first | apply Kd.R_alloc | apply Kd.R_drewN | apply Kd.R_drew)); exact HO3.out, by repeat (first | exact HB.out | apply below_alloc | apply pw_below_drewN | apply below_drew1)⟩

theorem same_neq_loop (l m : List Int) (hlm : l.length = m.length) (hn : l.length ≤ 4611686018427387904) (d : Nat) : ∀ (k i : Nat), i + d = l.length → d < k → (∃ j, i ≤ j ∧ ∃ (h : j < l.length) (h' : j < m.length), l[j] ≠ m[j]) → flyoverbook_SameDists.l0 k l m (i : Int) = some false := by
  induction d with
  | zero =>
    intro k i hi hk hj
    obtain ⟨j, hij, h, _⟩ := hj
    omega
  | succ d ih =>
    intro k i hi hk hj
    obtain ⟨k, rfl⟩ : ∃ m, k = m + 1 := ⟨k - 1, by omega⟩
    obtain ⟨j, hij, h, h', hne⟩ := hj
    have hlt : i < l.length := by omega
    simp only [flyoverbook_SameDists.l0]
    rw [if_pos (by omega), if_pos (by omega), if_pos (by omega)]
    have r1 : rd l (i : Int) = l[i] := by unfold rd; simp [hlt]
    have r2 : rd m (i : Int) = m[i] := by unfold rd; simp [show i < m.length by omega]
    rw [r1, r2, wrap_up (n := l.length) hlt hn]
    by_cases e : l[i] = m[i]
    · rw [if_pos e]
      refine ih k (i + 1) (by omega) (by omega) ⟨j, ?_, h, h', hne⟩
      rcases Nat.lt_or_ge i j with h1 | h1
      · exact h1
      · have : i = j := by omega
        subst this
        exact absurd e hne
    · rw [if_neg e]

theorem cut_up {P : Program} (t e : TypeId) (kh : IntKind) {i : TypeInfo} (ht : P.underlying t = some (.slice e)) (hi : P.info? e = some i) (A : Option Addr) (n c : Nat) (j : Int) (h0 : 0 ≤ j) (hm : j ≤ c) :
    ∀ W : World, (Instr.slice t (.slice A n c) none (some (.int kh j)) none).run P W = .ok (.slice A j.toNat c) W := by
  intro W
  have hel : P.elem t = e := by simp [Program.elem, ht]
  have hu : P.underlying t = some (.slice (P.elem t)) := by rw [hel]; exact ht
  have ha : (A.map fun x => x.add 0) = A := by cases A <;> simp [Addr.add]
  rw [run_slice_h W t A n c hu kh j h0 hm, hel]
  simp [sizeOf, typeInfo, hi, sliced, Result.andThen, ha]

/-- KeptDists of a lent row that still stands. -/
theorem kept_any (A : Option Addr) (c : Nat) (A0 : Option Addr) (c0 : Nat) (l0 : List Int) (w : World) (hr : Kd.C (Kd.int .u64) w A (l0 ++ [77]).length (l0 ++ [77])) (hc : l0.length + 1 ≤ c) (hr0 : Kd.C (Kd.int .u64) w A0 l0.length l0) (hc0 : l0.length ≤ c0) (hlen : l0.length < 17592186044415) :
    Calls Tryd.prog 29 #[.slice A l0.length c, .slice A0 l0.length c0] w fun e w' => e = .returned (.bool true) ∧ Drawn0 w w' := by
  have hpre : Kd.C (Kd.int .u64) w A l0.length l0 := by
    have h := Kd.C_take (m := l0.length) hr (by simp)
    rw [List.take_left' rfl] at h
    exact h
  have hs := flyoverbook_SameDists.calls (l0.length + 1) A c l0 A0 c0 l0 true w hpre (by omega) hr0 hc0 (same_f l0 (by omega) _ (by omega))
  obtain ⟨i0, hi0, _, hsz0, _⟩ := info_parts info23
  have hsl := cut_up (P := Tryd.prog) 40 23 .i64 Tryd.underlying40 hi0 A l0.length c ((l0.length : Int) + 1) (by omega) (by omega)
  rw [show ((l0.length : Int) + 1).toNat = l0.length + 1 by omega] at hsl
  obtain ⟨ad, rfl, hcell⟩ := hr.2.2 (by simp)
  obtain ⟨cc, hcl, hcr, hcu⟩ := hcell l0.length 77 (by simp)
  have hcc : cc = [.int .u64 77] := hcr
  subst hcc
  have h77 := hcu 0 (.int .u64 77) rfl
  have e1 : l0.length * (Kd.int .u64).sz + 0 = l0.length := by show l0.length * 1 + 0 = _; omega
  rw [e1] at h77
  obtain ⟨b, off, spot⟩ := ad
  have hspot : spot = none := by
    obtain ⟨x, hx⟩ : ∃ x, (l0 ++ [77])[0]? = some x := ⟨(l0 ++ [77])[0]'(by simp), by simp⟩
    obtain ⟨c2, _, hc2, hu2⟩ := hcell 0 x hx
    have hcc2 : c2 = [.int .u64 x] := hc2
    subst hcc2
    have h0 := hu2 0 (.int .u64 x) rfl
    have := World.cell?_spot h0
    simpa [Addr.add] using this
  subst hspot
  have h77' : w.cell? ⟨b, off + l0.length, none⟩ = some (.int .u64 77) := by rw [Lib.add_plain] at h77; exact h77
  have HS := Lib.hid hs
  clear hs hcell hcu hcr h77 hr hr0 hpre hi0 hsz0 e1 hcl
  go_enter Tryd.func29, Tryd.ntmps29
  go_wp2_with fail
  refine HS.out.mono ?_
  rintro e w1 ⟨rfl, ⟨nd, rfl⟩⟩
  go_wp2
  go_ret
  exact ⟨rfl, ⟨nd, rfl⟩⟩

/-- Nothing but block g has turned. -/
structure But (g : Nat) (w w' : World) : Prop where
  os : w'.os = w.os
  tape : w'.tape = w.tape
  output : w'.output = w.output
  size : w'.heap.size = w.heap.size
  block : ∀ k, k ≠ g → w'.heap[k]? = w.heap[k]?
theorem But.refl (g : Nat) (w : World) : But g w w := ⟨rfl, rfl, rfl, rfl, fun _ _ => rfl⟩
theorem But.setCell {g : Nat} {w w' : World} (h : But g w w') (i : Nat) (v : Value) : But g w (w'.setCell ⟨g, i, none⟩ v) :=
  ⟨h.os, h.tape, h.output, by rw [← h.size]; simp [World.setCell], fun k hk => by rw [Below.heap_setCell w' ⟨g, i, none⟩ v k hk]; exact h.block k hk⟩

/-- SpoilDists writes into the one row that it is handed. -/
theorem spoil_any (A : Option Addr) (n c : Nat) (m : Nat) (xs : List Int) (base : Nat) (ok : Nat → Prop) (w : World) (hm : m < 18446744073709551616) (hr : Kd.R (Kd.int .u64) 23 w base ok (.slice A n c) xs) (hcl : c ≤ 9223372036854775807) :
    Calls Tryd.prog 28 #[.slice A n c, .int .u64 m] w fun e w' => e = .returned (.tuple #[]) ∧ ∃ g, But g w w' ∧ (w = w' ∨ (Value.slice A n c).ownBlock = some g) := by
  obtain ⟨i0, hi0, _, hsz0, _⟩ := info_parts info23
  have hsl := cut_up (P := Tryd.prog) 40 23 .i64 Tryd.underlying40 hi0 A n c (c : Int) (by omega) (by omega)
  rw [Int.toNat_natCast] at hsl
  obtain ⟨h0, inner, ⟨_, ho⟩, _⟩ := hr
  rcases ho with ⟨hv, _⟩ | ⟨g, cap, cur, hv, hg, hh, hrest⟩
  · injection hv with h1 h2 h3
    subst h1 h2 h3
    clear hi0 hsz0 h0
    go_enter Tryd.func28, Tryd.ntmps28
    go_wp2
    refine wp_loop_rounds 1 ?_
    rw [rounds_succ]
    go_wp2
    go_end0
    exact ⟨rfl, 0, But.refl _ _, Or.inl rfl⟩
  · injection hv with h1 h2 h3
    subst h1 h2 h3
    obtain ⟨hn, _, hcs, _⟩ := hrest
    have hcs' : cur.size = c := by rw [hcs]; show c * 1 = c; omega
    clear hi0 hsz0 h0 hcs
    have HH := Lib.hid hh
    have HCS := Lib.hid hcs'
    clear hh hcs'
    go_enter Tryd.func28, Tryd.ntmps28
    go_wp2
    go_loopw [4] (fun i wr => ∃ (k : Nat) (cu : Array Value), k ≤ c ∧ i = .int .i64 k ∧ But g w wr ∧ wr.heap[g]? = some (.cells cu 23 (0, 0)) ∧ cu.size = c) (fun i _ => c - (Go.RowKit.intOf i).toNat)
    case atStart => exact ⟨0, cur, Nat.zero_le _, rfl, But.refl _ _, HH.out, HCS.out⟩
    case round =>
      obtain ⟨k, cu, hk, rfl, hbut, hcu, hcz⟩ := hrel
      by_cases hlt : k < c
      · have hcell : wr.cell? ⟨g, k, none⟩ = cu[k]? := Go.Joins.cell_of_block hcu k
        have hfr : wr.frozen? ⟨g, k, none⟩ = false := Go.Joins.unfrozen_of_block hcu k
        have hnew : (wr.setCell ⟨g, k, none⟩ (.int .u64 m)).heap[g]? = some (.cells (cu.setIfInBounds k (.int .u64 m)) 23 (0, 0)) := Go.Joins.block_setCell hcu _
        have hx : cu[k]? = some cu[k] := Array.getElem?_eq_getElem (by omega)
        rw [hx] at hcell
        generalize cu[k] = x at hcell
        have HN := Lib.hid hnew
        have HC := Lib.hid hcz
        have HU := Lib.hid hcu
        clear hnew hcz hcu hx
        go_wp2
        go_roundw
        case rel => exact ⟨k + 1, _, by omega, by go_num, hbut.setCell _ _, HN.out, by rw [Array.size_setIfInBounds]; exact HC.out⟩
        case measure => simp [Go.RowKit.intOf]; omega
      · go_wp2
        go_end0
        exact ⟨rfl, g, hbut, Or.inr rfl⟩

theorem cap_le {α : Type} {d : Kd α} {e : Nat} {w : World} {base : Nat} {ok : Nat → Prop} {A : Option Addr} {n c : Nat} {xs : List α} (h : d.R e w base ok (.slice A n c) xs) : c ≤ 9223372036854775807 := by
  obtain ⟨_, inner, ⟨_, ho⟩, _⟩ := h
  rcases ho with ⟨hv, _⟩ | ⟨g, cap, cur, hv, hg, hh, hn, hm, _⟩
  · injection hv with h1 h2 h3
    omega
  · injection hv with h1 h2 h3
    unfold maxLen at hm
    omega
theorem own_from {α : Type} {d : Kd α} {e : Nat} {w : World} {base : Nat} {ok : Nat → Prop} {v : Value} {g : Nat} {xs : List α} (h : d.R e w base ok v xs) (hg : v.ownBlock = some g) : base ≤ g := by
  obtain ⟨_, inner, ho, _⟩ := h
  exact own_base ho g hg
end Go.Proofs.YtkakngnfbahhiaaDoor.Q
