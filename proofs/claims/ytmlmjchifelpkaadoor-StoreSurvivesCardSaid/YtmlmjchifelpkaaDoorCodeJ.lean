/- The contract of package code's (*reader).number. -/
import Derived.Test.YtmlmjchifelpkaaDoorCodeI
import Derived.Deep.LoopGhost
import Derived.WalkSpells
namespace Go.Proofs.YtmlmjchifelpkaaDoor
open Go.RowKit Go.Lib
set_option linter.unusedVariables false
set_option maxRecDepth 100000

/-- Where a number's bytes end, and what is wrong with them (0: nothing). -/
def numScan : List UInt8 → Nat → Nat × Nat
  | [], k => (23, k)
  | c :: r, k => if k = 9 ∧ 1 < c.toNat then (22, k) else if c.toNat < 128 then (if c.toNat = 0 ∧ 0 < k then 22 else 0, k) else numScan r (k + 1)
/-- The number of groups of seven bits. -/
def numVal : List UInt8 → Nat
  | [] => 0
  | c :: r => c.toNat % 128 + 128 * numVal r

theorem numScan_le (l : List UInt8) : ∀ j c k, numScan l j = (c, k) → j ≤ k := by
  induction l with
  | nil => intro j c k h; simp [numScan] at h; omega
  | cons d l ih =>
    intro j c k h
    unfold numScan at h
    split at h
    · cases h; omega
    · split at h
      · cases h; omega
      · have := ih _ _ _ h; omega
theorem and127 (c : UInt8) : bits .and .u8 (c.toNat : Int) 127 = ((c.toNat % 128 : Nat) : Int) := by
  have h : ∀ m : Fin 256, (m.1 &&& 127) = m.1 % 128 := by decide +kernel
  have := h ⟨c.toNat, c.toNat_lt⟩
  simp only at this
  rw [show (127 : Int) = ((127 : Nat) : Int) from rfl, u8_and_nat _ _ c.toNat_lt (by decide), this]
theorem numVal_snoc (l : List UInt8) (c : UInt8) : numVal (l ++ [c]) = numVal l + c.toNat % 128 * 128 ^ l.length := by
  induction l with
  | nil => simp [numVal]
  | cons d l ih =>
    simp only [List.cons_append, numVal, ih, List.length_cons, Nat.pow_succ]
    rw [Nat.mul_add, Nat.add_assoc, Nat.mul_comm (128 ^ l.length) 128, ← Nat.mul_assoc, ← Nat.mul_assoc, Nat.mul_comm 128 (c.toNat % 128)]
theorem numVal_lt (l : List UInt8) : numVal l < 128 ^ l.length := by
  induction l with
  | nil => simp [numVal]
  | cons d l ih =>
    simp only [numVal, List.length_cons, Nat.pow_succ]
    omega

theorem num_step (pre : List UInt8) (c : UInt8) (j : Nat) (hl : pre.length = j) (hj : j ≤ 9) (h9 : j = 9 → c.toNat ≤ 1) :
    bits .or .u64 ((numVal pre : Nat) : Int) (IntKind.u64.wrap ((c.toNat : Int) % 128 * 2 ^ (7 * j))) = ((numVal (pre ++ [c]) : Nat) : Int) := by
  have hv := numVal_lt pre
  have hp : (2 : Nat) ^ (7 * j) = 128 ^ j := by rw [Nat.pow_mul]
  have hb : c.toNat % 128 * 128 ^ j + 128 ^ j ≤ 18446744073709551616 := by
    have : c.toNat % 128 * 128 ^ j + 128 ^ j = (c.toNat % 128 + 1) * 128 ^ j := by rw [Nat.add_mul, Nat.one_mul]
    rw [this]
    by_cases h : j = 9
    · have := h9 h
      subst h
      have h3 : c.toNat % 128 + 1 ≤ 2 := by omega
      exact Nat.le_trans (Nat.mul_le_mul_right _ h3) (by decide)
    · have h1 : 128 ^ j ≤ 128 ^ 8 := Nat.pow_le_pow_right (by decide) (by omega)
      have h2 : c.toNat % 128 + 1 ≤ 128 := by omega
      exact Nat.le_trans (Nat.mul_le_mul h2 h1) (by decide)
  have e : IntKind.u64.wrap ((c.toNat : Int) % 128 * 2 ^ (7 * j)) = ((c.toNat % 128 * 128 ^ j : Nat) : Int) := by
    have e1 : (c.toNat : Int) % 128 * 2 ^ (7 * j) = ((c.toNat % 128 * 128 ^ j : Nat) : Int) := by
      rw [← hp]
      push_cast
      rfl
    have hpos : 0 < 128 ^ j := Nat.pos_of_ne_zero (by simp)
    rw [e1, IntKind.wrap_u64]
    omega
  rw [e, u64_or_nat _ _ (by rw [hl] at hv; omega) (by have hpos : 0 < 128 ^ j := Nat.pos_of_ne_zero (by simp); omega), Nat.or_comm, nat_join (7 * j) _ _ (by rw [hp]; exact Nat.mul_mod_left _ _) (by rw [hp, ← hl]; exact hv), numVal_snoc, hl, Nat.add_comm]

/-- The reader's block. -/
def IsReader (w : World) (R : Nat) (b : ByteArray) (i : Nat) : Prop := w.heap[R]? = some (.cells #[.string b, .int .i64 i] 111 (0, 0))
theorem IsReader.c0 {w : World} {R : Nat} {b : ByteArray} {i : Nat} (h : IsReader w R b i) : w.cell? ⟨R, 0, none⟩ = some (.string b) := by simp [World.cell?, show w.heap[R]? = _ from h]
theorem IsReader.c1 {w : World} {R : Nat} {b : ByteArray} {i : Nat} (h : IsReader w R b i) : w.cell? ⟨R, 1, none⟩ = some (.int .i64 i) := by simp [World.cell?, show w.heap[R]? = _ from h]
theorem IsReader.thaw {w : World} {R : Nat} {b : ByteArray} {i : Nat} (h : IsReader w R b i) (j : Nat) : w.frozen? ⟨R, j, none⟩ = false := by simp [World.frozen?, show w.heap[R]? = _ from h]

theorem IsReader.set {w : World} {R : Nat} {b : ByteArray} {i : Nat} (h : IsReader w R b i) (n : Nat) : IsReader (w.setCell ⟨R, 1, none⟩ (.int .i64 n)) R b n := by
  unfold IsReader World.setCell
  simp only [Array.getElem?_modify, if_pos trivial, show w.heap[R]? = _ from h, Option.map_some]
  rfl
theorem IsReader.alloc {w : World} {R : Nat} {b : ByteArray} {i : Nat} (h : IsReader w R b i) (o : Obj) : IsReader (w.alloc o) R b i := (Below.heap_alloc _ _ _ (Array.getElem?_eq_some_iff.1 h).1).trans h

/-- Of what was there nothing turns but block R. -/
structure But (R : Nat) (w w' : World) : Prop where
  os : w'.os = w.os
  tape : w'.tape = w.tape
  output : w'.output = w.output
  size : w.heap.size ≤ w'.heap.size
  block : ∀ k, k < w.heap.size → k ≠ R → w'.heap[k]? = w.heap[k]?
section
variable {R : Nat} {w w' w'' : World}
theorem But.refl (R : Nat) (w : World) : But R w w := ⟨rfl, rfl, rfl, Nat.le_refl _, fun _ _ _ => rfl⟩
theorem But.trans (h : But R w w') (k : But R w' w'') : But R w w'' := ⟨k.os.trans h.os, k.tape.trans h.tape, k.output.trans h.output, Nat.le_trans h.size k.size, fun i hi hn => (k.block i (Nat.lt_of_lt_of_le hi h.size) hn).trans (h.block i hi hn)⟩
theorem But.of_below (h : Below w.heap.size w w') (R : Nat) : But R w w' := ⟨h.os, h.tape, h.output, h.size, fun k hk _ => h.block k hk⟩
theorem But.set (R : Nat) (w : World) (i : Nat) (v : Value) : But R w (w.setCell ⟨R, i, none⟩ v) := ⟨rfl, rfl, rfl, by simp [World.setCell], fun k _ hn => Below.heap_setCell _ _ _ _ hn⟩
theorem But.alloc (h : But R w w') (o : Obj) : But R w (w'.alloc o) := h.trans (But.of_below ((Below.refl _ _).alloc (Nat.le_refl _) o) R)
theorem But.below {K : Nat} (h : But R w w') (h1 : K ≤ w.heap.size) (h2 : K ≤ R) : Below K w w' := ⟨h.os, h.tape, h.output, h.size, fun k hk => h.block k (by omega) (by omega)⟩
end

/-- What number answers. -/
def NOut (R : Nat) (b : ByteArray) (i n : Nat) (fa fc : Int) (j : Nat) (w : World) (e : Ending) (w' : World) : Prop :=
  e = .returned (.tuple #[.int .u64 n, .agg #[.int .i64 fa, .int .i64 fc]]) ∧ IsReader w' R b j ∧ But R w w'

set_option maxHeartbeats 4000000 in
theorem number_any (R : Nat) (b : ByteArray) (i : Nat) (w : World) (hb : b.size ≤ 1000000) (hi : i ≤ b.size) (hR : IsReader w R b i) (k : Nat) (hk : numScan (b.data.toList.drop i) 0 = (0, k)) :
    Calls Tryd.prog 83 #[.pointer (some ⟨R, 0, none⟩)] w (NOut R b i (numVal ((b.data.toList.drop i).take (k + 1))) 0 0 (i + k + 1) w) := by
  have c0 := hR.c0
  have c1 := hR.c1
  have hRlt := World.block_lt_of_cell? w _ c0
  have HR := Lib.hid hR
  have HK := Lib.hid hk
  clear hR hk
  go_enter Tryd.func83, Tryd.ntmps83
  go_wp2_with fail
  go_step3
  go_wp2_with fail
  go_step3
  go_wp2_with fail
  have hR0 : IsReader (w.alloc (.cells #[.int .i64 0, .int .i64 0] 67)) R b i := (Below.heap_alloc _ _ _ hRlt).trans HR.out
  have HR0 := Lib.hid hR0
  clear hR0
  go_loopg [5] (k + 1) (fun gg s5 wr => ∃ m : Nat, m ≤ 9 ∧ m ≤ k ∧ k + 1 - m ≤ gg ∧ i + m ≤ b.size ∧ s5 = .int .i64 (i + m : Nat) ∧ wr = w.alloc (.cells #[.int .i64 0, .int .i64 0] 67) ∧ Hid (numScan (b.data.toList.drop (i + m)) m = (0, k)))
  case atStart => exact ⟨0, by omega, by omega, by omega, by omega, rfl, rfl, HK⟩
  case round =>
    obtain ⟨m, hm9, hmk, hgg, hmb, rfl, rfl, HM⟩ := hrel
    have hlt : i + m < b.size := by
      rcases Nat.lt_or_ge (i + m) b.size with h | h
      · exact h
      · have := HM.out
        rw [List.drop_eq_nil_of_le (by rw [← Lib.size_eq]; exact h)] at this
        simp [numScan] at this
    have hcons : b.data.toList.drop (i + m) = b[i + m] :: b.data.toList.drop (i + m + 1) := by
      rw [List.drop_eq_getElem_cons (by rw [← Lib.size_eq]; exact hlt)]; rfl
    have hsc := HM.out
    rw [hcons] at hsc
    unfold numScan at hsc
    have hnb : ¬ (m = 9 ∧ 1 < b[i + m].toNat) := by
      intro h; rw [if_pos h] at hsc; cases hsc
    rw [if_neg hnb] at hsc
    generalize hen : i + m = en at *
    have hei : ((en : Int) - (i : Int)) = ((m : Nat) : Int) := by omega
    have hlt' : ¬ (b.size : Int) ≤ (en : Int) := by omega
    have hlt2 : (en : Int) < (b.size : Int) := by omega
    have HC := Lib.hid hcons
    clear hcons
    by_cases hc : b[en].toNat < 128
    · rw [if_pos hc] at hsc
      simp only [Prod.mk.injEq] at hsc
      obtain ⟨hz, rfl⟩ := hsc
      have hz2 : ¬ (b[en].toNat = 0 ∧ 0 < m) := by intro h; rw [if_pos h] at hz; cases hz
      clear hz
      have hci : (b[en].toNat : Int) < 128 := by omega
      have HNB := Lib.hid hnb
      have HZ2 := Lib.hid hz2
      have HEN : Hid (i + m + 1 = en + 1) := by apply Lib.hid; omega
      clear hnb hz2 hen
      have hcomb : ∃ f : Bool, (f = true ∧ m = 9 ∧ ¬ (1 : Int) < (b[en].toNat : Int) ∧ ¬ (b[en].toNat : Int) = 0) ∨ (f = false ∧ ¬ (m : Int) = 9 ∧ ¬ (b[en].toNat : Int) = 0) ∨ (f = false ∧ ¬ (m : Int) = 9 ∧ (b[en].toNat : Int) = 0 ∧ ¬ (i : Int) < (en : Int)) := by
        have h1 := HNB.out
        have h2 := HZ2.out
        by_cases h9 : m = 9
        · exact ⟨true, .inl ⟨rfl, h9, by omega, by omega⟩⟩
        · by_cases hz : b[en].toNat = 0
          · exact ⟨false, .inr (.inr ⟨rfl, by omega, by omega, by omega⟩)⟩
          · exact ⟨false, .inr (.inl ⟨rfl, by omega, by omega⟩)⟩
      have HG : Hid (m = 9 → b[en].toNat ≤ 1) := by
        apply Lib.hid
        intro h
        have := HNB.out
        omega
      have hN : ((en : Int) - (i : Int) = 9 ∧ m = 9) ∨ ¬ (m : Int) = 9 := by omega
      obtain ⟨f, ⟨-, h9, hx1, hx2⟩ | ⟨-, h9, hx1⟩ | ⟨-, h9, hx1, hx2⟩⟩ := hcomb
      · have hei9 : (en : Int) - (i : Int) = 9 := by omega
        have H9 := Lib.hid h9
        clear hei hN h9
        go_wp2_with fail
        have hbz : (m : Nat) ≤ 9 := hm9
        go_loopg [6, 7] (m + 1) (fun gg s6 s7 wr => ∃ j : Nat, j ≤ m + 1 ∧ m + 1 - j ≤ gg ∧ s7 = .int .i64 (i + j : Nat) ∧ s6 = .int .u64 (numVal ((b.data.toList.drop i).take j) : Nat) ∧ wr = w.alloc (.cells #[.int .i64 0, .int .i64 0] 67))
        case atStart => exact ⟨0, by omega, by omega, rfl, rfl, rfl⟩
        case round =>
          obtain ⟨j, hj, hgj, rfl, rfl, rfl⟩ := hrel
          by_cases hjm : j ≤ m
          · have hqi : (((i + j : Nat) : Int) - (i : Int)) = ((j : Nat) : Int) := by omega
            have hq1 : ((i + j : Nat) : Int) ≤ (en : Int) := by omega
            have hq2 : i + j < b.size := by omega
            have hq3 : ((i + j : Nat) : Int) < (b.size : Int) := by omega
            have hq4 : (7 : Int) * (j : Int) ≤ 63 := by omega
            have ha := and127 b[i + j]
            have HST : Hid ((b.data.toList.drop i).take (j + 1) = (b.data.toList.drop i).take j ++ [b[i + j]]) := by
              apply Lib.hid
              rw [List.take_succ_eq_append_getElem (by rw [List.length_drop, ← Lib.size_eq]; omega), List.getElem_drop]
              rfl
            have hjl : ((b.data.toList.drop i).take j).length = j := by rw [List.length_take, List.length_drop, ← Lib.size_eq]; omega
            have H99 : Hid (j ≤ m) := hjm
            have h9j : j = 9 → b[i + j].toNat ≤ 1 := fun h => by
              have e : i + j = en := by have := HEN.out; have := H99.out; omega
              have := HG.out (by omega)
              simpa only [e] using this
            have HNS := Lib.hid (num_step _ b[i + j] j hjl (by omega) h9j)
            clear hjl h9j
            generalize hqq : i + j = q at *
            go_wp2_with fail
            go_roundg (m + 1 - (j + 1))
            case measure => omega
            case rel => exact ⟨j + 1, by omega, by omega, by rw [← hqq]; go_num, by rw [HST.out, ← HNS.out], rfl⟩
          · have hj2 : j = m + 1 := by omega
            subst hj2
            have hq1 : ¬ ((i + (m + 1) : Nat) : Int) ≤ (en : Int) := by have := HEN.out; omega
            have c0 := HR0.out.c1
            have f0 := HR0.out.thaw 1
            have hne : w.heap.size ≠ R := by omega
            go_wp2_with fail
            refine bodyPost_ret (v := .tuple #[.int .u64 (numVal ((b.data.toList.drop i).take (m + 1)) : Nat), .agg #[.int .i64 0, .int .i64 0]]) (by simp [results, Tryd.results83, go_sem]; try rfl) rfl ⟨rfl, ?_, ?_⟩
            · have h := (HR.out.set (en + 1)).alloc (.cells #[.int .i64 0, .int .i64 0] 67)
              rw [HEN.out]
              exact h
            · exact (But.set R w 1 _).alloc _
      · clear hN
        go_wp2_with fail
        have hbz : (m : Nat) ≤ 9 := hm9
        go_loopg [6, 7] (m + 1) (fun gg s6 s7 wr => ∃ j : Nat, j ≤ m + 1 ∧ m + 1 - j ≤ gg ∧ s7 = .int .i64 (i + j : Nat) ∧ s6 = .int .u64 (numVal ((b.data.toList.drop i).take j) : Nat) ∧ wr = w.alloc (.cells #[.int .i64 0, .int .i64 0] 67))
        case atStart => exact ⟨0, by omega, by omega, rfl, rfl, rfl⟩
        case round =>
          obtain ⟨j, hj, hgj, rfl, rfl, rfl⟩ := hrel
          by_cases hjm : j ≤ m
          · have hqi : (((i + j : Nat) : Int) - (i : Int)) = ((j : Nat) : Int) := by omega
            have hq1 : ((i + j : Nat) : Int) ≤ (en : Int) := by omega
            have hq2 : i + j < b.size := by omega
            have hq3 : ((i + j : Nat) : Int) < (b.size : Int) := by omega
            have hq4 : (7 : Int) * (j : Int) ≤ 63 := by omega
            have ha := and127 b[i + j]
            have HST : Hid ((b.data.toList.drop i).take (j + 1) = (b.data.toList.drop i).take j ++ [b[i + j]]) := by
              apply Lib.hid
              rw [List.take_succ_eq_append_getElem (by rw [List.length_drop, ← Lib.size_eq]; omega), List.getElem_drop]
              rfl
            have hjl : ((b.data.toList.drop i).take j).length = j := by rw [List.length_take, List.length_drop, ← Lib.size_eq]; omega
            have H99 : Hid (j ≤ m) := hjm
            have h9j : j = 9 → b[i + j].toNat ≤ 1 := fun h => by
              have e : i + j = en := by have := HEN.out; have := H99.out; omega
              have := HG.out (by omega)
              simpa only [e] using this
            have HNS := Lib.hid (num_step _ b[i + j] j hjl (by omega) h9j)
            clear hjl h9j
            generalize hqq : i + j = q at *
            go_wp2_with fail
            go_roundg (m + 1 - (j + 1))
            case measure => omega
            case rel => exact ⟨j + 1, by omega, by omega, by rw [← hqq]; go_num, by rw [HST.out, ← HNS.out], rfl⟩
          · have hj2 : j = m + 1 := by omega
            subst hj2
            have hq1 : ¬ ((i + (m + 1) : Nat) : Int) ≤ (en : Int) := by have := HEN.out; omega
            have c0 := HR0.out.c1
            have f0 := HR0.out.thaw 1
            have hne : w.heap.size ≠ R := by omega
            go_wp2_with fail
            refine bodyPost_ret (v := .tuple #[.int .u64 (numVal ((b.data.toList.drop i).take (m + 1)) : Nat), .agg #[.int .i64 0, .int .i64 0]]) (by simp [results, Tryd.results83, go_sem]; try rfl) rfl ⟨rfl, ?_, ?_⟩
            · have h := (HR.out.set (en + 1)).alloc (.cells #[.int .i64 0, .int .i64 0] 67)
              rw [HEN.out]
              exact h
            · exact (But.set R w 1 _).alloc _
      · clear hN
        go_wp2_with fail
        have hbz : (m : Nat) ≤ 9 := hm9
        go_loopg [6, 7] (m + 1) (fun gg s6 s7 wr => ∃ j : Nat, j ≤ m + 1 ∧ m + 1 - j ≤ gg ∧ s7 = .int .i64 (i + j : Nat) ∧ s6 = .int .u64 (numVal ((b.data.toList.drop i).take j) : Nat) ∧ wr = w.alloc (.cells #[.int .i64 0, .int .i64 0] 67))
        case atStart => exact ⟨0, by omega, by omega, rfl, rfl, rfl⟩
        case round =>
          obtain ⟨j, hj, hgj, rfl, rfl, rfl⟩ := hrel
          by_cases hjm : j ≤ m
          · have hqi : (((i + j : Nat) : Int) - (i : Int)) = ((j : Nat) : Int) := by omega
            have hq1 : ((i + j : Nat) : Int) ≤ (en : Int) := by omega
            have hq2 : i + j < b.size := by omega
            have hq3 : ((i + j : Nat) : Int) < (b.size : Int) := by omega
            have hq4 : (7 : Int) * (j : Int) ≤ 63 := by omega
            have ha := and127 b[i + j]
            have HST : Hid ((b.data.toList.drop i).take (j + 1) = (b.data.toList.drop i).take j ++ [b[i + j]]) := by
              apply Lib.hid
              rw [List.take_succ_eq_append_getElem (by rw [List.length_drop, ← Lib.size_eq]; omega), List.getElem_drop]
              rfl
            have hjl : ((b.data.toList.drop i).take j).length = j := by rw [List.length_take, List.length_drop, ← Lib.size_eq]; omega
            have H99 : Hid (j ≤ m) := hjm
            have h9j : j = 9 → b[i + j].toNat ≤ 1 := fun h => by
              have e : i + j = en := by have := HEN.out; have := H99.out; omega
              have := HG.out (by omega)
              simpa only [e] using this
            have HNS := Lib.hid (num_step _ b[i + j] j hjl (by omega) h9j)
            clear hjl h9j
            generalize hqq : i + j = q at *
            go_wp2_with fail
            go_roundg (m + 1 - (j + 1))
            case measure => omega
            case rel => exact ⟨j + 1, by omega, by omega, by rw [← hqq]; go_num, by rw [HST.out, ← HNS.out], rfl⟩
          · have hj2 : j = m + 1 := by omega
            subst hj2
            have hq1 : ¬ ((i + (m + 1) : Nat) : Int) ≤ (en : Int) := by have := HEN.out; omega
            have c0 := HR0.out.c1
            have f0 := HR0.out.thaw 1
            have hne : w.heap.size ≠ R := by omega
            go_wp2_with fail
            refine bodyPost_ret (v := .tuple #[.int .u64 (numVal ((b.data.toList.drop i).take (m + 1)) : Nat), .agg #[.int .i64 0, .int .i64 0]]) (by simp [results, Tryd.results83, go_sem]; try rfl) rfl ⟨rfl, ?_, ?_⟩
            · have h := (HR.out.set (en + 1)).alloc (.cells #[.int .i64 0, .int .i64 0] 67)
              rw [HEN.out]
              exact h
            · exact (But.set R w 1 _).alloc _
    · rw [if_neg hc] at hsc
      have hci : ¬ (b[en].toNat : Int) < 128 := by omega
      have h9' : ¬ (m : Int) = 9 := by omega
      have HM2 := Lib.hid hsc
      have hmk2 := numScan_le _ _ _ _ hsc
      clear hsc hnb HM
      go_wp2_with fail
      go_roundg (k + 1 - (m + 1))
      case measure => omega
      case rel => exact ⟨m + 1, by omega, by omega, by omega, by omega, by rw [← hen]; go_num, rfl, by rw [← Nat.add_assoc, hen]; exact HM2⟩

end Go.Proofs.YtmlmjchifelpkaaDoor
