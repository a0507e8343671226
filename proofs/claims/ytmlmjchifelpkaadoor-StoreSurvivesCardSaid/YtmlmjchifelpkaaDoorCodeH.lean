/- The contract of package code's Unframe. -/
import Derived.Test.YtmlmjchifelpkaaDoorCodeC
import Derived.Laws.ResultCell
import Derived.WalkSmall
namespace Go.Proofs.YtmlmjchifelpkaaDoor
open Go.RowKit Go.Lib
set_option linter.unusedVariables false
set_option maxRecDepth 100000

/-- What Unframe answers. -/
def UOut (s : ByteArray) (en fa fc : Int) (w : World) (e : Ending) (w' : World) : Prop := e = .returned (.tuple #[.string s, .int .i64 en, .agg #[.int .i64 fa, .int .i64 fc]]) ∧ Below w.heap.size w w'

/-- The fault's variable, behind a call that turned nothing. -/
theorem fault_keep {w w1 : World} {x y : Value} {t : TypeId} (hb : Below (w.alloc (.cells #[x, y] t)).heap.size (w.alloc (.cells #[x, y] t)) w1) :
    w1.cell? ⟨w.heap.size, 0, none⟩ = some x ∧ w1.cell? ⟨w.heap.size, 1, none⟩ = some y ∧ w1.frozen? ⟨w.heap.size, 0, none⟩ = false ∧ w1.frozen? ⟨w.heap.size, 1, none⟩ = false ∧ Below w.heap.size w w1 := by
  have h := (hb.block w.heap.size (by simp)).trans (heap_alloc_new w _)
  refine ⟨?_, ?_, ?_, ?_, ((Below.refl _ _).alloc (Nat.le_refl _) _).trans (hb.mono (by simp))⟩ <;> simp [World.cell?, World.frozen?, h]

theorem unfour_b (s : ByteArray) (w : World) (h : 4 ≤ s.size) (n : Nat) (hn : n = unfourP s[0] s[1] s[2] s[3]) : Calls Tryd.prog 49 #[.string s] w fun e w' => e = .returned (.int .u32 n) ∧ Below w.heap.size w w' :=
  (unfour_any s w h).mono fun e w' ⟨h1, q, h2⟩ => by
    subst hn
    refine ⟨h1, ?_⟩
    subst h2
    exact ⟨rfl, rfl, rfl, Nat.le_refl _, fun _ _ => rfl⟩

theorem unframe_short (b : ByteArray) (i : Nat) (w : World) (hb : b.size ≤ 1000000) (hi : i ≤ b.size) (h : b.size < i + 8) : Calls Tryd.prog 36 #[.string b, .int .i64 i] w (UOut ⟨#[]⟩ 0 i 23 w) := by
  have h0 : ¬ (b.size : Int) < (i : Int) := by omega
  have h1 : ((b.size - i : Nat) : Int) < 8 := by omega
  go_enter Tryd.func36, Tryd.ntmps36
  go_wp2_with fail
  refine bodyPost_ret (v := .tuple #[.string ⟨#[]⟩, .int .i64 0, .agg #[.int .i64 i, .int .i64 23]]) (by simp [results, Tryd.results36, go_sem]; try rfl) rfl ⟨rfl, ?_⟩
  exact (Below.refl _ _).alloc (Nat.le_refl _) _

theorem unframe_long (b r : ByteArray) (i n : Nat) (w : World) (hb : b.size ≤ 1000000) (hi : i + 8 ≤ b.size) (hr : r = b.extract i b.size) (h4 : 8 ≤ r.size) (hn : n = unfourP r[0] r[1] r[2] r[3]) (h : 262144 < n) (h32 : n < 4294967296) :
    Calls Tryd.prog 36 #[.string b, .int .i64 i] w (UOut ⟨#[]⟩ 0 i 2 w) := by
  have h0 : ¬ (b.size : Int) < (i : Int) := by omega
  have h1 : ¬ ((b.size - i : Nat) : Int) < 8 := by omega
  have HU := Lib.hid (fun w => unfour_b r w (by omega) n hn)
  have hnz : (262144 : Int) < (n : Int) := by omega
  have HR := Lib.hid hr
  clear hn hr
  go_enter Tryd.func36, Tryd.ntmps36
  go_wp2_with fail
  rw [← HR.out]
  refine (HU.out _).mono ?_
  rintro e w1 ⟨rfl, hb1⟩
  obtain ⟨c0, c1, f0, f1, hb2⟩ := fault_keep hb1
  have HB2 := Lib.hid hb2
  have q2 := hb1.size
  clear hb1 hb2
  go_wp2_with fail
  refine bodyPost_ret (v := .tuple #[.string ⟨#[]⟩, .int .i64 0, .agg #[.int .i64 i, .int .i64 2]]) (by simp [results, Tryd.results36, go_sem, c0, c1]; try rfl) rfl ⟨rfl, ?_⟩
  exact (HB2.out.setCell (Nat.le_refl _) _).setCell (Nat.le_refl _) _

theorem unframe_cut (b r : ByteArray) (i n : Nat) (w : World) (hb : b.size ≤ 1000000) (hi : i + 8 ≤ b.size) (hr : r = b.extract i b.size) (h4 : 8 ≤ r.size) (hn : n = unfourP r[0] r[1] r[2] r[3]) (h : n ≤ 262144) (hc : r.size < n + 8) :
    Calls Tryd.prog 36 #[.string b, .int .i64 i] w (UOut ⟨#[]⟩ 0 i 23 w) := by
  have h0 : ¬ (b.size : Int) < (i : Int) := by omega
  have h1 : ¬ ((b.size - i : Nat) : Int) < 8 := by omega
  have HU := Lib.hid (fun w => unfour_b r w (by omega) n hn)
  have hnz : ¬ (262144 : Int) < (n : Int) := by omega
  have hsz : b.size - i = r.size := by rw [hr]; simp
  have hcz : (r.size : Int) - 8 < (n : Int) := by omega
  have HR := Lib.hid hr
  clear hn hr
  go_enter Tryd.func36, Tryd.ntmps36
  go_wp2_with fail
  rw [← HR.out]
  refine (HU.out _).mono ?_
  rintro e w1 ⟨rfl, hb1⟩
  obtain ⟨c0, c1, f0, f1, hb2⟩ := fault_keep hb1
  have HB2 := Lib.hid hb2
  have q2 := hb1.size
  clear hb1 hb2
  go_wp2_with fail
  refine bodyPost_ret (v := .tuple #[.string ⟨#[]⟩, .int .i64 0, .agg #[.int .i64 i, .int .i64 23]]) (by simp [results, Tryd.results36, go_sem, c0, c1]; try rfl) rfl ⟨rfl, ?_⟩
  exact (HB2.out.setCell (Nat.le_refl _) _).setCell (Nat.le_refl _) _

theorem unframe_ok (b r bd t : ByteArray) (i n m : Nat) (w : World) (hb : b.size ≤ 1000000) (hi : i + 8 ≤ b.size) (hr : r = b.extract i b.size) (h4 : 8 ≤ r.size) (hn : n = unfourP r[0] r[1] r[2] r[3]) (h : n ≤ 262144) (hc : n + 8 ≤ r.size)
    (hbd : bd = r.extract 8 (8 + n)) (ht : t = r.extract 4 r.size) (h5 : 4 ≤ t.size) (hm : m = unfourP t[0] t[1] t[2] t[3]) (hl : Laid w) (hs : crcP bd = m) :
    Calls Tryd.prog 36 #[.string b, .int .i64 i] w (UOut bd (i + 8 + n : Nat) 0 0 w) := by
  have h0 : ¬ (b.size : Int) < (i : Int) := by omega
  have h1 : ¬ ((b.size - i : Nat) : Int) < 8 := by omega
  have HU := Lib.hid (fun w => unfour_b r w (by omega) n hn)
  have HV : Hid (∀ (w : World) (q : Nat), Calls Tryd.prog 49 #[.string (r.extract 4 r.size)] (w.drewN q) fun e w' => e = .returned (.int .u32 m) ∧ ∃ q', w' = (w.drewN q).drewN q') := by
    intro w q
    rw [← ht, hm]
    exact unfour_any t _ h5
  have HC : Hid (∀ (w : World) (q : Nat), Laid w → Calls Tryd.prog 50 #[.string bd] (w.drewN q) fun e w' => e = .returned (.int .u32 m) ∧ w' = w.drewN q) := by
    intro w q hlw
    rw [← hs]
    exact (crc_any bd (w.drewN q) (by rw [hbd]; unfold maxLen; simp; omega) hlw).mono fun _ _ ⟨x, y⟩ => ⟨x, y.symm⟩
  have hnz : ¬ (262144 : Int) < (n : Int) := by omega
  have hsz : b.size - i = r.size := by rw [hr]; simp
  have hcz : ¬ (r.size : Int) - 8 < (n : Int) := by omega
  have hcz2 : (n : Int) ≤ (r.size : Int) - 8 := by omega
  have hq1 : (8 : Int) + (n : Int) ≤ (r.size : Int) := by omega
  have hq2 : (8 : Int) ≤ 8 + (n : Int) := by omega
  have hq3 : (8 : Int) ≤ (r.size : Int) := by omega
  have hq4 : ((8 : Int) + (n : Int)).toNat = 8 + n := by omega
  have hbs : bd.size = n := by rw [hbd]; simp; omega
  have hbsz : bd.size ≤ maxLen := by unfold maxLen; omega
  have HR := Lib.hid hr
  have HBD := Lib.hid hbd
  have HTT := Lib.hid ht
  have HL := Lib.hid hl
  have HS := Lib.hid hs
  have HBS := Lib.hid hbs
  clear hn hr hm hbd ht hl hs hbs
  go_enter Tryd.func36, Tryd.ntmps36
  go_wp2_with fail
  rw [← HR.out]
  refine (HU.out _).mono ?_
  rintro e w1 ⟨rfl, hb1⟩
  obtain ⟨c0, c1, f0, f1, hb2⟩ := fault_keep hb1
  have HB2 := Lib.hid hb2
  have q2 := hb1.size
  clear hb1 hb2
  go_wp2_with fail
  rw [← HBD.out]
  have hl1 := HL.out.stays HB2.out (Nat.le_refl _)
  have HL1 := Lib.hid hl1
  clear hl1
  have hq4 : (4 : Int) ≤ (r.size : Int) := by omega
  go_quiet ((first | (go_at_call 50; exact Calls.quiet_of_same (HC.out _ _ HL1.out)) | (go_at_call 49; exact Calls.quiet_of (HV.out _ _))))
  go_wp2_with fail
  refine bodyPost_ret (v := .tuple #[.string bd, .int .i64 (i + 8 + n : Nat), .agg #[.int .i64 0, .int .i64 0]]) (by simp [results, Tryd.results36, go_sem, c0, c1]; try rfl) rfl ⟨rfl, ?_⟩
  exact ((below_drewN HB2.out _).setCell (Nat.le_refl _) _).setCell (Nat.le_refl _) _

end Go.Proofs.YtmlmjchifelpkaaDoor
