/- The contracts of dist.Parse over this seat's translation: what each call answers; of what was there nothing turns. -/
import Derived.Handy
import Derived.Test.YtkakngnfbahhiaaDoorDistB
namespace Go.Proofs.YtkakngnfbahhiaaDoor
open Go.RowKit Go.Sort Go.Lib
set_option linter.unusedVariables false

theorem pu_ok (s : ByteArray) (hs : s.size ≤ 262144) (u : Nat) (h : Lib.parseUintB 64 s.data.toList = .ok u) (w : World) :
    Calls Tryd.prog 32 #[.string s, .int .i64 10, .int .i64 64] w fun e w' => e = .returned (.tuple #[.int .u64 u, .nilIface]) ∧ Below w.heap.size w w' := by
  refine (Tryd.strconv_ParseUint_10_at64_ok s (by omega) u h w).mono ?_
  rintro e w' ⟨rfl, rfl | rfl⟩
  · exact ⟨rfl, Below.refl _ _⟩
  · exact ⟨rfl, Go.Joins.below_bytesWorld _ _ _ _ (Nat.le_refl _)⟩

theorem pu_bad (s : ByteArray) (hs : s.size ≤ 262144) (h : ∀ u, Lib.parseUintB 64 s.data.toList ≠ .ok u) (w : World) (hl : Laid w) :
    Calls Tryd.prog 32 #[.string s, .int .i64 10, .int .i64 64] w fun e w' => ∃ (n : Nat) (t : TypeId) (N : Nat), e = .returned (.tuple #[.int .u64 n, .iface t (.pointer (some ⟨N, 0, none⟩))]) ∧ Below w.heap.size w w' := by
  rcases hp : Lib.parseUintB 64 s.data.toList with u | _ | _
  · exact absurd hp (h u)
  · obtain ⟨tp, p, hv⟩ := hl.syn
    refine (Any.strconv_ParseUint_10_at64_syntax_var Tryd.laysPu14 s (by omega) hp tp p w hv).mono ?_
    rintro e w' ⟨N, rfl, _, _, hb⟩
    exact ⟨0, _, N, rfl, hb⟩
  · obtain ⟨tp, p, hv⟩ := hl.rng
    refine (Any.strconv_ParseUint_10_at64_range_var Tryd.laysPu14 s (by omega) hp tp p w hv).mono ?_
    rintro e w' ⟨N, rfl, _, _, hb⟩
    exact ⟨18446744073709551615, _, N, rfl, hb⟩

def parseOut (s : ByteArray) : Value := .tuple #[.int .u64 (dParse s).1, .agg #[.int .i64 0, .int .i64 (dParse s).2]]
def pout (n c : Nat) : Value := .tuple #[.int .u64 n, .agg #[.int .i64 0, .int .i64 c]]
theorem parseOut_of {s : ByteArray} {n c : Nat} (h : dParse s = (n, c)) : parseOut s = pout n c := by unfold parseOut pout; rw [h]

/-- Behind a callee: the new block's cells stand. -/
theorem box_keep {w w' : World} {o : Obj} (hb : Below (w.alloc o).heap.size (w.alloc o) w') : (∀ i, w'.cell? ⟨w.heap.size, i, none⟩ = (w.alloc o).cell? ⟨w.heap.size, i, none⟩) ∧ (∀ i, w'.frozen? ⟨w.heap.size, i, none⟩ = (w.alloc o).frozen? ⟨w.heap.size, i, none⟩) :=
  ⟨fun i => hb.cell (p := ⟨w.heap.size, i, none⟩) (by simp), fun i => hb.frozen (p := ⟨w.heap.size, i, none⟩) (by simp)⟩

theorem box_below {w w' : World} {o : Obj} (hb : Below (w.alloc o).heap.size (w.alloc o) w') : Below w.heap.size w w' :=
  ((Below.refl _ _).alloc (Nat.le_refl _) _).trans (hb.mono (by simp))

def POut (s : ByteArray) (w : World) (e : Ending) (w' : World) : Prop := e = .returned (parseOut s) ∧ Below w.heap.size w w'

theorem parse_long (s : ByteArray) (h : 262144 < s.size) (w : World) : Calls Tryd.prog 16 #[.string s] w (POut s w) := by
  have e1 : parseOut s = pout 0 2 := parseOut_of (by unfold dParse; rw [if_pos h])
  have H1 := Lib.hid e1
  clear e1
  go_enter Tryd.func16, Tryd.ntmps16
  go_wp2
  refine bodyPost_ret (v := pout 0 2) (by simp [results, Tryd.results16, go_sem]; try rfl) rfl ⟨by rw [H1.out], ?_⟩
  exact (by go_grown)

theorem parse_inf (s : ByteArray) (h : s = infB) (w : World) : Calls Tryd.prog 16 #[.string s] w (POut s w) := by
  subst h
  have e1 : parseOut infB = pout 18446744073709551615 0 := parseOut_of (by unfold dParse; rw [if_neg (by decide), if_pos rfl])
  have H1 := Lib.hid e1
  clear e1
  unfold infB
  go_enter Tryd.func16, Tryd.ntmps16
  go_wp2
  refine bodyPost_ret (v := pout 18446744073709551615 0) (by simp [results, Tryd.results16, go_sem]; try rfl) rfl ⟨?_, ?_⟩
  · exact congrArg Ending.returned H1.out.symm
  · exact (by go_grown)

theorem str_ne {a b : ByteArray} (h : a ≠ b) : (a.toList == b.toList) = false := by
  rw [ByteArray.toList_eq, ByteArray.toList_eq, beq_eq_false_iff_ne]
  exact fun e => h (Go.WideShapes.bytes_inj e)
theorem str_eq {a b : ByteArray} (h : a = b) : (a.toList == b.toList) = true := by rw [h, beq_self_eq_true]
theorem inf_ne {s : ByteArray} (hi : s ≠ infB) : (s.toList == [105, 110, 102]) = false := by
  have := str_ne hi
  rwa [ByteArray.toList_eq infB] at this

theorem parse_bad (s : ByteArray) (hs : s.size ≤ 262144) (hi : s ≠ infB) (h : ∀ u, Lib.parseUintB 64 s.data.toList ≠ .ok u) (w : World) (hl : Laid w) : Calls Tryd.prog 16 #[.string s] w (POut s w) := by
  have e1 : parseOut s = pout 0 10 := parseOut_of (by
    unfold dParse
    rw [if_neg (by omega), if_neg hi]
    rcases hp : Lib.parseUintB 64 s.data.toList with u | _ | _
    · exact absurd hp (h u)
    · rfl
    · rfl)
  have H1 := Lib.hid e1
  have HB := Lib.hid h
  have HL : Laid (w.alloc (.cells #[.int .i64 0, .int .i64 0] 32)) := hl.stays ((Below.refl _ _).alloc (Nat.le_refl _) _)
  have hne := inf_ne hi
  clear e1 h hi hl
  go_enter Tryd.func16, Tryd.ntmps16
  go_wp2_with fail
  refine (pu_bad s hs HB.out _ HL).mono ?_
  rintro e w1 ⟨n, t, N, rfl, hb⟩
  obtain ⟨hc, hf⟩ := box_keep hb
  have hb0 := box_below hb
  go_wp2
  refine bodyPost_ret (v := pout 0 10) (by simp [results, Tryd.results16, hc, go_sem]; try rfl) rfl ⟨by rw [H1.out], ?_⟩
  go_grown

theorem parse_ok (s : ByteArray) (hs : s.size ≤ 262144) (hi : s ≠ infB) (u : Nat) (hu : u < 18446744073709551615) (h : Lib.parseUintB 64 s.data.toList = .ok u) (w : World) (hl : Laid w) : Calls Tryd.prog 16 #[.string s] w (POut s w) := by
  have HL : Laid (w.alloc (.cells #[.int .i64 0, .int .i64 0] 32)) := hl.stays ((Below.refl _ _).alloc (Nat.le_refl _) _)
  have hne := inf_ne hi
  have hnu : ((u : Int) == 18446744073709551615) = false := by rw [beq_eq_false_iff_ne]; omega
  have hsz : w.heap.size < (w.alloc (.cells #[.int .i64 0, .int .i64 0] 32)).heap.size := by simp
  by_cases ht : dText u = s
  · have e1 : parseOut s = pout u 0 := parseOut_of (by
      unfold dParse
      rw [if_neg (by omega), if_neg hi, h]
      simp only []
      rw [if_neg (fun hc => by rcases hc with hc | hc; (omega); exact hc ht)])
    have H1 := Lib.hid e1
    have hcmp := str_eq ht
    have HP := Lib.hid h
    clear e1 h hi hl ht
    go_enter Tryd.func16, Tryd.ntmps16
    go_wp2_with fail
    refine (pu_ok s hs u HP.out _).mono ?_
    rintro e w1 ⟨rfl, hb⟩
    have HL1 := HL.stays hb
    go_wp2_with fail
    refine (text_any u (by omega) _ HL1).mono ?_
    rintro e w2 ⟨rfl, hb2⟩
    have hb3 := hb.trans (hb2.mono hb.size)
    obtain ⟨hc, hf⟩ := box_keep hb3
    have hb0 := box_below hb3
    go_wp2
    refine bodyPost_ret (v := pout u 0) (by simp [results, Tryd.results16, hc, go_sem]; try rfl) rfl ⟨by rw [H1.out], ?_⟩
    go_grown
  · have e1 : parseOut s = pout 0 10 := parseOut_of (by
      unfold dParse
      rw [if_neg (by omega), if_neg hi, h]
      simp only []
      rw [if_pos (Or.inr ht)])
    have H1 := Lib.hid e1
    have hcmp := str_ne ht
    have HP := Lib.hid h
    clear e1 h hi hl ht
    go_enter Tryd.func16, Tryd.ntmps16
    go_wp2_with fail
    refine (pu_ok s hs u HP.out _).mono ?_
    rintro e w1 ⟨rfl, hb⟩
    have HL1 := HL.stays hb
    go_wp2_with fail
    refine (text_any u (by omega) _ HL1).mono ?_
    rintro e w2 ⟨rfl, hb2⟩
    have hb3 := hb.trans (hb2.mono hb.size)
    obtain ⟨hc, hf⟩ := box_keep hb3
    have hb0 := box_below hb3
    go_wp2
    refine bodyPost_ret (v := pout 0 10) (by simp [results, Tryd.results16, hc, go_sem]; try rfl) rfl ⟨by rw [H1.out], ?_⟩
    go_grown

theorem parse_max (s : ByteArray) (hs : s.size ≤ 262144) (hi : s ≠ infB) (h : Lib.parseUintB 64 s.data.toList = .ok 18446744073709551615) (w : World) : Calls Tryd.prog 16 #[.string s] w (POut s w) := by
  have hne := inf_ne hi
  have e1 : parseOut s = pout 0 10 := parseOut_of (by
    unfold dParse
    rw [if_neg (by omega), if_neg hi, h]
    simp only []
    rw [if_pos (Or.inl trivial)])
  have H1 := Lib.hid e1
  have HP := Lib.hid h
  clear e1 h hi
  go_enter Tryd.func16, Tryd.ntmps16
  go_wp2_with fail
  refine (pu_ok s hs 18446744073709551615 HP.out _).mono ?_
  rintro e w1 ⟨rfl, hb⟩
  obtain ⟨hc, hf⟩ := box_keep hb
  have hb0 := box_below hb
  go_wp2
  refine bodyPost_ret (v := pout 0 10) (by simp [results, Tryd.results16, hc, go_sem]; try rfl) rfl ⟨by rw [H1.out], ?_⟩
  go_grown

theorem parse_any (s : ByteArray) (w : World) (hl : Laid w) : Calls Tryd.prog 16 #[.string s] w (POut s w) := by
  by_cases h1 : 262144 < s.size
  · exact parse_long s h1 w
  · by_cases h2 : s = infB
    · exact parse_inf s h2 w
    · rcases hp : Lib.parseUintB 64 s.data.toList with u | _ | _
      · by_cases hu : u = 18446744073709551615
        · subst hu; exact parse_max s (by omega) h2 hp w
        · have hlt := parseB_lt hp
          exact parse_ok s (by omega) h2 u (by omega) hp w hl
      · exact parse_bad s (by omega) h2 (fun u h => by rw [hp] at h; cases h) w hl
      · exact parse_bad s (by omega) h2 (fun u h => by rw [hp] at h; cases h) w hl
end Go.Proofs.YtkakngnfbahhiaaDoor
