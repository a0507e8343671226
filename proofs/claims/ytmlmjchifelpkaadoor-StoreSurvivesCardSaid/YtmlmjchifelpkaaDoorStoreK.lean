/- What a store's replay computes over records, and a torn one at the end. -/
import Derived.Test.YtmlmjchifelpkaaDoorStoreJ
import Derived.Defers
import Derived.Recover
namespace Go.Proofs.YtmlmjchifelpkaaDoor
open Go.RowKit Go.Lib Go.Maps Go.Sort
set_option linter.unusedVariables false
set_option maxRecDepth 100000

theorem late_idle (w : World) : CallsD Tryd.prog 35 #[] .returning w fun e u' w' => e = .returned (.tuple #[]) ∧ u' = .returning ∧ w' = w := by
  refine callsD_of_wpS Tryd.func35 rfl fun c₀ cs hu => ?_
  apply wpS_seq
  apply wpS_region
  simp [wpOpsS, go_sem, recoverD, hu, Tryd.ntmps35, Exit.thenS]
  apply wpS_seq
  apply wpS_region
  simp [wpOpsS, go_sem, Exit.thenS]
  refine wpS_cond (t := false) (by simp [Act.eval, Array.replicate]) ?_
  simp only [Bool.false_eq_true, if_false]
  refine wpS_of_wp (wp_skip ?_)
  cases c₀
  simp_all [bodyPostS, results, Tryd.results35]

/-- The bytes of records. -/
def recL (r : ByteArray × ByteArray) : List UInt8 := (recP r.1 r.2).data.toList
def recsL (l : List (ByteArray × ByteArray)) : List UInt8 := l.flatMap recL
/-- What a record may be. -/
def RecOk (r : ByteArray × ByteArray) : Prop := (1 ≤ r.1.size ∧ r.1.size ≤ 64) ∧ r.2.size ≤ 65536
theorem recL_eq (r : ByteArray × ByteArray) : recL r = frameL ⟨(encL [r.1, r.2]).toArray⟩ := by unfold recL recP; rw [frameP_eq]

theorem recsL_snoc (l : List (ByteArray × ByteArray)) (k : Nat) (r : ByteArray × ByteArray) (h : l[k]? = some r) : recsL (l.take (k + 1)) = recsL (l.take k) ++ recL r := by
  obtain ⟨hk, hx⟩ := List.getElem?_eq_some_iff.1 h
  unfold recsL
  rw [List.take_succ_eq_append_getElem hk, List.flatMap_append, hx]
  simp only [List.flatMap_cons, List.flatMap_nil, List.append_nil]
theorem recsL_drop (l : List (ByteArray × ByteArray)) (k : Nat) (r : ByteArray × ByteArray) (h : l[k]? = some r) : recsL l = recsL (l.take k) ++ (recL r ++ recsL (l.drop (k + 1))) := by
  obtain ⟨hk, hx⟩ := List.getElem?_eq_some_iff.1 h
  have e : l = l.take k ++ (r :: l.drop (k + 1)) := by rw [← hx, ← List.drop_eq_getElem_cons hk, List.take_append_drop]
  conv => lhs; rw [e]
  unfold recsL
  rw [List.flatMap_append, List.flatMap_cons]

theorem replay_any (b : ByteArray) (l : List (ByteArray × ByteArray)) (s : ByteArray) (j : Nat) (F : Nat) (caps : Array Value) (I : Nat → World → Prop) (w : World) (hb : b.size ≤ 1000000) (hl : ∀ r ∈ l, RecOk r) (hs : s.size ≤ 262144) (hj : j < 8 + s.size)
    (h : b.data.toList = recsL l ++ (frameL s).take j) (h0 : I 0 w) (hrun : ∀ (args : Array Value) (w : World), (callFunc F args).run Tryd.prog w = .ok (.enter F args) w) (hlaid : ∀ i w', I i w' → Laid w') (hkeep : ∀ i w' w'', I i w' → Below w'.heap.size w' w'' → I i w'')
    (hstep : ∀ i r w', l[i]? = some r → I i w' → Calls Tryd.prog F (#[.string r.1, .string r.2] ++ caps) w' fun e w'' => e = .returned (.tuple #[]) ∧ I (i + 1) w'') :
    Calls Tryd.prog 20 #[.string b, .func (.func F) #[] caps] w fun e w' => e = .returned (.int .i64 (recsL l).length) ∧ I l.length w' := by
  have HI0 := Lib.hid h0
  have HLA := Lib.hid hlaid
  have HKE := Lib.hid hkeep
  have HST := Lib.hid hstep
  have H := Lib.hid h
  have HL := Lib.hid hl
  clear h0 hlaid hkeep hstep h hl
  have hmf : ∀ (fn : Fn) (first cap : Array Value) (w : World), (Instr.makeFunc fn first cap).run Tryd.prog w = .ok (.func fn first cap) w := fun _ _ _ _ => rfl
  go_enter_defers Tryd.func20, Tryd.ntmps20
  go_wp2_with fail
  go_loopg [4] l.length (fun gg s4 wr => ∃ k : Nat, k ≤ l.length ∧ l.length - k ≤ gg ∧ s4 = .int .i64 (recsL (l.take k)).length ∧ Hid (I k wr))
  case atStart => exact ⟨0, by omega, by omega, rfl, HI0⟩
  case round =>
    obtain ⟨k, hk, hgg, rfl, HI⟩ := hrel
    have hbl := Lib.size_eq b
    by_cases hlt : k < l.length
    · obtain ⟨r, hr⟩ : ∃ r, l[k]? = some r := ⟨_, List.getElem?_eq_getElem hlt⟩
      have hro := HL.out r (List.mem_of_getElem? hr)
      obtain ⟨hk1, hv1⟩ := hro
      have hrd := recsL_drop l k r hr
      have hrs := rec_small r.1 r.2 (by omega) (by omega)
      have hre := recL_eq r
      have hrl : (recL r).length = 8 + ByteArray.size ⟨(encL [r.1, r.2]).toArray⟩ := by rw [hre, frameL_len]
      have hdrop : b.data.toList.drop (recsL (l.take k)).length = frameL ⟨(encL [r.1, r.2]).toArray⟩ ++ (recsL (l.drop (k + 1)) ++ (frameL s).take j) := by
        rw [H.out, hrd, List.append_assoc, List.drop_left, ← hre, List.append_assoc]
      have hole : (recsL (l.take k)).length ≤ b.size := by rw [hbl, H.out, hrd]; simp
      have HSN := Lib.hid (recsL_snoc l k r hr)
      have HUF := Lib.hid (unframe_frame b ⟨(encL [r.1, r.2]).toArray⟩ (recsL (l.take k)).length _ wr hb hrs hole hdrop (HLA.out k wr HI.out))
      have HPA := Lib.hid (fun w' => parsed_any r.1 r.2 w' hk1 hv1)
      have HRR := Lib.hid hr
      have hoff : Hid ((recsL (l.take k)).length + 8 + ByteArray.size ⟨(encL [r.1, r.2]).toArray⟩ = (recsL (l.take (k + 1))).length) := by
        apply Lib.hid
        rw [HSN.out, List.length_append, hrl]
        omega
      rw [hoff.out] at HUF
      clear hrd hre hrl hdrop hr hbl hrs hoff
      generalize (recsL (l.take k)).length = o1 at *
      generalize ho2 : (recsL (l.take (k + 1))).length = o2 at *
      have HO2 := Lib.hid ho2
      clear ho2
      generalize (⟨(encL [r.1, r.2]).toArray⟩ : ByteArray) = bd at *
      go_wp2_with fail
      refine HUF.out.mono ?_
      rintro e w1 ⟨rfl, hb1⟩
      have HI1 := Lib.hid (HKE.out k wr w1 HI.out hb1)
      clear hb1
      go_wp2_with fail
      refine (HPA.out _).mono ?_
      rintro e w2 ⟨rfl, hb2⟩
      have HI2 := Lib.hid (HKE.out k _ w2 (HKE.out k w1 _ HI1.out ((Below.refl _ w1).alloc (Nat.le_refl _) (.cells #[.int .i64 0, .int .i64 0] 67))) hb2)
      clear hb2
      go_wp2_with fail
      refine (HST.out k r _ HRR.out HI2.out).mono ?_
      rintro e w3 ⟨rfl, HI3⟩
      replace HI3 := Lib.hid HI3
      go_wp2_with fail
      go_roundg (l.length - (k + 1))
      case measure => omega
      case rel => exact ⟨k + 1, by omega, by omega, by rw [HO2.out], HI3⟩
    · have hke : k = l.length := by omega
      subst hke
      have hole : (recsL l).length ≤ b.size := by rw [hbl, H.out]; simp
      rw [List.take_length]
      have HUF := Lib.hid (unframe_torn b s (recsL l).length j wr hb hs hole (by rw [H.out, List.drop_left]) hj)
      clear hbl
      have HO1 : Hid (∃ o : Nat, (recsL l).length = o) := ⟨_, rfl⟩
      obtain ⟨o1, ho1⟩ := HO1.out
      rw [ho1] at HUF
      rw [ho1]
      clear hole
      replace ho1 := Lib.hid ho1
      go_wp2_with fail
      refine HUF.out.mono ?_
      rintro e w1 ⟨rfl, hb1⟩
      have HI1 := Lib.hid (HKE.out _ wr w1 HI.out hb1)
      have HI2 := Lib.hid (HKE.out _ w1 _ HI1.out ((Below.refl _ w1).alloc (Nat.le_refl _) (.cells #[.int .i64 o1, .int .i64 23] 67)))
      clear hb1
      go_wp2_with fail
      unfold bodyPostD
      refine leaves_cons (f := 35) (args := #[]) (by simp) (by simp [go_sem]) ?_
      refine (late_idle _).mono ?_
      rintro e u' w'' ⟨rfl, rfl, rfl⟩
      simp [Leaves, settle, results, Tryd.results20, go_sem, ho1.out]
      exact HI2.out

end Go.Proofs.YtmlmjchifelpkaaDoor
