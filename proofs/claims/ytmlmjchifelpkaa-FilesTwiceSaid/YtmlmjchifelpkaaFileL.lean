/- A crash leaves what is safe; among. -/
import Derived.Test.YtmlmjchifelpkaaFileK
namespace Go.Proofs.Ytmlmjchifelpkaa
open Go.RowKit Go.Lib Go.Maps Go.Sort
set_option linter.unusedVariables false

theorem set_other {d : DiskP} {k j : List UInt8} (o : Option FileP) (h : k ≠ j) : (d.set j o).fs k = d.fs k := by
  cases o with
  | none => show delF d.fs j k = _; unfold delF; rw [if_neg h]
  | some f => show putF d.fs j f k = _; unfold putF; rw [if_neg h]
theorem set_same {d : DiskP} {k : List UInt8} (o : Option FileP) : (d.set k o).fs k = o := by
  cases o with
  | none => show delF d.fs k k = _; unfold delF; rw [if_pos rfl]
  | some f => show putF d.fs k f k = _; unfold putF; rw [if_pos rfl]

/-- A file that is safe stays as it is. -/
theorem crashOn_calm {k : List UInt8} {f : FileP} (hc : f.calm = true) : ∀ (ss : List (List UInt8)) (zs : List Int) (d : DiskP), d.fs k = some f → (crashOn ss zs d).fs k = some f
  | [], _, _, h => h
  | j :: ss, zs, d, h => by
    unfold crashOn
    by_cases e : j = k
    · subst e
      rw [h]
      simp only [Option.getD_some, hc, if_true]
      exact crashOn_calm hc ss zs d h
    · dsimp only
      split
      · exact crashOn_calm hc ss zs d h
      · exact crashOn_calm hc ss _ _ (by rw [set_other _ (fun e' => e e'.symm)]; exact h)

theorem tear_calm {f g : FileP} {draw : Int} (h : tear f draw = some g) : g.calm = true := by
  unfold tear at h
  split at h
  · split at h <;> (cases h; simp [FileP.calm])
  · split at h
    · cases h; simp [FileP.calm]
    · cases h

/-- What is not among the names stays. -/
theorem crashOn_out {k : List UInt8} : ∀ (ss : List (List UInt8)) (zs : List Int) (d : DiskP), k ∉ ss → (crashOn ss zs d).fs k = d.fs k
  | [], _, _, _ => rfl
  | j :: ss, zs, d, h => by
    have h1 : k ≠ j := fun e => h (by simp [e])
    have h2 : k ∉ ss := fun e => h (by simp [e])
    unfold crashOn
    dsimp only
    split
    · exact crashOn_out ss zs d h2
    · rw [crashOn_out ss _ _ h2, set_other _ h1]

/-- Behind a crash all that there is is safe. -/
theorem crashOn_all {k : List UInt8} {f : FileP} : ∀ (ss : List (List UInt8)) (zs : List Int) (d : DiskP), ss.Nodup → k ∈ ss → (d.fs k).isSome = true → (crashOn ss zs d).fs k = some f → f.calm = true
  | [], _, _, _, hk, _, _ => by cases hk
  | j :: ss, zs, d, hn, hk, hs, h => by
    obtain ⟨hn1, hn2⟩ := List.nodup_cons.1 hn
    unfold crashOn at h
    dsimp only at h
    by_cases e : k = j
    · subst e
      obtain ⟨g, hg⟩ := Option.isSome_iff_exists.1 hs
      rw [hg] at h
      simp only [Option.getD_some] at h
      split at h
      · rename_i hc
        rw [crashOn_out ss zs d hn1, hg] at h
        cases h
        exact hc
      · rw [crashOn_out ss _ _ hn1, set_same] at h
        exact tear_calm h
    · have hk2 : k ∈ ss := by rcases List.mem_cons.1 hk with h | h; exact absurd h e; exact h
      split at h
      · exact crashOn_all ss zs d hn2 hk2 hs h
      · exact crashOn_all ss _ _ hn2 hk2 (by rw [set_other _ e]; exact hs) h

/-- Where all is safe a crash turns nothing. -/
theorem crashOn_still : ∀ (ss : List (List UInt8)) (zs : List Int) (d : DiskP), (∀ k ∈ ss, ∀ f, d.fs k = some f → f.calm = true) → (∀ k ∈ ss, (d.fs k).isSome = true) → crashOn ss zs d = d
  | [], _, _, _, _ => rfl
  | j :: ss, zs, d, h, hs => by
    unfold crashOn
    obtain ⟨f, hf⟩ := Option.isSome_iff_exists.1 (hs j (by simp))
    have := h j (by simp) f hf
    rw [hf]
    simp only [Option.getD_some, this, if_true]
    exact crashOn_still ss zs d (fun k hk => h k (by simp [hk])) (fun k hk => hs k (by simp [hk]))

theorem among_any (a : Int) (w : World) : Calls Try.prog 13 #[.int .i64 a, .int .i64 5] w fun e w' => e = .returned (.int .i64 (a % 5)) ∧ w = w' := by
  have h0 : (0 ≤ a ∧ a.tmod 5 = a % 5) ∨ (a < 0 ∧ a.tmod 5 = -((-a) % 5)) := by
    rcases Int.lt_or_le a 0 with h | h
    · right
      refine ⟨h, ?_⟩
      have e := Int.neg_tmod (-a) 5
      rw [Int.neg_neg, Int.tmod_eq_emod_of_nonneg (a := -a) (by omega)] at e
      exact e
    · exact Or.inl ⟨h, Int.tmod_eq_emod_of_nonneg h⟩
  have h1 : -5 < a.tmod 5 ∧ a.tmod 5 < 5 := by omega
  have h2 : (a.tmod 5 + 5).tmod 5 = a % 5 := by
    rw [Int.tmod_eq_emod_of_nonneg (by omega)]
    omega
  have H2 := Lib.hid h2
  have h3 : IntKind.i64.wrap (a.tmod 5 + 5) = a.tmod 5 + 5 := IntWalk.i64_in _ (by omega)
  clear h1 h0 h2
  go_enter Try.func13, Try.ntmps13
  go_wp2
  go_ret
  exact ⟨congrArg (fun x => Ending.returned (Value.int .i64 x)) H2.out, rfl⟩

end Go.Proofs.Ytmlmjchifelpkaa
