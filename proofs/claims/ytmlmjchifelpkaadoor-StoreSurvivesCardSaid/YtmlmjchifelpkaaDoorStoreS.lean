/- The calls of StoreSurvives on a store that is whole, and on one whose disk is down. -/
import Derived.Test.YtmlmjchifelpkaaDoorStoreR
namespace Go.Proofs.YtmlmjchifelpkaaDoor
open Go.RowKit Go.Lib Go.Maps Go.Sort
set_option linter.unusedVariables false
set_option maxRecDepth 100000

/-- A whole store in memory. -/
structure Live (S g b mb : Nat) (n : Nat) (m : MapP) (ss : List (List UInt8)) (w : World) : Prop where
  st : ∃ s f ls ll a e, IsStore w S g b mb (D3 s (some f) none a false e) m ∧ Held s f ls ll n m.m
  keys : KeysOf m ss
  len : ss.length ≤ n

/-- A store whose disk is down. -/
structure Dead (S g b mb : Nat) (n : Nat) (m1 m2 : List UInt8 → Option ByteArray) (w : World) : Prop where
  st : ∃ s f t a e m, IsStore w S g b mb (D3 s (some f) t a true e) m ∧ Fallen s (some f) n m1 m2

theorem Held.small {s : Option FileP} {f : FileP} {ls ll : List (ByteArray × ByteArray)} {n : Nat} {m : MapP} (h : Held s f ls ll n m.m) : ∀ k v, m.m k = some v → 1 ≤ k.length ∧ k.length ≤ 64 ∧ v.size ≤ 1000 := by
  have h1 := mapL_small ls MapP.nil 0 MapP.Small.nil h.sls
  have h2 := mapL_small ll _ _ h1 h.sll
  intro k v hk
  rw [← h.mf] at hk
  exact h2.key k v hk
theorem Live.small {S g b mb n : Nat} {m : MapP} {ss : List (List UInt8)} {w : World} (h : Live S g b mb n m ss w) : m.Small n := by
  obtain ⟨s, f, ls, ll, a, e, h1, h2⟩ := h.st
  exact ⟨by rw [← h.keys.len]; exact h.len, h2.small⟩
theorem Live.box {S g b mb n : Nat} {m : MapP} {ss : List (List UInt8)} {w : World} (h : Live S g b mb n m ss w) : IsBox w S g mb ∧ IsMap w mb m := by
  obtain ⟨s, f, ls, ll, a, e, h1, h2⟩ := h.st
  exact ⟨h1.box, h1.map⟩
theorem Live.lts {S g b mb n : Nat} {m : MapP} {ss : List (List UInt8)} {w : World} (h : Live S g b mb n m ss w) : g < w.heap.size ∧ b < w.heap.size ∧ mb < w.heap.size := by
  obtain ⟨s, f, ls, ll, a, e, h1, h2⟩ := h.st
  exact ⟨h1.disk.lt, h1.disk.ltb, h1.map.lt⟩
theorem Live.below {S g b mb n : Nat} {m : MapP} {ss : List (List UInt8)} {w w' : World} (h : Live S g b mb n m ss w) (hb : Below w.heap.size w w') : Live S g b mb n m ss w' := by
  obtain ⟨s, f, ls, ll, a, e, h1, h2⟩ := h.st
  exact ⟨⟨s, f, ls, ll, a, e, h1.below hb, h2⟩, h.keys, h.len⟩
theorem Dead.below {S g b mb n : Nat} {m1 m2 : List UInt8 → Option ByteArray} {w w' : World} (h : Dead S g b mb n m1 m2 w) (hb : Below w.heap.size w w') : Dead S g b mb n m1 m2 w' := by
  obtain ⟨s, f, t, a, e, m, h1, h2⟩ := h.st
  exact ⟨s, f, t, a, e, m, h1.below hb, h2⟩
theorem Live.mono {S g b mb n k : Nat} {m : MapP} {ss : List (List UInt8)} {w : World} (h : Live S g b mb n m ss w) (hk : n ≤ k) : Live S g b mb k m ss w := by
  obtain ⟨s, f, ls, ll, a, e, h1, h2⟩ := h.st
  exact ⟨⟨s, f, ls, ll, a, e, h1, h2.mono hk⟩, h.keys, Nat.le_trans h.len hk⟩

theorem wFin_len {m : MapP} {ss : List (List UInt8)} (h : KeysOf m ss) (k : List UInt8) (v : ByteArray) (hk : k.length ≤ 64) : (wFin k ss).length ≤ ss.length + 1 := by
  rw [(with_keys h k v hk).len, h.len]
  unfold MapP.put
  dsimp only
  split <;> omega

theorem put_live (S g b mb n : Nat) (m : MapP) (ss : List (List UInt8)) (k v : ByteArray) (w : World) (h : Live S g b mb n m ss w) (hr : SmallR (k, v)) (hn : n ≤ 99) (hl : Laid w) :
    Calls Tryd.prog 9 #[.pointer (some ⟨S, 0, none⟩), .string k, .string v] w fun e w' =>
      ∃ z : Int, e = .returned (.int .i64 z) ∧ Turn3 g b mb w w' ∧ ((z = 0 ∧ Live S g b mb (n + 1) (m.put k.data.toList v) (wFin k.data.toList ss) w') ∨ (z = 191 ∧ Dead S g b mb (n + 1) m.m (m.put k.data.toList v).m w')) := by
  have hsm := h.small
  obtain ⟨s, f, ls, ll, a, e, h1, h2⟩ := h.st
  have hk : 1 ≤ k.size ∧ k.size ≤ 64 := hr.1
  have hv : v.size ≤ 1000 := hr.2
  have hkl : 1 ≤ k.data.toList.length ∧ k.data.toList.length ≤ 64 := by rw [← Lib.size_eq]; exact hk
  have hp := hsm.put k.data.toList v hkl hv
  have hrz := recP_size k v (by omega) (by omega)
  have hz : f.has.size ≤ n * 1100 := by
    rw [Lib.size_eq, h2.has]
    exact Nat.le_trans (recs_small ll h2.sll) (Nat.mul_le_mul_right _ h2.nll)
  have hpa := put_any S g b mb _ m k v w h1 hk (by omega) (hp.ok (by omega)) (Nat.le_trans hsm.n (by omega)) hl (fun ss hss => by
    have h1 := snapL_small hp ss (fun x hx => (hss.mem x).1 hx)
    have h2 := hss.len
    have h3 := hp.n
    have h4 : ss.length * 1100 ≤ 101 * 1100 := Nat.mul_le_mul_right _ (by omega)
    omega) (by rw [k_l]; show f.has.size + _ ≤ _; omega)
  refine hpa.mono ?_
  rintro e1 w' ⟨rfl, h3, h4⟩
  rcases put_out h2 k v hr (by omega) a e with ⟨a2, e2, f2, he, hh⟩ | ⟨a2, e2, f2, he, hh⟩
  · rw [he] at h3 ⊢
    exact ⟨0, rfl, h4, Or.inl ⟨rfl, ⟨⟨_, _, _, _, _, _, h3, hh⟩, with_keys h.keys _ _ hkl.2, by have := wFin_len h.keys k.data.toList v hkl.2; have := h.len; omega⟩⟩⟩
  · rw [he] at h3 ⊢
    exact ⟨191, rfl, h4, Or.inr ⟨rfl, ⟨⟨_, _, _, _, _, _, h3, hh⟩⟩⟩⟩

theorem compact_live (S g b mb n : Nat) (m : MapP) (ss : List (List UInt8)) (w : World) (h : Live S g b mb n m ss w) (hn : n ≤ 99) (hl : Laid w) :
    Calls Tryd.prog 12 #[.pointer (some ⟨S, 0, none⟩)] w fun e w' =>
      ∃ z : Int, e = .returned (.int .i64 z) ∧ Turn g b w w' ∧ ((z = 0 ∧ Live S g b mb n m ss w') ∨ (z = 191 ∧ Dead S g b mb n m.m m.m w')) := by
  have hsm := h.small
  obtain ⟨s, f, ls, ll, a, e, h1, h2⟩ := h.st
  refine (compact_any S g b mb _ m w h1 (hsm.ok (by omega)) hl).mono ?_
  rintro e1 w' ⟨ss2, hss, rfl, h3, h4⟩
  have hse := hss.one h.keys (fun _ => rfl)
  subst hse
  rcases compact_out h2 hss hsm h.len (by omega) a e with ⟨a2, e2, s2, f2, ls2, ll2, he, hh⟩ | ⟨a2, e2, s2, f2, t2, he, hh⟩
  · rw [he] at h3 ⊢
    exact ⟨0, rfl, h4, Or.inl ⟨rfl, ⟨⟨_, _, _, _, _, _, h3, hh⟩, hss, h.len⟩⟩⟩
  · rw [he] at h3 ⊢
    exact ⟨191, rfl, h4, Or.inr ⟨rfl, ⟨⟨_, _, _, _, _, _, h3, hh⟩⟩⟩⟩

theorem fuse_live (S g b mb n : Nat) (m : MapP) (ss : List (List UInt8)) (z : Int) (w : World) (h : Live S g b mb n m ss w) (hz : 0 ≤ z) (hz2 : z ≤ 1000) :
    Calls Tryd.prog 18 #[.pointer (some ⟨g, 0, none⟩), .int .i64 z] w fun e w' => e = .returned (.int .i64 0) ∧ Live S g b mb n m ss w' ∧ Turn g b w w' := by
  obtain ⟨s, f, ls, ll, a, e, h1, h2⟩ := h.st
  refine (fuse_any g b _ z (by omega) w h1.disk).mono ?_
  rintro e1 w' ⟨rfl, h3, h4⟩
  have he : dFuse (D3 s (some f) none a false e) z = (0, D3 s (some f) none true false z) := by unfold dFuse; rw [if_neg (by omega)]; rfl
  rw [he] at h3 ⊢
  exact ⟨rfl, ⟨⟨_, _, _, _, _, _, h1.turn h3 h4, h2⟩, h.keys, h.len⟩, h4⟩

/-- A disk behind a crash. -/
def Back (g b n : Nat) (m1 m2 : List UInt8 → Option ByteArray) (w : World) : Prop := ∃ s l t ls ll, IsDisk w g b (D3 s l t false false 0) ∧ (Stood s l ls ll n m1 ∨ Stood s l ls ll n m2)

theorem crash_dead (S g b mb n : Nat) (m1 m2 : List UInt8 → Option ByteArray) (v : Value) (zs : List Int) (w : World) (h : Dead S g b mb n m1 m2 w) (hz : DrawsAt g b w v zs) (hl : zs.length ≤ 16384) :
    Calls Tryd.prog 19 #[.pointer (some ⟨g, 0, none⟩), v] w fun e w' => e = .returned (.int .i64 0) ∧ Back g b n m1 m2 w' ∧ Turn g b w w' := by
  obtain ⟨s, f, t, a, e, m, h1, h2⟩ := h.st
  refine (crash_any g b _ v zs w h1.disk hz hl).mono ?_
  rintro e1 w' ⟨ts, hts, rfl, hd, ht⟩
  obtain ⟨s1, l1, t1, he, h3, h4⟩ := crash_files (zs := zs) hts
  rw [he] at hd
  obtain ⟨ls, ll, h5⟩ := h2 s1 l1 h3 h4
  exact ⟨rfl, ⟨s1, l1, t1, ls, ll, hd, h5⟩, ht⟩

theorem open_back (w0 : World) (g b n : Nat) (m1 m2 : List UInt8 → Option ByteArray) (w : World) (hb0 : Below w0.heap.size w0 w) (hg0 : w0.heap.size ≤ g) (hbb0 : w0.heap.size ≤ b) (hl0 : Laid w0) (hn : n ≤ 99) (h : Back g b n m1 m2 w) :
    Calls Tryd.prog 8 #[.pointer (some ⟨g, 0, none⟩)] w fun e w' =>
      ∃ S mb m, e = .returned (.tuple #[.pointer (some ⟨S, 0, none⟩), .int .i64 0]) ∧ w.heap.size ≤ mb ∧ (m.m = m1 ∨ m.m = m2) ∧ m.Ok ∧ IsBox w' S g mb ∧ IsMap w' mb m ∧ (∀ ss, KeysOf m ss → ss.length ≤ n → Live S g b mb n m ss w') ∧ Turn g b w w' := by
  obtain ⟨s, l, t, ls, ll, hd, hh⟩ := h
  have key : ∀ mf, Stood s l ls ll n mf → Calls Tryd.prog 8 #[.pointer (some ⟨g, 0, none⟩)] w fun e w' =>
      ∃ S mb m, e = .returned (.tuple #[.pointer (some ⟨S, 0, none⟩), .int .i64 0]) ∧ w.heap.size ≤ mb ∧ m.m = mf ∧ m.Ok ∧ IsBox w' S g mb ∧ IsMap w' mb m ∧ (∀ ss, KeysOf m ss → ss.length ≤ n → Live S g b mb n m ss w') ∧ Turn g b w w' := by
    intro mf hs
    refine (open_any w0 g b s l t 0 w hb0 hg0 hbb0 hd hl0 ls ll hs.sn hs.asc (fun r hr => (hs.sls r hr).ok) hs.log (fun r hr => (hs.sll r hr).ok)).mono ?_
    rintro e w' ⟨S, mb, f, rfl, _, hmb, hla, hst, ht⟩
    have hH := hs.held hla
    have hsm1 := mapL_small ll _ _ (mapL_small ls MapP.nil 0 MapP.Small.nil hs.sls) hs.sll
    have hnl := hs.nls
    have hnn := hs.nll
    refine ⟨S, mb, _, rfl, hmb, hs.mf, hsm1.ok (by omega), hst.box, hst.map, fun ss hk hz => ⟨⟨_, _, ls, ll, _, _, hst, hs.mf.symm ▸ hH⟩, hk, hz⟩, ht⟩
  rcases hh with hs | hs
  · refine (key m1 hs).mono ?_
    rintro e w' ⟨S, mb, m, h1, h2, h3, h4⟩
    exact ⟨S, mb, m, h1, h2, Or.inl h3, h4⟩
  · refine (key m2 hs).mono ?_
    rintro e w' ⟨S, mb, m, h1, h2, h3, h4⟩
    exact ⟨S, mb, m, h1, h2, Or.inr h3, h4⟩

theorem among_lit (n : Int) (hn : n = 4 ∨ n = 8) (a : Int) (w : World) : Calls Tryd.prog 16 #[.int .i64 a, .int .i64 n] w fun e w' => e = .returned (.int .i64 (a % n)) ∧ w = w' := by
  have h0 : (0 ≤ a ∧ a.tmod n = a % n) ∨ (a < 0 ∧ a.tmod n = -((-a) % n)) := by
    rcases Int.lt_or_le a 0 with h | h
    · right
      refine ⟨h, ?_⟩
      have e := Int.neg_tmod (-a) n
      rw [Int.neg_neg, Int.tmod_eq_emod_of_nonneg (a := -a) (by omega)] at e
      exact e
    · exact Or.inl ⟨h, Int.tmod_eq_emod_of_nonneg h⟩
  have h1 : -n < a.tmod n ∧ a.tmod n < n := by rcases hn with rfl | rfl <;> omega
  have h2 : (a.tmod n + n).tmod n = a % n := by
    rw [Int.tmod_eq_emod_of_nonneg (by omega)]
    rcases hn with rfl | rfl <;> omega
  have H2 := Lib.hid h2
  have h3 : IntKind.i64.wrap (a.tmod n + n) = a.tmod n + n := IntWalk.i64_in _ (by rcases hn with rfl | rfl <;> omega)
  have hn0 : ¬ n = 0 := by rcases hn with rfl | rfl <;> omega
  have h4 : IntKind.i64.wrap (a.tmod n) = a.tmod n := IntWalk.i64_in _ (by rcases hn with rfl | rfl <;> omega)
  clear h1 h0 h2 hn
  go_enter Tryd.func16, Tryd.ntmps16
  go_wp2
  go_ret
  exact ⟨congrArg (fun x => Ending.returned (Value.int .i64 x)) H2.out, rfl⟩

end Go.Proofs.YtmlmjchifelpkaaDoor
