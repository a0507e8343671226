/- What a crash leaves of a store's three files; what Put and Compact leave with a fuse: plain data. -/
import Derived.Test.YtmlmjchifelpkaaDoorStoreZ
namespace Go.Proofs.YtmlmjchifelpkaaDoor
open Go.RowKit Go.Lib Go.Maps Go.Sort
set_option linter.unusedVariables false
set_option maxRecDepth 100000

section
variable (s l t : Option FileP) (a c : Bool) (e : Int)
theorem D3_set_s (o : Option FileP) : (D3 s l t a c e).set nSnap o = D3 o l t a c e := by
  cases o with
  | none => exact D3_del_s s l t a c e
  | some f => exact D3_put_s s l t a c e f
theorem D3_set_l (o : Option FileP) : (D3 s l t a c e).set nLog o = D3 s o t a c e := by
  cases o with
  | none => exact D3_del_l s l t a c e
  | some f => exact D3_put_l s l t a c e f
theorem D3_set_t (o : Option FileP) : (D3 s l t a c e).set nTemp o = D3 s l o a c e := by
  cases o with
  | none => exact D3_del_t s l t a c e
  | some f => exact D3_put_t s l t a c e f
theorem D3_up : (D3 s l t a c e).up = D3 s l t false false 0 := rfl
end

/-- What a crash makes of one file of the disk. -/
def Torn (o o1 : Option FileP) : Prop := match o with
  | none => o1 = none
  | some f => (f.calm = true ∧ o1 = some f) ∨ (f.calm = false ∧ ∃ draw, o1 = tear f draw)
def TornIf (p : Prop) (o o1 : Option FileP) : Prop := (p ∧ Torn o o1) ∨ (¬ p ∧ o1 = o)

theorem torn_step (f : FileP) (zs : List Int) : Torn (some f) (if f.calm then some f else tear f (zs.headD 0)) := by
  cases h : f.calm with
  | true => exact Or.inl ⟨h, by simp⟩
  | false => exact Or.inr ⟨h, zs.headD 0, by simp⟩

theorem crashOn_cons (k : List UInt8) (ks : List (List UInt8)) (zs : List Int) (d : DiskP) : crashOn (k :: ks) zs d = if ((d.fs k).getD FileP.nil).calm then crashOn ks zs d else crashOn ks (zs.drop 1) (d.set k (tear ((d.fs k).getD FileP.nil) (zs.headD 0))) := rfl
theorem crash_D3 (a c : Bool) (e : Int) : ∀ (ss : List (List UInt8)) (zs : List Int) (s l t : Option FileP), ss.Nodup → (∀ k ∈ ss, (k = nSnap ∧ s.isSome = true) ∨ (k = nLog ∧ l.isSome = true) ∨ (k = nTemp ∧ t.isSome = true)) →
    ∃ s1 l1 t1, crashOn ss zs (D3 s l t a c e) = D3 s1 l1 t1 a c e ∧ TornIf (nSnap ∈ ss) s s1 ∧ TornIf (nLog ∈ ss) l l1 := by
  intro ss
  induction ss with
  | nil => intro zs s l t _ _; exact ⟨s, l, t, rfl, Or.inr ⟨by simp, rfl⟩, Or.inr ⟨by simp, rfl⟩⟩
  | cons k ss ih =>
    intro zs s l t hn hk
    obtain ⟨hn1, hn2⟩ := List.nodup_cons.1 hn
    have htail : ∀ j ∈ ss, j ≠ k := fun j hj e => hn1 (e ▸ hj)
    rcases hk k (by simp) with ⟨rfl, hs⟩ | ⟨rfl, hs⟩ | ⟨rfl, hs⟩
    · obtain ⟨f, rfl⟩ := Option.isSome_iff_exists.1 hs
      have hT := torn_step f zs
      obtain ⟨zs2, o, hc, ho⟩ : ∃ (zs2 : List Int) (o : Option FileP), crashOn (nSnap :: ss) zs (D3 (some f) l t a c e) = crashOn ss zs2 (D3 o l t a c e) ∧ Torn (some f) o := by
        rw [crashOn_cons, D3_s]
        rw [Option.getD_some]
        cases h : f.calm with
        | true => exact ⟨zs, some f, by simp, Or.inl ⟨h, rfl⟩⟩
        | false => exact ⟨zs.drop 1, tear f (zs.headD 0), by simp [D3_set_s], Or.inr ⟨h, _, rfl⟩⟩
      obtain ⟨s1, l1, t1, h1, h2, h3⟩ := ih zs2 o l t hn2 (fun j hj => by
        rcases hk j (by simp [hj]) with ⟨rfl, _⟩ | h | h
        · exact absurd rfl (htail _ hj)
        · exact Or.inr (Or.inl h)
        · exact Or.inr (Or.inr h))
      refine ⟨s1, l1, t1, hc.trans h1, ?_, ?_⟩
      · rcases h2 with ⟨h2, _⟩ | ⟨_, h2⟩
        · exact absurd h2 hn1
        · subst h2; exact Or.inl ⟨by simp, ho⟩
      · rcases h3 with ⟨h3, h4⟩ | ⟨h3, h4⟩
        · exact Or.inl ⟨by simp [h3], h4⟩
        · exact Or.inr ⟨by simp [h3, n_sl.symm], h4⟩
    · obtain ⟨f, rfl⟩ := Option.isSome_iff_exists.1 hs
      obtain ⟨zs2, o, hc, ho⟩ : ∃ (zs2 : List Int) (o : Option FileP), crashOn (nLog :: ss) zs (D3 s (some f) t a c e) = crashOn ss zs2 (D3 s o t a c e) ∧ Torn (some f) o := by
        rw [crashOn_cons, D3_l]
        rw [Option.getD_some]
        cases h : f.calm with
        | true => exact ⟨zs, some f, by simp, Or.inl ⟨h, rfl⟩⟩
        | false => exact ⟨zs.drop 1, tear f (zs.headD 0), by simp [D3_set_l], Or.inr ⟨h, _, rfl⟩⟩
      obtain ⟨s1, l1, t1, h1, h2, h3⟩ := ih zs2 s o t hn2 (fun j hj => by
        rcases hk j (by simp [hj]) with h | ⟨rfl, _⟩ | h
        · exact Or.inl h
        · exact absurd rfl (htail _ hj)
        · exact Or.inr (Or.inr h))
      refine ⟨s1, l1, t1, hc.trans h1, ?_, ?_⟩
      · rcases h2 with ⟨h3, h4⟩ | ⟨h3, h4⟩
        · exact Or.inl ⟨by simp [h3], h4⟩
        · exact Or.inr ⟨by simp [h3, n_sl], h4⟩
      · rcases h3 with ⟨h2, _⟩ | ⟨_, h2⟩
        · exact absurd h2 hn1
        · subst h2; exact Or.inl ⟨by simp, ho⟩
    · obtain ⟨f, rfl⟩ := Option.isSome_iff_exists.1 hs
      obtain ⟨zs2, o, hc⟩ : ∃ (zs2 : List Int) (o : Option FileP), crashOn (nTemp :: ss) zs (D3 s l (some f) a c e) = crashOn ss zs2 (D3 s l o a c e) := by
        rw [crashOn_cons, D3_t]
        rw [Option.getD_some]
        cases h : f.calm with
        | true => exact ⟨zs, some f, by simp⟩
        | false => exact ⟨zs.drop 1, tear f (zs.headD 0), by simp [D3_set_t]⟩
      obtain ⟨s1, l1, t1, h1, h2, h3⟩ := ih zs2 s l o hn2 (fun j hj => by
        rcases hk j (by simp [hj]) with h | h | ⟨rfl, _⟩
        · exact Or.inl h
        · exact Or.inr (Or.inl h)
        · exact absurd rfl (htail _ hj))
      refine ⟨s1, l1, t1, hc.trans h1, ?_, ?_⟩
      · rcases h2 with ⟨h3, h4⟩ | ⟨h3, h4⟩
        · exact Or.inl ⟨by simp [h3], h4⟩
        · exact Or.inr ⟨by simp [h3, n_st], h4⟩
      · rcases h3 with ⟨h3, h4⟩ | ⟨h3, h4⟩
        · exact Or.inl ⟨by simp [h3], h4⟩
        · exact Or.inr ⟨by simp [h3, n_lt], h4⟩

/-- A crash of the three files. -/
theorem crash_files {s l t : Option FileP} {a c : Bool} {e : Int} {ss : List (List UInt8)} {zs : List Int} (hn : NamesOf (D3 s l t a c e) ss) :
    ∃ s1 l1 t1, crashOn ss zs (D3 s l t a c e).up = D3 s1 l1 t1 false false 0 ∧ Torn s s1 ∧ Torn l l1 := by
  rw [D3_up]
  obtain ⟨s1, l1, t1, h1, h2, h3⟩ := crash_D3 false false 0 ss zs s l t hn.nodup (fun k hk => by
    have h := (hn.mem k).1 hk
    by_cases e1 : k = nSnap
    · subst e1; rw [D3_s] at h; exact Or.inl ⟨rfl, h⟩
    · by_cases e2 : k = nLog
      · subst e2; rw [D3_l] at h; exact Or.inr (Or.inl ⟨rfl, h⟩)
      · by_cases e3 : k = nTemp
        · subst e3; rw [D3_t] at h; exact Or.inr (Or.inr ⟨rfl, h⟩)
        · rw [D3_none _ _ _ _ _ _ _ e1 e2 e3] at h; cases h)
  refine ⟨s1, l1, t1, h1, ?_, ?_⟩
  · rcases h2 with ⟨_, h2⟩ | ⟨h2, h4⟩
    · exact h2
    · cases s with
      | none => exact h4
      | some f => exact absurd ((hn.mem nSnap).2 (by rw [D3_s]; rfl)) h2
  · rcases h3 with ⟨_, h2⟩ | ⟨h2, h4⟩
    · exact h2
    · cases l with
      | none => exact h4
      | some f => exact absurd ((hn.mem nLog).2 (by rw [D3_l]; rfl)) h2

/-- A record that is small. -/
def SmallR (r : ByteArray × ByteArray) : Prop := (1 ≤ r.1.size ∧ r.1.size ≤ 64) ∧ r.2.size ≤ 1000

/-- What a store's files hold: a snap of ls, a log of ll; all is safe. -/
structure Held (s : Option FileP) (f : FileP) (ls ll : List (ByteArray × ByteArray)) (n : Nat) (mf : List UInt8 → Option ByteArray) : Prop where
  sn : SnapIs s ls
  asc : Asc ls
  sls : ∀ r ∈ ls, SmallR r
  sll : ∀ r ∈ ll, SmallR r
  nls : ls.length ≤ n
  nll : ll.length ≤ n
  has : f.has.data.toList = recsL ll
  calm : f.calm = true
  scalm : ∀ g, s = some g → g.calm = true
  mf : (mapL ll (mapL ls MapP.nil)).m = mf

/-- What may stand behind a crash: files whose opening has mf. -/
structure Stood (s : Option FileP) (l : Option FileP) (ls ll : List (ByteArray × ByteArray)) (n : Nat) (mf : List UInt8 → Option ByteArray) : Prop where
  sn : SnapIs s ls
  asc : Asc ls
  sls : ∀ r ∈ ls, SmallR r
  sll : ∀ r ∈ ll, SmallR r
  nls : ls.length ≤ n
  nll : ll.length ≤ n
  log : LogIs l ll
  calm : ∀ g, l = some g → g.calm = true
  scalm : ∀ g, s = some g → g.calm = true
  mf : (mapL ll (mapL ls MapP.nil)).m = mf

theorem SmallR.ok {r : ByteArray × ByteArray} (h : SmallR r) : RecOk r := ⟨h.1, Nat.le_trans h.2 (by omega)⟩

/-- The opening. -/
theorem Stood.held {s l : Option FileP} {ls ll : List (ByteArray × ByteArray)} {n : Nat} {mf : List UInt8 → Option ByteArray} (h : Stood s l ls ll n mf) {f : FileP} (hf : LogAfter l ll f) : Held s f ls ll n mf :=
  ⟨h.sn, h.asc, h.sls, h.sll, h.nls, h.nll, hf.1, hf.2.elim (h.calm f) id, h.scalm, h.mf⟩

/-- Whatever is torn, one of two maps stands. -/
def Fallen (s l : Option FileP) (n : Nat) (m1 m2 : List UInt8 → Option ByteArray) : Prop :=
  ∀ s1 l1, Torn s s1 → Torn l l1 → ∃ ls ll, Stood s1 l1 ls ll n m1 ∨ Stood s1 l1 ls ll n m2

theorem torn_calm {s s1 : Option FileP} (h : ∀ g, s = some g → g.calm = true) (ht : Torn s s1) : s1 = s := by
  cases s with
  | none => exact ht
  | some f =>
    rcases ht with ⟨_, h2⟩ | ⟨h2, _⟩
    · exact h2
    · rw [h f rfl] at h2; cases h2

theorem log_whole {f : FileP} {ll : List (ByteArray × ByteArray)} (h : f.has.data.toList = recsL ll) : LogIs (some f) ll := ⟨⟨#[]⟩, 0, by decide, by decide, by rw [h]; simp⟩

theorem Held.stood {s : Option FileP} {f : FileP} {ls ll : List (ByteArray × ByteArray)} {n k : Nat} {mf : List UInt8 → Option ByteArray} (h : Held s f ls ll n mf) (hk : n ≤ k) : Stood s (some f) ls ll k mf :=
  ⟨h.sn, h.asc, h.sls, h.sll, Nat.le_trans h.nls hk, Nat.le_trans h.nll hk, log_whole h.has, fun g hg => by cases hg; exact h.calm, h.scalm, h.mf⟩
theorem Held.mono {s : Option FileP} {f : FileP} {ls ll : List (ByteArray × ByteArray)} {n k : Nat} {mf : List UInt8 → Option ByteArray} (h : Held s f ls ll n mf) (hk : n ≤ k) : Held s f ls ll k mf :=
  ⟨h.sn, h.asc, h.sls, h.sll, Nat.le_trans h.nls hk, Nat.le_trans h.nll hk, h.has, h.calm, h.scalm, h.mf⟩

/-- Nothing turned. -/
theorem Held.fallen {s : Option FileP} {f : FileP} {ls ll : List (ByteArray × ByteArray)} {n k : Nat} {mf m2 : List UInt8 → Option ByteArray} (h : Held s f ls ll n mf) (hk : n ≤ k) : Fallen s (some f) k mf m2 := by
  intro s1 l1 h1 h2
  rw [torn_calm h.scalm h1, torn_calm (fun g hg => by cases hg; exact h.calm) h2]
  exact ⟨ls, ll, Or.inl (h.stood hk)⟩

theorem calm_self (x : ByteArray) : FileP.calm ⟨x, x, true⟩ = true := by simp [FileP.calm]

/-- The records with one more. -/
theorem Held.more {s : Option FileP} {f : FileP} {ls ll : List (ByteArray × ByteArray)} {n : Nat} {mf : List UInt8 → Option ByteArray} (h : Held s f ls ll n mf) (k v : ByteArray) (hr : SmallR (k, v)) :
    Held s ⟨f.has ++ recP k v, f.has ++ recP k v, true⟩ ls (ll ++ [(k, v)]) (n + 1) (putM mf k.data.toList v) := by
  refine ⟨h.sn, h.asc, h.sls, ?_, Nat.le_succ_of_le h.nls, ?_, ?_, calm_self _, h.scalm, ?_⟩
  · intro r hm
    rcases List.mem_append.1 hm with h3 | h3
    · exact h.sll r h3
    · simp at h3; subst h3; exact hr
  · rw [List.length_append, List.length_singleton]; exact Nat.succ_le_succ h.nll
  · show (f.has ++ recP k v).data.toList = _
    rw [ByteArray.data_append, Array.toList_append, h.has, recsL_app, recsL_one]
    rfl
  · rw [mapL_app, ← h.mf]
    rfl

theorem tear_safe (x y : ByteArray) (draw : Int) : ∃ (g : FileP) (q : Nat), tear ⟨x ++ y, x, true⟩ draw = some g ∧ g.calm = true ∧ g.has.data.toList = x.data.toList ++ y.data.toList.take q ∧ q ≤ y.size := by
  by_cases h : 0 ≤ draw
  · obtain ⟨q, hq, hq2, _⟩ := rem_fact draw (y.size + 1) h (by omega)
    have hsz : (x ++ y).size - x.size + 1 = y.size + 1 := by have : (x ++ y).size = x.size + y.size := by simp
                                                             omega
    have hp : Lib.hasPrefix (x ++ y).data.toList x.data.toList = true := by
      unfold Lib.hasPrefix
      rw [List.isPrefixOf_iff_prefix, ByteArray.data_append, Array.toList_append]
      exact List.prefix_append _ _
    refine ⟨_, q, tear_a h hp (m := y.size + 1) hsz.symm hq rfl, calm_self _, ?_, by omega⟩
    show ((x ++ y).extract 0 (x.size + q)).data.toList = _
    rw [ByteArray.data_extract]
    simp only [Array.toList_extract, ByteArray.data_append, Array.toList_append, List.extract_eq_take_drop, List.drop_zero, Nat.sub_zero]
    rw [Lib.size_eq, List.take_length_add_append]
  · exact ⟨_, 0, tear_c h, calm_self _, by simp, Nat.zero_le _⟩

/-- A record that was put and is not safe yet. -/
theorem Held.half {s : Option FileP} {f : FileP} {ls ll : List (ByteArray × ByteArray)} {n : Nat} {mf : List UInt8 → Option ByteArray} (h : Held s f ls ll n mf) (k v : ByteArray) (hr : SmallR (k, v)) :
    Fallen s (some { f with has := f.has ++ recP k v }) (n + 1) mf (putM mf k.data.toList v) := by
  intro s1 l1 h1 h2
  rw [torn_calm h.scalm h1]
  have hc := h.calm
  obtain ⟨x, y, z⟩ := f
  simp only [FileP.calm, Bool.and_eq_true, decide_eq_true_eq] at hc
  obtain ⟨rfl, rfl⟩ := hc
  have hm := h.more k v hr
  have hrz := recP_size k v (by have := hr.1.2; simp only at this; omega) (by have := hr.2; simp only at this; omega)
  have hlen : (recP k v).data.toList = frameL ⟨(encL [k, v]).toArray⟩ := recL_eq (k, v)
  have hls : (recP k v).size = 8 + ByteArray.size ⟨(encL [k, v]).toArray⟩ := by rw [Lib.size_eq, hlen, frameL_len]
  have hcase : ∀ (g : FileP) (q : Nat), l1 = some g → g.calm = true → g.has.data.toList = x.data.toList ++ (recP k v).data.toList.take q → q ≤ (recP k v).size →
      ∃ ls ll, Stood s l1 ls ll (n + 1) mf ∨ Stood s l1 ls ll (n + 1) (putM mf k.data.toList v) := by
    rintro g q rfl hg hh hq
    by_cases hqe : q = (recP k v).size
    · refine ⟨ls, ll ++ [(k, v)], Or.inr ⟨hm.sn, hm.asc, hm.sls, hm.sll, hm.nls, hm.nll, log_whole ?_, fun g' hg' => by cases hg'; exact hg, h.scalm, hm.mf⟩⟩
      rw [hh, hqe, Lib.size_eq, List.take_length, ← hm.has]
      simp
    · have h0 := h.stood (Nat.le_succ n)
      refine ⟨ls, ll, Or.inl ⟨h0.sn, h0.asc, h0.sls, h0.sll, h0.nls, h0.nll, ⟨⟨(encL [k, v]).toArray⟩, q, by omega, by have := hr.1.2; have := hr.2; simp only at *; omega, ?_⟩, fun g' hg' => by cases hg'; exact hg, h.scalm, h0.mf⟩⟩
      rw [hh, hlen]
      congr 1
      exact h.has
  rcases h2 with ⟨h2, h3⟩ | ⟨_, draw, h3⟩
  · exact hcase _ (recP k v).size h3 h2 (by show (x ++ recP k v).data.toList = _; rw [Lib.size_eq, List.take_length]; simp) (Nat.le_refl _)
  · obtain ⟨g, q, e1, e2, e3, e4⟩ := tear_safe x (recP k v) draw
    exact hcase g q (h3.trans e1) e2 e3 e4

/-- What a key has does not hang on what was there, if a record tells of it. -/
theorem mapL_told (l : List (ByteArray × ByteArray)) : ∀ (p q : MapP) (x : List UInt8), (p.m x = q.m x ∨ ∃ r ∈ l, r.1.data.toList = x) → (mapL l p).m x = (mapL l q).m x := by
  induction l with
  | nil =>
    intro p q x h
    rcases h with h | ⟨r, hr, _⟩
    · exact h
    · cases hr
  | cons r l ih =>
    intro p q x h
    refine ih _ _ x ?_
    by_cases e : r.1.data.toList = x
    · left
      show putM p.m _ _ x = putM q.m _ _ x
      unfold putM
      rw [if_pos e.symm, if_pos e.symm]
    · rcases h with h | ⟨r', hr, he⟩
      · left
        show putM p.m _ _ x = putM q.m _ _ x
        unfold putM
        rw [h]
      · right
        rcases List.mem_cons.1 hr with h1 | h1
        · subst h1; exact absurd he e
        · exact ⟨r', h1, he⟩
/-- The log told once more over what it made changes nothing. -/
theorem mapL_again (ll : List (ByteArray × ByteArray)) (p q : MapP) (h : q.m = (mapL ll p).m) : (mapL ll q).m = q.m := by
  funext x
  by_cases hx : ∃ r ∈ ll, r.1.data.toList = x
  · rw [mapL_told ll q p x (Or.inr hx), h]
  · rw [mapL_at ll q x (fun r hr e => hx ⟨r, hr, e⟩)]

/-- A new snap. -/
theorem recsOf_small {m : MapP} {n : Nat} (hm : m.Small n) {ss : List (List UInt8)} (h : KeysOf m ss) : ∀ r ∈ recsOf ss m.m, SmallR r := by
  intro r hr
  obtain ⟨k, hk, rfl⟩ := List.mem_map.1 hr
  obtain ⟨v, hv⟩ := Option.isSome_iff_exists.1 ((h.mem k).1 hk)
  obtain ⟨h1, h2, h3⟩ := hm.key k v hv
  refine ⟨⟨?_, ?_⟩, ?_⟩
  · show 1 ≤ ByteArray.size ⟨k.toArray⟩
    rw [arr_size]; exact h1
  · show ByteArray.size ⟨k.toArray⟩ ≤ 64
    rw [arr_size]; exact h2
  · show ((m.m k).getD ⟨#[]⟩).size ≤ 1000
    rw [hv]; exact h3
def snapF (m : MapP) (ss : List (List UInt8)) : FileP := ⟨⟨(snapL ss m.m).toArray⟩, ⟨(snapL ss m.m).toArray⟩, true⟩
theorem Held.snap {s : Option FileP} {f : FileP} {ls ll : List (ByteArray × ByteArray)} {n q : Nat} {m : MapP} (h : Held s f ls ll n m.m) {ss : List (List UInt8)} (hk : KeysOf m ss) (hm : m.Small q) (hs : ss.length ≤ n) :
    Held (some (snapF m ss)) f (recsOf ss m.m) ll n m.m :=
  ⟨by show _ = _; rw [recsOf_snap]; rfl, recsOf_asc hk, recsOf_small hm hk, h.sll, by unfold recsOf; rw [List.length_map]; exact hs, h.nll, h.has, h.calm, fun g hg => by cases hg; exact calm_self _, by
    have h1 := snap_back hk
    rw [mapL_again ll (mapL ls MapP.nil) _ (h1.trans h.mf.symm), h1]⟩
/-- A new snap and an empty log. -/
theorem Held.clean {s : Option FileP} {f : FileP} {ls ll : List (ByteArray × ByteArray)} {n q : Nat} {m : MapP} (h : Held s f ls ll n m.m) {ss : List (List UInt8)} (hk : KeysOf m ss) (hm : m.Small q) (hs : ss.length ≤ n) :
    Held (some (snapF m ss)) ⟨⟨#[]⟩, ⟨#[]⟩, true⟩ (recsOf ss m.m) [] n m.m :=
  ⟨by show _ = _; rw [recsOf_snap]; rfl, recsOf_asc hk, recsOf_small hm hk, (fun r hr => by cases hr), by unfold recsOf; rw [List.length_map]; exact hs, Nat.zero_le _, rfl, by decide, fun g hg => by cases hg; exact calm_self _, snap_back hk⟩
theorem tear_empty (x : ByteArray) (draw : Int) : tear ⟨⟨#[]⟩, x, true⟩ draw = some ⟨⟨#[]⟩, ⟨#[]⟩, true⟩ ∨ tear ⟨⟨#[]⟩, x, true⟩ draw = some ⟨x, x, true⟩ := by
  have he : ∀ n, (⟨#[]⟩ : ByteArray).extract 0 n = ⟨#[]⟩ := fun n => bytes_eq (by rw [ByteArray.data_extract]; simp)
  unfold tear
  by_cases h : 0 ≤ draw
  · left
    rw [if_pos h]
    dsimp only
    split
    · rw [he]
    · rw [he]
  · right
    rw [if_neg h]
    rfl
/-- A new snap, and a log that was emptied and is not safe yet. -/
theorem Held.wiped {s : Option FileP} {f : FileP} {ls ll : List (ByteArray × ByteArray)} {n q : Nat} {m : MapP} {m2 : List UInt8 → Option ByteArray} (h : Held s f ls ll n m.m) {ss : List (List UInt8)} (hk : KeysOf m ss) (hm : m.Small q) (hs : ss.length ≤ n) :
    Fallen (some (snapF m ss)) (some { f with has := ⟨#[]⟩ }) n m.m m2 := by
  intro s1 l1 h1 h2
  have hA := (h.clean hk hm hs).stood (Nat.le_refl n)
  have hB := (h.snap hk hm hs).stood (Nat.le_refl n)
  rw [torn_calm (fun g hg => by cases hg; exact calm_self _) h1]
  have hc := h.calm
  obtain ⟨x, y, z⟩ := f
  simp only [FileP.calm, Bool.and_eq_true, decide_eq_true_eq] at hc
  obtain ⟨rfl, rfl⟩ := hc
  rcases h2 with ⟨h2, rfl⟩ | ⟨_, draw, rfl⟩
  · simp only [FileP.calm, Bool.true_and, decide_eq_true_eq] at h2
    subst h2
    exact ⟨_, _, Or.inl hA⟩
  · rcases tear_empty x draw with e | e
    · rw [e]; exact ⟨_, _, Or.inl hA⟩
    · rw [e]; exact ⟨_, _, Or.inl hB⟩

theorem tick_ok (a : Bool) (e : Int) : tick a e = tick a e := rfl

/-- Put, with a fuse. -/
theorem put_out {s : Option FileP} {f : FileP} {ls ll : List (ByteArray × ByteArray)} {n : Nat} {m : MapP} (h : Held s f ls ll n m.m) (k v : ByteArray) (hr : SmallR (k, v)) (hn : n ≤ 100) (a : Bool) (e : Int) :
    (∃ a2 e2 f2, sPut (D3 s (some f) none a false e) m k v = (0, D3 s (some f2) none a2 false e2, m.put k.data.toList v) ∧ Held s f2 ls (ll ++ [(k, v)]) (n + 1) (m.put k.data.toList v).m) ∨
    (∃ a2 e2 f2, sPut (D3 s (some f) none a false e) m k v = (191, D3 s (some f2) none a2 true e2, m) ∧ Fallen s (some f2) (n + 1) m.m (m.put k.data.toList v).m) := by
  have hrz := recP_size k v (by have := hr.1.2; simp only at this; omega) (by have := hr.2; simp only at this; omega)
  have hz : f.has.size ≤ n * 1100 := by
    rw [Lib.size_eq, h.has]
    exact Nat.le_trans (recs_small ll h.sll) (Nat.mul_le_mul_right _ h.nll)
  have hzz : f.has.size + (recP k v).size ≤ 262144 := by have := hr.1.2; have := hr.2; simp only at *; omega
  have hk : 1 ≤ k.size ∧ k.size ≤ 64 := hr.1
  unfold sPut
  rw [if_pos hk, a_l _ _ _ _ _ _ hzz]
  by_cases hd : dead a e = true
  · rw [if_pos hd]
    right
    exact ⟨a, e, f, by simp, h.fallen (Nat.le_succ n)⟩
  · rw [if_neg hd]
    simp only [if_true]
    rw [y_l]
    by_cases hd2 : dead a (tick a e) = true
    · rw [if_pos hd2]
      right
      exact ⟨a, tick a e, _, by simp, h.half k v hr⟩
    · rw [if_neg hd2]
      left
      exact ⟨a, tick a (tick a e), _, by simp, h.more k v hr⟩

/-- Compact, with a fuse. -/
theorem compact_out {s : Option FileP} {f : FileP} {ls ll : List (ByteArray × ByteArray)} {n q : Nat} {m : MapP} (h : Held s f ls ll n m.m) {ss : List (List UInt8)} (hk : KeysOf m ss) (hm : m.Small q) (hs : ss.length ≤ n) (hn : n ≤ 100) (a : Bool) (e : Int) :
    (∃ a2 e2 s2 f2 ls2 ll2, sCompact (D3 s (some f) none a false e) ⟨(snapL ss m.m).toArray⟩ = (0, D3 s2 (some f2) none a2 false e2) ∧ Held s2 f2 ls2 ll2 n m.m) ∨
    (∃ a2 e2 s2 f2 t2, sCompact (D3 s (some f) none a false e) ⟨(snapL ss m.m).toArray⟩ = (191, D3 s2 (some f2) t2 a2 true e2) ∧ Fallen s2 (some f2) n m.m m.m) := by
  have hz : (⟨(snapL ss m.m).toArray⟩ : ByteArray).size ≤ 262144 := by
    rw [arr_size]
    have h1 := snapL_small hm ss (fun x hx => (hk.mem x).1 hx)
    have h2 : ss.length * 1100 ≤ 100 * 1100 := Nat.mul_le_mul_right _ (by omega)
    omega
  have hA := h.clean hk hm hs
  have hB := h.snap hk hm hs
  have hC := h.wiped (m2 := m.m) hk hm hs
  unfold snapF at hA hB hC
  generalize (⟨(snapL ss m.m).toArray⟩ : ByteArray) = x at *
  unfold sCompact sInstead
  rw [w_t _ _ _ _ _ _ hz]
  by_cases d1 : dead a e = true
  · rw [if_pos d1]
    right
    exact ⟨a, e, s, f, none, by simp, h.fallen (Nat.le_refl n)⟩
  rw [if_neg d1]
  simp only [if_true]
  rw [y_t]
  by_cases d2 : dead a (tick a e) = true
  · rw [if_pos d2]
    right
    exact ⟨a, tick a e, s, f, _, by simp; rfl, h.fallen (Nat.le_refl n)⟩
  rw [if_neg d2]
  simp only [if_true]
  rw [r_s]
  by_cases d3 : dead a (tick a (tick a e)) = true
  · rw [if_pos d3]
    right
    exact ⟨a, tick a (tick a e), s, f, _, by simp; rfl, h.fallen (Nat.le_refl n)⟩
  rw [if_neg d3]
  simp only [if_true]
  unfold sFresh
  rw [w_l _ _ _ _ _ _ (by decide)]
  by_cases d4 : dead a (tick a (tick a (tick a e))) = true
  · rw [if_pos d4]
    right
    exact ⟨a, tick a (tick a (tick a e)), _, f, none, by simp, hB.fallen (Nat.le_refl n)⟩
  rw [if_neg d4]
  simp only [if_true, Option.getD_some]
  rw [y_l]
  by_cases d5 : dead a (tick a (tick a (tick a (tick a e)))) = true
  · rw [if_pos d5]
    right
    exact ⟨a, tick a (tick a (tick a (tick a e))), _, _, none, rfl, hC⟩
  rw [if_neg d5]
  left
  exact ⟨a, tick a (tick a (tick a (tick a (tick a e)))), _, _, _, _, rfl, hA⟩

end Go.Proofs.YtmlmjchifelpkaaDoor
