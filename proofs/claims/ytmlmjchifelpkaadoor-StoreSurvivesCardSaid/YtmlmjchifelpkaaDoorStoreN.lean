/- What a store's Open computes. -/
import Derived.Test.YtmlmjchifelpkaaDoorStoreM
import Derived.Test.YtmlmjchifelpkaaDoorFileR
import Derived.Deep.CutRange
namespace Go.Proofs.YtmlmjchifelpkaaDoor
open Go.RowKit Go.Lib Go.Maps Go.Sort
set_option linter.unusedVariables false
set_option maxRecDepth 100000

/-- The map that records make. -/
def mapL (l : List (ByteArray × ByteArray)) (m : MapP) : MapP := l.foldl (fun m r => m.put r.1.data.toList r.2) m
theorem mapL_snoc (l : List (ByteArray × ByteArray)) (m : MapP) (k : Nat) (r : ByteArray × ByteArray) (h : l[k]? = some r) : mapL (l.take (k + 1)) m = (mapL (l.take k) m).put r.1.data.toList r.2 := by
  obtain ⟨hk, hx⟩ := List.getElem?_eq_some_iff.1 h
  unfold mapL
  rw [List.take_succ_eq_append_getElem hk, List.foldl_append, hx]
  rfl
theorem mapL_n (l : List (ByteArray × ByteArray)) : ∀ (m : MapP), (mapL l m).n ≤ m.n + l.length := by
  induction l with
  | nil => intro m; simp [mapL]
  | cons r l ih =>
    intro m
    have h1 := ih (m.put r.1.data.toList r.2)
    have h2 : (m.put r.1.data.toList r.2).n ≤ m.n + 1 := by
      unfold MapP.put
      dsimp only
      split <;> omega
    have h3 : mapL (r :: l) m = mapL l (m.put r.1.data.toList r.2) := rfl
    rw [h3, List.length_cons]
    omega
theorem recsL_len (l : List (ByteArray × ByteArray)) : 8 * l.length ≤ (recsL l).length := by
  induction l with
  | nil => simp
  | cons r l ih =>
    have h : (recL r).length = 8 + ByteArray.size ⟨(encL [r.1, r.2]).toArray⟩ := by rw [recL_eq, frameL_len]
    have h2 : recsL (r :: l) = recL r ++ recsL l := by simp [recsL]
    rw [h2, List.length_append, List.length_cons]
    omega

/-- Keys strictly upward. -/
def Asc (ls : List (ByteArray × ByteArray)) : Prop := ls.Pairwise (fun x y => x.1.data.toList < y.1.data.toList)

/-- The key of record i - 1; none: nothing. -/
def lastOf (ls : List (ByteArray × ByteArray)) : Nat → ByteArray
  | 0 => ⟨#[]⟩
  | i + 1 => (ls.getD i (⟨#[]⟩, ⟨#[]⟩)).1
theorem lastOf_lt (ls : List (ByteArray × ByteArray)) (h : Asc ls) (ho : ∀ r ∈ ls, RecOk r) (i : Nat) (r : ByteArray × ByteArray) (hr : ls[i]? = some r) : (lastOf ls i).data.toList < r.1.data.toList := by
  obtain ⟨hi, hx⟩ := List.getElem?_eq_some_iff.1 hr
  cases i with
  | zero =>
    have := ho r (List.mem_of_getElem? hr)
    have h1 : r.1.data.toList ≠ [] := fun e => by
      have := this.1.1
      rw [Lib.size_eq, e] at this
      simp at this
    cases hq : r.1.data.toList with
    | nil => exact absurd hq h1
    | cons a l => exact List.Lex.nil
  | succ i =>
    have h1 := List.pairwise_iff_getElem.1 h i (i + 1) (by omega) hi (by omega)
    rw [hx] at h1
    show (ls.getD i _).1.data.toList < _
    rw [List.getD_eq_getElem?_getD, List.getElem?_eq_getElem (by omega), Option.getD_some]
    exact h1

theorem new_block (w : World) (o : Obj) : (w.alloc o).heap[w.heap.size]? = some o := (MapKept.heap_alloc w o).1
theorem new_block2 (w : World) (o p : Obj) : ((w.alloc o).alloc p).heap[w.heap.size + 1]? = some p := by
  have h := new_block (w.alloc o) p
  rw [World.size_alloc] at h
  exact h
theorem new_block3 (w : World) (o p q : Obj) : (((w.alloc o).alloc p).alloc q).heap[w.heap.size + 2]? = some q := by
  have h := new_block ((w.alloc o).alloc p) q
  rw [World.size_alloc, World.size_alloc] at h
  exact h

theorem LogInv.below {w0 wa w w' : World} {S g b mb sv : Nat} {d : DiskP} {m : MapP} (h : LogInv w0 wa S g b mb sv d m w) (hb : Below w.heap.size w w') : LogInv w0 wa S g b mb sv d m w' :=
  ⟨h.st.below hb, (hb.block sv (lt_of_block h.csv)).trans h.csv, h.base.trans (hb.mono h.base.size), h.turn.trans (Turn.of_below hb g b), h.mbN, h.le⟩
theorem SnapInv.below {w0 wa w w' : World} {S g b mb sv la fa : Nat} {d : DiskP} {x : ByteArray} {m : MapP} (h : SnapInv w0 wa S g b mb sv la fa d x m w) (hb : Below w.heap.size w w') : SnapInv w0 wa S g b mb sv la fa d x m w' :=
  ⟨h.st.below hb, (hb.block sv (lt_of_block h.csv)).trans h.csv, (hb.block la (lt_of_block h.cla)).trans h.cla, (hb.block fa (lt_of_block h.cfa)).trans h.cfa, h.base.trans (hb.mono h.base.size), h.turn.trans (Turn.of_below hb g b), h.mbN, h.laN, h.faN, h.le⟩
theorem LogInv.snap {w0 wa w : World} {S g b mb sv : Nat} {d : DiskP} {m : MapP} (h : LogInv w0 wa S g b mb sv d m w) :
    SnapInv w0 wa S g b mb sv w.heap.size (w.heap.size + 1) d ⟨#[]⟩ m ((w.alloc (.cells #[.string ⟨#[]⟩] 9 (0, 0))).alloc (.cells #[.bool false] 4 (0, 0))) := by
  have hb : Below w.heap.size w ((w.alloc (.cells #[.string ⟨#[]⟩] 9 (0, 0))).alloc (.cells #[.bool false] 4 (0, 0))) := ((Below.refl _ w).alloc (Nat.le_refl _) _).alloc (by rw [World.size_alloc]; omega) _
  have h2 := h.below hb
  have hz := h.turn.size
  exact ⟨h2.st, h2.csv, (Below.heap_alloc _ _ _ (by rw [World.size_alloc]; omega)).trans (new_block _ _), new_block2 _ _ _, h2.base, h2.turn, h2.mbN, hz, by omega, h2.le⟩
theorem SnapInv.log {w0 wa w : World} {S g b mb sv la fa : Nat} {d : DiskP} {x : ByteArray} {m : MapP} (h : SnapInv w0 wa S g b mb sv la fa d x m w) : LogInv w0 wa S g b mb sv d m w := ⟨h.st, h.csv, h.base, h.turn, h.mbN, h.le⟩

theorem LogInv.disk {w0 wa w w' : World} {S g b mb sv : Nat} {d d' : DiskP} {m : MapP} (h : LogInv w0 wa S g b mb sv d m w) (hd : IsDisk w' g b d') (ht : Turn g b w w') (hg : w0.heap.size ≤ g) (hb : w0.heap.size ≤ b) : LogInv w0 wa S g b mb sv d' m w' := by
  have h1 : sv ≠ g := fun e => by have h1 := h.st.disk.box; rw [← e, h.csv] at h1; cases h1
  have h2 : sv ≠ b := fun e => by
    obtain ⟨D, ⟨es, clock, h1, _⟩, _⟩ := h.st.disk.files
    rw [← e, h.csv] at h1
    cases h1
  exact ⟨h.st.turn hd ht, (ht.block sv (lt_of_block h.csv) h1 h2).trans h.csv, h.base.trans (ht.below h.base.size hg hb), h.turn.trans ht, h.mbN, h.le⟩

theorem open_start (w0 w : World) (g b : Nat) (d : DiskP) (hb0 : Below w0.heap.size w0 w) (hg0 : w0.heap.size ≤ g) (hbb0 : w0.heap.size ≤ b) (hd : IsDisk w g b d) :
    LogInv w0 w (w.heap.size + 1) g b w.heap.size (w.heap.size + 1 + 1) d MapP.nil (((w.alloc (.map #[] 0)).alloc (.cells #[.pointer (some ⟨g, 0, none⟩), .map (some w.heap.size)] 51 (0, 0))).alloc (.cells #[.pointer (some ⟨w.heap.size + 1, 0, none⟩)] 26 (0, 0))) := by
  have hb : Below w.heap.size w (((w.alloc (.map #[] 0)).alloc (.cells #[.pointer (some ⟨g, 0, none⟩), .map (some w.heap.size)] 51 (0, 0))).alloc (.cells #[.pointer (some ⟨w.heap.size + 1, 0, none⟩)] 26 (0, 0))) :=
    (((Below.refl _ w).alloc (Nat.le_refl _) _).alloc (by rw [World.size_alloc]; omega) _).alloc (by rw [World.size_alloc, World.size_alloc]; omega) _
  have hgl := hd.lt
  have hbl := hd.ltb
  refine ⟨⟨?_, hd.below hb hgl hbl, ?_, by omega, by omega, by omega⟩, ?_, hb0.trans (hb.mono hb0.size), Turn.of_below hb g b, Nat.le_refl _, hb0.size⟩
  · exact (Below.heap_alloc _ _ _ (by rw [World.size_alloc, World.size_alloc]; omega)).trans (new_block2 _ _ _)
  · exact ⟨.map [], ((World.ownsMap_made w _ _ _).alloc _).alloc _, rfl, fun k => rfl, fun k f hf => by cases hf⟩
  · exact new_block3 _ _ _ _

theorem run_snap (a : Array Value) (w : World) : (callFunc 21 a).run Tryd.prog w = .ok (.enter 21 a) w := enters_of Tryd.func21 (by kernel_rfl) rfl a w
theorem run_log (a : Array Value) (w : World) : (callFunc 24 a).run Tryd.prog w = .ok (.enter 24 a) w := enters_of Tryd.func24 (by kernel_rfl) rfl a w

theorem replay_snap (w0 wa w : World) (S g b mb sv la fa : Nat) (d : DiskP) (bs : ByteArray) (ls : List (ByteArray × ByteArray)) (h : SnapInv w0 wa S g b mb sv la fa d ⟨#[]⟩ MapP.nil w) (hbz : bs.size ≤ 1000000) (hbs : bs.data.toList = recsL ls)
    (hla : Asc ls) (hlo : ∀ r ∈ ls, RecOk r) (hl0 : Laid w0) :
    Calls Tryd.prog 20 #[.string bs, .func (.func 21) #[] #[.pointer (some ⟨fa, 0, none⟩), .pointer (some ⟨la, 0, none⟩), .pointer (some ⟨sv, 0, none⟩)]] w
      fun e w' => e = .returned (.int .i64 bs.size) ∧ ∃ x, SnapInv w0 wa S g b mb sv la fa d x (mapL ls MapP.nil) w' := by
  have hsz : bs.size = (recsL ls).length := by rw [Lib.size_eq, hbs]
  have hln := recsL_len ls
  refine (replay_any bs ls ⟨#[]⟩ 0 21 #[.pointer (some ⟨fa, 0, none⟩), .pointer (some ⟨la, 0, none⟩), .pointer (some ⟨sv, 0, none⟩)]
    (fun i w' => SnapInv w0 wa S g b mb sv la fa d (lastOf ls i) (mapL (ls.take i) MapP.nil) w') w hbz hlo (by decide) (by decide) (by rw [hbs]; simp) h run_snap
    (fun i w' h => hl0.stays h.base (Nat.le_refl _)) (fun i w' w'' h hb => h.below hb) (fun i r w' hr h => ?_)).mono ?_
  · have hi := (List.getElem?_eq_some_iff.1 hr).1
    have h1 := mapL_n (ls.take i) MapP.nil
    have h2 : (ls.take i).length ≤ ls.length := by simp; omega
    have h3 : MapP.nil.n = 0 := rfl
    have h4 := hlo r (List.mem_of_getElem? hr)
    have h5 : lastOf ls (i + 1) = r.1 := by
      show (ls.getD i _).1 = _
      rw [List.getD_eq_getElem?_getD, hr, Option.getD_some]
    rw [mapL_snoc ls _ i r hr, h5]
    exact add_snap w0 wa S g b mb sv la fa d (lastOf ls i) (mapL (ls.take i) MapP.nil) r.1 r.2 w' h h4.1.2 (lastOf_lt ls hla hlo i r hr) (by omega)
  · rintro e w' ⟨rfl, h2⟩
    rw [List.take_length] at h2
    rw [hsz]
    exact ⟨rfl, _, h2⟩

theorem replay_log (w0 wa w : World) (S g b mb sv : Nat) (d : DiskP) (bs tl : ByteArray) (j : Nat) (m : MapP) (ls : List (ByteArray × ByteArray)) (h : LogInv w0 wa S g b mb sv d m w) (hbz : bs.size ≤ 1000000) (hbs : bs.data.toList = recsL ls ++ (frameL tl).take j)
    (htz : tl.size ≤ 262144) (hj : j < 8 + tl.size) (hlo : ∀ r ∈ ls, RecOk r) (hl0 : Laid w0) (hn : m.n ≤ 500000) :
    Calls Tryd.prog 20 #[.string bs, .func (.func 24) #[] #[.pointer (some ⟨sv, 0, none⟩)]] w
      fun e w' => e = .returned (.int .i64 (recsL ls).length) ∧ LogInv w0 wa S g b mb sv d (mapL ls m) w' := by
  have hsz : bs.size = (recsL ls).length + ((frameL tl).take j).length := by rw [Lib.size_eq, hbs, List.length_append]
  have hln := recsL_len ls
  refine (replay_any bs ls tl j 24 #[.pointer (some ⟨sv, 0, none⟩)]
    (fun i w' => LogInv w0 wa S g b mb sv d (mapL (ls.take i) m) w') w hbz hlo htz hj hbs h run_log
    (fun i w' h => hl0.stays h.base (Nat.le_refl _)) (fun i w' w'' h hb => h.below hb) (fun i r w' hr h => ?_)).mono ?_
  · have hi := (List.getElem?_eq_some_iff.1 hr).1
    have h1 := mapL_n (ls.take i) m
    have h2 : (ls.take i).length ≤ ls.length := by simp; omega
    have h4 := hlo r (List.mem_of_getElem? hr)
    rw [mapL_snoc ls _ i r hr]
    exact add_log w0 wa S g b mb sv d (mapL (ls.take i) m) r.1 r.2 w' h h4.1.2 (by omega)
  · rintro e w' ⟨rfl, h2⟩
    rw [List.take_length] at h2
    exact ⟨rfl, h2⟩

/-- What lies in a snap; in a log, with a torn record at its end. -/
def SnapIs (s : Option FileP) (ls : List (ByteArray × ByteArray)) : Prop := match s with | none => ls = [] | some f => f.has.data.toList = recsL ls
def LogIs (l : Option FileP) (ll : List (ByteArray × ByteArray)) : Prop := match l with | none => ll = [] | some f => ∃ (tl : ByteArray) (j : Nat), j < 8 + tl.size ∧ tl.size ≤ 262144 ∧ f.has.data.toList = recsL ll ++ (frameL tl).take j
/-- What an opening leaves as the log. -/
def LogAfter (l : Option FileP) (ll : List (ByteArray × ByteArray)) (f : FileP) : Prop := f.has.data.toList = recsL ll ∧ (l = some f ∨ f.calm = true)
def OpenOut (g b : Nat) (s l : Option FileP) (e : Int) (ll : List (ByteArray × ByteArray)) (m : MapP) (w : World) (en : Ending) (w' : World) : Prop :=
  ∃ S mb f, en = .returned (.tuple #[.pointer (some ⟨S, 0, none⟩), .int .i64 0]) ∧ w.heap.size ≤ S ∧ w.heap.size ≤ mb ∧ LogAfter l ll f ∧ IsStore w' S g b mb (D3 s (some f) none false false e) m ∧ Turn g b w w'

def SizeLe (w : World) (n : Nat) : Prop := w.heap.size ≤ n

theorem open_any (w0 : World) (g b : Nat) (s l t : Option FileP) (le : Int) (w : World) (hb0 : Below w0.heap.size w0 w) (hg0 : w0.heap.size ≤ g) (hbb0 : w0.heap.size ≤ b) (hd : IsDisk w g b (D3 s l t false false le)) (hl0 : Laid w0)
    (ls ll : List (ByteArray × ByteArray)) (hsn : SnapIs s ls) (hla : Asc ls) (hlo : ∀ r ∈ ls, RecOk r) (hlg : LogIs l ll) (hlo2 : ∀ r ∈ ll, RecOk r) :
    Calls Tryd.prog 8 #[.pointer (some ⟨g, 0, none⟩)] w (OpenOut g b s l le ll (mapL ll (mapL ls MapP.nil)) w) := by
  have hs : (dKnown (D3 s l t false false le) nSnap).2 = 0 ∧ (dKnown (D3 s l t false false le) nSnap).1.has.data.toList = recsL ls ∧ (dKnown (D3 s l t false false le) nSnap).1.has.size ≤ 262144 ∨ (dKnown (D3 s l t false false le) nSnap).2 = 5 ∧ ls = [] := by
    cases s with
    | none => right; rw [k_s0]; exact ⟨rfl, hsn⟩
    | some f => left; rw [k_s]; exact ⟨rfl, hsn, (hd.ok.sizes nSnap f (D3_s _ _ _ _ _ _)).1⟩
  have hkl : (dKnown (D3 s l none false false le) nLog).2 = 0 ∧ (∃ (tl : ByteArray) (j : Nat), j < 8 + tl.size ∧ tl.size ≤ 262144 ∧ (dKnown (D3 s l none false false le) nLog).1.has.data.toList = recsL ll ++ (frameL tl).take j) ∧ (dKnown (D3 s l none false false le) nLog).1.has.size ≤ 262144 ∧ l = some (dKnown (D3 s l none false false le) nLog).1
      ∨ (dKnown (D3 s l none false false le) nLog).2 = 5 ∧ ll = [] ∧ l = none := by
    cases l with
    | none => right; rw [k_l0]; exact ⟨rfl, hlg, rfl⟩
    | some f => left; rw [k_l]; exact ⟨rfl, hlg, (hd.ok.sizes nLog f (D3_l _ _ _ _ _ _)).1, rfl⟩
  have hkt : (dKnown (D3 s l t false false le) nTemp).2 = 0 ∧ dRemove (D3 s l t false false le) nTemp = (0, D3 s l none false false le) ∨ (dKnown (D3 s l t false false le) nTemp).2 = 5 ∧ t = none := by
    cases t with
    | none => right; rw [k_t0]; exact ⟨rfl, rfl⟩
    | some f => left; rw [k_t, m_t]; exact ⟨rfl, by simp [dead, tick]⟩
  have hn0 := mapL_n ls MapP.nil
  have hn1 : MapP.nil.n = 0 := rfl
  have hn2 : ls.length ≤ 100000 := by
    rcases hs with h | h
    · have h1 := h.2.2
      have h2 := recsL_len ls
      rw [Lib.size_eq, h.2.1] at h1
      omega
    · rw [h.2]; simp
  have hn : (mapL ls MapP.nil).n ≤ 500000 := by omega
  clear hsn hlg hn0 hn1 hn2
  have HKL := Lib.hid hkl
  have HKT := Lib.hid hkt
  have HLO2 := Lib.hid hlo2
  clear hkl hkt hlo2
  generalize hdd : D3 s l t false false le = d at *
  have hmm := @run_makeMap Tryd.prog
  have HD := Lib.hid hd
  have HL0 := Lib.hid hl0
  have HLA := Lib.hid hla
  have HLO := Lib.hid hlo
  have hSN : Hid (SizeLe w w.heap.size ∧ SizeLe w (w.heap.size + 1)) := ⟨Nat.le_refl _, Nat.le_succ _⟩
  have HS0 := Lib.hid (open_start w0 w g b d hb0 hg0 hbb0 hd)
  have HK := Lib.hid hs
  clear hd hl0 hla hlo hs hb0
  have hmf : ∀ (fn : Fn) (first cap : Array Value) (w : World), (Instr.makeFunc fn first cap).run Tryd.prog w = .ok (.func fn first cap) w := fun _ _ _ _ => rfl
  go_enter Tryd.func8, Tryd.ntmps8
  go_wp2_with fail
  generalize (((w.alloc (.map #[] 0)).alloc (.cells #[.pointer (some ⟨g, 0, none⟩), .map (some w.heap.size)] 51 (0, 0))).alloc (.cells #[.pointer (some ⟨w.heap.size + 1, 0, none⟩)] 26 (0, 0))) = w3 at *
  generalize w.heap.size = mb at *
  generalize mb + 1 = S at *
  generalize S + 1 = sv at *
  have hrd := read_any g b d ⟨#[115, 110, 97, 112]⟩ w3 HS0.out.st.disk
  rw [show (⟨#[115, 110, 97, 112]⟩ : ByteArray).data.toList = nSnap from rfl] at hrd
  generalize (dKnown d nSnap).1.has = bs at *
  generalize (dKnown d nSnap).2 = es at *
  refine hrd.mono ?_
  rintro e w4 ⟨rfl, hb4⟩
  clear hrd
  have HS4 := Lib.hid (HS0.out.below hb4)
  clear hb4
  go_upto_if 30 with fail
  go_cut [4] from 5 to 41 (fun s4 wx => s4 = .pointer (some ⟨sv, 0, none⟩) ∧ Hid (LogInv w0 w S g b mb sv d (mapL ls MapP.nil) wx))
  case first =>
    rcases HK.out with ⟨h0, hbs, hbz⟩ | ⟨h5, hls⟩
    · subst h0
      have HBS := Lib.hid hbs
      have hbz2 : bs.size ≤ 1000000 := by omega
      clear hbs
      go_wp2_with fail
      have HSN := Lib.hid HS4.out.snap
      generalize ((w4.alloc (.cells #[.string ⟨#[]⟩] 9 (0, 0))).alloc (.cells #[.bool false] 4 (0, 0))) = w5 at *
      generalize hla5 : w4.heap.size = la5 at *
      generalize hfa5 : la5 + 1 = fa5 at *
      clear hla5 hfa5
      refine (replay_snap w0 w w5 S g b mb sv la5 fa5 d bs ls HSN.out hbz2 HBS.out HLA.out HLO.out HL0.out).mono ?_
      rintro e w6 ⟨rfl, x6, hi6⟩
      have c6 := cell_of_one hi6.cfa
      have HI6 := Lib.hid hi6
      clear hi6
      go_wp2_with fail
      go_meet
      exact ⟨rfl, HI6.out.log⟩
    · subst h5
      subst hls
      go_wp2_with fail
      go_meet
      exact ⟨rfl, HS4⟩
  case rest =>
    obtain ⟨rfl, HA⟩ := hcut
    clear HK HS0 HS4
    generalize mapL ls MapP.nil = m1 at *
    go_wp2_with fail
    have hrd := read_any g b d ⟨#[116, 101, 109, 112]⟩ wc HA.out.st.disk
    rw [show (⟨#[116, 101, 109, 112]⟩ : ByteArray).data.toList = nTemp from rfl] at hrd
    generalize (dKnown d nTemp).1.has = bs2 at *
    generalize (dKnown d nTemp).2 = es2 at *
    refine hrd.mono ?_
    rintro e w4 ⟨rfl, hb4⟩
    clear hrd
    have HA4 := Lib.hid (HA.out.below hb4)
    clear hb4
    go_upto_if 47 with fail
    go_cut [4] from 5 to 53 (fun s4 wx => s4 = .pointer (some ⟨sv, 0, none⟩) ∧ Hid (LogInv w0 w S g b mb sv (D3 s l none false false le) m1 wx))
    case first =>
      rcases HKT.out with ⟨h0, hrm⟩ | ⟨h5, ht⟩
      · subst h0
        go_wp2_with fail
        have hre := remove_any g b d ⟨#[116, 101, 109, 112]⟩ w4 HA4.out.st.disk
        rw [show (⟨#[116, 101, 109, 112]⟩ : ByteArray).data.toList = nTemp from rfl, hrm] at hre
        refine hre.mono ?_
        rintro e w5 ⟨rfl, hd5, ht5⟩
        have HA5 := Lib.hid (HA4.out.disk hd5 ht5 hg0 hbb0)
        clear hre hd5 ht5 hrm
        go_wp2_with fail
        go_meet
        exact ⟨rfl, HA5⟩
      · subst h5
        subst ht
        go_wp2_with fail
        go_meet
        exact ⟨rfl, by rw [hdd]; exact HA4⟩
    case rest =>
      obtain ⟨rfl, HB⟩ := hcut
      clear HKT HA HA4 hdd HD
      generalize hdd : D3 s l none false false le = d1 at *
      go_wp2_with fail
      have hrd := read_any g b d1 ⟨#[108, 111, 103]⟩ wc HB.out.st.disk
      rw [show (⟨#[108, 111, 103]⟩ : ByteArray).data.toList = nLog from rfl] at hrd
      generalize (dKnown d1 nLog).1 = lf at *
      generalize (dKnown d1 nLog).2 = es3 at *
      refine hrd.mono ?_
      rintro e w5 ⟨rfl, hb5⟩
      clear hrd
      have HB5 := Lib.hid (HB.out.below hb5)
      have csv5 := cell_of_one HB5.out.csv
      clear hb5 HB
      rcases HKL.out with ⟨h0, ⟨tl, j, hj, htz, hbs⟩, hlz, hl⟩ | ⟨h5, hll, hl⟩
      · subst h0
        subst hl
        have HBS := Lib.hid hbs
        have hsz : lf.has.size = (recsL ll).length + ((frameL tl).take j).length := by rw [Lib.size_eq, hbs, List.length_append]
        have hjl : ((frameL tl).take j).length = j := by rw [List.length_take, frameL_len]; omega
        rw [hjl] at hsz
        clear hbs hjl
        have HRP := Lib.hid (fun wx => fun h => replay_log w0 w wx S g b mb sv d1 lf.has tl j m1 ll h (by omega) HBS.out htz hj HLO2.out HL0.out hn : ∀ wx, LogInv w0 w S g b mb sv d1 m1 wx → _)
        go_wp2_with fail
        refine (HRP.out _ HB5.out).mono ?_
        rintro e w6 ⟨rfl, hi6⟩
        have csv6 := cell_of_one hi6.csv
        have HB6 := Lib.hid hi6
        have HEX : Hid (lf.has.extract 0 (recsL ll).length = ⟨(recsL ll).toArray⟩) := by
          apply Lib.hid
          apply bytes_eq
          rw [ByteArray.data_extract]
          simp [HBS.out]
        have hlz2 : (recsL ll).length ≤ lf.has.size := by omega
        have hlz3 : (recsL ll).length ≤ 262144 := by omega
        clear hi6 csv5 HB5 HRP
        by_cases hj0 : j = 0
        · have HBS2 : Hid (lf.has.data.toList = recsL ll) := Lib.hid (by rw [HBS.out, hj0]; simp)
          have hnl : ¬ (((recsL ll).length : Int) < (lf.has.size : Int)) := by omega
          clear hj0
          generalize (recsL ll).length = o1 at *
          go_wp2_with fail
          go_ret2
          exact ⟨S, mb, lf, rfl, hSN.out.2, hSN.out.1, ⟨HBS2.out, Or.inl rfl⟩, by rw [hdd]; exact HB6.out.st, HB6.out.turn⟩
        · have hnl : ((recsL ll).length : Int) < (lf.has.size : Int) := by omega
          have hxz : (lf.has.extract 0 (recsL ll).length).size ≤ 262144 := by rw [HEX.out, arr_size]; omega
          have HLA2 : Hid (LogAfter (some lf) ll ⟨lf.has.extract 0 (recsL ll).length, lf.has.extract 0 (recsL ll).length, true⟩) := Lib.hid ⟨by show (lf.has.extract 0 (recsL ll).length).data.toList = _; rw [HEX.out], Or.inr (by simp [FileP.calm])⟩
          have HI := Lib.hid (fun wx h1 h2 => instead_any S g b mb d1 ⟨#[108, 111, 103]⟩ (lf.has.extract 0 (recsL ll).length) wx h1 h2 (by rw [HEX.out, arr_size]; unfold maxLen; omega))
          clear hj0
          rw [show (⟨#[108, 111, 103]⟩ : ByteArray).data.toList = nLog from rfl, ← hdd, instead_l _ _ _ _ _ hxz] at HI
          have HD6 := Lib.hid (HB6.out.below (Below.refl w6.heap.size w6).drew)
          have csvd := cell_of_one HD6.out.csv
          rw [← hdd] at HD6
          generalize (recsL ll).length = o1 at *
          go_upto_region 23 with fail
          go_region_with (go_at_call 25; (with_reducible refine (HI.out _ HD6.out.st.box HD6.out.st.disk).mono ?_); rintro e w7 ⟨rfl, hd7, ht7⟩; have HB7 := Lib.hid (HD6.out.disk hd7 ht7 hg0 hbb0); have csv7 := cell_of_one HB7.out.csv; clear hd7 ht7)
          all_goals (go_wp2_with fail; go_ret2; exact ⟨S, mb, _, rfl, hSN.out.2, hSN.out.1, HLA2.out, HB7.out.st, HB7.out.turn⟩)
      · subst h5
        subst hll
        subst hl
        have HF := Lib.hid (fresh_any S g b mb d1 w5 HB5.out.st.box HB5.out.st.disk)
        rw [← hdd, fresh_up] at HF
        go_wp2_with fail
        refine HF.out.mono ?_
        rintro e w6 ⟨rfl, hd6, ht6⟩
        have HB6 := Lib.hid (HB5.out.disk hd6 ht6 hg0 hbb0)
        have csv6 := cell_of_one HB6.out.csv
        clear hd6 ht6 csv5 HF
        go_wp2_with fail
        go_ret2
        exact ⟨S, mb, _, rfl, hSN.out.2, hSN.out.1, ⟨rfl, Or.inr rfl⟩, HB6.out.st, HB6.out.turn⟩

end Go.Proofs.YtmlmjchifelpkaaDoor
