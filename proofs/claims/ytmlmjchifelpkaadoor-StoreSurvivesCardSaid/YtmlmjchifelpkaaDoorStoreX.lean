/- StoreCompacts: the walk through the law's own code. -/
import Derived.Test.YtmlmjchifelpkaaDoorStoreW
namespace Go.Proofs.YtmlmjchifelpkaaDoor
open Go.RowKit Go.Lib Go.Maps Go.Sort
set_option linter.unusedVariables false
set_option maxRecDepth 100000

/-- An act. -/
structure ActP where
  kind : Int
  name : ByteArray
  data : ByteArray
  n : Int
  rp : Option Addr
  rn : Nat
  rc : Nat
def ActP.nil : ActP := ⟨0, ⟨#[]⟩, ⟨#[]⟩, 0, none, 0, 0⟩

/-- The slice v reads xs the acts. -/
def ActsArg (w : World) (v : Value) (xs : List ActP) : Prop :=
  ∃ p cap, v = .slice p xs.length cap ∧ xs.length ≤ maxLen ∧ (xs ≠ [] → ∃ ab off, p = some ⟨ab, off, none⟩ ∧ ab < w.heap.size ∧ ∀ j, j < xs.length →
    w.cell? ⟨ab, off + j * 5, none⟩ = some (.int .i64 (xs.getD j ActP.nil).kind) ∧ w.cell? ⟨ab, off + j * 5 + 1, none⟩ = some (.string (xs.getD j ActP.nil).name) ∧
    w.cell? ⟨ab, off + j * 5 + 2, none⟩ = some (.string (xs.getD j ActP.nil).data) ∧ w.cell? ⟨ab, off + j * 5 + 3, none⟩ = some (.int .i64 (xs.getD j ActP.nil).n) ∧ w.cell? ⟨ab, off + j * 5 + 4, none⟩ = some (.slice (xs.getD j ActP.nil).rp (xs.getD j ActP.nil).rn (xs.getD j ActP.nil).rc)) ∧
  ∀ a ∈ xs, a.data.size ≤ 140737488355328 ∧ a.n ≤ 9223372036854775807

/-- A small store without a snap: what its log holds is what it has. -/
structure LogOnly (S g b mb : Nat) (ll : List (ByteArray × ByteArray)) (f : FileP) (w : World) : Prop where
  st : IsStore w S g b mb (D3 none (some f) none false false 0) (mapL ll MapP.nil)
  has : f.has.data.toList = recsL ll
  small : ∀ r ∈ ll, (1 ≤ r.1.size ∧ r.1.size ≤ 64) ∧ r.2.size ≤ 1000
theorem LogOnly.below {S g b mb : Nat} {ll : List (ByteArray × ByteArray)} {f : FileP} {w w' : World} (h : LogOnly S g b mb ll f w) (hb : Below w.heap.size w w') : LogOnly S g b mb ll f w' := ⟨h.st.below hb, h.has, h.small⟩
theorem LogOnly.map {S g b mb : Nat} {ll : List (ByteArray × ByteArray)} {f : FileP} {w : World} (h : LogOnly S g b mb ll f w) : (mapL ll MapP.nil).Small ll.length := by
  have := mapL_small ll MapP.nil 0 MapP.Small.nil h.small
  rwa [Nat.zero_add] at this

/-- Put on such a store, whatever the key. -/
theorem put_logonly (S g b mb : Nat) (ll : List (ByteArray × ByteArray)) (f : FileP) (k v : ByteArray) (w : World) (h : LogOnly S g b mb ll f w) (hn : ll.length ≤ 99) (hv : v.size ≤ 1000) (hl : Laid w) :
    Calls Tryd.prog 9 #[.pointer (some ⟨S, 0, none⟩), .string k, .string v] w fun e w' => ∃ (z : Int) (ll2 : List (ByteArray × ByteArray)) (f2 : FileP), e = .returned (.int .i64 z) ∧ ll2.length ≤ ll.length + 1 ∧ LogOnly S g b mb ll2 f2 w' ∧ Turn3 g b mb w w' := by
  by_cases hk : 1 ≤ k.size ∧ k.size ≤ 64
  · have hz : f.has.size ≤ ll.length * 1100 := by rw [Lib.size_eq, h.has]; exact recs_small ll h.small
    refine (put_small S g b mb none none f 0 (mapL ll MapP.nil) ll.length k v w h.st h.map (by omega) hz hk hv hl).mono ?_
    rintro e w' ⟨rfl, h1, h2⟩
    refine ⟨0, ll ++ [(k, v)], ⟨f.has ++ recP k v, f.has ++ recP k v, true⟩, rfl, by simp, ⟨?_, ?_, ?_⟩, h2⟩
    · rw [mapL_app]; exact h1
    · show (f.has ++ recP k v).data.toList = _
      rw [ByteArray.data_append, Array.toList_append, h.has, recsL_app, recsL_one]
      rfl
    · intro r hr
      rcases List.mem_append.1 hr with h3 | h3
      · exact h.small r h3
      · simp at h3; subst h3; exact ⟨hk, hv⟩
  · refine (put_bad S g b mb _ _ k v w h.st hk).mono ?_
    rintro e w' ⟨rfl, h1, h2⟩
    have he : sPut (D3 none (some f) none false false 0) (mapL ll MapP.nil) k v = (170, D3 none (some f) none false false 0, mapL ll MapP.nil) := if_neg hk
    rw [he] at h1
    exact ⟨_, ll, f, rfl, by omega, ⟨h1, h.has, h.small⟩, h2⟩

theorem StrsAt.turn {B g b : Nat} {w w' : World} {v : Value} {ss : List ByteArray} (h : StrsAt B w v ss) (ht : Turn g b w w') (hg : g < B) (hb : b < B) : StrsAt B w' v ss := by
  obtain ⟨p, cap, rfl, hm, hc⟩ := h
  refine ⟨p, cap, rfl, hm, fun hne => ?_⟩
  obtain ⟨r, rfl, hB, hr, hcell⟩ := hc hne
  refine ⟨r, rfl, hB, Nat.lt_of_lt_of_le hr ht.size, fun j hj => ?_⟩
  rw [← hcell j hj]
  exact ht.cell hr (by omega) (by omega)

set_option maxHeartbeats 1600000 in
theorem compacts_walk (va : Value) (xs : List ActP) (w : World) (hl : Laid w) (ha : ActsArg w va xs) :
    Calls Tryd.prog 3 #[va] w fun e w' => e = .returned (.bool true) ∧ Below w.heap.size w w' := by
  obtain ⟨pa, capa, rfl, hml, hcell, hbd⟩ := ha
  have HCE := Lib.hid hcell
  have HBD := Lib.hid hbd
  have HL := Lib.hid hl
  clear hcell hbd hl
  have hml : xs.length ≤ 9223372036854775807 := hml
  go_enter Tryd.func3, Tryd.ntmps3
  go_wp2_with fail
  refine (works_any w HL.out).mono ?_
  rintro e w0 ⟨rfl, hb0⟩
  have HB0 := Lib.hid hb0
  have HL0 : Hid (Laid w0) := HL.out.stays hb0 (Nat.le_refl _)
  clear hb0
  go_wp2_with fail
  refine (new_any w0).mono ?_
  rintro e w1 ⟨rfl, hd1, hb1⟩
  rw [D3_nil] at hd1
  have hg0 : w0.heap.size ≤ w0.heap.size + 1 := by omega
  have hbr : w0.heap.size ≤ w0.heap.size := Nat.le_refl _
  have hsz1 := hb1.size
  have HOP := Lib.hid (open_any w0 (w0.heap.size + 1) w0.heap.size none none none 0 w1 hb1 hg0 hbr hd1 HL0.out [] [] rfl List.Pairwise.nil (fun _ h => by cases h) rfl (fun _ h => by cases h))
  have HB1 := Lib.hid hb1
  clear hd1 hb1
  generalize w0.heap.size + 1 = g at *
  generalize hbb : w0.heap.size = b at *
  have HBB := Lib.hid hbb
  have hwb : ∀ wx : World, w0.heap.size ≤ wx.heap.size → b ≤ wx.heap.size := fun wx h => by rw [← hbb]; exact h
  clear hbb
  go_wp2_with fail
  refine HOP.out.mono ?_
  rintro e w2 ⟨S, mb, f2, rfl, hS, hmb, hla, hst2, ht2⟩
  have hbel2 : Hid (Below b w0 w2) := HB1.out.trans (ht2.below hsz1 hg0 hbr)
  have hmb2 : b ≤ mb := Nat.le_trans hsz1 hmb
  have HLO2 : Hid (LogOnly S g b mb [] f2 w2) := ⟨hst2, hla.1, fun r hr => by cases hr⟩
  clear hS hmb hla hst2 ht2 HOP HB1
  go_wp2_with fail
  go_loopg [6] xs.length (fun gg s6 wr => ∃ (kk : Nat) (ll : List (ByteArray × ByteArray)) (f : FileP), kk ≤ xs.length ∧ kk ≤ 60 ∧ xs.length - kk ≤ gg ∧ s6 = .int .i64 kk ∧ ll.length ≤ kk ∧ Hid (LogOnly S g b mb ll f wr) ∧ Hid (Below b w0 wr))
  case atStart => exact ⟨0, [], f2, Nat.zero_le _, by omega, by omega, rfl, Nat.le_refl _, HLO2, hbel2⟩
  case round =>
    obtain ⟨kk, ll, f, hkk, hk60, hgg, rfl, hll, HS, HT⟩ := hrel
    by_cases hlt : kk < xs.length ∧ kk < 60
    · have hl1 : (kk : Int) < (xs.length : Int) := by omega
      have hl2 : (kk : Int) < 60 := by omega
      have hk1 := hlt.1
      have hne : xs ≠ [] := fun e => by rw [e] at hk1; exact absurd hk1 (Nat.not_lt_zero _)
      obtain ⟨ab, off, rfl, hab, hcs⟩ := HCE.out hne
      obtain ⟨y0, y1, y2, y3, y4⟩ := hcs kk hk1
      have hmem : xs.getD kk ActP.nil ∈ xs := by
        rw [List.getD_eq_getElem?_getD, List.getElem?_eq_getElem hk1]
        exact List.getElem_mem hk1
      have hbm := HBD.out _ hmem
      clear hmem hcs
      rcases hact : xs.getD kk ActP.nil with ⟨kd, nm, dt, nn, rp, rn, rc⟩
      rw [hact] at y0 y1 y2 y3 y4 hbm
      simp only at y0 y1 y2 y3 y4 hbm
      have hBW : Below w.heap.size w wr := HB0.out.trans (HT.out.mono (by rw [HBB.out.symm]; exact HB0.out.size))
      have z1 := (hBW.cell (p := ⟨ab, off + kk * 5 + 1, none⟩) hab).trans y1
      have z2 := (hBW.cell (p := ⟨ab, off + kk * 5 + 2, none⟩) hab).trans y2
      have HLr : Hid (Laid wr) := HL0.out.stays HT.out (by rw [HBB.out]; exact Nat.le_refl _)
      clear y0 y1 y2 y3 y4 hBW hact hne
      have hdz := hbm.1
      by_cases hv : dt.size ≤ 1000
      · have hvz : (dt.size : Int) ≤ 1000 := by omega
        have HP := Lib.hid (fun wx h1 h2 => put_logonly S g b mb ll f nm dt wx h1 (by omega) hv h2)
        have hdr : Below wr.heap.size wr wr.drew := (Below.refl _ _).drew
        have HSd := Lib.hid (HS.out.below hdr)
        have HTd := Lib.hid (HT.out.trans (hdr.mono (hwb _ HT.out.size)))
        have HLd : Hid (Laid wr.drew) := HLr.out.stays hdr (Nat.le_refl _)
        have z1d : wr.drew.cell? ⟨ab, off + kk * 5 + 1, none⟩ = some (.string nm) := z1
        have z2d : wr.drew.cell? ⟨ab, off + kk * 5 + 2, none⟩ = some (.string dt) := z2
        clear hdr
        go_upto_region 13 with fail
        go_region_with (go_at_call 9; (with_reducible refine (HP.out _ HSd.out HLd.out).mono ?_); rintro e w5 ⟨z5, ll5, f5, rfl, hll5, hst5, ht5⟩; have HS5 := Lib.hid hst5; have HT5 := Lib.hid (HTd.out.trans (ht5.below (hwb _ HTd.out.size) hg0 hbr hmb2)); clear hst5 ht5)
        all_goals (go_wp2_with fail; go_roundg (xs.length - (kk + 1)))
        all_goals first
          | (show _ < _; omega)
          | exact ⟨kk + 1, ll5, f5, by omega, by omega, by omega, by go_num, by omega, HS5, HT5⟩
      · have hvz : ¬ (dt.size : Int) ≤ 1000 := by omega
        go_wp2_with fail
        go_roundg (xs.length - (kk + 1))
        case measure => omega
        case rel => exact ⟨kk + 1, ll, f, by omega, by omega, by omega, by go_num, by omega, HS, HT⟩
    · have hcase : (¬ (kk : Int) < (xs.length : Int)) ∨ ((kk : Int) < (xs.length : Int) ∧ ¬ (kk : Int) < 60) := by omega
      have hsm := HS.out.map
      have hTL := Lib.hid (told_any S g mb (mapL ll MapP.nil) wr HS.out.st.box HS.out.st.map (hsm.ok (by omega)))
      clear hlt
      rcases hcase with h1 | ⟨h1, h2⟩
      all_goals (
        go_wp2_with fail
        refine hTL.out.mono ?_
        rintro e wa ⟨vl, rfl, ss, hss, hsl, hba⟩
        have HSS := Lib.hid hss
        have HSL := Lib.hid hsl
        have HSa := Lib.hid (HS.out.below hba)
        have HTa := Lib.hid (HT.out.trans (hba.mono (hwb _ HT.out.size)))
        clear hss hsl hba
        go_wp2_with fail)
      all_goals (
        have hlg : LogIs (some f) ll := ⟨⟨#[]⟩, 0, by decide, by decide, by rw [HSa.out.has]; simp⟩
        have hok : ∀ r ∈ ll, RecOk r := fun r hr => ⟨(HSa.out.small r hr).1, by have := (HSa.out.small r hr).2; omega⟩
        have hop := open_any w0 g b none (some f) none 0 wa (by rw [HBB.out]; exact HTa.out) (by rw [HBB.out]; exact hg0) (by rw [HBB.out]; exact hbr) HSa.out.st.disk HL0.out [] ll rfl List.Pairwise.nil (fun _ h => by cases h) hlg hok
        rw [show mapL ll (mapL [] MapP.nil) = mapL ll MapP.nil from rfl] at hop
        refine hop.mono ?_
        clear hop hlg hok
        rintro e wb ⟨T, tb, f3, rfl, hT, htb, hla3, hst3, ht3⟩
        have hTb := Lib.hid (HTa.out.trans (ht3.below (hwb _ HTa.out.size) hg0 hbr))
        have HS3 := Lib.hid hst3
        have htb2 : b ≤ tb := Nat.le_trans (hwb _ HTa.out.size) htb
        have HT3 := Lib.hid ht3
        clear hT htb hla3 hst3 ht3
        go_wp2_with fail
        )
      all_goals (
        have hTL2 := told_any T g tb (mapL ll MapP.nil) wb HS3.out.box HS3.out.map (hsm.ok (by omega))
        refine hTL2.mono ?_
        clear hTL2
        rintro e wc ⟨vm, rfl, ss2, hss2, hsl2, hbc⟩
        have hse := hss2.one HSS.out (fun _ => rfl)
        subst hse
        have HSL2 := Lib.hid hsl2
        have hgl := HS.out.st.disk.lt
        have hbl := HS.out.st.disk.ltb
        have HSLc := Lib.hid ((HSL.out.turn HT3.out hgl hbl).turn (Turn.of_below hbc g b) hgl hbl)
        have HSc := Lib.hid (HS3.out.below hbc)
        have HTc := Lib.hid (hTb.out.trans (hbc.mono (hwb _ hTb.out.size)))
        clear hss2 hsl2 hbc
        go_wp2_with fail
        have hal := alike_any vm vl _ _ wc _ _ HSL2.out HSLc.out
        rw [decide_eq_true rfl] at hal
        refine hal.mono ?_
        clear hal
        rintro e wd ⟨rfl, hbd⟩
        have HSd := Lib.hid (HSc.out.below hbd)
        have HTd := Lib.hid (HTc.out.trans (hbd.mono (hwb _ HTc.out.size)))
        have HSLd := Lib.hid (HSLc.out.turn (Turn.of_below hbd g b) hgl hbl)
        have HLd : Hid (Laid wd) := HL0.out.stays HTd.out (by rw [HBB.out]; exact Nat.le_refl _)
        clear hbd
        go_wp2_with fail
        )
      all_goals (
        have hco := compact_small T g b tb none none f3 0 (mapL ll MapP.nil) ll.length wd HSd.out hsm (by omega) HLd.out
        refine hco.mono ?_
        clear hco
        rintro e we ⟨rfl, ss3, hss3, hst4, ht4⟩
        have hse3 := hss3.one HSS.out (fun _ => rfl)
        subst hse3
        have HSe := Lib.hid hst4
        have HTe := Lib.hid (HTd.out.trans (ht4.below (hwb _ HTd.out.size) hg0 hbr))
        have HSLe := Lib.hid (HSLd.out.turn ht4 hgl hbl)
        clear hss3 hst4 ht4
        go_wp2_with fail
        have hTL3 := told_any T g tb (mapL ll MapP.nil) we HSe.out.box HSe.out.map (hsm.ok (by omega))
        refine hTL3.mono ?_
        clear hTL3
        rintro e wf ⟨vn, rfl, ss4, hss4, hsl4, hbf⟩
        have hse4 := hss4.one HSS.out (fun _ => rfl)
        subst hse4
        have HSL4 := Lib.hid hsl4
        have HSLf := Lib.hid (HSLe.out.turn (Turn.of_below hbf g b) hgl hbl)
        have HSf := Lib.hid (HSe.out.below hbf)
        have HTf := Lib.hid (HTe.out.trans (hbf.mono (hwb _ HTe.out.size)))
        clear hss4 hsl4 hbf
        go_wp2_with fail
        have hal := alike_any vn vl _ _ wf _ _ HSL4.out HSLf.out
        rw [decide_eq_true rfl] at hal
        refine hal.mono ?_
        clear hal
        rintro e wg ⟨rfl, hbg⟩
        have HSg := Lib.hid (HSf.out.below hbg)
        have HTg := Lib.hid (HTf.out.trans (hbg.mono (hwb _ HTf.out.size)))
        have HSLg := Lib.hid (HSLf.out.turn (Turn.of_below hbg g b) hgl hbl)
        clear hbg
        go_wp2_with fail
        )
      all_goals (
        have hmo := hsm.ok (show ll.length ≤ 1000 by omega)
        have hop := open_any w0 g b _ _ _ 0 wg (by rw [HBB.out]; exact HTg.out) (by rw [HBB.out]; exact hg0) (by rw [HBB.out]; exact hbr) HSg.out.disk HL0.out (recsOf ss4 (mapL ll MapP.nil).m) [] (by show _ = _; rw [recsOf_snap]) (recsOf_asc HSS.out) (recsOf_ok hmo HSS.out)
          ⟨⟨#[]⟩, 0, by decide, by decide, by rfl⟩ (fun _ h => by cases h)
        rw [show mapL [] (mapL (recsOf ss4 (mapL ll MapP.nil).m) MapP.nil) = mapL (recsOf ss4 (mapL ll MapP.nil).m) MapP.nil from rfl] at hop
        have hm2 := snap_back HSS.out
        have hn2 : (mapL (recsOf ss4 (mapL ll MapP.nil).m) MapP.nil).n ≤ 1000 := by
          have q1 := mapL_n (recsOf ss4 (mapL ll MapP.nil).m) MapP.nil
          have q2 := HSS.out.len
          have q3 := hsm.n
          have q4 : (recsOf ss4 (mapL ll MapP.nil).m).length = ss4.length := by unfold recsOf; rw [List.length_map]
          have q5 : MapP.nil.n = 0 := rfl
          omega
        have hok2 : (mapL (recsOf ss4 (mapL ll MapP.nil).m) MapP.nil).Ok := ⟨hn2, by rw [hm2]; exact hmo.key⟩
        generalize mapL (recsOf ss4 (mapL ll MapP.nil).m) MapP.nil = m2 at *
        refine hop.mono ?_
        clear hop
        rintro e wh ⟨U, ub, f6, rfl, hU, hub, hla6, hst6, ht6⟩
        have HTh := Lib.hid (HTg.out.trans (ht6.below (hwb _ HTg.out.size) hg0 hbr))
        have HSh := Lib.hid hst6
        have HSLh := Lib.hid (HSLg.out.turn ht6 hgl hbl)
        have hf6 : f6.has = ⟨#[]⟩ := bytes_eq (by rw [hla6.1]; rfl)
        clear hU hub hla6 hst6 ht6
        go_wp2_with fail
        have hrd := read_any g b _ ⟨#[108, 111, 103]⟩ wh HSh.out.disk
        rw [show (⟨#[108, 111, 103]⟩ : ByteArray).data.toList = nLog from rfl, k_l, hf6] at hrd
        refine hrd.mono ?_
        clear hrd
        rintro e wi ⟨rfl, hbi⟩
        have HSi := Lib.hid (HSh.out.below hbi)
        have HTi := Lib.hid (HTh.out.trans (hbi.mono (hwb _ HTh.out.size)))
        have HSLi := Lib.hid (HSLh.out.turn (Turn.of_below hbi g b) hgl hbl)
        clear hbi
        go_wp2_with fail
        have hTL5 := told_any U g ub m2 wi HSi.out.box HSi.out.map hok2
        refine hTL5.mono ?_
        clear hTL5
        rintro e wj ⟨vo, rfl, ss6, hss6, hsl6, hbj⟩
        have hse6 := hss6.one HSS.out (fun x => by rw [hm2])
        subst hse6
        rw [hm2] at hsl6
        have HSL6 := Lib.hid hsl6
        have HSLj := Lib.hid (HSLi.out.turn (Turn.of_below hbj g b) hgl hbl)
        have HTj := Lib.hid (HTi.out.trans (hbj.mono (hwb _ HTi.out.size)))
        clear hss6 hsl6 hbj
        go_wp2_with fail
        have hal := alike_any vo vl _ _ wj _ _ HSL6.out HSLj.out
        rw [decide_eq_true rfl] at hal
        refine hal.mono ?_
        clear hal
        rintro e wk ⟨rfl, hbk⟩
        have HTk := Lib.hid (HTj.out.trans (hbk.mono (hwb _ HTj.out.size)))
        clear hbk
        go_wp2_with fail
        go_ret
        exact ⟨rfl, HB0.out.trans (HTk.out.mono (by rw [← HBB.out]; exact HB0.out.size))⟩)

end Go.Proofs.YtmlmjchifelpkaaDoor
