/- The walk of DistLists: the law's function returns true, and of what was there nothing turns. -/
import Derived.Test.YtkakngnfbahhiaaDoorQLists
import Derived.Test.YtkakngnfbahhiaaDoorDistJoinsWalk
namespace Go.Proofs.YtkakngnfbahhiaaDoor
open Go.RowKit Go.Proofs.YtkakngnfbahhiaaDoorW.PrintWords Go.Proofs.YtkakngnfbahhiaaDoorW.PrintLast
set_option linter.unusedVariables false

theorem below_of_but {B g : Nat} {w w' : World} (h : Q.But g w w') (hg : B ≤ g) : Below B w w' :=
  ⟨h.os, h.tape, h.output, Nat.le_of_eq h.size.symm, fun k hk => h.block k (by omega)⟩

set_option maxHeartbeats 2000000 in
theorem distLists.walk1 (A0 : Option Addr) (c0 : Nat) (l : List Nat) (hb : ∀ x ∈ l, x < 18446744073709551616) (hlen : l.length < 17592186044415) (hc0 : l.length ≤ c0) (w : World) (hr0 : Kd.C (Kd.int .u64) w A0 l.length (Q.ints l)) (hl : Laid w)
    (ks : Nat) (s : List Int) (es : Int) (hs1 : Q.dist_Sums.f ks (Q.ints l) = some (s, es)) (hs2 : Q.flyoverref01_Sums.f ks (Q.ints l) = some (s, es)) (hsl : s.length ≤ 16384)
    (kl : Nat) (at_ d e : Int) (hl1 : Q.dist_Least.f kl (Q.ints l) = some (at_, d, e)) (hl2 : Q.flyoverref01_Least.f kl (Q.ints l) = some (at_, d, e)) (t : Nat)
    (ht1 : Q.dist_Sum.f (l.length + 1) (Q.ints l) = some (t : Int)) (ht2 : Q.flyoverref01_Sum.f (l.length + 1) (Q.ints l) = some (t : Int)) :
    Calls Tryd.prog 8 #[.slice A0 l.length c0] w (WOut w) := by
  have HS1 := Lib.hid hs1
  have HS2 := Lib.hid hs2
  have HL1 := Lib.hid hl1
  have HL2 := Lib.hid hl2
  have HT1 := Lib.hid ht1
  have HT2 := Lib.hid ht2
  have HR := Aside0.mk hr0
  have HC := Aside0.mk hc0
  clear hs1 hs2 hl1 hl2 ht1 ht2 hr0 hc0
  have he := Q.ints_len l
  go_enter Tryd.func8, Tryd.ntmps8
  go_wp2_with fail
  have h1 := Q.lend_any A0 c0 (Q.ints l) w (by rw [he]; exact HR.out) (by rw [he]; exact HC.out) (by omega)
  rw [he] at h1
  refine h1.mono ?_
  clear h1
  rintro e1 w1 ⟨A, c, rfl, hfull, hb1⟩
  have HFULL := Aside0.mk (Kd.R_reads' hfull).2.2
  have HCC := Aside0.mk (Kd.R_reads' hfull).2.1
  clear hfull
  have hpre : ∀ W, Below w1.heap.size w1 W → Kd.C (Kd.int .u64) W A l.length (Q.ints l) := fun W hB => by
    have h := Kd.C_take (m := l.length) (Kd.C_below HFULL.out hB) (by simp [he])
    have e2 : (Q.ints l ++ [77]).take l.length = Q.ints l := List.take_left' he
    rw [e2, he] at h
    exact h
  have HP := Lib.hid hpre
  clear hpre
  have hcle : l.length + 1 ≤ c := by have := HCC.out; simp [he] at this; exact this
  have hz1 := hb1.size
  go_wp2_with fail
  have h2 := Q.dist_Sums.calls ks A c (Q.ints l) s es w1 (by rw [he]; exact HP.out w1 (Below.refl _ _)) (by rw [he]; omega) HS1.out
  rw [he] at h2
  refine h2.mono ?_
  clear h2
  rintro e1 w2 ⟨va, rfl, ha, hb2⟩
  obtain ⟨Aa, ca, hva⟩ := Kd.R_slice ha
  subst hva
  have HA := Aside0.mk ha
  clear ha
  have hz2 := hb2.size
  go_wp2_with fail
  have h3 := Q.flyoverref01_Sums.calls ks A0 c0 (Q.ints l) s es w2 (by rw [he]; exact Kd.C_below HR.out (hb1.trans (hb2.mono hz1))) (by rw [he]; exact HC.out) HS2.out
  rw [he] at h3
  refine h3.mono ?_
  clear h3
  rintro e1 w3 ⟨vb, rfl, hbv, hb3⟩
  obtain ⟨Ab, cb, hvb⟩ := Kd.R_slice hbv
  subst hvb
  have HBV := Aside0.mk hbv
  clear hbv
  have hz3 := hb3.size
  have hb13 : Below w1.heap.size w1 w3 := hb2.trans (hb3.mono hz2)
  have hb03 : Below w.heap.size w w3 := hb1.trans (hb13.mono hz1)
  go_wp2_with fail
  have h4 := Q.dist_Least.calls kl A c (Q.ints l) at_ d e w3 (by rw [he]; exact HP.out w3 hb13) (by rw [he]; omega) HL1.out
  rw [he] at h4
  refine h4.mono ?_
  clear h4
  rintro e1 w4 ⟨rfl, hd4⟩
  have hb14 : Below w1.heap.size w1 w4 := hb13.trans (hd4.below.mono hb13.size)
  have hb34 : Below w3.heap.size w3 w4 := hd4.below
  have hb04 : Below w.heap.size w w4 := hb1.trans (hb14.mono hz1)
  clear hd4
  go_wp2_with fail
  have h5 := Q.flyoverref01_Least.calls kl A0 c0 (Q.ints l) at_ d e w4 (by rw [he]; exact Kd.C_below HR.out hb04) (by rw [he]; exact HC.out) HL2.out
  rw [he] at h5
  refine h5.mono ?_
  clear h5
  rintro e1 w5 ⟨rfl, hd5⟩
  have hb15 : Below w1.heap.size w1 w5 := hb14.trans (hd5.below.mono hb14.size)
  have hb35 : Below w3.heap.size w3 w5 := hb34.trans (hd5.below.mono hb34.size)
  clear hd5
  go_wp2_with fail
  have ha5 : Kd.C (Kd.int .u64) w5 Aa s.length s := (Kd.R_reads' (Kd.R_below (Kd.R_below HA.out hb3) hb35)).2.2
  have hv5 : Kd.C (Kd.int .u64) w5 Ab s.length s := (Kd.R_reads' (Kd.R_below HBV.out hb35)).2.2
  have h6 := Q.flyoverbook_SameDists.calls (s.length + 1) Aa ca s Ab cb s true w5 ha5 (Kd.R_reads' HA.out).2.1 hv5 (Kd.R_reads' HBV.out).2.1 (Q.same_f s (by omega) _ (by omega))
  refine h6.mono ?_
  clear h6 ha5 hv5
  rintro e1 w6 ⟨rfl, hd6⟩
  have hb16 : Below w1.heap.size w1 w6 := hb15.trans (hd6.below.mono hb15.size)
  have hb36 : Below w3.heap.size w3 w6 := hb35.trans (hd6.below.mono hb35.size)
  clear hd6
  go_wp2_with fail
  have h7 := Q.dist_Sum.calls (l.length + 1) A c (Q.ints l) (t : Int) w6 (by rw [he]; exact HP.out _ hb16) (by rw [he]; omega) HT1.out
  rw [he] at h7
  refine h7.mono ?_
  clear h7
  rintro e1 w7 ⟨rfl, hd7⟩
  have hb17 : Below w1.heap.size w1 w7 := hb16.trans (hd7.below.mono hb16.size)
  have hb37 : Below w3.heap.size w3 w7 := hb36.trans (hd7.below.mono hb36.size)
  have hb07 : Below w.heap.size w w7 := hb1.trans (hb17.mono hz1)
  clear hd7
  go_wp2_with fail
  have h8 := Q.flyoverref01_Sum.calls (l.length + 1) A0 c0 (Q.ints l) (t : Int) w7 (by rw [he]; exact Kd.C_below HR.out hb07) (by rw [he]; exact HC.out) HT2.out
  rw [he] at h8
  refine h8.mono ?_
  clear h8
  rintro e1 w8 ⟨rfl, hd8⟩
  have hb18 : Below w1.heap.size w1 w8 := hb17.trans (hd8.below.mono hb17.size)
  have hb38 : Below w3.heap.size w3 w8 := hb37.trans (hd8.below.mono hb37.size)
  clear hd8
  have HA8 := Aside0.mk (Kd.R_below (Kd.R_below HA.out hb3) hb38)
  go_wp2_with fail
  have h9 := Q.spoil_any Aa s.length ca 3 s w1.heap.size (fun _ => True) w8 (by omega) HA8.out (Q.cap_le HA8.out)
  refine h9.mono ?_
  clear h9
  rintro e1 w9 ⟨rfl, g, hbut, hg⟩
  have hb19 : Below w1.heap.size w1 w9 := by
    rcases hg with rfl | hg
    · exact hb18
    · exact hb18.trans (below_of_but hbut (Q.own_from HA8.out hg))
  have hb09 : Below w.heap.size w w9 := hb1.trans (hb19.mono hz1)
  clear hbut hg
  go_wp2_with fail
  have h10 := Q.kept_any A c A0 c0 (Q.ints l) w9 (Kd.C_below HFULL.out hb19) (by rw [he]; exact hcle) (by rw [he]; exact Kd.C_below HR.out hb09) (by rw [he]; exact HC.out) (by omega)
  rw [he] at h10
  refine h10.mono ?_
  clear h10
  rintro e1 w10 ⟨rfl, hd10⟩
  have hb010 : Below w.heap.size w w10 := hb09.trans (hd10.below.mono hb09.size)
  clear hd10
  go_wp2_with fail
  refine (works_any _ (hl.stays hb010)).mono ?_
  rintro e1 w11 ⟨rfl, hb11⟩
  have hz10 := hb010.size
  go_wp2
  go_ret
  exact ⟨rfl, hb010.trans (hb11.mono hz10)⟩

theorem distLists.walk0 (a0 : Option Addr) (len0 cap0 : Nat) (z0 : List Int) (w : World) (w0 : IsRow .u64 w a0 len0 cap0 z0) (y0 : len0 * 8 ≤ 140737488351232) (hl : Laid w) :
    Calls Tryd.prog 8 #[.slice a0 len0 cap0] w (WOut w) := by
  obtain ⟨l, rfl, hb, hc, hr⟩ := row_dists w0
  obtain ⟨ks, s, es, hsl, h1, h2⟩ := Q.both_sums l hb
  obtain ⟨kl, at_, d, e, h3, h4⟩ := Q.both_leasts l
  exact distLists.walk1 a0 cap0 l hb (by omega) hc w hr hl ks s es h1 h2 hsl kl at_ d e h3 h4 _ (Q.sum_f l hb (by omega)) (Q.rsum_f l hb (by omega))
end Go.Proofs.YtkakngnfbahhiaaDoor
