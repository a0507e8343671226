/- A disk of a store's three files, as plain data. -/
import Derived.Test.YtmlmjchifelpkaaDoorStoreL
namespace Go.Proofs.YtmlmjchifelpkaaDoor
open Go.RowKit Go.Lib Go.Maps Go.Sort
set_option linter.unusedVariables false
set_option maxRecDepth 100000

def cnt3 (s l t : Option FileP) : Nat := s.isSome.toNat + l.isSome.toNat + t.isSome.toNat
/-- The disk with a snap s, a log l, a temp t. -/
def D3 (s l t : Option FileP) (fused down : Bool) (left : Int) : DiskP := ⟨fun x => if x = nSnap then s else if x = nLog then l else if x = nTemp then t else none, cnt3 s l t, fused, down, left⟩

theorem n_sl : nSnap ≠ nLog := by decide
theorem n_st : nSnap ≠ nTemp := by decide
theorem n_lt : nLog ≠ nTemp := by decide
theorem may_s : dMay nSnap = true := by decide
theorem may_l : dMay nLog = true := by decide
theorem may_t : dMay nTemp = true := by decide
section
variable (s l t : Option FileP) (a c : Bool) (e : Int)
theorem D3_s : (D3 s l t a c e).fs nSnap = s := by simp [D3]
theorem D3_l : (D3 s l t a c e).fs nLog = l := by simp [D3, n_sl.symm]
theorem D3_t : (D3 s l t a c e).fs nTemp = t := by simp [D3, n_st.symm, n_lt.symm]
theorem D3_none (x : List UInt8) (h1 : x ≠ nSnap) (h2 : x ≠ nLog) (h3 : x ≠ nTemp) : (D3 s l t a c e).fs x = none := by simp [D3, h1, h2, h3]
theorem D3_put_s (f : FileP) : (D3 s l t a c e).put nSnap f = D3 (some f) l t a c e := by
  have h0 := D3_s s l t a c e
  unfold DiskP.put
  rw [h0]
  unfold D3
  congr 1
  · funext x
    unfold putF
    by_cases h : x = nSnap <;> simp [h]
  · cases s <;> simp [cnt3] <;> omega
theorem D3_put_l (f : FileP) : (D3 s l t a c e).put nLog f = D3 s (some f) t a c e := by
  have h0 := D3_l s l t a c e
  unfold DiskP.put
  rw [h0]
  unfold D3
  congr 1
  · funext x
    unfold putF
    by_cases h : x = nLog
    · subst h; simp [n_sl.symm]
    · simp [h]
  · cases l <;> simp [cnt3] <;> omega
theorem D3_put_t (f : FileP) : (D3 s l t a c e).put nTemp f = D3 s l (some f) a c e := by
  have h0 := D3_t s l t a c e
  unfold DiskP.put
  rw [h0]
  unfold D3
  congr 1
  · funext x
    unfold putF
    by_cases h : x = nTemp
    · subst h; simp [n_st.symm, n_lt.symm]
    · simp [h]
  · cases t <;> simp [cnt3]
theorem D3_del_t : (D3 s l t a c e).del nTemp = D3 s l none a c e := by
  have h0 := D3_t s l t a c e
  unfold DiskP.del
  rw [h0]
  unfold D3
  congr 1
  · funext x
    unfold delF
    by_cases h : x = nTemp
    · subst h; simp [n_st.symm, n_lt.symm]
    · simp [h]
  · cases t <;> simp [cnt3]
theorem D3_del_s : (D3 s l t a c e).del nSnap = D3 none l t a c e := by
  have h0 := D3_s s l t a c e
  unfold DiskP.del
  rw [h0]
  unfold D3
  congr 1
  · funext x
    unfold delF
    by_cases h : x = nSnap
    · subst h; simp
    · simp [h]
  · cases s <;> simp [cnt3] <;> omega
theorem D3_del_l : (D3 s l t a c e).del nLog = D3 s none t a c e := by
  have h0 := D3_l s l t a c e
  unfold DiskP.del
  rw [h0]
  unfold D3
  congr 1
  · funext x
    unfold delF
    by_cases h : x = nLog
    · subst h; simp [n_sl.symm]
    · simp [h]
  · cases l <;> simp [cnt3] <;> omega
theorem D3_n : (D3 s l t a c e).n < 64 := by show cnt3 s l t < 64; cases s <;> cases l <;> cases t <;> simp [cnt3]
/-- A change that may be made; one that may not. -/
theorem D3_change (h : a = true → e ≠ 0) (hc : c = false) : dChange (D3 s l t a c e) = (true, D3 s l t a c (if a then e - 1 else e)) := by
  subst hc
  unfold dChange
  have h1 : ¬ (((D3 s l t a false e).fused && (D3 s l t a false e).left == 0 || (D3 s l t a false e).down) = true) := by
    show ¬ ((a && e == 0 || false) = true)
    cases a <;> simp_all
  rw [if_neg h1]
  rfl
theorem D3_stop (h : a = true) (h0 : e = 0) : dChange (D3 s l t a c e) = (false, D3 s l t a true e) := by
  subst h
  subst h0
  unfold dChange
  have h1 : ((D3 s l t true c 0).fused && (D3 s l t true c 0).left == 0 || (D3 s l t true c 0).down) = true := by
    show ((true && (0 : Int) == 0 || c) = true)
    simp
  rw [if_pos h1]
  rfl
end
theorem D3_nil : dNew = D3 none none none false false 0 := by
  unfold dNew D3
  congr 1
  funext x
  simp

def dead (a : Bool) (e : Int) : Bool := a && e == 0
def tick (a : Bool) (e : Int) : Int := if a then e - 1 else e
theorem D3_ch (s l t : Option FileP) (a : Bool) (e : Int) : dChange (D3 s l t a false e) = if dead a e then (false, D3 s l t a true e) else (true, D3 s l t a false (tick a e)) := by
  by_cases h : dead a e = true
  · rw [if_pos h]
    simp [dead] at h
    exact D3_stop _ _ _ _ _ _ h.1 h.2
  · rw [if_neg h]
    simp [dead] at h
    exact D3_change _ _ _ _ _ _ h rfl
section
variable (s l t : Option FileP) (a : Bool) (e : Int)
theorem w_t (x : ByteArray) (h : x.size ≤ 262144) : dWrite (D3 s l t a false e) nTemp x = if dead a e then (191, D3 s l t a true e) else (0, D3 s l (some { t.getD FileP.nil with has := x }) a false (tick a e)) := by
  have hn := D3_n s l t a false e
  unfold dWrite
  rw [if_pos may_t, if_neg (by omega), D3_ch]
  by_cases hd : dead a e = true
  · simp [hd]
  · simp [hd, D3_put_t, D3_t]
theorem w_l (x : ByteArray) (h : x.size ≤ 262144) : dWrite (D3 s l t a false e) nLog x = if dead a e then (191, D3 s l t a true e) else (0, D3 s (some { l.getD FileP.nil with has := x }) t a false (tick a e)) := by
  have hn := D3_n s l t a false e
  unfold dWrite
  rw [if_pos may_l, if_neg (by omega), D3_ch]
  by_cases hd : dead a e = true
  · simp [hd]
  · simp [hd, D3_put_l, D3_l]
theorem k_s (f : FileP) (c : Bool) : dKnown (D3 (some f) l t a c e) nSnap = (f, 0) := by unfold dKnown; rw [if_pos may_s, D3_s]
theorem k_l (f : FileP) (c : Bool) : dKnown (D3 s (some f) t a c e) nLog = (f, 0) := by unfold dKnown; rw [if_pos may_l, D3_l]
theorem k_t (f : FileP) (c : Bool) : dKnown (D3 s l (some f) a c e) nTemp = (f, 0) := by unfold dKnown; rw [if_pos may_t, D3_t]
theorem k_s0 (c : Bool) : dKnown (D3 none l t a c e) nSnap = (FileP.nil, 5) := by unfold dKnown; rw [if_pos may_s, D3_s]
theorem k_l0 (c : Bool) : dKnown (D3 s none t a c e) nLog = (FileP.nil, 5) := by unfold dKnown; rw [if_pos may_l, D3_l]
theorem k_t0 (c : Bool) : dKnown (D3 s l none a c e) nTemp = (FileP.nil, 5) := by unfold dKnown; rw [if_pos may_t, D3_t]
theorem a_l (f : FileP) (x : ByteArray) (h : f.has.size + x.size ≤ 262144) : dAppend (D3 s (some f) t a false e) nLog x = if dead a e then (191, D3 s (some f) t a true e) else (0, D3 s (some { f with has := f.has ++ x }) t a false (tick a e)) := by
  unfold dAppend
  simp only [k_l, if_true]
  rw [if_neg (by omega), D3_ch]
  by_cases hd : dead a e = true
  · simp [hd]
  · simp [hd, D3_put_l]
theorem y_l (f : FileP) : dSync (D3 s (some f) t a false e) nLog = if dead a e then (191, D3 s (some f) t a true e) else (0, D3 s (some ⟨f.has, f.has, true⟩) t a false (tick a e)) := by
  unfold dSync
  simp only [k_l, if_true]
  rw [D3_ch]
  by_cases hd : dead a e = true
  · simp [hd]
  · simp [hd, D3_put_l]
theorem y_t (f : FileP) : dSync (D3 s l (some f) a false e) nTemp = if dead a e then (191, D3 s l (some f) a true e) else (0, D3 s l (some ⟨f.has, f.has, true⟩) a false (tick a e)) := by
  unfold dSync
  simp only [k_t, if_true]
  rw [D3_ch]
  by_cases hd : dead a e = true
  · simp [hd]
  · simp [hd, D3_put_t]
theorem r_s (f : FileP) : dRename (D3 s l (some f) a false e) nTemp nSnap = if dead a e then (191, D3 s l (some f) a true e) else (0, D3 (some f) l none a false (tick a e)) := by
  unfold dRename
  simp only [k_t, if_true, may_t, may_s, Bool.and_self]
  rw [D3_ch]
  by_cases hd : dead a e = true
  · simp [hd]
  · simp [hd, D3_del_t, D3_put_s]
theorem r_l (f : FileP) : dRename (D3 s l (some f) a false e) nTemp nLog = if dead a e then (191, D3 s l (some f) a true e) else (0, D3 s (some f) none a false (tick a e)) := by
  unfold dRename
  simp only [k_t, if_true, may_t, may_l, Bool.and_self]
  rw [D3_ch]
  by_cases hd : dead a e = true
  · simp [hd]
  · simp [hd, D3_del_t, D3_put_l]
theorem m_t (f : FileP) : dRemove (D3 s l (some f) a false e) nTemp = if dead a e then (191, D3 s l (some f) a true e) else (0, D3 s l none a false (tick a e)) := by
  unfold dRemove
  simp only [k_t, if_true]
  rw [D3_ch]
  by_cases hd : dead a e = true
  · simp [hd]
  · simp [hd, D3_del_t]
end
/-- Whole, without a fuse. -/
theorem fresh_up (s l t : Option FileP) (e : Int) : sFresh (D3 s l t false false e) = (0, D3 s (some ⟨⟨#[]⟩, ⟨#[]⟩, true⟩) t false false e) := by
  unfold sFresh
  rw [w_l _ _ _ _ _ _ (by decide)]
  simp [dead, tick, y_l]
theorem instead_l (s l t : Option FileP) (e : Int) (x : ByteArray) (h : x.size ≤ 262144) : sInstead (D3 s l t false false e) nLog x = (0, D3 s (some ⟨x, x, true⟩) none false false e) := by
  unfold sInstead
  rw [w_t _ _ _ _ _ _ h]
  simp [dead, tick, y_t, r_l]
theorem instead_s (s l t : Option FileP) (e : Int) (x : ByteArray) (h : x.size ≤ 262144) : sInstead (D3 s l t false false e) nSnap x = (0, D3 (some ⟨x, x, true⟩) l none false false e) := by
  unfold sInstead
  rw [w_t _ _ _ _ _ _ h]
  simp [dead, tick, y_t, r_s]
theorem compact_up (s l t : Option FileP) (e : Int) (x : ByteArray) (h : x.size ≤ 262144) : sCompact (D3 s l t false false e) x = (0, D3 (some ⟨x, x, true⟩) (some ⟨⟨#[]⟩, ⟨#[]⟩, true⟩) none false false e) := by
  unfold sCompact
  rw [instead_s _ _ _ _ _ h]
  simp [fresh_up]
theorem put_up (s t : Option FileP) (f : FileP) (e : Int) (m : MapP) (k v : ByteArray) (hk : 1 ≤ k.size ∧ k.size ≤ 64) (h : f.has.size + (recP k v).size ≤ 262144) :
    sPut (D3 s (some f) t false false e) m k v = (0, D3 s (some ⟨f.has ++ recP k v, f.has ++ recP k v, true⟩) t false false e, m.put k.data.toList v) := by
  unfold sPut
  rw [if_pos hk, a_l _ _ _ _ _ _ h]
  simp [dead, tick, y_l]

/-- The names of such a disk: in their order. -/
theorem nLog_lt : nLog < nSnap ∧ nSnap < nTemp := by decide

end Go.Proofs.YtmlmjchifelpkaaDoor
