/- The disk as plain data: what each of its functions computes. -/
import Derived.Maps.OwnSet
import Derived.Lib.Strings
import Derived.Sort.KeysCollected
namespace Go.Proofs.YtmlmjchifelpkaaDoor
open Go.Maps

/-- May this byte be in a name? -/
def okB (c : UInt8) : Bool := (97 ≤ c.toNat && c.toNat ≤ 122) || (48 ≤ c.toNat && c.toNat ≤ 57)
/-- May this be a name? -/
def dMay (s : List UInt8) : Bool := s != [] && decide (s.length ≤ 64) && s.all okB

/-- A file. -/
structure FileP where
  has : ByteArray
  safe : ByteArray
  kept : Bool

def FileP.nil : FileP := ⟨⟨#[]⟩, ⟨#[]⟩, false⟩

/-- A disk. -/
structure DiskP where
  fs : List UInt8 → Option FileP
  n : Nat
  fused : Bool
  down : Bool
  left : Int

def putF (fs : List UInt8 → Option FileP) (k : List UInt8) (f : FileP) : List UInt8 → Option FileP := fun x => if x = k then some f else fs x
def delF (fs : List UInt8 → Option FileP) (k : List UInt8) : List UInt8 → Option FileP := fun x => if x = k then none else fs x

def DiskP.put (d : DiskP) (k : List UInt8) (f : FileP) : DiskP := { d with fs := putF d.fs k f, n := if (d.fs k).isSome then d.n else d.n + 1 }
def DiskP.del (d : DiskP) (k : List UInt8) : DiskP := { d with fs := delF d.fs k, n := if (d.fs k).isSome then d.n - 1 else d.n }

/-- May a change be made? And the disk behind the question. -/
def dChange (d : DiskP) : Bool × DiskP :=
  if (d.fused && d.left == 0) || d.down then (false, { d with down := (d.fused && d.left == 0) || d.down })
  else (true, { d with left := if d.fused then d.left - 1 else d.left })

def dKnown (d : DiskP) (k : List UInt8) : FileP × Int :=
  if dMay k then match d.fs k with
    | some f => (f, 0)
    | none => (FileP.nil, 5)
  else (FileP.nil, 170)

def dWrite (d : DiskP) (k : List UInt8) (data : ByteArray) : Int × DiskP :=
  if dMay k then
    if 262144 < data.size ∨ ((d.fs k).isSome = false ∧ 64 ≤ d.n) then (2, d)
    else if (dChange d).1 then (0, (dChange d).2.put k { (d.fs k).getD FileP.nil with has := data })
    else (191, (dChange d).2)
  else (170, d)

def dAppend (d : DiskP) (k : List UInt8) (data : ByteArray) : Int × DiskP :=
  if (dKnown d k).2 = 0 then
    if 262144 < (dKnown d k).1.has.size + data.size then (2, d)
    else if (dChange d).1 then (0, (dChange d).2.put k { (dKnown d k).1 with has := (dKnown d k).1.has ++ data })
    else (191, (dChange d).2)
  else ((dKnown d k).2, d)

def dSync (d : DiskP) (k : List UInt8) : Int × DiskP :=
  if (dKnown d k).2 = 0 then
    if (dChange d).1 then (0, (dChange d).2.put k ⟨(dKnown d k).1.has, (dKnown d k).1.has, true⟩)
    else (191, (dChange d).2)
  else ((dKnown d k).2, d)

def dRename (d : DiskP) (k l : List UInt8) : Int × DiskP :=
  if dMay k && dMay l then
    if (dKnown d k).2 = 0 then
      if (dChange d).1 then (0, ((dChange d).2.del k).put l (dKnown d k).1)
      else (191, (dChange d).2)
    else ((dKnown d k).2, d)
  else (170, d)

def dRemove (d : DiskP) (k : List UInt8) : Int × DiskP :=
  if (dKnown d k).2 = 0 then
    if (dChange d).1 then (0, (dChange d).2.del k)
    else (191, (dChange d).2)
  else ((dKnown d k).2, d)

def dFuse (d : DiskP) (n : Int) : Int × DiskP := if n < 0 then (1, d) else (0, { d with fused := true, left := n })

def dNew : DiskP := ⟨fun _ => none, 0, false, false, 0⟩

/-- What a crash makes of one file, and a draw (none: the file is gone). -/
def tear (f : FileP) (draw : Int) : Option FileP :=
  if 0 ≤ draw then
    if f.kept && Lib.hasPrefix f.has.data.toList f.safe.data.toList then
      let h := f.has.extract 0 (f.safe.size + (draw % ((f.has.size - f.safe.size + 1 : Nat) : Int)).toNat)
      some ⟨h, h, true⟩
    else
      let h := f.has.extract 0 ((draw % ((f.has.size + 1 : Nat) : Int)).toNat)
      some ⟨h, h, true⟩
  else if f.kept then some ⟨f.safe, f.safe, true⟩
  else none

/-- Is all of the file safe? -/
def FileP.calm (f : FileP) : Bool := f.kept && decide (f.has = f.safe)

def DiskP.set (d : DiskP) (k : List UInt8) : Option FileP → DiskP
  | some f => d.put k f
  | none => d.del k

/-- A crash goes over the names. -/
def crashOn : List (List UInt8) → List Int → DiskP → DiskP
  | [], _, d => d
  | k :: ks, draws, d =>
    let f := (d.fs k).getD FileP.nil
    if f.calm then crashOn ks draws d
    else crashOn ks (draws.drop 1) (d.set k (tear f (draws.headD 0)))

/-- What of a disk is in bounds. -/
structure DiskP.Ok (d : DiskP) : Prop where
  n_le : d.n ≤ 64
  left_lo : 0 ≤ d.left
  left_hi : d.left ≤ 9223372036854775807
  sizes : ∀ k f, d.fs k = some f → f.has.size ≤ 262144 ∧ f.safe.size ≤ 262144

theorem DiskP.Ok.change {d : DiskP} (h : d.Ok) : (dChange d).2.Ok := by
  unfold dChange
  split
  · exact ⟨h.n_le, h.left_lo, h.left_hi, h.sizes⟩
  · rename_i hc
    refine ⟨h.n_le, ?_, ?_, h.sizes⟩
    · have := h.left_lo
      simp only [Bool.or_eq_true, Bool.and_eq_true, beq_iff_eq, not_or, not_and] at hc
      show (0 : Int) ≤ if d.fused = true then d.left - 1 else d.left
      split
      · rename_i hf; have := hc.1 hf; omega
      · omega
    · have := h.left_hi
      show (if d.fused = true then d.left - 1 else d.left) ≤ _
      split <;> omega

theorem dChange_fs (d : DiskP) : (dChange d).2.fs = d.fs ∧ (dChange d).2.n = d.n := by unfold dChange; split <;> exact ⟨rfl, rfl⟩

end Go.Proofs.YtmlmjchifelpkaaDoor
