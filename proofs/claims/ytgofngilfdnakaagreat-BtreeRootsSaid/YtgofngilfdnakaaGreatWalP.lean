/-
  This text is plain mathematics: a log over a disk, as the package wal has it; no condition, no Go.
-/
import Derived.Test.YtgofngilfdnakaaGreatDiskP
import Derived.Test.YtgofngilfdnakaaGreatWireP
namespace Go.Proofs.YtgofngilfdnakaaGreat
open Go

def logName : Str := [108, 111, 103]
def freshName : Str := [108, 111, 103, 46, 110, 101, 119]

/-- What was committed, what waits, the last marker's text, how many markers. -/
structure Lg where
  s : Str
  wait : Str
  root : Str
  marks : Nat

def scanG : Nat → Str → Nat → Nat × Str × Nat → Nat × Str × Nat
  | 0, _, _, r => r
  | f + 1, s, k, r =>
    if k < s.length then
      match unframe s k with
      | (c :: t, n, e) => if e ≠ 0 then r else if c = 109 then scanG f s n (n, t, r.2.2 + 1) else if c = 100 then scanG f s n r else r
      | _ => r
    else r
/-- The end of the last whole marker, its text, how many markers. -/
def scan (s : Str) : Nat × Str × Nat := scanG (s.length + 1) s 0 (0, [], 0)

/-- What opening finds behind the look at the unfinished file. -/
def openB (d : Dk) : Option Lg × Int × Int × Dk :=
  if (d.read logName).2 ≠ 0 then (some ⟨[], [], [], 0⟩, 0, d.sync.1, d.sync.2)
  else
    let s := (d.read logName).1
    let r := scan s
    if r.1 < s.length then
      if (d.truncate logName r.1).1 ≠ 0 then (none, 0, (d.truncate logName r.1).1, (d.truncate logName r.1).2)
      else (some ⟨s.take r.1, [], r.2.1, r.2.2⟩, s.length - r.1, (d.truncate logName r.1).2.sync.1, (d.truncate logName r.1).2.sync.2)
    else (some ⟨s.take r.1, [], r.2.1, r.2.2⟩, s.length - r.1, d.sync.1, d.sync.2)
def openW (d : Dk) : Option Lg × Int × Int × Dk :=
  if d.down then (none, 0, 7, d)
  else if (d.read freshName).2 = 0 then
    if (d.remove freshName).1 ≠ 0 then (none, 0, (d.remove freshName).1, (d.remove freshName).2) else openB (d.remove freshName).2
  else openB d

def Lg.append (g : Lg) (s : Str) : Int × Int × Lg :=
  if s.length > 1048576 then (0, 3, g) else ((g.s.length + g.wait.length : Nat), 0, { g with wait := g.wait ++ frame (100 :: s) })
def Lg.commit (g : Lg) (d : Dk) (root : Str) : Int × Lg × Dk :=
  if root.length > 1048576 then (3, { g with wait := [] }, d) else
  let t := g.wait ++ frame (109 :: root)
  if (d.append logName t).1 ≠ 0 then ((d.append logName t).1, { g with wait := [] }, (d.append logName t).2)
  else if (d.append logName t).2.sync.1 ≠ 0 then ((d.append logName t).2.sync.1, { g with wait := [] }, (d.append logName t).2.sync.2)
  else (0, ⟨g.s ++ t, [], root, g.marks + 1⟩, (d.append logName t).2.sync.2)
def asRecord : Str × Nat × Int → Str × Int
  | (c :: t, _, e) => if e ≠ 0 then ([], 2) else if c = 100 then (t, 0) else ([], 2)
  | ([], _, _) => ([], 2)
theorem asRecord_bad (t : Str) (n : Nat) (e : Int) (h : e ≠ 0) : asRecord (t, n, e) = ([], 2) := by
  cases t with
  | nil => rfl
  | cons c t => simp only [asRecord, if_pos h]
theorem asRecord_nil (n : Nat) (e : Int) : asRecord ([], n, e) = ([], 2) := rfl
theorem asRecord_cons (c : UInt8) (t : Str) (n : Nat) : asRecord (c :: t, n, 0) = if c = 100 then (t, 0) else ([], 2) := rfl
def readAt (s : Str) (k : Int) : Str × Int := if k < 0 ∨ k ≥ s.length then ([], 2) else asRecord (unframe s k.toNat)
def Lg.read (g : Lg) (k : Int) : Str × Int := if k ≥ g.s.length then readAt g.wait (k - g.s.length) else readAt g.s k
def Lg.top (g : Lg) : Str × Bool := if g.marks = 0 then ([], false) else (g.root, true)

theorem scanG_bounds : ∀ (f : Nat) (s : Str) (k : Nat) (r : Nat × Str × Nat), r.1 ≤ s.length → r.2.1.length ≤ s.length → (scanG f s k r).1 ≤ s.length ∧ (scanG f s k r).2.1.length ≤ s.length ∧ (scanG f s k r).2.2 ≤ r.2.2 + f
  | 0, _, _, _, h, h2 => ⟨h, h2, by simp [scanG]⟩
  | f + 1, s, k, r, h, h2 => by
    unfold scanG
    split
    · split
      · rename_i c t n e hu
        split
        · exact ⟨h, h2, by omega⟩
        · rename_i he
          have he0 : e = 0 := by simpa using he
          subst he0
          obtain ⟨⟨rest, h3⟩, h4, h5⟩ := (unframe_iff s k (c :: t) n).1 hu
          have hl := congrArg List.length h3
          simp only [List.length_drop, List.length_append, frame_length, List.length_cons] at hl h5
          split
          · have := scanG_bounds f s n (n, t, r.2.2 + 1) (by simp only; omega) (by simp only; omega)
            refine ⟨this.1, this.2.1, ?_⟩
            have := this.2.2
            simp only at this
            omega
          · split
            · have := scanG_bounds f s n r h h2
              exact ⟨this.1, this.2.1, by omega⟩
            · exact ⟨h, h2, by omega⟩
      · exact ⟨h, h2, by omega⟩
    · exact ⟨h, h2, by omega⟩
theorem scan_bounds (s : Str) : (scan s).1 ≤ s.length ∧ (scan s).2.1.length ≤ s.length ∧ (scan s).2.2 ≤ s.length + 1 := by
  have := scanG_bounds (s.length + 1) s 0 (0, [], 0) (by simp) (by simp)
  exact ⟨this.1, this.2.1, by have := this.2.2; simp only at this; unfold scan; omega⟩

end Go.Proofs.YtgofngilfdnakaaGreat
