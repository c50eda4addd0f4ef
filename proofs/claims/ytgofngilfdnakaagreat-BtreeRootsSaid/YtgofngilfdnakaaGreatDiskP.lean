/-
  This text is plain mathematics: files by their names, and a disk that may lose power, as the package disk has them; no condition, no Go.
-/
import Derived.Test.YtgofngilfdnakaaGreatWireP
import Derived.Maps.OwnSet
namespace Go.Proofs.YtgofngilfdnakaaGreat
open Go

/-- Files by their names; those of a map stand in the order of their names' bytes. -/
abbrev Files := List (Str × Str)

def Files.ins (x : Str × Str) : Files → Files
  | [] => [x]
  | y :: r => if bytesBefore x.1 y.1 then x :: y :: r else y :: Files.ins x r
def Files.del (F : Files) (k : Str) : Files := F.filter fun p => !(p.1 == k)
def Files.put (F : Files) (k v : Str) : Files := Files.ins (k, v) (F.del k)
def Files.get (F : Files) (k : Str) : Option Str := (F.find? fun p => p.1 == k).map (·.2)
def Files.has (F : Files) (k : Str) : Bool := (F.get k).isSome
def Files.val (F : Files) (k : Str) : Str := (F.get k).getD []
/-- The bytes of all files. -/
def Files.size : Files → Nat
  | [] => 0
  | p :: r => p.2.length + Files.size r

/-- As a map's datum. -/
def filesD (F : Files) : DataW Unit := .map (F.map fun p => (.string p.1, .lit (.string p.2)))

theorem filesD_ins (x : Str × Str) : ∀ F : Files, ((Files.ins x F).map fun p => (Lit.string p.1, (DataW.lit (.string p.2) : DataW Unit))) = DataW.insert (.string x.1, .lit (.string x.2)) (F.map fun p => (.string p.1, .lit (.string p.2)))
  | [] => rfl
  | y :: r => by
    by_cases h : bytesBefore x.1 y.1 = true
    · simp [Files.ins, DataW.insert, Lit.before, h]
    · simp [Files.ins, DataW.insert, Lit.before, h, filesD_ins x r]
theorem filesD_filter (k : Str) : ∀ F : Files, (F.del k).map (fun p => (Lit.string p.1, (DataW.lit (.string p.2) : DataW Unit))) = (F.map fun p => (Lit.string p.1, (DataW.lit (.string p.2) : DataW Unit))).filter fun p => !p.1.sameKey (.string k)
  | [] => rfl
  | y :: r => by
    have ih := filesD_filter k r
    unfold Files.del at *
    rw [List.map_cons, List.filter_cons, List.filter_cons]
    have e : (Lit.string y.1).sameKey (.string k) = (y.1 == k) := rfl
    simp only [e]
    split
    · rw [List.map_cons, ih]
    · exact ih
theorem filesD_put (F : Files) (k v : Str) : (filesD F).put (.string k) (.lit (.string v)) = filesD (F.put k v) := by
  unfold filesD DataW.put Files.put
  rw [filesD_ins, filesD_filter]
theorem filesD_del (F : Files) (k : Str) : (filesD F).del (.string k) = filesD (F.del k) := by
  unfold filesD DataW.del
  rw [filesD_filter]
theorem filesD_find (k : Str) : ∀ F : Files, (F.map fun p => (Lit.string p.1, (DataW.lit (.string p.2) : DataW Unit))).find? (fun p => p.1.sameKey (.string k)) = (F.find? fun p => p.1 == k).map fun p => (.string p.1, .lit (.string p.2))
  | [] => rfl
  | y :: r => by
    rw [List.map_cons, List.find?_cons, List.find?_cons]
    have e : (Lit.string y.1).sameKey (.string k) = (y.1 == k) := rfl
    simp only [e]
    cases (y.1 == k)
    · exact filesD_find k r
    · rfl
theorem filesD_atKey (F : Files) (k : Str) : (filesD F).atKey (.string k) (.lit (.string [])) = .lit (.string (F.val k)) := by
  unfold filesD DataW.atKey Files.val Files.get
  simp only [filesD_find]
  cases F.find? fun p => p.1 == k <;> rfl
theorem filesD_has (F : Files) (k : Str) : Maps.has (filesD F) (.string k) = F.has k := by
  unfold filesD Files.has Files.get
  rw [Maps.has_eq]
  induction F with
  | nil => rfl
  | cons y r ih =>
    rw [List.map_cons, List.any_cons, List.find?_cons]
    have e : (Lit.string y.1).sameKey (.string k) = (y.1 == k) := rfl
    simp only [e]
    cases (y.1 == k)
    · simpa using ih
    · simp
theorem Files.ins_length (x : Str × Str) : ∀ F : Files, (Files.ins x F).length = F.length + 1
  | [] => rfl
  | y :: r => by
    unfold Files.ins
    split
    · rfl
    · simp [Files.ins_length x r]
theorem Files.put_length (F : Files) (k v : Str) : (F.put k v).length ≤ F.length + 1 := by
  unfold Files.put
  rw [Files.ins_length]
  have := List.length_filter_le (fun p : Str × Str => !(p.1 == k)) F
  unfold Files.del
  omega
theorem Files.del_length (F : Files) (k : Str) : (F.del k).length ≤ F.length := List.length_filter_le _ _

/-! ### what put and del do to a look-up -/
theorem Files.find_ins {f : Str × Str → Bool} (x : Str × Str) : ∀ F : Files, (∀ p ∈ F, f p = true → f x = false) → (Files.ins x F).find? f = if f x then some x else F.find? f
  | [], _ => by simp [Files.ins, List.find?_cons]; cases f x <;> simp
  | y :: r, h => by
    unfold Files.ins
    split
    · rw [List.find?_cons]
      cases f x <;> simp
    · rw [List.find?_cons, List.find?_cons, Files.find_ins x r (fun p hp => h p (List.mem_cons_of_mem _ hp))]
      cases hy : f y
      · rfl
      · have := h y List.mem_cons_self hy
        simp [this]
theorem Files.get_put (F : Files) (k v j : Str) : (F.put k v).get j = if j = k then some v else F.get j := by
  unfold Files.put Files.get
  rw [Files.find_ins]
  · by_cases h : j = k
    · subst h; simp
    · have h' : ¬ k = j := fun e => h e.symm
      rw [if_neg h, if_neg (by simpa using h')]
      congr 1
      unfold Files.del
      induction F with
      | nil => rfl
      | cons y r ih =>
        rw [List.filter_cons, List.find?_cons]
        by_cases hy : y.1 = k
        · rw [if_neg (by simp [hy]), ih]
          have : (y.1 == j) = false := by simp [hy, h']
          rw [this]
        · rw [if_pos (by simpa using hy), List.find?_cons, ih]
  · intro p hp hf
    unfold Files.del at hp
    have h1 := (List.mem_filter.1 hp).2
    simp only [beq_iff_eq] at hf
    simp only [Bool.not_eq_true', beq_eq_false_iff_ne] at h1 ⊢
    intro e
    exact h1 (hf.trans e.symm)
theorem Files.get_del (F : Files) (k j : Str) : (F.del k).get j = if j = k then none else F.get j := by
  unfold Files.get Files.del
  induction F with
  | nil => simp
  | cons y r ih =>
    rw [List.filter_cons]
    by_cases hy : y.1 = k
    · rw [if_neg (by simp [hy]), ih]
      by_cases h : j = k
      · simp [h]
      · rw [if_neg h, if_neg h, List.find?_cons]
        have : (y.1 == j) = false := by
          rw [hy]
          simpa using fun e => h e.symm
        rw [this]
    · rw [if_pos (by simpa using hy), List.find?_cons, List.find?_cons]
      by_cases h : j = k
      · have : (y.1 == j) = false := by rw [h]; simpa using hy
        rw [this]
        simpa using ih
      · cases (y.1 == j)
        · simpa using ih
        · rw [if_neg h]

/-! ### how many bytes there are -/
theorem Files.size_ins (x : Str × Str) : ∀ F : Files, (Files.ins x F).size = x.2.length + F.size
  | [] => rfl
  | y :: r => by
    unfold Files.ins
    split
    · rfl
    · simp only [Files.size, Files.size_ins x r]; omega
theorem Files.size_del_le (F : Files) (k : Str) : (F.del k).size ≤ F.size := by
  induction F with
  | nil => exact Nat.le_refl _
  | cons y r ih =>
    unfold Files.del at *
    rw [List.filter_cons]
    split
    · simp only [Files.size]; omega
    · simp only [Files.size]; omega
theorem Files.size_put_le (F : Files) (k v : Str) : (F.put k v).size ≤ F.size + v.length := by
  unfold Files.put
  rw [Files.size_ins]
  have := Files.size_del_le F k
  simp only
  omega
theorem Files.val_le (F : Files) (k : Str) : (F.val k).length ≤ F.size := by
  unfold Files.val Files.get
  induction F with
  | nil => simp
  | cons y r ih =>
    rw [List.find?_cons]
    cases (y.1 == k)
    · simp only [Files.size] at ih ⊢; omega
    · simp only [Files.size, Option.map_some, Option.getD_some]; omega

/-! ### the disk -/
/-- kind: 0 behind, 1 write, 2 move, 3 remove, 4 cut. -/
structure Chg where
  kind : Nat
  name : Str
  to : Str
  s : Str
  n : Int
def Chg.cells (c : Chg) : List Value := [.int .i64 c.kind, .string ⟨c.name.toArray⟩, .string ⟨c.to.toArray⟩, .string ⟨c.s.toArray⟩, .int .i64 c.n]

/-- The files behind a change. -/
def Files.act (F : Files) (c : Chg) : Files :=
  if c.kind = 0 then F.put c.name (F.val c.name ++ c.s)
  else if c.kind = 1 then F.put c.name c.s
  else if c.kind = 2 then if F.has c.name then (F.put c.to (F.val c.name)).del c.name else F
  else if c.kind = 3 then F.del c.name
  else if c.kind = 4 then if F.has c.name then F.put c.name ((F.val c.name).take (min c.n (F.val c.name).length).toNat) else F
  else F

structure Fall where
  pos : Int
  keep : Int
  torn : Int

structure Dk where
  now : Files
  sure : Files
  loose : List Chg
  room : Int
  falls : Option Fall
  changes : Nat
  down : Bool

/-- Is this loose change kept: bit i of keep. -/
def kept (keep : Int) (i : Nat) : Bool := decide (i < 62) && decide (keep / 2 ^ i % 2 = 1)
/-- The loose changes that are kept, in their order; of the first other one a part. -/
def surv (keep : Int) : Int → Nat → List Chg → List Chg
  | _, _, [] => []
  | torn, i, c :: r =>
    if kept keep i then c :: surv keep torn (i + 1) r
    else if min (max torn 0) c.s.length = 0 then surv keep 0 (i + 1) r
    else { c with s := c.s.take (min (max torn 0) c.s.length).toNat } :: surv keep 0 (i + 1) r
def Dk.crash (d : Dk) (keep torn : Int) : Dk :=
  if d.down then d else
  let F := (surv keep torn 0 d.loose).foldl Files.act d.sure
  { d with now := F, sure := F, loose := [], down := true }
/-- A change is done, unless the power fails ahead of it. -/
def Dk.commit (d : Dk) (c : Chg) : Int × Dk :=
  match d.falls with
  | some f => if f.pos = d.changes then (7, { d with falls := none }.crash f.keep f.torn) else (0, { d with changes := d.changes + 1, now := d.now.act c, loose := d.loose ++ [c] })
  | none => (0, { d with changes := d.changes + 1, now := d.now.act c, loose := d.loose ++ [c] })
def nameOk (s : Str) : Bool := !s.isEmpty && decide (s.length ≤ 16) && s.all fun c => (decide (97 ≤ c) && decide (c ≤ 122)) || c == 46
def Dk.fits (d : Dk) (more : Int) : Bool := decide (more ≤ 0) || decide (d.room < 0) || decide (more ≤ d.room - d.now.size)
/-- Why a name may not be worked on. -/
def Dk.may (d : Dk) (must : Bool) (names : List Str) : Int :=
  if d.down then 7 else if names.any (fun s => !nameOk s) then 30 else if must && !d.now.has (names.headD []) then 2 else 0
def Dk.append (d : Dk) (name s : Str) : Int × Dk :=
  if d.may false [name] ≠ 0 then (d.may false [name], d) else if !d.fits s.length then (31, d) else d.commit ⟨0, name, [], s, 0⟩
def Dk.write (d : Dk) (name s : Str) : Int × Dk :=
  if d.may false [name] ≠ 0 then (d.may false [name], d) else if !d.fits (s.length - (d.now.val name).length) then (31, d) else d.commit ⟨1, name, [], s, 0⟩
def Dk.move (d : Dk) (name to : Str) : Int × Dk :=
  if d.may true [name, to] ≠ 0 then (d.may true [name, to], d) else if name = to then (1, d) else d.commit ⟨2, name, to, [], 0⟩
def Dk.remove (d : Dk) (name : Str) : Int × Dk :=
  if d.may true [name] ≠ 0 then (d.may true [name], d) else d.commit ⟨3, name, [], [], 0⟩
def Dk.truncate (d : Dk) (name : Str) (n : Int) : Int × Dk :=
  if d.may true [name] ≠ 0 then (d.may true [name], d) else if n < 0 ∨ n > (d.now.val name).length then (1, d) else d.commit ⟨4, name, [], [], n⟩
def Dk.read (d : Dk) (name : Str) : Str × Int :=
  if d.may true [name] ≠ 0 then ([], d.may true [name]) else (d.now.val name, 0)
def Dk.sync (d : Dk) : Int × Dk := if d.down then (7, d) else (0, { d with sure := d.now, loose := [] })

end Go.Proofs.YtgofngilfdnakaaGreat
