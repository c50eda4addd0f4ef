/-
  No cell of these rows narrows 'for every input' (looked for: loops, veiled, ifaces, maps, wideKeys, modest, calm, conditions, laid).
  DERIVED. THE GIVEN ROWS OF THIS SEAT. 13 by the template 'for every input the law returns true; each argument reads behind the call as it read before'; 0 by the template 'total and deterministic' (their statements: YtgofngilfdnakaaTotals.lean).
  GIVEN WITH THE SEED: the statements are not yours to turn. If you find one false, say at which input.
  Laid BY PROGRAM, IN A SANDBOX (cutbox-rows.mjs): the forced cells as the released guide's own fill.sh prints them over the translation e8ddb4c7ef738dc4… (all of the seat's roots in one cut). By AI agents, Wed Nov 11 2026. No macro, syntax, notation, axiom, sorry.
-/
import Derived.Test.YtgofngilfdnakaaChecked
import GoSem.Claim
import GoSem.ClaimJoined
import GoSem.ClaimMapViews
import Derived.JoinedTies
import Derived.KernelRfl
namespace Go.Proofs.Ytgofngilfdnakaa
/- THE CELL 'sum', in the pinned program and in every row, IS THE sha256 OF THE DUMP (.gsa) THAT YtgofngilfdnakaaProg.lean LOADS. Nothing in Lean hashes anything: it is a label: what it is worth is what the hold of that sum in a sandbox is worth. -/
noncomputable def Try.pinned : Pinned := { name := "ytgofngilfdnakaa", sum := "e8ddb4c7ef738dc461c2d90bec00428f5a8176e2d83a6b27499b67ed97abab1a", checked := Try.checked }
namespace Rows
def none {H : Type} : Left H := { results := [], args := [] }

/-- 'cupellaw04.WalReads': WHATEVER THE INPUT: true; the input reads as it did. -/
def walReadsSpec : ChangeSpec := { name := "walReads", fn := fun _ => fun
  | [d1, d2, d3] => { results := [.lit (.bool true)], args := [d1, d2, d3] }
  | _ => none }
def walReadsRow : OpenClaim := { program := "ytgofngilfdnakaa", sum := "e8ddb4c7ef738dc461c2d90bec00428f5a8176e2d83a6b27499b67ed97abab1a", func := "cupel/cupellaw04.WalReads", spec := "walReads", inPlace := ["maps.clone"], unfollowed := true, recurses := true, apart := false }
def WalReadsSaid : Prop := walReadsRow.holds Try.pinned (OpenSpec.ofChange walReadsSpec)

/-- ITS FALSE NEIGHBOUR: 'it returns false'. Refute it at one input. -/
def walReadsWrong : ChangeSpec := { name := "walReads", fn := fun _ => fun
  | [d1, d2, d3] => { results := [.lit (.bool false)], args := [d1, d2, d3] }
  | _ => none }
def WalReadsWrongFalsely : Prop := walReadsRow.holds Try.pinned (OpenSpec.ofChange walReadsWrong)

/-- 'cupellaw04.WalFull': WHATEVER THE INPUT: true; the input reads as it did. -/
def walFullSpec : ChangeSpec := { name := "walFull", fn := fun _ => fun
  | [d1, d2] => { results := [.lit (.bool true)], args := [d1, d2] }
  | _ => none }
def walFullRow : OpenClaim := { program := "ytgofngilfdnakaa", sum := "e8ddb4c7ef738dc461c2d90bec00428f5a8176e2d83a6b27499b67ed97abab1a", func := "cupel/cupellaw04.WalFull", spec := "walFull", inPlace := ["maps.clone"], unfollowed := true, recurses := true, apart := false }
def WalFullSaid : Prop := walFullRow.holds Try.pinned (OpenSpec.ofChange walFullSpec)

/-- ITS FALSE NEIGHBOUR: 'it returns false'. Refute it at one input. -/
def walFullWrong : ChangeSpec := { name := "walFull", fn := fun _ => fun
  | [d1, d2] => { results := [.lit (.bool false)], args := [d1, d2] }
  | _ => none }
def WalFullWrongFalsely : Prop := walFullRow.holds Try.pinned (OpenSpec.ofChange walFullWrong)

/-- 'cupellaw04.WalOpens': WHATEVER THE INPUT: true; the input reads as it did. -/
def walOpensSpec : ChangeSpec := { name := "walOpens", fn := fun _ => fun
  | [d1, d2, d3] => { results := [.lit (.bool true)], args := [d1, d2, d3] }
  | _ => none }
def walOpensRow : OpenClaim := { program := "ytgofngilfdnakaa", sum := "e8ddb4c7ef738dc461c2d90bec00428f5a8176e2d83a6b27499b67ed97abab1a", func := "cupel/cupellaw04.WalOpens", spec := "walOpens", inPlace := ["maps.clone"], unfollowed := true, recurses := true, apart := false }
def WalOpensSaid : Prop := walOpensRow.holds Try.pinned (OpenSpec.ofChange walOpensSpec)

/-- ITS FALSE NEIGHBOUR: 'it returns false'. Refute it at one input. -/
def walOpensWrong : ChangeSpec := { name := "walOpens", fn := fun _ => fun
  | [d1, d2, d3] => { results := [.lit (.bool false)], args := [d1, d2, d3] }
  | _ => none }
def WalOpensWrongFalsely : Prop := walOpensRow.holds Try.pinned (OpenSpec.ofChange walOpensWrong)

/-- 'cupellaw04.WalPlays': WHATEVER THE INPUT: true; the input reads as it did. -/
def walPlaysSpec : ChangeSpec := { name := "walPlays", fn := fun _ => fun
  | [d] => { results := [.lit (.bool true)], args := [d] }
  | _ => none }
def walPlaysRow : OpenClaim := { program := "ytgofngilfdnakaa", sum := "e8ddb4c7ef738dc461c2d90bec00428f5a8176e2d83a6b27499b67ed97abab1a", func := "cupel/cupellaw04.WalPlays", spec := "walPlays", inPlace := ["maps.clone"], unfollowed := true, recurses := true, apart := false }
def WalPlaysSaid : Prop := walPlaysRow.holds Try.pinned (OpenSpec.ofChange walPlaysSpec)

/-- ITS FALSE NEIGHBOUR: 'it returns false'. Refute it at one input. -/
def walPlaysWrong : ChangeSpec := { name := "walPlays", fn := fun _ => fun
  | [d] => { results := [.lit (.bool false)], args := [d] }
  | _ => none }
def WalPlaysWrongFalsely : Prop := walPlaysRow.holds Try.pinned (OpenSpec.ofChange walPlaysWrong)

/-- 'cupellaw04.WalNil': WHATEVER THE INPUT: true; the input reads as it did. -/
def walNilSpec : ChangeSpec := { name := "walNil", fn := fun _ => fun
  | [d1, d2] => { results := [.lit (.bool true)], args := [d1, d2] }
  | _ => none }
def walNilRow : OpenClaim := { program := "ytgofngilfdnakaa", sum := "e8ddb4c7ef738dc461c2d90bec00428f5a8176e2d83a6b27499b67ed97abab1a", func := "cupel/cupellaw04.WalNil", spec := "walNil", inPlace := ["maps.clone"], unfollowed := true, recurses := true, apart := false }
def WalNilSaid : Prop := walNilRow.holds Try.pinned (OpenSpec.ofChange walNilSpec)

/-- ITS FALSE NEIGHBOUR: 'it returns false'. Refute it at one input. -/
def walNilWrong : ChangeSpec := { name := "walNil", fn := fun _ => fun
  | [d1, d2] => { results := [.lit (.bool false)], args := [d1, d2] }
  | _ => none }
def WalNilWrongFalsely : Prop := walNilRow.holds Try.pinned (OpenSpec.ofChange walNilWrong)

/-- 'cupellaw04.WalFalls': WHATEVER THE INPUT: true; the input reads as it did. -/
def walFallsSpec : ChangeSpec := { name := "walFalls", fn := fun _ => fun
  | [d1, d2] => { results := [.lit (.bool true)], args := [d1, d2] }
  | _ => none }
def walFallsRow : OpenClaim := { program := "ytgofngilfdnakaa", sum := "e8ddb4c7ef738dc461c2d90bec00428f5a8176e2d83a6b27499b67ed97abab1a", func := "cupel/cupellaw04.WalFalls", spec := "walFalls", inPlace := ["maps.clone"], unfollowed := true, recurses := true, apart := false }
def WalFallsSaid : Prop := walFallsRow.holds Try.pinned (OpenSpec.ofChange walFallsSpec)

/-- ITS FALSE NEIGHBOUR: 'it returns false'. Refute it at one input. -/
def walFallsWrong : ChangeSpec := { name := "walFalls", fn := fun _ => fun
  | [d1, d2] => { results := [.lit (.bool false)], args := [d1, d2] }
  | _ => none }
def WalFallsWrongFalsely : Prop := walFallsRow.holds Try.pinned (OpenSpec.ofChange walFallsWrong)

/-- 'cupellaw20.SessPlays': WHATEVER THE INPUT: true; the input reads as it did. -/
def sessPlaysSpec : ChangeSpec := { name := "sessPlays", fn := fun _ => fun
  | [d] => { results := [.lit (.bool true)], args := [d] }
  | _ => none }
def sessPlaysRow : OpenClaim := { program := "ytgofngilfdnakaa", sum := "e8ddb4c7ef738dc461c2d90bec00428f5a8176e2d83a6b27499b67ed97abab1a", func := "cupel/cupellaw20.SessPlays", spec := "sessPlays", unfollowed := true, recurses := true, apart := false }
def SessPlaysSaid : Prop := sessPlaysRow.holds Try.pinned (OpenSpec.ofChange sessPlaysSpec)

/-- ITS FALSE NEIGHBOUR: 'it returns false'. Refute it at one input. -/
def sessPlaysWrong : ChangeSpec := { name := "sessPlays", fn := fun _ => fun
  | [d] => { results := [.lit (.bool false)], args := [d] }
  | _ => none }
def SessPlaysWrongFalsely : Prop := sessPlaysRow.holds Try.pinned (OpenSpec.ofChange sessPlaysWrong)

/-- 'cupellaw20.SessNil': WHATEVER THE INPUT: true; the input reads as it did. -/
def sessNilSpec : ChangeSpec := { name := "sessNil", fn := fun _ => fun
  | [d1, d2] => { results := [.lit (.bool true)], args := [d1, d2] }
  | _ => none }
def sessNilRow : OpenClaim := { program := "ytgofngilfdnakaa", sum := "e8ddb4c7ef738dc461c2d90bec00428f5a8176e2d83a6b27499b67ed97abab1a", func := "cupel/cupellaw20.SessNil", spec := "sessNil", unfollowed := true, recurses := true, apart := false }
def SessNilSaid : Prop := sessNilRow.holds Try.pinned (OpenSpec.ofChange sessNilSpec)

/-- ITS FALSE NEIGHBOUR: 'it returns false'. Refute it at one input. -/
def sessNilWrong : ChangeSpec := { name := "sessNil", fn := fun _ => fun
  | [d1, d2] => { results := [.lit (.bool false)], args := [d1, d2] }
  | _ => none }
def SessNilWrongFalsely : Prop := sessNilRow.holds Try.pinned (OpenSpec.ofChange sessNilWrong)

/-- 'cupellaw03.DiskKeeps': WHATEVER THE INPUT: true; the input reads as it did. -/
def diskKeepsSpec : ChangeSpec := { name := "diskKeeps", fn := fun _ => fun
  | [d1, d2, d3] => { results := [.lit (.bool true)], args := [d1, d2, d3] }
  | _ => none }
def diskKeepsRow : OpenClaim := { program := "ytgofngilfdnakaa", sum := "e8ddb4c7ef738dc461c2d90bec00428f5a8176e2d83a6b27499b67ed97abab1a", func := "cupel/cupellaw03.DiskKeeps", spec := "diskKeeps", inPlace := ["maps.clone"], unfollowed := true, recurses := true, apart := false }
def DiskKeepsSaid : Prop := diskKeepsRow.holds Try.pinned (OpenSpec.ofChange diskKeepsSpec)

/-- ITS FALSE NEIGHBOUR: 'it returns false'. Refute it at one input. -/
def diskKeepsWrong : ChangeSpec := { name := "diskKeeps", fn := fun _ => fun
  | [d1, d2, d3] => { results := [.lit (.bool false)], args := [d1, d2, d3] }
  | _ => none }
def DiskKeepsWrongFalsely : Prop := diskKeepsRow.holds Try.pinned (OpenSpec.ofChange diskKeepsWrong)

/-- 'cupellaw03.DiskNamed': WHATEVER THE INPUT: true; the input reads as it did. -/
def diskNamedSpec : ChangeSpec := { name := "diskNamed", fn := fun _ => fun
  | [d1, d2] => { results := [.lit (.bool true)], args := [d1, d2] }
  | _ => none }
def diskNamedRow : OpenClaim := { program := "ytgofngilfdnakaa", sum := "e8ddb4c7ef738dc461c2d90bec00428f5a8176e2d83a6b27499b67ed97abab1a", func := "cupel/cupellaw03.DiskNamed", spec := "diskNamed", inPlace := ["maps.clone"], unfollowed := true, recurses := true, apart := false }
def DiskNamedSaid : Prop := diskNamedRow.holds Try.pinned (OpenSpec.ofChange diskNamedSpec)

/-- ITS FALSE NEIGHBOUR: 'it returns false'. Refute it at one input. -/
def diskNamedWrong : ChangeSpec := { name := "diskNamed", fn := fun _ => fun
  | [d1, d2] => { results := [.lit (.bool false)], args := [d1, d2] }
  | _ => none }
def DiskNamedWrongFalsely : Prop := diskNamedRow.holds Try.pinned (OpenSpec.ofChange diskNamedWrong)

/-- 'cupellaw06.BtreeShapes': WHATEVER THE INPUT: true; the input reads as it did. -/
def btreeShapesSpec : ChangeSpec := { name := "btreeShapes", fn := fun _ => fun
  | [d] => { results := [.lit (.bool true)], args := [d] }
  | _ => none }
def btreeShapesRow : OpenClaim := { program := "ytgofngilfdnakaa", sum := "e8ddb4c7ef738dc461c2d90bec00428f5a8176e2d83a6b27499b67ed97abab1a", func := "cupel/cupellaw06.BtreeShapes", spec := "btreeShapes", inPlace := ["maps.clone", "slices.overlaps[string]", "slices.overlaps[int]"], unfollowed := true, recurses := true, apart := false }
def BtreeShapesSaid : Prop := btreeShapesRow.holds Try.pinned (OpenSpec.ofChange btreeShapesSpec)

/-- ITS FALSE NEIGHBOUR: 'it returns false'. Refute it at one input. -/
def btreeShapesWrong : ChangeSpec := { name := "btreeShapes", fn := fun _ => fun
  | [d] => { results := [.lit (.bool false)], args := [d] }
  | _ => none }
def BtreeShapesWrongFalsely : Prop := btreeShapesRow.holds Try.pinned (OpenSpec.ofChange btreeShapesWrong)

/-- 'cupellaw06.BtreePlays': WHATEVER THE INPUT: true; the input reads as it did. -/
def btreePlaysSpec : ChangeSpec := { name := "btreePlays", fn := fun _ => fun
  | [d1, d2] => { results := [.lit (.bool true)], args := [d1, d2] }
  | _ => none }
def btreePlaysRow : OpenClaim := { program := "ytgofngilfdnakaa", sum := "e8ddb4c7ef738dc461c2d90bec00428f5a8176e2d83a6b27499b67ed97abab1a", func := "cupel/cupellaw06.BtreePlays", spec := "btreePlays", inPlace := ["maps.clone", "slices.overlaps[string]", "slices.overlaps[int]"], unfollowed := true, recurses := true, apart := false }
def BtreePlaysSaid : Prop := btreePlaysRow.holds Try.pinned (OpenSpec.ofChange btreePlaysSpec)

/-- ITS FALSE NEIGHBOUR: 'it returns false'. Refute it at one input. -/
def btreePlaysWrong : ChangeSpec := { name := "btreePlays", fn := fun _ => fun
  | [d1, d2] => { results := [.lit (.bool false)], args := [d1, d2] }
  | _ => none }
def BtreePlaysWrongFalsely : Prop := btreePlaysRow.holds Try.pinned (OpenSpec.ofChange btreePlaysWrong)

/-- 'cupellaw06.BtreeOrders': WHATEVER THE INPUT: true; the input reads as it did. -/
def btreeOrdersSpec : ChangeSpec := { name := "btreeOrders", fn := fun _ => fun
  | [d1, d2] => { results := [.lit (.bool true)], args := [d1, d2] }
  | _ => none }
def btreeOrdersRow : OpenClaim := { program := "ytgofngilfdnakaa", sum := "e8ddb4c7ef738dc461c2d90bec00428f5a8176e2d83a6b27499b67ed97abab1a", func := "cupel/cupellaw06.BtreeOrders", spec := "btreeOrders", inPlace := ["maps.clone", "slices.overlaps[string]", "slices.overlaps[int]"], unfollowed := true, recurses := true, apart := false }
def BtreeOrdersSaid : Prop := btreeOrdersRow.holds Try.pinned (OpenSpec.ofChange btreeOrdersSpec)

/-- ITS FALSE NEIGHBOUR: 'it returns false'. Refute it at one input. -/
def btreeOrdersWrong : ChangeSpec := { name := "btreeOrders", fn := fun _ => fun
  | [d1, d2] => { results := [.lit (.bool false)], args := [d1, d2] }
  | _ => none }
def BtreeOrdersWrongFalsely : Prop := btreeOrdersRow.holds Try.pinned (OpenSpec.ofChange btreeOrdersWrong)

/- THE SECOND FORM. 'bulk': how many values and letters a reading holds, each counted each time it is reached (what is shared counts as often as it is met; a slice's spare places count too). A statement '..UptoSaid' is the law's where the arguments, and the package variables that the reading takes, are together of bulk at most 1048576: NARROWER than '..Said'. Prove '..Said' where nothing that the law and all that it calls make is longer than what came in: it says more and counts as full. Else prove '..UptoSaid'. A law counts once. -/
mutual
def uptoBulk {H : Type} : DataW H → Nat
  | .lit (.string bytes) => bytes.length + 1
  | .lit _ => 1
  | .nil => 1
  | .ptr d => uptoBulk d + 1
  | .slice elems spare => uptoBulkAll elems + uptoBulkAll spare + 1
  | .agg parts => uptoBulkAll parts + 1
  | .iface _ d => uptoBulk d + 1
  | .map entries => uptoBulkEntries entries + 1
  | .held _ => 1
def uptoBulkAll {H : Type} : List (DataW H) → Nat
  | [] => 0
  | d :: r => uptoBulk d + uptoBulkAll r
def uptoBulkEntries {H : Type} : List (Lit × DataW H) → Nat
  | [] => 0
  | x :: r => uptoBulkEntry x + uptoBulkEntries r
def uptoBulkEntry {H : Type} : Lit × DataW H → Nat
  | (.string bytes, d) => bytes.length + uptoBulk d + 1
  | (_, d) => uptoBulk d + 1
 end
def uptoSmall : (H : Type) → List (DataW H) → Bool := fun _ ds => decide (uptoBulkAll ds ≤ 1048576)
def OpenSpec.upto (s : _root_.Go.ChangeSpec) : _root_.Go.OpenSpec := { _root_.Go.OpenSpec.ofChange s with cond := some uptoSmall }

/-- 'cupellaw04.WalReads', WHERE WHAT IT READS IS OF BULK AT MOST 1048576: true; the input reads as it did. -/
def walReadsUptoRow : OpenClaim := { program := "ytgofngilfdnakaa", sum := "e8ddb4c7ef738dc461c2d90bec00428f5a8176e2d83a6b27499b67ed97abab1a", func := "cupel/cupellaw04.WalReads", spec := "walReads", inPlace := ["maps.clone"], unfollowed := true, recurses := true, apart := false, narrowed := true }
def WalReadsUptoSaid : Prop := walReadsUptoRow.holds Try.pinned (OpenSpec.upto walReadsSpec)

/-- 'cupellaw04.WalFull', WHERE WHAT IT READS IS OF BULK AT MOST 1048576: true; the input reads as it did. -/
def walFullUptoRow : OpenClaim := { program := "ytgofngilfdnakaa", sum := "e8ddb4c7ef738dc461c2d90bec00428f5a8176e2d83a6b27499b67ed97abab1a", func := "cupel/cupellaw04.WalFull", spec := "walFull", inPlace := ["maps.clone"], unfollowed := true, recurses := true, apart := false, narrowed := true }
def WalFullUptoSaid : Prop := walFullUptoRow.holds Try.pinned (OpenSpec.upto walFullSpec)

/-- 'cupellaw04.WalOpens', WHERE WHAT IT READS IS OF BULK AT MOST 1048576: true; the input reads as it did. -/
def walOpensUptoRow : OpenClaim := { program := "ytgofngilfdnakaa", sum := "e8ddb4c7ef738dc461c2d90bec00428f5a8176e2d83a6b27499b67ed97abab1a", func := "cupel/cupellaw04.WalOpens", spec := "walOpens", inPlace := ["maps.clone"], unfollowed := true, recurses := true, apart := false, narrowed := true }
def WalOpensUptoSaid : Prop := walOpensUptoRow.holds Try.pinned (OpenSpec.upto walOpensSpec)

/-- 'cupellaw04.WalPlays', WHERE WHAT IT READS IS OF BULK AT MOST 1048576: true; the input reads as it did. -/
def walPlaysUptoRow : OpenClaim := { program := "ytgofngilfdnakaa", sum := "e8ddb4c7ef738dc461c2d90bec00428f5a8176e2d83a6b27499b67ed97abab1a", func := "cupel/cupellaw04.WalPlays", spec := "walPlays", inPlace := ["maps.clone"], unfollowed := true, recurses := true, apart := false, narrowed := true }
def WalPlaysUptoSaid : Prop := walPlaysUptoRow.holds Try.pinned (OpenSpec.upto walPlaysSpec)

/-- 'cupellaw04.WalNil', WHERE WHAT IT READS IS OF BULK AT MOST 1048576: true; the input reads as it did. -/
def walNilUptoRow : OpenClaim := { program := "ytgofngilfdnakaa", sum := "e8ddb4c7ef738dc461c2d90bec00428f5a8176e2d83a6b27499b67ed97abab1a", func := "cupel/cupellaw04.WalNil", spec := "walNil", inPlace := ["maps.clone"], unfollowed := true, recurses := true, apart := false, narrowed := true }
def WalNilUptoSaid : Prop := walNilUptoRow.holds Try.pinned (OpenSpec.upto walNilSpec)

/-- 'cupellaw04.WalFalls', WHERE WHAT IT READS IS OF BULK AT MOST 1048576: true; the input reads as it did. -/
def walFallsUptoRow : OpenClaim := { program := "ytgofngilfdnakaa", sum := "e8ddb4c7ef738dc461c2d90bec00428f5a8176e2d83a6b27499b67ed97abab1a", func := "cupel/cupellaw04.WalFalls", spec := "walFalls", inPlace := ["maps.clone"], unfollowed := true, recurses := true, apart := false, narrowed := true }
def WalFallsUptoSaid : Prop := walFallsUptoRow.holds Try.pinned (OpenSpec.upto walFallsSpec)

/-- 'cupellaw20.SessPlays', WHERE WHAT IT READS IS OF BULK AT MOST 1048576: true; the input reads as it did. -/
def sessPlaysUptoRow : OpenClaim := { program := "ytgofngilfdnakaa", sum := "e8ddb4c7ef738dc461c2d90bec00428f5a8176e2d83a6b27499b67ed97abab1a", func := "cupel/cupellaw20.SessPlays", spec := "sessPlays", unfollowed := true, recurses := true, apart := false, narrowed := true }
def SessPlaysUptoSaid : Prop := sessPlaysUptoRow.holds Try.pinned (OpenSpec.upto sessPlaysSpec)

/-- 'cupellaw20.SessNil', WHERE WHAT IT READS IS OF BULK AT MOST 1048576: true; the input reads as it did. -/
def sessNilUptoRow : OpenClaim := { program := "ytgofngilfdnakaa", sum := "e8ddb4c7ef738dc461c2d90bec00428f5a8176e2d83a6b27499b67ed97abab1a", func := "cupel/cupellaw20.SessNil", spec := "sessNil", unfollowed := true, recurses := true, apart := false, narrowed := true }
def SessNilUptoSaid : Prop := sessNilUptoRow.holds Try.pinned (OpenSpec.upto sessNilSpec)

/-- 'cupellaw03.DiskKeeps', WHERE WHAT IT READS IS OF BULK AT MOST 1048576: true; the input reads as it did. -/
def diskKeepsUptoRow : OpenClaim := { program := "ytgofngilfdnakaa", sum := "e8ddb4c7ef738dc461c2d90bec00428f5a8176e2d83a6b27499b67ed97abab1a", func := "cupel/cupellaw03.DiskKeeps", spec := "diskKeeps", inPlace := ["maps.clone"], unfollowed := true, recurses := true, apart := false, narrowed := true }
def DiskKeepsUptoSaid : Prop := diskKeepsUptoRow.holds Try.pinned (OpenSpec.upto diskKeepsSpec)

/-- 'cupellaw03.DiskNamed', WHERE WHAT IT READS IS OF BULK AT MOST 1048576: true; the input reads as it did. -/
def diskNamedUptoRow : OpenClaim := { program := "ytgofngilfdnakaa", sum := "e8ddb4c7ef738dc461c2d90bec00428f5a8176e2d83a6b27499b67ed97abab1a", func := "cupel/cupellaw03.DiskNamed", spec := "diskNamed", inPlace := ["maps.clone"], unfollowed := true, recurses := true, apart := false, narrowed := true }
def DiskNamedUptoSaid : Prop := diskNamedUptoRow.holds Try.pinned (OpenSpec.upto diskNamedSpec)

/-- 'cupellaw06.BtreeShapes', WHERE WHAT IT READS IS OF BULK AT MOST 1048576: true; the input reads as it did. -/
def btreeShapesUptoRow : OpenClaim := { program := "ytgofngilfdnakaa", sum := "e8ddb4c7ef738dc461c2d90bec00428f5a8176e2d83a6b27499b67ed97abab1a", func := "cupel/cupellaw06.BtreeShapes", spec := "btreeShapes", inPlace := ["maps.clone", "slices.overlaps[string]", "slices.overlaps[int]"], unfollowed := true, recurses := true, apart := false, narrowed := true }
def BtreeShapesUptoSaid : Prop := btreeShapesUptoRow.holds Try.pinned (OpenSpec.upto btreeShapesSpec)

/-- 'cupellaw06.BtreePlays', WHERE WHAT IT READS IS OF BULK AT MOST 1048576: true; the input reads as it did. -/
def btreePlaysUptoRow : OpenClaim := { program := "ytgofngilfdnakaa", sum := "e8ddb4c7ef738dc461c2d90bec00428f5a8176e2d83a6b27499b67ed97abab1a", func := "cupel/cupellaw06.BtreePlays", spec := "btreePlays", inPlace := ["maps.clone", "slices.overlaps[string]", "slices.overlaps[int]"], unfollowed := true, recurses := true, apart := false, narrowed := true }
def BtreePlaysUptoSaid : Prop := btreePlaysUptoRow.holds Try.pinned (OpenSpec.upto btreePlaysSpec)

/-- 'cupellaw06.BtreeOrders', WHERE WHAT IT READS IS OF BULK AT MOST 1048576: true; the input reads as it did. -/
def btreeOrdersUptoRow : OpenClaim := { program := "ytgofngilfdnakaa", sum := "e8ddb4c7ef738dc461c2d90bec00428f5a8176e2d83a6b27499b67ed97abab1a", func := "cupel/cupellaw06.BtreeOrders", spec := "btreeOrders", inPlace := ["maps.clone", "slices.overlaps[string]", "slices.overlaps[int]"], unfollowed := true, recurses := true, apart := false, narrowed := true }
def BtreeOrdersUptoSaid : Prop := btreeOrdersUptoRow.holds Try.pinned (OpenSpec.upto btreeOrdersSpec)

end Rows
end Go.Proofs.Ytgofngilfdnakaa
