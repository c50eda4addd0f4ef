/-
  No cell of these rows narrows 'for every input' (looked for: loops, veiled, ifaces, maps, wideKeys, modest, calm, conditions, laid).
  DERIVED. THE GIVEN ROWS OF THIS SEAT. 11 by the template 'for every input the law returns true; each argument reads behind the call as it read before'; 0 by the template 'total and deterministic' (their statements: YtgofngilfdnakaaGreatTotals.lean).
  GIVEN WITH THE SEED: the statements are not yours to turn. If you find one false, say at which input.
  Laid BY PROGRAM, IN A SANDBOX (cutbox-rows.mjs): the forced cells as the released guide's own fill.sh prints them over the translation f1a1bc088e192861… (all of the seat's roots in one cut). By AI agents, Wed Nov 11 2026. No macro, syntax, notation, axiom, sorry.
-/
import Derived.Test.YtgofngilfdnakaaGreatChecked
import GoSem.Claim
import GoSem.ClaimJoined
import GoSem.ClaimMapViews
import Derived.JoinedTies
import Derived.KernelRfl
namespace Go.Proofs.YtgofngilfdnakaaGreat
/- THE CELL 'sum', in the pinned program and in every row, IS THE sha256 OF THE DUMP (.gsa) THAT YtgofngilfdnakaaGreatProg.lean LOADS. Nothing in Lean hashes anything: it is a label: what it is worth is what the hold of that sum in a sandbox is worth. -/
noncomputable def Tryz.pinned : Pinned := { name := "ytgofngilfdnakaagreat", sum := "f1a1bc088e19286155d1ef49bd4279ddebf9f87d0bfd446a8c055c04664f7418", checked := Tryz.checked }
namespace Rows
def none {H : Type} : Left H := { results := [], args := [] }

/-- 'cupellaw06.BtreeRoots': WHATEVER THE INPUT: true; the input reads as it did. -/
def btreeRootsSpec : ChangeSpec := { name := "btreeRoots", fn := fun _ => fun
  | [d1, d2] => { results := [.lit (.bool true)], args := [d1, d2] }
  | _ => none }
def btreeRootsRow : OpenClaim := { program := "ytgofngilfdnakaagreat", sum := "f1a1bc088e19286155d1ef49bd4279ddebf9f87d0bfd446a8c055c04664f7418", func := "cupel/cupellaw06.BtreeRoots", spec := "btreeRoots", inPlace := ["maps.clone", "slices.overlaps[string]", "slices.overlaps[int]"], unfollowed := true, recurses := true, apart := false }
def BtreeRootsSaid : Prop := btreeRootsRow.holds Tryz.pinned (OpenSpec.ofChange btreeRootsSpec)

/-- ITS FALSE NEIGHBOUR: 'it returns false'. Refute it at one input. -/
def btreeRootsWrong : ChangeSpec := { name := "btreeRoots", fn := fun _ => fun
  | [d1, d2] => { results := [.lit (.bool false)], args := [d1, d2] }
  | _ => none }
def BtreeRootsWrongFalsely : Prop := btreeRootsRow.holds Tryz.pinned (OpenSpec.ofChange btreeRootsWrong)

/-- 'cupellaw07.StoreSnaps': WHATEVER THE INPUT: true; the input reads as it did. -/
def storeSnapsSpec : ChangeSpec := { name := "storeSnaps", fn := fun _ => fun
  | [d1, d2, d3] => { results := [.lit (.bool true)], args := [d1, d2, d3] }
  | _ => none }
def storeSnapsRow : OpenClaim := { program := "ytgofngilfdnakaagreat", sum := "f1a1bc088e19286155d1ef49bd4279ddebf9f87d0bfd446a8c055c04664f7418", func := "cupel/cupellaw07.StoreSnaps", spec := "storeSnaps", inPlace := ["maps.clone", "slices.overlaps[string]", "slices.overlaps[int]"], unfollowed := true, recurses := true, apart := false }
def StoreSnapsSaid : Prop := storeSnapsRow.holds Tryz.pinned (OpenSpec.ofChange storeSnapsSpec)

/-- ITS FALSE NEIGHBOUR: 'it returns false'. Refute it at one input. -/
def storeSnapsWrong : ChangeSpec := { name := "storeSnaps", fn := fun _ => fun
  | [d1, d2, d3] => { results := [.lit (.bool false)], args := [d1, d2, d3] }
  | _ => none }
def StoreSnapsWrongFalsely : Prop := storeSnapsRow.holds Tryz.pinned (OpenSpec.ofChange storeSnapsWrong)

/-- 'cupellaw07.StorePlays': WHATEVER THE INPUT: true; the input reads as it did. -/
def storePlaysSpec : ChangeSpec := { name := "storePlays", fn := fun _ => fun
  | [d1, d2, d3] => { results := [.lit (.bool true)], args := [d1, d2, d3] }
  | _ => none }
def storePlaysRow : OpenClaim := { program := "ytgofngilfdnakaagreat", sum := "f1a1bc088e19286155d1ef49bd4279ddebf9f87d0bfd446a8c055c04664f7418", func := "cupel/cupellaw07.StorePlays", spec := "storePlays", inPlace := ["maps.clone", "slices.overlaps[string]", "slices.overlaps[int]"], unfollowed := true, recurses := true, apart := false }
def StorePlaysSaid : Prop := storePlaysRow.holds Tryz.pinned (OpenSpec.ofChange storePlaysSpec)

/-- ITS FALSE NEIGHBOUR: 'it returns false'. Refute it at one input. -/
def storePlaysWrong : ChangeSpec := { name := "storePlays", fn := fun _ => fun
  | [d1, d2, d3] => { results := [.lit (.bool false)], args := [d1, d2, d3] }
  | _ => none }
def StorePlaysWrongFalsely : Prop := storePlaysRow.holds Tryz.pinned (OpenSpec.ofChange storePlaysWrong)

/-- 'cupellaw07.StoreFull': WHATEVER THE INPUT: true; the input reads as it did. -/
def storeFullSpec : ChangeSpec := { name := "storeFull", fn := fun _ => fun
  | [d1, d2] => { results := [.lit (.bool true)], args := [d1, d2] }
  | _ => none }
def storeFullRow : OpenClaim := { program := "ytgofngilfdnakaagreat", sum := "f1a1bc088e19286155d1ef49bd4279ddebf9f87d0bfd446a8c055c04664f7418", func := "cupel/cupellaw07.StoreFull", spec := "storeFull", inPlace := ["maps.clone", "slices.overlaps[string]", "slices.overlaps[int]"], unfollowed := true, recurses := true, apart := false }
def StoreFullSaid : Prop := storeFullRow.holds Tryz.pinned (OpenSpec.ofChange storeFullSpec)

/-- ITS FALSE NEIGHBOUR: 'it returns false'. Refute it at one input. -/
def storeFullWrong : ChangeSpec := { name := "storeFull", fn := fun _ => fun
  | [d1, d2] => { results := [.lit (.bool false)], args := [d1, d2] }
  | _ => none }
def StoreFullWrongFalsely : Prop := storeFullRow.holds Tryz.pinned (OpenSpec.ofChange storeFullWrong)

/-- 'cupellaw07.StoreFalls': WHATEVER THE INPUT: true; the input reads as it did. -/
def storeFallsSpec : ChangeSpec := { name := "storeFalls", fn := fun _ => fun
  | [d1, d2, d3] => { results := [.lit (.bool true)], args := [d1, d2, d3] }
  | _ => none }
def storeFallsRow : OpenClaim := { program := "ytgofngilfdnakaagreat", sum := "f1a1bc088e19286155d1ef49bd4279ddebf9f87d0bfd446a8c055c04664f7418", func := "cupel/cupellaw07.StoreFalls", spec := "storeFalls", inPlace := ["maps.clone", "slices.overlaps[string]", "slices.overlaps[int]"], unfollowed := true, recurses := true, apart := false }
def StoreFallsSaid : Prop := storeFallsRow.holds Tryz.pinned (OpenSpec.ofChange storeFallsSpec)

/-- ITS FALSE NEIGHBOUR: 'it returns false'. Refute it at one input. -/
def storeFallsWrong : ChangeSpec := { name := "storeFalls", fn := fun _ => fun
  | [d1, d2, d3] => { results := [.lit (.bool false)], args := [d1, d2, d3] }
  | _ => none }
def StoreFallsWrongFalsely : Prop := storeFallsRow.holds Tryz.pinned (OpenSpec.ofChange storeFallsWrong)

/-- 'cupellaw07.StoreNil': WHATEVER THE INPUT: true; the input reads as it did. -/
def storeNilSpec : ChangeSpec := { name := "storeNil", fn := fun _ => fun
  | [d1, d2] => { results := [.lit (.bool true)], args := [d1, d2] }
  | _ => none }
def storeNilRow : OpenClaim := { program := "ytgofngilfdnakaagreat", sum := "f1a1bc088e19286155d1ef49bd4279ddebf9f87d0bfd446a8c055c04664f7418", func := "cupel/cupellaw07.StoreNil", spec := "storeNil", inPlace := ["maps.clone", "slices.overlaps[string]", "slices.overlaps[int]"], unfollowed := true, recurses := true, apart := false }
def StoreNilSaid : Prop := storeNilRow.holds Tryz.pinned (OpenSpec.ofChange storeNilSpec)

/-- ITS FALSE NEIGHBOUR: 'it returns false'. Refute it at one input. -/
def storeNilWrong : ChangeSpec := { name := "storeNil", fn := fun _ => fun
  | [d1, d2] => { results := [.lit (.bool false)], args := [d1, d2] }
  | _ => none }
def StoreNilWrongFalsely : Prop := storeNilRow.holds Tryz.pinned (OpenSpec.ofChange storeNilWrong)

/-- 'cupellaw08.CasTexts': WHATEVER THE INPUT: true; the input reads as it did. -/
def casTextsSpec : ChangeSpec := { name := "casTexts", fn := fun _ => fun
  | [d] => { results := [.lit (.bool true)], args := [d] }
  | _ => none }
def casTextsRow : OpenClaim := { program := "ytgofngilfdnakaagreat", sum := "f1a1bc088e19286155d1ef49bd4279ddebf9f87d0bfd446a8c055c04664f7418", func := "cupel/cupellaw08.CasTexts", spec := "casTexts", inPlace := ["maps.clone", "slices.overlaps[string]", "slices.overlaps[int]"], unfollowed := true, recurses := true, apart := false }
def CasTextsSaid : Prop := casTextsRow.holds Tryz.pinned (OpenSpec.ofChange casTextsSpec)

/-- ITS FALSE NEIGHBOUR: 'it returns false'. Refute it at one input. -/
def casTextsWrong : ChangeSpec := { name := "casTexts", fn := fun _ => fun
  | [d] => { results := [.lit (.bool false)], args := [d] }
  | _ => none }
def CasTextsWrongFalsely : Prop := casTextsRow.holds Tryz.pinned (OpenSpec.ofChange casTextsWrong)

/-- 'cupellaw08.CasCommits': WHATEVER THE INPUT: true; the input reads as it did. -/
def casCommitsSpec : ChangeSpec := { name := "casCommits", fn := fun _ => fun
  | [d] => { results := [.lit (.bool true)], args := [d] }
  | _ => none }
def casCommitsRow : OpenClaim := { program := "ytgofngilfdnakaagreat", sum := "f1a1bc088e19286155d1ef49bd4279ddebf9f87d0bfd446a8c055c04664f7418", func := "cupel/cupellaw08.CasCommits", spec := "casCommits", inPlace := ["maps.clone", "slices.overlaps[string]", "slices.overlaps[int]"], unfollowed := true, recurses := true, apart := false }
def CasCommitsSaid : Prop := casCommitsRow.holds Tryz.pinned (OpenSpec.ofChange casCommitsSpec)

/-- ITS FALSE NEIGHBOUR: 'it returns false'. Refute it at one input. -/
def casCommitsWrong : ChangeSpec := { name := "casCommits", fn := fun _ => fun
  | [d] => { results := [.lit (.bool false)], args := [d] }
  | _ => none }
def CasCommitsWrongFalsely : Prop := casCommitsRow.holds Tryz.pinned (OpenSpec.ofChange casCommitsWrong)

/-- 'cupellaw08.CasFalls': WHATEVER THE INPUT: true; the input reads as it did. -/
def casFallsSpec : ChangeSpec := { name := "casFalls", fn := fun _ => fun
  | [d1, d2] => { results := [.lit (.bool true)], args := [d1, d2] }
  | _ => none }
def casFallsRow : OpenClaim := { program := "ytgofngilfdnakaagreat", sum := "f1a1bc088e19286155d1ef49bd4279ddebf9f87d0bfd446a8c055c04664f7418", func := "cupel/cupellaw08.CasFalls", spec := "casFalls", inPlace := ["maps.clone", "slices.overlaps[string]", "slices.overlaps[int]"], unfollowed := true, recurses := true, apart := false }
def CasFallsSaid : Prop := casFallsRow.holds Tryz.pinned (OpenSpec.ofChange casFallsSpec)

/-- ITS FALSE NEIGHBOUR: 'it returns false'. Refute it at one input. -/
def casFallsWrong : ChangeSpec := { name := "casFalls", fn := fun _ => fun
  | [d1, d2] => { results := [.lit (.bool false)], args := [d1, d2] }
  | _ => none }
def CasFallsWrongFalsely : Prop := casFallsRow.holds Tryz.pinned (OpenSpec.ofChange casFallsWrong)

/-- 'cupellaw08.CasVerdicts': WHATEVER THE INPUT: true; the input reads as it did. -/
def casVerdictsSpec : ChangeSpec := { name := "casVerdicts", fn := fun _ => fun
  | [d1, d2] => { results := [.lit (.bool true)], args := [d1, d2] }
  | _ => none }
def casVerdictsRow : OpenClaim := { program := "ytgofngilfdnakaagreat", sum := "f1a1bc088e19286155d1ef49bd4279ddebf9f87d0bfd446a8c055c04664f7418", func := "cupel/cupellaw08.CasVerdicts", spec := "casVerdicts", inPlace := ["maps.clone", "slices.overlaps[string]", "slices.overlaps[int]"], unfollowed := true, recurses := true, apart := false }
def CasVerdictsSaid : Prop := casVerdictsRow.holds Tryz.pinned (OpenSpec.ofChange casVerdictsSpec)

/-- ITS FALSE NEIGHBOUR: 'it returns false'. Refute it at one input. -/
def casVerdictsWrong : ChangeSpec := { name := "casVerdicts", fn := fun _ => fun
  | [d1, d2] => { results := [.lit (.bool false)], args := [d1, d2] }
  | _ => none }
def CasVerdictsWrongFalsely : Prop := casVerdictsRow.holds Tryz.pinned (OpenSpec.ofChange casVerdictsWrong)

/-- 'cupellaw08.CasNil': WHATEVER THE INPUT: true; the input reads as it did. -/
def casNilSpec : ChangeSpec := { name := "casNil", fn := fun _ => fun
  | [d1, d2] => { results := [.lit (.bool true)], args := [d1, d2] }
  | _ => none }
def casNilRow : OpenClaim := { program := "ytgofngilfdnakaagreat", sum := "f1a1bc088e19286155d1ef49bd4279ddebf9f87d0bfd446a8c055c04664f7418", func := "cupel/cupellaw08.CasNil", spec := "casNil", inPlace := ["slices.overlaps[string]", "slices.overlaps[int]", "maps.clone"], unfollowed := true, recurses := true, apart := false }
def CasNilSaid : Prop := casNilRow.holds Tryz.pinned (OpenSpec.ofChange casNilSpec)

/-- ITS FALSE NEIGHBOUR: 'it returns false'. Refute it at one input. -/
def casNilWrong : ChangeSpec := { name := "casNil", fn := fun _ => fun
  | [d1, d2] => { results := [.lit (.bool false)], args := [d1, d2] }
  | _ => none }
def CasNilWrongFalsely : Prop := casNilRow.holds Tryz.pinned (OpenSpec.ofChange casNilWrong)

/- THE SECOND FORM. 'bulk': how many values and letters a reading holds, each counted each time it is reached (what is shared counts as often as it is met; a slice's spare places count too). A statement '..UptoSaid' is the law's where the arguments, and the package variables that the reading takes, are together of bulk at most 1048576: NARROWER than '..Said'. Prove '..Said' where nothing that the law and all that it calls make is longer than what came in: it says more and counts as full. Else prove '..UptoSaid'. A law counts once. -/
mutual
def uptoBulk {H : Type} : DataW H → Nat
  | .lit (.string bytes) => bytes.length + 1
  | .lit _ => 1
  | .nil => 1
  | .ptr d => uptoBulk d + 1
  | .slice elems spare => uptoBulkAll elems + uptoBulkAll spare + 1
  | .agg parts => uptoBulkAll parts + 1
  | .iface _ d => uptoBulk d + 1
  | .map entries => uptoBulkEntries entries + 1
  | .held _ => 1
def uptoBulkAll {H : Type} : List (DataW H) → Nat
  | [] => 0
  | d :: r => uptoBulk d + uptoBulkAll r
def uptoBulkEntries {H : Type} : List (Lit × DataW H) → Nat
  | [] => 0
  | x :: r => uptoBulkEntry x + uptoBulkEntries r
def uptoBulkEntry {H : Type} : Lit × DataW H → Nat
  | (.string bytes, d) => bytes.length + uptoBulk d + 1
  | (_, d) => uptoBulk d + 1
 end
def uptoSmall : (H : Type) → List (DataW H) → Bool := fun _ ds => decide (uptoBulkAll ds ≤ 1048576)
def OpenSpec.upto (s : _root_.Go.ChangeSpec) : _root_.Go.OpenSpec := { _root_.Go.OpenSpec.ofChange s with cond := some uptoSmall }

/-- 'cupellaw06.BtreeRoots', WHERE WHAT IT READS IS OF BULK AT MOST 1048576: true; the input reads as it did. -/
def btreeRootsUptoRow : OpenClaim := { program := "ytgofngilfdnakaagreat", sum := "f1a1bc088e19286155d1ef49bd4279ddebf9f87d0bfd446a8c055c04664f7418", func := "cupel/cupellaw06.BtreeRoots", spec := "btreeRoots", inPlace := ["maps.clone", "slices.overlaps[string]", "slices.overlaps[int]"], unfollowed := true, recurses := true, apart := false, narrowed := true }
def BtreeRootsUptoSaid : Prop := btreeRootsUptoRow.holds Tryz.pinned (OpenSpec.upto btreeRootsSpec)

/-- 'cupellaw07.StoreSnaps', WHERE WHAT IT READS IS OF BULK AT MOST 1048576: true; the input reads as it did. -/
def storeSnapsUptoRow : OpenClaim := { program := "ytgofngilfdnakaagreat", sum := "f1a1bc088e19286155d1ef49bd4279ddebf9f87d0bfd446a8c055c04664f7418", func := "cupel/cupellaw07.StoreSnaps", spec := "storeSnaps", inPlace := ["maps.clone", "slices.overlaps[string]", "slices.overlaps[int]"], unfollowed := true, recurses := true, apart := false, narrowed := true }
def StoreSnapsUptoSaid : Prop := storeSnapsUptoRow.holds Tryz.pinned (OpenSpec.upto storeSnapsSpec)

/-- 'cupellaw07.StorePlays', WHERE WHAT IT READS IS OF BULK AT MOST 1048576: true; the input reads as it did. -/
def storePlaysUptoRow : OpenClaim := { program := "ytgofngilfdnakaagreat", sum := "f1a1bc088e19286155d1ef49bd4279ddebf9f87d0bfd446a8c055c04664f7418", func := "cupel/cupellaw07.StorePlays", spec := "storePlays", inPlace := ["maps.clone", "slices.overlaps[string]", "slices.overlaps[int]"], unfollowed := true, recurses := true, apart := false, narrowed := true }
def StorePlaysUptoSaid : Prop := storePlaysUptoRow.holds Tryz.pinned (OpenSpec.upto storePlaysSpec)

/-- 'cupellaw07.StoreFull', WHERE WHAT IT READS IS OF BULK AT MOST 1048576: true; the input reads as it did. -/
def storeFullUptoRow : OpenClaim := { program := "ytgofngilfdnakaagreat", sum := "f1a1bc088e19286155d1ef49bd4279ddebf9f87d0bfd446a8c055c04664f7418", func := "cupel/cupellaw07.StoreFull", spec := "storeFull", inPlace := ["maps.clone", "slices.overlaps[string]", "slices.overlaps[int]"], unfollowed := true, recurses := true, apart := false, narrowed := true }
def StoreFullUptoSaid : Prop := storeFullUptoRow.holds Tryz.pinned (OpenSpec.upto storeFullSpec)

/-- 'cupellaw07.StoreFalls', WHERE WHAT IT READS IS OF BULK AT MOST 1048576: true; the input reads as it did. -/
def storeFallsUptoRow : OpenClaim := { program := "ytgofngilfdnakaagreat", sum := "f1a1bc088e19286155d1ef49bd4279ddebf9f87d0bfd446a8c055c04664f7418", func := "cupel/cupellaw07.StoreFalls", spec := "storeFalls", inPlace := ["maps.clone", "slices.overlaps[string]", "slices.overlaps[int]"], unfollowed := true, recurses := true, apart := false, narrowed := true }
def StoreFallsUptoSaid : Prop := storeFallsUptoRow.holds Tryz.pinned (OpenSpec.upto storeFallsSpec)

/-- 'cupellaw07.StoreNil', WHERE WHAT IT READS IS OF BULK AT MOST 1048576: true; the input reads as it did. -/
def storeNilUptoRow : OpenClaim := { program := "ytgofngilfdnakaagreat", sum := "f1a1bc088e19286155d1ef49bd4279ddebf9f87d0bfd446a8c055c04664f7418", func := "cupel/cupellaw07.StoreNil", spec := "storeNil", inPlace := ["maps.clone", "slices.overlaps[string]", "slices.overlaps[int]"], unfollowed := true, recurses := true, apart := false, narrowed := true }
def StoreNilUptoSaid : Prop := storeNilUptoRow.holds Tryz.pinned (OpenSpec.upto storeNilSpec)

/-- 'cupellaw08.CasTexts', WHERE WHAT IT READS IS OF BULK AT MOST 1048576: true; the input reads as it did. -/
def casTextsUptoRow : OpenClaim := { program := "ytgofngilfdnakaagreat", sum := "f1a1bc088e19286155d1ef49bd4279ddebf9f87d0bfd446a8c055c04664f7418", func := "cupel/cupellaw08.CasTexts", spec := "casTexts", inPlace := ["maps.clone", "slices.overlaps[string]", "slices.overlaps[int]"], unfollowed := true, recurses := true, apart := false, narrowed := true }
def CasTextsUptoSaid : Prop := casTextsUptoRow.holds Tryz.pinned (OpenSpec.upto casTextsSpec)

/-- 'cupellaw08.CasCommits', WHERE WHAT IT READS IS OF BULK AT MOST 1048576: true; the input reads as it did. -/
def casCommitsUptoRow : OpenClaim := { program := "ytgofngilfdnakaagreat", sum := "f1a1bc088e19286155d1ef49bd4279ddebf9f87d0bfd446a8c055c04664f7418", func := "cupel/cupellaw08.CasCommits", spec := "casCommits", inPlace := ["maps.clone", "slices.overlaps[string]", "slices.overlaps[int]"], unfollowed := true, recurses := true, apart := false, narrowed := true }
def CasCommitsUptoSaid : Prop := casCommitsUptoRow.holds Tryz.pinned (OpenSpec.upto casCommitsSpec)

/-- 'cupellaw08.CasFalls', WHERE WHAT IT READS IS OF BULK AT MOST 1048576: true; the input reads as it did. -/
def casFallsUptoRow : OpenClaim := { program := "ytgofngilfdnakaagreat", sum := "f1a1bc088e19286155d1ef49bd4279ddebf9f87d0bfd446a8c055c04664f7418", func := "cupel/cupellaw08.CasFalls", spec := "casFalls", inPlace := ["maps.clone", "slices.overlaps[string]", "slices.overlaps[int]"], unfollowed := true, recurses := true, apart := false, narrowed := true }
def CasFallsUptoSaid : Prop := casFallsUptoRow.holds Tryz.pinned (OpenSpec.upto casFallsSpec)

/-- 'cupellaw08.CasVerdicts', WHERE WHAT IT READS IS OF BULK AT MOST 1048576: true; the input reads as it did. -/
def casVerdictsUptoRow : OpenClaim := { program := "ytgofngilfdnakaagreat", sum := "f1a1bc088e19286155d1ef49bd4279ddebf9f87d0bfd446a8c055c04664f7418", func := "cupel/cupellaw08.CasVerdicts", spec := "casVerdicts", inPlace := ["maps.clone", "slices.overlaps[string]", "slices.overlaps[int]"], unfollowed := true, recurses := true, apart := false, narrowed := true }
def CasVerdictsUptoSaid : Prop := casVerdictsUptoRow.holds Tryz.pinned (OpenSpec.upto casVerdictsSpec)

/-- 'cupellaw08.CasNil', WHERE WHAT IT READS IS OF BULK AT MOST 1048576: true; the input reads as it did. -/
def casNilUptoRow : OpenClaim := { program := "ytgofngilfdnakaagreat", sum := "f1a1bc088e19286155d1ef49bd4279ddebf9f87d0bfd446a8c055c04664f7418", func := "cupel/cupellaw08.CasNil", spec := "casNil", inPlace := ["slices.overlaps[string]", "slices.overlaps[int]", "maps.clone"], unfollowed := true, recurses := true, apart := false, narrowed := true }
def CasNilUptoSaid : Prop := casNilUptoRow.holds Tryz.pinned (OpenSpec.upto casNilSpec)

end Rows
end Go.Proofs.YtgofngilfdnakaaGreat
