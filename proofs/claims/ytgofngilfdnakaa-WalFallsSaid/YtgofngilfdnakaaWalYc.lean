/-
  This text lays out the switch of cupellaw04.WalPlays as a code of its own; no condition.
-/
import Derived.Test.YtgofngilfdnakaaLawV
import Derived.Test.YtgofngilfdnakaaAwake4
import Derived.Deep.Cut
import Derived.Deep.CutRange
import Derived.Deep.CutBlock
import Derived.Deep.RegionWith
namespace Go.Proofs.Ytgofngilfdnakaa
open Go Go.RowKit

theorem Act4.facts {w : World} {D : Nat} {x0 x1 x2 x3 x4 x5 x6 : Value} (h : w.heap[D]? = some (.cells #[x0, x1, x2, x3, x4, x5, x6] 64 (0, 0))) : D < w.heap.size ∧ w.cell? ⟨D, 0, none⟩ = some x0 ∧ w.cell? ⟨D, 1, none⟩ = some x1 ∧ w.cell? ⟨D, 2, none⟩ = some x2 ∧ w.cell? ⟨D, 3, none⟩ = some x3 ∧
    w.cell? ⟨D, 4, none⟩ = some x4 ∧ w.cell? ⟨D, 5, none⟩ = some x5 ∧ w.cell? ⟨D, 6, none⟩ = some x6 ∧ ∀ i, w.frozen? ⟨D, i, none⟩ = false :=
  ⟨lt_heap h, (cell_heap h 0).trans rfl, (cell_heap h 1).trans rfl, (cell_heap h 2).trans rfl, (cell_heap h 3).trans rfl, (cell_heap h 4).trans rfl, (cell_heap h 5).trans rfl, (cell_heap h 6).trans rfl, frozen_heap h⟩

/-- The block of a number. -/
def findBlock (n : Nat) : Code → Option Code
  | .block m c => if m = n then some (.block m c) else findBlock n c
  | .seq a b => match findBlock n a with
    | some c => some c
    | none => findBlock n b
  | .loop c => findBlock n c
  | .scope c => findBlock n c
  | .cond _ a b => match findBlock n a with
    | some c => some c
    | none => findBlock n b
  | _ => none
/-- What follows, with panics that do not look at the frame. -/
def loudQ (Q : Exit → Act → World → Prop) : Exit → Act → World → Prop
  | .panic c, a, w => ∃ tm, Q (.panic c) ⟨tm, a.defers⟩ w
  | e, a, w => Q e a w
theorem wp_loudQ {P : Program} {s : Code} {K : Act → World → Prop} {Q : Exit → Act → World → Prop} {a : Act} {w : World} (h : ∀ c tm a w, Q (.panic c) ⟨tm, a.defers⟩ w → Q (.panic c) a w) (hw : s.wp P (Exit.then K (loudQ Q)) a w) : s.wp P (Exit.then K Q) a w :=
  wp_mono hw fun e a' w' hq => by
    cases e with
    | panic c => obtain ⟨tm, h0⟩ := hq; exact h c tm a' w' h0
    | normal => exact hq
    | exit id => exact hq
    | goto l => exact hq
    | ret => exact hq
    | outgrown => exact hq
/-- The switch. -/
noncomputable def blk2 : Code := ((Try.f6.body.bind (findBlock 2)).getD .skip)

end Go.Proofs.Ytgofngilfdnakaa
