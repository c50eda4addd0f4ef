/-
  This text proves what Sessions of a session's table answers: for a table of whatever sessions, of which there are few.
-/
import Derived.Test.YtgofngilfdnakaaSess
import Derived.Test.YtgofngilfdnakaaKeys
namespace Go.Proofs.Ytgofngilfdnakaa
open Go Go.RowKit Go.Maps Go.Sort Go.Shelf Go.Proofs

/-- slices.Sort's two contracts at this program, at the fence that asks nothing. -/
theorem sortsA (m : Nat) : AnyZI.SortsIn Try.prog Try.sortedA_ren Fence.wide m :=
  ⟨fun blk off cap ss W hH hblk hsz => callsIn_wide.2 (AnyM.slices_Sort_int Try.sortA blk off cap ss W hH hblk hsz),
   fun p cap W => callsIn_wide.2 (AnyM.slices_Sort_int_none Try.sortA p cap W)⟩

set_option maxHeartbeats 1000000 in
theorem SSessions_calls (t b nn a : Nat) (D0 : DataW Value) (w : World) (h : TabAt w t b nn D0 a) (hmax : Maps.size D0 ≤ 1000) :
    Calls Try.prog 58 #[.pointer (some ⟨t, 0, none⟩)] w fun e w' => ∃ (v : Value) (ss : List Int), e = .returned v ∧ ss.Perm (intKeys D0) ∧
      w'.ownsRow w.heap.size 3 1 v ss.length ((ss.mergeSort (fun x y => decide (x ≤ y))).map encZ) ∧ (v = .slice none 0 0 ↔ ss = []) ∧ Mod NoB w w' := by
  refine (callsIn_wide (n := 6)).1 ?_
  obtain ⟨ht, hown⟩ := h
  have hown' : w.ownsMap Try.prog 3 heldR b nn D0 := hown
  have hbl := hown'.lt
  have c0 := cell_heap ht 0
  have tb := lt_heap ht
  simp only [List.getElem?_toArray, List.getElem?_cons_zero] at c0
  have hseq : SeqGives Fence.wide 2 Try.prog 143 #[.pointer (some ⟨w.heap.size, 0, none⟩)] encZ (fun ss => ss.Perm (intKeys D0)) (Maps.size D0) (w.alloc (.cells #[.map (some b)] 164)) :=
    AnyZI.keys_gives (ρ := Try.keysA_ren) { Try.keysA with } Fence.wide _ trivial rfl (by omega) w.heap.size b nn D0 _ (by simp) (by simp) (by
      obtain ⟨es, clock, hb, Ft, hs, hD⟩ := hown'
      exact ⟨es, clock, (Below.heap_alloc _ _ b hbl).trans hb, Ft, hs, hD⟩)
  have cK : ∀ mb W, CallsIn Fence.wide 5 Try.prog 108 #[.map mb] W fun e w' => e = .returned (.func (.func 143) #[] #[.pointer (some ⟨W.heap.size, 0, none⟩)]) ∧ w' = W.alloc (.cells #[.map mb] 164) := fun mb W => AnyZI.keys_in Try.keysA Fence.wide 5 trivial rfl mb W
  have cS := AnyZI.sorted_in Try.sortedA Fence.wide 5 trivial trivial trivial trivial rfl (by omega) (sortsA _) (enters_of Try.func142 (by kernel_rfl) rfl) 143 #[.pointer (some ⟨w.heap.size, 0, none⟩)] trivial (enters_of Try.func143 (by kernel_rfl) rfl) _ _ (by rw [maxLen_eq]; omega) (by omega) _ hseq
  change CallsIn _ _ Try.prog 107 _ _ _ at cS
  have hfK : Fence.wide.fn 108 := trivial
  have hfS : Fence.wide.fn 107 := trivial
  clear ht hown hown' hseq
  refine callsIn_of_wp Try.func58 rfl trivial ?_ rfl
  simp only [Try.ntmps58, List.size_toArray, List.length_cons, List.length_nil, Nat.reduceAdd, Nat.reduceSub, Array.replicate_succ, Array.replicate_zero, List.push_toArray, List.append_toArray, List.nil_append, List.cons_append]
  gi_wp2_with (first
    | (gi_at_call 108; refine (cK _ _).mono ?_; rintro e w' ⟨rfl, rfl⟩)
    | (gi_at_call 107; refine cS.mono ?_; rintro e w' ⟨v, ss, rfl, hS, hrow, hnil, hb⟩))
  go_ret
  exact ⟨v, ss, rfl, hS, ownsRow_base_a hrow (by simp), hnil, Mod.of_below (((Below.refl _ w).alloc (Nat.le_refl _) _).trans (hb.mono (by simp)))⟩

end Go.Proofs.Ytgofngilfdnakaa
