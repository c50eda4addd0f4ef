/-
  This text proves what Names of a disk answers: the names of its files, rising; for few files.
-/
import Derived.Test.YtgofngilfdnakaaDiskM
import Derived.Test.YtgofngilfdnakaaRefP
import Derived.Test.YtgofngilfdnakaaKeyS
namespace Go.Proofs.Ytgofngilfdnakaa
open Go Go.RowKit Go.Maps Go.Sort Go.Shelf Go.Proofs

/-! ### Names -/
theorem sortsS (m : Nat) : AnyZ.SortsIn Try.prog Try.sortedS_ren Fence.wide m :=
  ⟨fun blk off cap ss W hH hblk hsz => callsIn_wide.2 (AnyM.slices_Sort_string Try.sortS blk off cap ss W hH hblk hsz),
   fun p cap W => callsIn_wide.2 (AnyM.slices_Sort_string_none Try.sortS p cap W)⟩
theorem blessM : ∀ a b : Str, Op.bytesLess a b = bytesBefore a b
  | [], [] => rfl
  | [], _ :: _ => rfl
  | _ :: _, [] => rfl
  | a :: x, b :: y => by
    simp only [Op.bytesLess, bytesBefore, blessM x y]
theorem sorted_names {L ss : List Str} (h : L.Pairwise (fun x y => bytesBefore x y = true)) (hp : ss.Perm L) : ss.mergeSort (fun x y => decide (x ≤ y)) = L := by
  have h1 : (ss.mergeSort (fun x y => decide (x ≤ y))).Perm L := (List.mergeSort_perm ss _).trans hp
  have h2 : (ss.mergeSort (fun x y : Str => decide (x ≤ y))).Pairwise (fun x y => x ≤ y) := by
    have := List.pairwise_mergeSort (le := fun x y : Str => decide (x ≤ y)) (by intro a b c; simp; exact List.le_trans) (by intro a b; simp; exact List.le_total a b) ss
    exact this.imp (by intro a b; simp)
  have h3 : L.Pairwise (fun x y => x ≤ y) := h.imp (by
    intro a b hab
    have : Op.bytesLess a b = true := by rw [blessM]; exact hab
    rw [bytesLess_eq] at this
    exact List.le_of_lt (by simpa using this))
  exact List.Perm.eq_of_pairwise (le := fun x y : Str => x ≤ y) (by intro a b _ _ h1 h2; exact List.le_antisymm h1 h2) h2 h3 h1
theorem filesD_keys (F : Files) : strKeys (filesD F) = F.map (·.1) := by
  simp only [filesD, strKeys, List.map_map]
  rfl
set_option maxHeartbeats 1000000 in
theorem Names_calls (p : Nat) (S : Nat → Prop) (d : Dk) (w : World) (h : Disk w p S d) (hs : Sorted d.now) (hmax : d.now.length ≤ 100000) :
    Calls Try.prog 70 #[.pointer (some ⟨p, 0, none⟩)] w fun e w' => ∃ v, e = .returned v ∧ w'.ownsRow w.heap.size 9 1 v d.now.length (d.now.map fun x => .string ⟨x.1.toArray⟩) ∧ Mod NoB w w' := by
  refine (callsIn_wide (n := 6)).1 ?_
  obtain ⟨m, rfl, hd, hS⟩ := h
  obtain ⟨hb, c0, c1, c2, c3, c4, c5, c6, hf⟩ := hd.facts
  have hown : w.ownsMap Try.prog 9 (plainElem Try.prog 9) m.bn d.now.length (filesD d.now) := hd.now
  have hbl := hown.lt
  have hsz : Maps.size (filesD d.now) = d.now.length := by simp [filesD, Maps.size]
  have hseq : SeqGives Fence.wide 2 Try.prog 151 #[.pointer (some ⟨w.heap.size, 0, none⟩)] encStr (fun ss => ss.Perm (strKeys (filesD d.now))) (Maps.size (filesD d.now)) (w.alloc (.cells #[.map (some m.bn)] 133)) :=
    AnyZ.keys_gives (ρ := Try.keysS_ren) { Try.keysS with } Fence.wide _ trivial rfl (by omega) w.heap.size m.bn _ (filesD d.now) _ (by simp) (by simp) (by
      obtain ⟨es, clock, hb, Ft, hs, hD⟩ := hown
      exact ⟨es, clock, (Below.heap_alloc _ _ m.bn hbl).trans hb, Ft, hs, hD⟩)
  have cK : ∀ mb W, CallsIn Fence.wide 5 Try.prog 115 #[.map mb] W fun e w' => e = .returned (.func (.func 151) #[] #[.pointer (some ⟨W.heap.size, 0, none⟩)]) ∧ w' = W.alloc (.cells #[.map mb] 133) := fun mb W => AnyZ.keys_in Try.keysS Fence.wide 5 trivial rfl mb W
  have cS := AnyZ.sorted_in Try.sortedS Fence.wide 5 trivial trivial trivial trivial rfl (by omega) (sortsS _) (enters_of Try.func150 (by kernel_rfl) rfl) 151 #[.pointer (some ⟨w.heap.size, 0, none⟩)] trivial (enters_of Try.func151 (by kernel_rfl) rfl) _ _ (by rw [hsz, maxLen_eq]; omega) (by rw [hsz]; omega) _ hseq
  change CallsIn _ _ Try.prog 114 _ _ _ at cS
  have hfK : Fence.wide.fn 115 := trivial
  have hfS : Fence.wide.fn 114 := trivial
  have HSO := Lib.hid hs
  clear hd hS hown hseq hsz hs
  refine callsIn_of_wp Try.func70 rfl trivial ?_ rfl
  simp only [Try.ntmps70, List.size_toArray, List.length_cons, List.length_nil, Nat.reduceAdd, Nat.reduceSub, Array.replicate_succ, Array.replicate_zero, List.push_toArray, List.append_toArray, List.nil_append, List.cons_append]
  gi_wp2_with (first
    | (gi_at_call 115; refine (cK _ _).mono ?_; rintro e w' ⟨rfl, rfl⟩)
    | (gi_at_call 114; refine cS.mono ?_; rintro e w' ⟨v, ss, rfl, hS, hrow, hnil, hb⟩))
  go_ret
  rw [filesD_keys] at hS
  have hl : ss.length = d.now.length := by have := hS.length_eq; simpa using this
  rw [sorted_names (List.pairwise_map.2 HSO.out) hS, hl] at hrow
  have hrow2 := row_base hrow (base' := w.heap.size) (by simp)
  rw [List.map_map] at hrow2
  exact ⟨v, rfl, hrow2, Mod.of_below (((Below.refl _ w).alloc (Nat.le_refl _) _).trans (hb.mono (by simp)))⟩

end Go.Proofs.Ytgofngilfdnakaa
