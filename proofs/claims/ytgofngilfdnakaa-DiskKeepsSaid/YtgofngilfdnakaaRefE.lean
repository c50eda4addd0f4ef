/-
  This text proves what cupelref03's drop, Get, Size and Do compute: for few files, whose bytes are few.
-/
import Derived.Test.YtgofngilfdnakaaRefD
namespace Go.Proofs.Ytgofngilfdnakaa
open Go Go.RowKit
attribute [local go_sem] over_cell over_frozen lt_over le_over noB loudUpon ByteArray.mk_append_mk ByteArray.extract_mk

set_option maxRecDepth 100000 in
set_option maxHeartbeats 1600000 in
theorem rdrop_calls [Away] (v : Value) (F : Files) (k : Str) (w : World) (h : FR w v F) (hn : F.length ≤ 1000) :
    Calls Try.prog 148 #[v, .string ⟨k.toArray⟩] w fun e w' => ∃ v', e = .returned v' ∧ FR w' v' (rDrop F k) ∧ Mod NoB w w' := by
  have HFI := Lib.hid (rfind_calls v F k w h hn)
  have hle := rFind_le F k
  have HH := Lib.hid h
  have hlt : rIs F k = true → rFind F k < F.length := rIs_lt
  unfold rDrop
  generalize rFind F k = i at *
  cases hi : rIs F k with
  | false =>
    rw [hi] at HFI
    obtain ⟨a, c, rfl, _, _⟩ := h.cells
    rw [if_neg (by decide)]
    clear hlt hi h
    go_enter Try.func148, Try.ntmps148
    go_wp2_with fail
    refine HFI.out.mono ?_
    rintro e W ⟨rfl, hm⟩
    have HM := Lib.hid hm
    clear hm
    go_wp2_with fail
    go_ret
    exact ⟨_, rfl, HH.out.mod HM.out, HM.out⟩
  | true =>
    rw [hi] at HFI
    have hil := hlt hi
    rcases fr_case h with ⟨_, rfl⟩ | ⟨g, c, rfl, hc⟩
    · simp at hil
    rw [if_pos rfl]
    clear hlt hi h
    have hic : i ≤ c := by omega
    have hic1 : i + 1 ≤ c := by omega
    have hil1 : i + 1 ≤ F.length := by omega
    have hi5 : (i : Int) ≤ (F.length : Int) := by omega
    have hi4 : (0 : Int) ≤ (i : Int) := by omega
    have hi7 : (i : Int) + 1 ≤ (F.length : Int) := by omega
    have hi6 : (0 : Int) ≤ (i : Int) + 1 := by omega
    have hi9 : IntKind.i64.wrap ((i : Int) + 1) = (i : Int) + 1 := by rw [IntKind.wrap_i64]; omega
    have hi8 : ((i : Int) + 1).toNat = i + 1 := by omega
    go_enter Try.func148, Try.ntmps148
    go_wp2_with fail
    refine HFI.out.mono ?_
    rintro e W1 ⟨rfl, hm⟩
    have HM := Lib.hid hm
    clear hm HFI
    have HPT : Hid (∀ X, Mod NoB W1 X → PartAt X 2 (.slice (some ⟨g, 0, none⟩) i c) i (fCells (F.take i))) := fun X hX => f_part_take (HH.out.mod (HM.out.trans hX (fun _ _ h => h))) hle hc
    have HPD : Hid (∀ X, Mod NoB W1 X → PartAt X 2 (.slice (if c = i + 1 then some ⟨g, 0, none⟩ else some ⟨g, (i + 1) * 2, none⟩) (F.length - (i + 1)) (c - (i + 1))) (F.length - (i + 1)) (fCells (F.drop (i + 1)))) := fun X hX => by
      by_cases hci : c = i + 1
      · rw [if_pos hci]
        exact f_part_drop (HH.out.mod (HM.out.trans hX (fun _ _ h => h))) hil (by omega) _ (fun h => by omega)
      · rw [if_neg hci]
        exact f_part_drop (HH.out.mod (HM.out.trans hX (fun _ _ h => h))) hil (by omega) _ (fun _ => rfl)
    go_upto_region 4 with fail
    go_region_law (first
      | (refine step_own rfl (.tmp 16) (.tmp 19) 95 rfl (v := .slice (some ⟨_, 0, none⟩) 0 0) (v2 := .slice (some ⟨g, 0, none⟩) i c) rfl rfl (base := W1.heap.size) (n := 0) (m := i) (xs := []) (ys := fCells (F.take i)) i (fCells (F.take i)) elemF (by decide) ?_ ?_ ?_ ?_ ?_ rfl ?_ ?_
         · exact row_empty (by first | exact heap_alloc_at' _ _ _ rfl | exact heap_alloc_at' _ _ _ (by simp) | exact heap_alloc_old' _ _ _ (by (first | omega | (simp only [size_alloc]; omega) | (simp only [size_alloc, heap_drew]; omega))) (heap_alloc_at' _ _ _ (by first | rfl | simp))) (by (first | omega | (simp only [size_alloc]; omega) | (simp only [size_alloc, heap_drew]; omega)))
         · exact HPT.out _ (by (repeat (first | with_reducible exact Mod.refl _ _ | with_reducible refine Mod.drew ?_ | with_reducible refine Mod.alloc ?_ _)))
         · exact fCells_one _
         · omega
         · omega
         · (first | omega | (simp only [size_alloc]; omega) | (simp only [size_alloc, heap_drew]; omega))
         intro b6 c6 W6 hr6 hg6 hk6
         have hW6 : Mod NoB W1 W6 := Mod.grown (by (repeat (first | with_reducible exact Mod.refl _ _ | with_reducible refine Mod.drew ?_ | with_reducible refine Mod.alloc ?_ _))) hg6 (fun q hq hl => by simp only [Value.ownBlock, Option.some.injEq] at hq; (try simp only [size_alloc] at hq); omega))
      | (refine step_own rfl (.tmp 20) (.tmp 24) 95 rfl (v := .slice b6 i c6) (v2 := .slice (if c = i + 1 then some ⟨g, 0, none⟩ else some ⟨g, (i + 1) * 2, none⟩) (F.length - (i + 1)) (c - (i + 1))) rfl rfl (base := W1.heap.size) (n := i) (m := F.length - (i + 1)) (xs := fCells (F.take i)) (ys := fCells (F.drop (i + 1))) (F.length - 1) (fCells (F.take i ++ F.drop (i + 1))) elemF (by decide) ?_ ?_ ?_ ?_ ?_ ?_ ?_ ?_
         · exact ownsRow_mod hr6 (by (repeat (first | with_reducible exact Mod.refl _ _ | with_reducible refine Mod.drew ?_ | with_reducible refine Mod.alloc ?_ _))) (fun _ _ => id)
         · exact HPD.out _ (hW6.trans (by (repeat (first | with_reducible exact Mod.refl _ _ | with_reducible refine Mod.drew ?_ | with_reducible refine Mod.alloc ?_ _))) (fun _ _ h => h))
         · exact fCells_one _
         · omega
         · omega
         · rw [fCells_append]
         · have := hW6.size; (first | omega | (simp only [size_alloc]; omega) | (simp only [size_alloc, heap_drew]; omega))
         intro b7 c7 W7 hr7 hg7 hk7
         have hW7 : Mod NoB W1 W7 := hW6.trans (Mod.grown (F := fun q => W1.heap.size ≤ q) (by (repeat (first | with_reducible exact Mod.refl _ _ | with_reducible refine Mod.drew ?_ | with_reducible refine Mod.alloc ?_ _))) hg7 (fun q hq hl => (hr6.lt q hq).1)) (fun q hq h => by omega)))
    all_goals go_wp2_with fail
    all_goals go_ret
    all_goals
      refine ⟨_, rfl, FR.off (base := W1.heap.size) ?_ (HH.out.mod HM.out).2.old hW7.size, HM.out.trans hW7 (fun _ _ h => h)⟩
      rw [show (F.take i ++ F.drop (i + 1)).length = F.length - 1 by rw [List.length_append, List.length_take, List.length_drop]; omega]
      exact hr7

theorem size_take (F : Files) {k : Nat} (hk : k < F.length) : Files.size (F.take (k + 1)) = Files.size (F.take k) + F[k].2.length := by
  induction F generalizing k with
  | nil => simp at hk
  | cons x F ih =>
    cases k with
    | zero => simp [Files.size]
    | succ k =>
      rw [List.take_succ_cons, List.take_succ_cons]
      have := ih (k := k) (by simpa using hk)
      simp only [Files.size, List.getElem_cons_succ, this]
      omega
theorem size_take_le : ∀ (F : Files) (k : Nat), Files.size (F.take k) ≤ F.size
  | [], _ => by simp [Files.size]
  | _ :: _, 0 => by simp [Files.size]
  | x :: F, k + 1 => by
    rw [List.take_succ_cons]
    have := size_take_le F k
    simp only [Files.size]
    omega
set_option maxRecDepth 100000 in
set_option maxHeartbeats 800000 in
theorem rsize_calls [Away] (v : Value) (F : Files) (w : World) (h : FR w v F) (hn : F.length ≤ 1000) (hs : F.size ≤ 1000000000) :
    Calls Try.prog 113 #[v] w fun e w' => e = .returned (.int .i64 F.size) ∧ w = w' := by
  obtain ⟨a, c, rfl, hc, hcell⟩ := h.cells
  have HC := Lib.hid hcell
  clear hcell h
  go_enter Try.func113, Try.ntmps113
  go_wp2
  go_loop [3, 4] (fun s i => ∃ (k : Nat), k ≤ F.length ∧ i = .int .i64 k ∧ s = .int .i64 (Files.size (F.take k))) (fun _ i => F.length - (RowKit.intOf i).toNat)
  case atStart => exact ⟨0, by omega, rfl, rfl⟩
  case round =>
    obtain ⟨k, hk, rfl, rfl⟩ := hrel
    by_cases hlt : k < F.length
    · obtain ⟨q, rfl, hq, _, h2⟩ := HC.out k hlt
      have h4 := size_take F hlt
      have h5 := size_take_le F (k + 1)
      generalize F[k] = x at *
      obtain ⟨x1, x2⟩ := x
      simp only at h2 h4
      have h6 : ((Files.size (F.take (k + 1)) : Nat) : Int) = ((Files.size (F.take k) : Nat) : Int) + (x2.length : Int) := by omega
      generalize hy : Files.size (F.take (k + 1)) = y2 at *
      have HY := Lib.hid hy
      clear hy
      generalize Files.size (F.take k) = y1 at *
      go_wp2
      go_round
      case rel => exact ⟨k + 1, by omega, by go_num, by rw [HY.out, h6]⟩
      case measure => simp [RowKit.intOf]; omega
    · have hke : k = F.length := by omega
      subst hke
      rw [List.take_length]
      go_wp2
      go_ret
      exact ⟨rfl, rfl⟩

set_option maxRecDepth 100000 in
set_option maxHeartbeats 800000 in
theorem rget_calls [Away] (v : Value) (F : Files) (k : Str) (w : World) (h : FR w v F) (hn : F.length ≤ 1000) :
    Calls Try.prog 144 #[v, .string ⟨k.toArray⟩] w fun e w' => e = .returned (.tuple #[.string ⟨(if rIs F k then rAt F k else []).toArray⟩, .bool (rIs F k)]) ∧ Mod NoB w w' := by
  have HFI := Lib.hid (rfind_calls v F k w h hn)
  obtain ⟨a, c, rfl, hc, hcell⟩ := h.cells
  have hlt : rIs F k = true → rFind F k < F.length := rIs_lt
  unfold rAt
  generalize rFind F k = i at *
  cases hi : rIs F k with
  | false =>
    rw [hi] at HFI
    clear hlt hi hcell h
    rw [if_neg (by decide)]
    go_enter Try.func144, Try.ntmps144
    go_wp2_with fail
    refine HFI.out.mono ?_
    rintro e W ⟨rfl, hm⟩
    have HM := Lib.hid hm
    clear hm
    go_wp2_with fail
    go_ret2
    exact ⟨rfl, HM.out⟩
  | true =>
    rw [hi] at HFI
    have hil := hlt hi
    obtain ⟨q, rfl, hq, _, h2⟩ := hcell i hil
    clear hlt hi hcell h
    rw [if_pos rfl, List.getElem?_eq_getElem hil]
    generalize F[i] = x at *
    obtain ⟨x1, x2⟩ := x
    simp only [Option.map_some, Option.getD_some] at h2 ⊢
    go_enter Try.func144, Try.ntmps144
    go_wp2_with fail
    refine HFI.out.mono ?_
    rintro e W ⟨rfl, hm⟩
    have h3 := (World.cell?_of_block (w := w) (hm.block q hq id)).trans h2
    have h4 := Nat.lt_of_lt_of_le hq hm.size
    have HM := Lib.hid hm
    clear hm h2 hq
    go_wp2_with fail
    go_ret2
    exact ⟨rfl, HM.out⟩

end Go.Proofs.Ytgofngilfdnakaa
