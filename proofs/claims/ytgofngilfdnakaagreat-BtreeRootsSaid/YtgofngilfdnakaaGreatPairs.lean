/-
  This text proves what cupellaw06's find, with and without compute: for few keys.
-/
import Derived.Test.YtgofngilfdnakaaGreatApp
import Derived.Test.YtgofngilfdnakaaGreatRefP
import Derived.Deep.Cut
import Derived.Deep.CutRange
import Derived.Deep.CutBlock
import Derived.Deep.RegionWith
namespace Go.Proofs.YtgofngilfdnakaaGreat
open Go Go.RowKit
attribute [local go_sem] over_cell over_frozen lt_over le_over noB loudUpon ByteArray.mk_append_mk ByteArray.extract_mk

def fCells (F : Files) : List Value := F.flatMap fun p => [.string ⟨p.1.toArray⟩, .string ⟨p.2.toArray⟩]
/-- Blocks that others hold. -/
class Away where
  S : Nat → Prop
/-- A slice lies apart from what others hold. -/
structure OutS [Away] (w : World) (v : Value) : Prop where
  off : ∀ q, v.ownBlock = some q → ¬ Away.S q
  old : ∀ q, Away.S q → q < w.heap.size
theorem OutS.later [Away] {w w' : World} {v : Value} (h : OutS w v) (hs : w.heap.size ≤ w'.heap.size) : OutS w' v := ⟨h.off, fun q hq => Nat.lt_of_lt_of_le (h.old q hq) hs⟩
theorem OutS.row [Away] {w : World} {base n size : Nat} {E : TypeId} {v : Value} {xs : List Value} (h : w.ownsRow base E size v n xs) (hb : ∀ q, Away.S q → q < base) (hw : base ≤ w.heap.size) : OutS w v :=
  ⟨fun q hq hs => by have h1 := (h.lt q hq).1; have h2 := hb q hs; omega, fun q hq => Nat.lt_of_lt_of_le (hb q hq) hw⟩
/-- Files in a slice. -/
def FR [Away] (w : World) (v : Value) (F : Files) : Prop := w.ownsRow 0 124 2 v F.length (fCells F) ∧ OutS w v
theorem fCells_length : ∀ F : Files, (fCells F).length = F.length * 2
  | [] => rfl
  | e :: E => by
    have := fCells_length E
    unfold fCells at *
    rw [List.flatMap_cons, List.length_append, this, List.length_cons]
    simp only [List.length_cons, List.length_nil]
    omega
theorem fCells_append (E E' : Files) : fCells (E ++ E') = fCells E ++ fCells E' := by simp [fCells]
theorem fCells_one (F : Files) : ∀ u ∈ fCells F, u.oneCell' = true := fun u hu => by
  unfold fCells at hu
  obtain ⟨e, he, hu⟩ := List.mem_flatMap.1 hu
  rcases List.mem_cons.1 hu with rfl | hu
  · rfl
  · rw [List.mem_singleton.1 hu]; rfl
theorem fCells_take : ∀ (E : Files) (i : Nat), (fCells E).take (i * 2) = fCells (E.take i)
  | _, 0 => by simp [fCells]
  | [], i + 1 => by simp [fCells]
  | e :: E, i + 1 => by
    have ih := fCells_take E i
    rw [List.take_succ_cons, show (i + 1) * 2 = i * 2 + 1 + 1 by omega]
    show ([Value.string ⟨e.1.toArray⟩, .string ⟨e.2.toArray⟩] ++ fCells E).take (i * 2 + 1 + 1) = [Value.string ⟨e.1.toArray⟩, .string ⟨e.2.toArray⟩] ++ fCells (E.take i)
    rw [← ih]
    rfl
theorem fCells_drop : ∀ (E : Files) (i : Nat), (fCells E).drop (i * 2) = fCells (E.drop i)
  | _, 0 => by simp
  | [], i + 1 => by simp [fCells]
  | e :: E, i + 1 => by
    have ih := fCells_drop E i
    rw [List.drop_succ_cons, show (i + 1) * 2 = i * 2 + 1 + 1 by omega]
    show ([Value.string ⟨e.1.toArray⟩, .string ⟨e.2.toArray⟩] ++ fCells E).drop (i * 2 + 1 + 1) = fCells (E.drop i)
    rw [← ih]
    rfl
theorem fCells_at : ∀ (F : Files) (k : Nat) (hk : k < F.length), (fCells F)[k * 2]? = some (.string ⟨F[k].1.toArray⟩) ∧ (fCells F)[k * 2 + 1]? = some (.string ⟨F[k].2.toArray⟩)
  | [], k, hk => by simp at hk
  | r :: E, 0, _ => ⟨rfl, rfl⟩
  | r :: E, k + 1, hk => by
    have := fCells_at E k (by simpa using hk)
    rw [show (k + 1) * 2 = k * 2 + 1 + 1 by omega]
    exact this
theorem FR.cells [Away] {w : World} {v : Value} {F : Files} (h : FR w v F) : ∃ a c, v = .slice a F.length c ∧ F.length ≤ c ∧ ∀ k, (hk : k < F.length) → ∃ q, a = some ⟨q, 0, none⟩ ∧ q < w.heap.size ∧
    w.cell? ⟨q, k * 2, none⟩ = some (.string ⟨F[k].1.toArray⟩) ∧ w.cell? ⟨q, k * 2 + 1, none⟩ = some (.string ⟨F[k].2.toArray⟩) := by
  rcases h.1.2 with ⟨hv, hn⟩ | ⟨g, cap, cur, hv, _, hg, hnc, hcm, hcs, ht⟩
  · exact ⟨none, 0, by rw [hv, hn], by omega, fun k hk => by omega⟩
  · refine ⟨_, cap, hv, hnc, fun k hk => ⟨g, rfl, lt_heap hg, ?_⟩⟩
    have key : ∀ j, j < F.length * 2 → cur[j]? = (fCells F)[j]? := fun j hj => by
      rw [← ht, List.getElem?_take, if_pos hj, Array.getElem?_toList]
    rw [cell_heap hg, cell_heap hg, key _ (by omega), key _ (by omega)]
    exact fCells_at F k hk
theorem FR.mod [Away] {w w' : World} {v : Value} {F : Files} (h : FR w v F) (hm : Mod NoB w w') : FR w' v F := ⟨ownsRow_mod h.1 hm (fun _ _ => id), h.2.later hm.size⟩
theorem FR.upd [Away] {w w' : World} {v : Value} {F : Files} {G : Nat → Prop} (h : FR w v F) (hm : Mod G w w') (hG : ∀ q, v.ownBlock = some q → ¬ G q) : FR w' v F := ⟨ownsRow_mod h.1 hm hG, h.2.later hm.size⟩

theorem bless : ∀ a b : Str, Op.bytesLess a b = bytesBefore a b
  | [], [] => rfl
  | [], _ :: _ => rfl
  | _ :: _, [] => rfl
  | a :: x, b :: y => by
    simp only [Op.bytesLess, bytesBefore, bless x y]
theorem rFind_eq (s : Str) : ∀ (F : Files) (k : Nat), k ≤ F.length → (∀ j, (hj : j < F.length) → j < k → bytesBefore F[j].1 s = true) → (∀ (hk : k < F.length), bytesBefore F[k].1 s = false) → rFind F s = k
  | [], k, h, _, _ => by
    have : k = 0 := by simpa using h
    rw [this]; rfl
  | e :: E, 0, _, _, h2 => rFind_cons_ge (h2 (by simp))
  | e :: E, k + 1, h, h1, h2 => by
    have h3 := h1 0 (by simp) (by omega)
    rw [rFind_cons_lt (x := e) h3, rFind_eq s E k (by simpa using h) (fun j hj hjk => h1 (j + 1) (Nat.succ_lt_succ hj) (by omega)) (fun hk => h2 (Nat.succ_lt_succ hk))]

set_option maxRecDepth 100000 in
set_option maxHeartbeats 1600000 in
theorem rfind_calls [Away] (v : Value) (F : Files) (s : Str) (w : World) (h : FR w v F) (hn : F.length ≤ 1000) :
    Calls Tryz.prog 66 #[v, .string ⟨s.toArray⟩] w fun e w' => e = .returned (.tuple #[.int .i64 (rFind F s), .bool (rIs F s)]) ∧ Mod NoB w w' := by
  obtain ⟨a, c, rfl, hc, hcell⟩ := h.cells
  have HC := Lib.hid hcell
  clear hcell h
  go_enter Tryz.func66, Tryz.ntmps66
  go_wp2
  go_loop [6] (fun i => ∃ (k : Nat), k ≤ F.length ∧ i = .int .i64 k ∧ Hid (∀ j, (hj : j < F.length) → j < k → bytesBefore F[j].1 s = true)) (fun i => F.length - (RowKit.intOf i).toNat)
  case atStart => exact ⟨0, by omega, rfl, fun j hj hk => absurd hk (Nat.not_lt_zero _)⟩
  case round =>
    obtain ⟨k, hk, rfl, HF⟩ := hrel
    by_cases hlt : k < F.length
    · obtain ⟨q, rfl, hq, h1, h2⟩ := HC.out k hlt
      cases hs : bytesBefore F[k].1 s with
      | true =>
        have HF2 : Hid (∀ j, (hj : j < F.length) → j < k + 1 → bytesBefore F[j].1 s = true) := fun j hj hk => by
          by_cases hjk : j = k
          · subst hjk; exact hs
          · exact HF.out j hj (by omega)
        generalize F[k] = x at *
        obtain ⟨x1, x2⟩ := x
        simp only at h1 hs
        have hs2 : Op.bytesLess x1 s = true := by rw [bless]; exact hs
        clear h2 hs
        go_wp2
        go_round
        case rel => exact ⟨k + 1, by omega, by go_num, HF2⟩
        case measure => simp [RowKit.intOf]; omega
      | false =>
        have hfa := rFind_eq s F k hk HF.out (fun _ => hs)
        have his : rIs F s = (F[k].1 == s) := by
          unfold rIs
          rw [hfa, List.getElem?_eq_getElem hlt]
        have HFA := Lib.hid hfa
        have HIS := Lib.hid his
        generalize F[k] = x at *
        obtain ⟨x1, x2⟩ := x
        simp only at h1 hs
        have hs2 : Op.bytesLess x1 s = false := by rw [bless]; exact hs
        clear h2 hfa his HF hs
        go_wp2
        refine wp_region_quiet_all (fun w' => ∃ x, w' = over _ (NoB) x) (by kernel_rfl) (by kernel_rfl) (Cls.drew _ _) ?_
        repeat (go_big_quiet_step (fail))
        refine wpQuiet_nil ?_
        rintro _ ⟨y, rfl⟩
        go_wp2
        go_ret2
        exact ⟨by rw [HFA.out, HIS.out]; rfl, over_mod _ _ _⟩
    · have hke : k = F.length := by omega
      have hfa := rFind_eq s F k hk HF.out (fun h => absurd h hlt)
      have his : rIs F s = false := by
        unfold rIs
        rw [hfa, List.getElem?_eq_none (by omega)]
      have HFA := Lib.hid hfa
      have HIS := Lib.hid his
      clear hfa his HF
      go_wp2
      refine wp_region_quiet_all (fun w' => ∃ x, w' = over _ (NoB) x) (by kernel_rfl) (by kernel_rfl) (Cls.drew _ _) ?_
      repeat (go_big_quiet_step (fail))
      refine wpQuiet_nil ?_
      rintro _ ⟨y, rfl⟩
      go_wp2
      go_ret2
      exact ⟨by rw [HFA.out, HIS.out, hke]; rfl, over_mod _ _ _⟩

theorem elemF : Elem Tryz.prog 28 124 2 32 := elem_of Tryz.underlying28 (z := .agg #[.string ⟨#[]⟩, .string ⟨#[]⟩]) (by kernel_rfl) rfl (by decide)
theorem FR.off [Away] {w : World} {base : Nat} {v : Value} {F : Files} (h : w.ownsRow base 124 2 v F.length (fCells F)) (hb : ∀ q, Away.S q → q < base) (hw : base ≤ w.heap.size) : FR w v F := ⟨row_base h (Nat.zero_le _), OutS.row h hb hw⟩
theorem f_part_take [Away] {w : World} {g c : Nat} {E : Files} {i : Nat} (h : FR w (.slice (some ⟨g, 0, none⟩) E.length c) E) (hi : i ≤ E.length) (hc : E.length ≤ c) : PartAt w 2 (.slice (some ⟨g, 0, none⟩) i c) i (fCells (E.take i)) := by
  have := row_sub (o := 0) (m := i) (c := c) h.1 (by omega) (by omega) ⟨g, 0, none⟩ (fun _ => by simp)
  rw [Nat.zero_mul, List.drop_zero, fCells_take] at this
  exact this
theorem f_part_drop [Away] {w : World} {g c c2 : Nat} {E : Files} {i : Nat} (h : FR w (.slice (some ⟨g, 0, none⟩) E.length c) E) (hi : i ≤ E.length) (hc : E.length - i ≤ c2) (a : Addr) (ha : i < E.length → a = ⟨g, i * 2, none⟩) : PartAt w 2 (.slice (some a) (E.length - i) c2) (E.length - i) (fCells (E.drop i)) := by
  have := row_sub (o := i) (m := E.length - i) (c := c2) h.1 (by omega) hc a (fun h0 => ha (by omega))
  rw [fCells_drop, List.take_of_length_le (by rw [fCells_length, List.length_drop]; exact Nat.le_refl _)] at this
  exact this
theorem f_part_nil (w : World) : PartAt w 2 (.slice none 0 0) 0 (fCells []) := ⟨rfl, .inl ⟨rfl, rfl⟩⟩
/-- Three appends, one behind the other. -/
theorem put_runs [Away] {W : World} {v1 v2 : Value} {A R : Files} (hB : ∀ q, Away.S q → q < W.heap.size) (k s : Str) (h1 : ∀ X, Mod NoB W X → PartAt X 2 v1 A.length (fCells A)) (h2 : ∀ X, Mod NoB W X → PartAt X 2 v2 R.length (fCells R)) (hn : A.length + R.length ≤ 10000) (ty : TypeId) :
    ∃ b6 c6 W6 b7 c7 W7 b8 c8 W8, (Builtin.append_ #[28, 28] ty #[.slice (some ⟨W.heap.size, 0, none⟩) 0 0, v1]).run Tryz.prog (W.alloc (.cells #[] 124)) = .ok (.slice b6 A.length c6) W6 ∧
      (Builtin.append_ #[28, 28] ty #[.slice b6 A.length c6, .slice (some ⟨W6.heap.size, 0, none⟩) 1 1]).run Tryz.prog (W6.alloc (.cells #[.string ⟨k.toArray⟩, .string ⟨s.toArray⟩] 124)) = .ok (.slice b7 (A.length + 1) c7) W7 ∧
      (Builtin.append_ #[28, 28] ty #[.slice b7 (A.length + 1) c7, v2]).run Tryz.prog W7 = .ok (.slice b8 (A.length + 1 + R.length) c8) W8 ∧ FR W8 (.slice b8 (A.length + 1 + R.length) c8) (A ++ (k, s) :: R) ∧ Mod NoB W W8 := by
  have m1 : Mod NoB W (W.alloc (.cells #[] 124)) := (Mod.refl _ _).alloc _
  obtain ⟨v6, W6, r6, o6, g6, k6⟩ := own_append (base := W.heap.size) ty elemF (row_empty (heap_alloc_new _ _) (Nat.le_refl _)) (h1 _ m1) (fCells_one _) (by omega) (by decide) m1.size
  obtain ⟨b6, c6, rfl, _⟩ := row_shape o6
  simp only [Nat.zero_add, List.nil_append] at o6 r6
  have M6 : Mod NoB W W6 := m1.grown g6 (fun q hq hl => by simp only [Value.ownBlock, Option.some.injEq] at hq; omega)
  have m2 : Mod NoB W (W6.alloc (.cells #[.string ⟨k.toArray⟩, .string ⟨s.toArray⟩] 124)) := M6.alloc _
  obtain ⟨v7, W7, r7, o7, g7, k7⟩ := own_append (m := 1) (ys := [.string ⟨k.toArray⟩, .string ⟨s.toArray⟩]) ty elemF (ownsRow_mod o6 ((Mod.refl NoB W6).alloc (.cells #[.string ⟨k.toArray⟩, .string ⟨s.toArray⟩] 124)) (fun _ _ => id)) (part_block (heap_alloc_new _ _) rfl) (fun u hu => by
    simp only [List.mem_cons, List.not_mem_nil, or_false] at hu
    rcases hu with rfl | rfl <;> rfl) (by omega) (by decide) m2.size
  obtain ⟨b7, c7, rfl, _⟩ := row_shape o7
  have M7 : Mod NoB W W7 := m2.grown g7 (fun q hq hl => by have := (o6.lt q hq).1; omega)
  obtain ⟨v8, W8, r8, o8, g8, k8⟩ := own_append ty elemF o7 (h2 _ M7) (fCells_one _) (by omega) (by decide) M7.size
  obtain ⟨b8, c8, rfl, _⟩ := row_shape o8
  have M8 : Mod NoB W W8 := M7.grown g8 (fun q hq hl => by have := (o7.lt q hq).1; omega)
  refine ⟨b6, c6, W6, b7, c7, W7, b8, c8, W8, r6, r7, r8, ?_, M8⟩
  refine FR.off (base := W.heap.size) ?_ hB M8.size
  rw [show (A ++ (k, s) :: R).length = A.length + 1 + R.length by simp; omega, show fCells (A ++ (k, s) :: R) = fCells A ++ [.string ⟨k.toArray⟩, .string ⟨s.toArray⟩] ++ fCells R by simp [fCells]]
  exact o8

theorem rFind_le (F : Files) (k : Str) : rFind F k ≤ F.length := List.Sublist.length_le (List.takeWhile_sublist _)
theorem rIs_lt {F : Files} {k : Str} (h : rIs F k = true) : rFind F k < F.length := by
  apply Classical.byContradiction
  intro hn
  unfold rIs at h
  rw [List.getElem?_eq_none (by omega)] at h
  cases h
theorem fr_case [Away] {w : World} {v : Value} {F : Files} (h : FR w v F) : (v = .slice none 0 0 ∧ F = []) ∨ ∃ g c, v = .slice (some ⟨g, 0, none⟩) F.length c ∧ F.length ≤ c := by
  rcases h.1.2 with ⟨hv, hn⟩ | ⟨g, cap, cur, hv, _, hg, hnc, _⟩
  · exact .inl ⟨hv, List.eq_nil_of_length_eq_zero hn⟩
  · exact .inr ⟨g, cap, hv, hnc⟩

set_option maxRecDepth 100000 in
set_option maxHeartbeats 800000 in
theorem rput_calls [Away] (v : Value) (F : Files) (k s : Str) (w : World) (h : FR w v F) (hn : F.length ≤ 1000) :
    Calls Tryz.prog 70 #[v, .string ⟨k.toArray⟩, .string ⟨s.toArray⟩] w fun e w' => ∃ v', e = .returned v' ∧ FR w' v' (rPut F k s) ∧ Mod NoB w w' := by
  have HFI := Lib.hid (rfind_calls v F k w h hn)
  have hle := rFind_le F k
  have HH := Lib.hid h
  rcases fr_case h with ⟨rfl, rfl⟩ | ⟨g, c, rfl, hc⟩
  · clear h
    go_enter Tryz.func70, Tryz.ntmps70
    go_wp2_with fail
    refine HFI.out.mono ?_
    rintro e W ⟨rfl, hm⟩
    obtain ⟨b6, c6, W6, b7, c7, W7, b8, c8, W8, r6, r7, r8, o8, M8⟩ := put_runs (W := W) (A := []) (R := []) (HH.out.mod hm).2.old k s (fun X _ => f_part_nil X) (fun X _ => f_part_nil X) (by simp) 28
    have HO : Hid (FR W8 (.slice b8 (([] : Files).length + 1 + ([] : Files).length) c8) (rPut [] k s)) := o8
    have HM := Lib.hid (hm.trans M8 (fun _ _ h => h))
    simp only [List.length_nil, Nat.zero_add] at r6 r7 r8 HO
    have e1 : rFind [] k = 0 := rfl
    have e2 : rIs [] k = false := rfl
    rw [e1, e2]
    clear o8 M8 hm HFI HH e1 e2
    go_wp2_with (first
      | (at_builtin; refine wpList_append_run rfl (.tmp 24) (.tmp 27) _ rfl rfl rfl r6 ?_)
      | (at_builtin; refine wpList_append_run rfl (.tmp 28) (.tmp 32) _ rfl rfl rfl r7 ?_)
      | (at_builtin; refine wpList_append_run rfl (.tmp 33) (.tmp 34) _ rfl rfl rfl r8 ?_))
    go_ret
    exact ⟨_, rfl, HO.out, HM.out⟩
  · have hd : rPut F k s = F.take (rFind F k) ++ (k, s) :: F.drop (if rIs F k then rFind F k + 1 else rFind F k) := rfl
    have hlt : rIs F k = true → rFind F k < F.length := rIs_lt
    rw [hd]
    clear hd h
    generalize rFind F k = i at *
    cases hi : rIs F k with
    | true =>
      rw [hi] at HFI
      have hil := hlt hi
      clear hlt hi
      rw [if_pos rfl]
      have hl1 : (F.take i).length = i := by rw [List.length_take]; omega
      have hl2 : (F.drop (i + 1)).length = F.length - (i + 1) := List.length_drop
      go_enter Tryz.func70, Tryz.ntmps70
      go_wp2_with fail
      refine HFI.out.mono ?_
      rintro e W ⟨rfl, hm⟩
      have hfr := HH.out.mod hm
      obtain ⟨b6, c6, W6, b7, c7, W7, b8, c8, W8, r6, r7, r8, o8, M8⟩ := put_runs (W := W) (A := F.take i) (R := F.drop (i + 1)) (v1 := .slice (some ⟨g, 0, none⟩) i c) (v2 := .slice (if c = i + 1 then some ⟨g, 0, none⟩ else some ⟨g, (i + 1) * 2, none⟩) (F.length - (i + 1)) (c - (i + 1))) hfr.2.old k s
        (fun X hX => by rw [hl1]; exact f_part_take (hfr.mod hX) hle hc) (fun X hX => by
          rw [hl2]
          by_cases hci : c = i + 1
          · rw [if_pos hci]
            exact f_part_drop (hfr.mod hX) hil (by omega) _ (fun h => by omega)
          · rw [if_neg hci]
            exact f_part_drop (hfr.mod hX) hil (by omega) _ (fun _ => rfl)) (by rw [hl1, hl2]; omega) 28
      rw [hl1, hl2] at r8 o8
      rw [hl1] at r6 r7
      have HO := Lib.hid o8
      have HM := Lib.hid (hm.trans M8 (fun _ _ h => h))
      have hic : i ≤ c := by omega
      have hic1 : i + 1 ≤ c := by omega
      have hi7 : (i : Int) + 1 ≤ (F.length : Int) := by omega
      have hi6 : (0 : Int) ≤ (i : Int) + 1 := by omega
      clear o8 M8 hm HFI HH hl1 hl2 hfr
      go_wp2_with (first
        | (at_builtin; refine wpList_append_run rfl (.tmp 24) (.tmp 27) _ rfl rfl rfl r6 ?_)
        | (at_builtin; refine wpList_append_run rfl (.tmp 28) (.tmp 32) _ rfl rfl rfl r7 ?_)
        | (at_builtin; refine wpList_append_run rfl (.tmp 33) (.tmp 34) _ rfl rfl rfl r8 ?_))
      all_goals go_ret
      all_goals exact ⟨_, rfl, HO.out, HM.out⟩
    | false =>
      rw [hi] at HFI
      clear hlt hi
      rw [if_neg (by decide)]
      have hl1 : (F.take i).length = i := by rw [List.length_take]; omega
      have hl2 : (F.drop i).length = F.length - i := List.length_drop
      go_enter Tryz.func70, Tryz.ntmps70
      go_wp2_with fail
      refine HFI.out.mono ?_
      rintro e W ⟨rfl, hm⟩
      have hfr := HH.out.mod hm
      obtain ⟨b6, c6, W6, b7, c7, W7, b8, c8, W8, r6, r7, r8, o8, M8⟩ := put_runs (W := W) (A := F.take i) (R := F.drop i) (v1 := .slice (some ⟨g, 0, none⟩) i c) (v2 := .slice (if c = i then some ⟨g, 0, none⟩ else some ⟨g, i * 2, none⟩) (F.length - i) (c - i)) hfr.2.old k s
        (fun X hX => by rw [hl1]; exact f_part_take (hfr.mod hX) hle hc) (fun X hX => by
          rw [hl2]
          by_cases hci : c = i
          · rw [if_pos hci]
            exact f_part_drop (hfr.mod hX) hle (by omega) _ (fun h => by omega)
          · rw [if_neg hci]
            exact f_part_drop (hfr.mod hX) hle (by omega) _ (fun _ => rfl)) (by rw [hl1, hl2]; omega) 28
      rw [hl1, hl2] at r8 o8
      rw [hl1] at r6 r7
      have HO := Lib.hid o8
      have HM := Lib.hid (hm.trans M8 (fun _ _ h => h))
      have hic : i ≤ c := by omega
      have hi7 : (i : Int) ≤ (F.length : Int) := by omega
      clear o8 M8 hm HFI HH hl1 hl2 hfr
      go_wp2_with (first
        | (at_builtin; refine wpList_append_run rfl (.tmp 24) (.tmp 27) _ rfl rfl rfl r6 ?_)
        | (at_builtin; refine wpList_append_run rfl (.tmp 28) (.tmp 32) _ rfl rfl rfl r7 ?_)
        | (at_builtin; refine wpList_append_run rfl (.tmp 33) (.tmp 34) _ rfl rfl rfl r8 ?_))
      all_goals go_ret
      all_goals exact ⟨_, rfl, HO.out, HM.out⟩

set_option maxRecDepth 100000 in
set_option maxHeartbeats 1600000 in
theorem rdrop_calls [Away] (v : Value) (F : Files) (k : Str) (w : World) (h : FR w v F) (hn : F.length ≤ 1000) :
    Calls Tryz.prog 68 #[v, .string ⟨k.toArray⟩] w fun e w' => ∃ v', e = .returned v' ∧ FR w' v' (rDrop F k) ∧ Mod NoB w w' := by
  have HFI := Lib.hid (rfind_calls v F k w h hn)
  have hle := rFind_le F k
  have HH := Lib.hid h
  have hlt : rIs F k = true → rFind F k < F.length := rIs_lt
  unfold rDrop
  generalize rFind F k = i at *
  cases hi : rIs F k with
  | false =>
    rw [hi] at HFI
    obtain ⟨a, c, rfl, _, _⟩ := h.cells
    rw [if_neg (by decide)]
    clear hlt hi h
    go_enter Tryz.func68, Tryz.ntmps68
    go_wp2_with fail
    refine HFI.out.mono ?_
    rintro e W ⟨rfl, hm⟩
    have HM := Lib.hid hm
    clear hm
    go_wp2_with fail
    go_ret
    exact ⟨_, rfl, HH.out.mod HM.out, HM.out⟩
  | true =>
    rw [hi] at HFI
    have hil := hlt hi
    rcases fr_case h with ⟨_, rfl⟩ | ⟨g, c, rfl, hc⟩
    · simp at hil
    rw [if_pos rfl]
    clear hlt hi h
    have hic : i ≤ c := by omega
    have hic1 : i + 1 ≤ c := by omega
    have hil1 : i + 1 ≤ F.length := by omega
    have hi5 : (i : Int) ≤ (F.length : Int) := by omega
    have hi4 : (0 : Int) ≤ (i : Int) := by omega
    have hi7 : (i : Int) + 1 ≤ (F.length : Int) := by omega
    have hi6 : (0 : Int) ≤ (i : Int) + 1 := by omega
    have hi9 : IntKind.i64.wrap ((i : Int) + 1) = (i : Int) + 1 := by rw [IntKind.wrap_i64]; omega
    have hi8 : ((i : Int) + 1).toNat = i + 1 := by omega
    go_enter Tryz.func68, Tryz.ntmps68
    go_wp2_with fail
    refine HFI.out.mono ?_
    rintro e W1 ⟨rfl, hm⟩
    have HM := Lib.hid hm
    clear hm HFI
    have HPT : Hid (∀ X, Mod NoB W1 X → PartAt X 2 (.slice (some ⟨g, 0, none⟩) i c) i (fCells (F.take i))) := fun X hX => f_part_take (HH.out.mod (HM.out.trans hX (fun _ _ h => h))) hle hc
    have HPD : Hid (∀ X, Mod NoB W1 X → PartAt X 2 (.slice (if c = i + 1 then some ⟨g, 0, none⟩ else some ⟨g, (i + 1) * 2, none⟩) (F.length - (i + 1)) (c - (i + 1))) (F.length - (i + 1)) (fCells (F.drop (i + 1)))) := fun X hX => by
      by_cases hci : c = i + 1
      · rw [if_pos hci]
        exact f_part_drop (HH.out.mod (HM.out.trans hX (fun _ _ h => h))) hil (by omega) _ (fun h => by omega)
      · rw [if_neg hci]
        exact f_part_drop (HH.out.mod (HM.out.trans hX (fun _ _ h => h))) hil (by omega) _ (fun _ => rfl)
    go_upto_region 4 with fail
    go_region_law (first
      | (refine step_own rfl (.tmp 16) (.tmp 19) 28 rfl (v := .slice (some ⟨_, 0, none⟩) 0 0) (v2 := .slice (some ⟨g, 0, none⟩) i c) rfl rfl (base := W1.heap.size) (n := 0) (m := i) (xs := []) (ys := fCells (F.take i)) i (fCells (F.take i)) elemF (by decide) ?_ ?_ ?_ ?_ ?_ rfl ?_ ?_
         · exact row_empty (by first | exact heap_alloc_at' _ _ _ rfl | exact heap_alloc_at' _ _ _ (by simp) | exact heap_alloc_old' _ _ _ (by (first | omega | (simp only [size_alloc]; omega) | (simp only [size_alloc, heap_drew]; omega))) (heap_alloc_at' _ _ _ (by first | rfl | simp))) (by (first | omega | (simp only [size_alloc]; omega) | (simp only [size_alloc, heap_drew]; omega)))
         · exact HPT.out _ (by (repeat (first | with_reducible exact Mod.refl _ _ | with_reducible refine Mod.drew ?_ | with_reducible refine Mod.alloc ?_ _)))
         · exact fCells_one _
         · omega
         · omega
         · (first | omega | (simp only [size_alloc]; omega) | (simp only [size_alloc, heap_drew]; omega))
         intro b6 c6 W6 hr6 hg6 hk6
         have hW6 : Mod NoB W1 W6 := Mod.grown (by (repeat (first | with_reducible exact Mod.refl _ _ | with_reducible refine Mod.drew ?_ | with_reducible refine Mod.alloc ?_ _))) hg6 (fun q hq hl => by simp only [Value.ownBlock, Option.some.injEq] at hq; (try simp only [size_alloc] at hq); omega))
      | (refine step_own rfl (.tmp 20) (.tmp 24) 28 rfl (v := .slice b6 i c6) (v2 := .slice (if c = i + 1 then some ⟨g, 0, none⟩ else some ⟨g, (i + 1) * 2, none⟩) (F.length - (i + 1)) (c - (i + 1))) rfl rfl (base := W1.heap.size) (n := i) (m := F.length - (i + 1)) (xs := fCells (F.take i)) (ys := fCells (F.drop (i + 1))) (F.length - 1) (fCells (F.take i ++ F.drop (i + 1))) elemF (by decide) ?_ ?_ ?_ ?_ ?_ ?_ ?_ ?_
         · exact ownsRow_mod hr6 (by (repeat (first | with_reducible exact Mod.refl _ _ | with_reducible refine Mod.drew ?_ | with_reducible refine Mod.alloc ?_ _))) (fun _ _ => id)
         · exact HPD.out _ (hW6.trans (by (repeat (first | with_reducible exact Mod.refl _ _ | with_reducible refine Mod.drew ?_ | with_reducible refine Mod.alloc ?_ _))) (fun _ _ h => h))
         · exact fCells_one _
         · omega
         · omega
         · rw [fCells_append]
         · have := hW6.size; (first | omega | (simp only [size_alloc]; omega) | (simp only [size_alloc, heap_drew]; omega))
         intro b7 c7 W7 hr7 hg7 hk7
         have hW7 : Mod NoB W1 W7 := hW6.trans (Mod.grown (F := fun q => W1.heap.size ≤ q) (by (repeat (first | with_reducible exact Mod.refl _ _ | with_reducible refine Mod.drew ?_ | with_reducible refine Mod.alloc ?_ _))) hg7 (fun q hq hl => (hr6.lt q hq).1)) (fun q hq h => by omega)))
    all_goals go_wp2_with fail
    all_goals go_ret
    all_goals
      refine ⟨_, rfl, FR.off (base := W1.heap.size) ?_ (HH.out.mod HM.out).2.old hW7.size, HM.out.trans hW7 (fun _ _ h => h)⟩
      rw [show (F.take i ++ F.drop (i + 1)).length = F.length - 1 by rw [List.length_append, List.length_take, List.length_drop]; omega]
      exact hr7

end Go.Proofs.YtgofngilfdnakaaGreat
