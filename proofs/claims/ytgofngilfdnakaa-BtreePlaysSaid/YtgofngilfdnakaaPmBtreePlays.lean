/-
  This text proves that the law BtreePlays answers true for every input, and that its arguments read afterwards as they read before: no condition.
-/
import Derived.Test.YtgofngilfdnakaaApp
import Derived.Test.YtgofngilfdnakaaRefP
import Derived.Deep.Cut
import Derived.Deep.CutRange
import Derived.Deep.CutBlock
import Derived.Deep.RegionWith
import Derived.Test.YtgofngilfdnakaaPmD
import Derived.Test.YtgofngilfdnakaaRange
import Derived.Test.YtgofngilfdnakaaRows

namespace Go.Proofs.Ytgofngilfdnakaa
open Go Go.RowKit
attribute [local go_sem] over_cell over_frozen lt_over le_over noB loudUpon ByteArray.mk_append_mk ByteArray.extract_mk

def fCells (F : Files) : List Value := F.flatMap fun p => [.string ⟨p.1.toArray⟩, .string ⟨p.2.toArray⟩]
class Away where
  S : Nat → Prop
structure OutS [Away] (w : World) (v : Value) : Prop where
  off : ∀ q, v.ownBlock = some q → ¬ Away.S q
  old : ∀ q, Away.S q → q < w.heap.size
theorem OutS.later [Away] {w w' : World} {v : Value} (h : OutS w v) (hs : w.heap.size ≤ w'.heap.size) : OutS w' v := ⟨h.off, fun q hq => Nat.lt_of_lt_of_le (h.old q hq) hs⟩
theorem OutS.row [Away] {w : World} {base n size : Nat} {E : TypeId} {v : Value} {xs : List Value} (h : w.ownsRow base E size v n xs) (hb : ∀ q, Away.S q → q < base) (hw : base ≤ w.heap.size) : OutS w v :=
  ⟨fun q hq hs => by have h1 := (h.lt q hq).1; have h2 := hb q hs; omega, fun q hq => Nat.lt_of_lt_of_le (hb q hq) hw⟩
def FR [Away] (w : World) (v : Value) (F : Files) : Prop := w.ownsRow 0 207 2 v F.length (fCells F) ∧ OutS w v
theorem fCells_length : ∀ F : Files, (fCells F).length = F.length * 2
  | [] => rfl
  | e :: E => by
    have := fCells_length E
    unfold fCells at *
    rw [List.flatMap_cons, List.length_append, this, List.length_cons]
    simp only [List.length_cons, List.length_nil]
    omega
theorem fCells_append (E E' : Files) : fCells (E ++ E') = fCells E ++ fCells E' := by simp [fCells]
theorem fCells_one (F : Files) : ∀ u ∈ fCells F, u.oneCell' = true := fun u hu => by
  unfold fCells at hu
  obtain ⟨e, he, hu⟩ := List.mem_flatMap.1 hu
  rcases List.mem_cons.1 hu with rfl | hu
  · rfl
  · rw [List.mem_singleton.1 hu]; rfl
theorem fCells_take : ∀ (E : Files) (i : Nat), (fCells E).take (i * 2) = fCells (E.take i)
  | _, 0 => by simp [fCells]
  | [], i + 1 => by simp [fCells]
  | e :: E, i + 1 => by
    have ih := fCells_take E i
    rw [List.take_succ_cons, show (i + 1) * 2 = i * 2 + 1 + 1 by omega]
    show ([Value.string ⟨e.1.toArray⟩, .string ⟨e.2.toArray⟩] ++ fCells E).take (i * 2 + 1 + 1) = [Value.string ⟨e.1.toArray⟩, .string ⟨e.2.toArray⟩] ++ fCells (E.take i)
    rw [← ih]
    rfl
theorem fCells_drop : ∀ (E : Files) (i : Nat), (fCells E).drop (i * 2) = fCells (E.drop i)
  | _, 0 => by simp
  | [], i + 1 => by simp [fCells]
  | e :: E, i + 1 => by
    have ih := fCells_drop E i
    rw [List.drop_succ_cons, show (i + 1) * 2 = i * 2 + 1 + 1 by omega]
    show ([Value.string ⟨e.1.toArray⟩, .string ⟨e.2.toArray⟩] ++ fCells E).drop (i * 2 + 1 + 1) = fCells (E.drop i)
    rw [← ih]
    rfl
theorem fCells_at : ∀ (F : Files) (k : Nat) (hk : k < F.length), (fCells F)[k * 2]? = some (.string ⟨F[k].1.toArray⟩) ∧ (fCells F)[k * 2 + 1]? = some (.string ⟨F[k].2.toArray⟩)
  | [], k, hk => by simp at hk
  | r :: E, 0, _ => ⟨rfl, rfl⟩
  | r :: E, k + 1, hk => by
    have := fCells_at E k (by simpa using hk)
    rw [show (k + 1) * 2 = k * 2 + 1 + 1 by omega]
    exact this
theorem FR.cells [Away] {w : World} {v : Value} {F : Files} (h : FR w v F) : ∃ a c, v = .slice a F.length c ∧ F.length ≤ c ∧ ∀ k, (hk : k < F.length) → ∃ q, a = some ⟨q, 0, none⟩ ∧ q < w.heap.size ∧
    w.cell? ⟨q, k * 2, none⟩ = some (.string ⟨F[k].1.toArray⟩) ∧ w.cell? ⟨q, k * 2 + 1, none⟩ = some (.string ⟨F[k].2.toArray⟩) := by
  rcases h.1.2 with ⟨hv, hn⟩ | ⟨g, cap, cur, hv, _, hg, hnc, hcm, hcs, ht⟩
  · exact ⟨none, 0, by rw [hv, hn], by omega, fun k hk => by omega⟩
  · refine ⟨_, cap, hv, hnc, fun k hk => ⟨g, rfl, lt_heap hg, ?_⟩⟩
    have key : ∀ j, j < F.length * 2 → cur[j]? = (fCells F)[j]? := fun j hj => by
      rw [← ht, List.getElem?_take, if_pos hj, Array.getElem?_toList]
    rw [cell_heap hg, cell_heap hg, key _ (by omega), key _ (by omega)]
    exact fCells_at F k hk
theorem FR.mod [Away] {w w' : World} {v : Value} {F : Files} (h : FR w v F) (hm : Mod NoB w w') : FR w' v F := ⟨ownsRow_mod h.1 hm (fun _ _ => id), h.2.later hm.size⟩
theorem FR.upd [Away] {w w' : World} {v : Value} {F : Files} {G : Nat → Prop} (h : FR w v F) (hm : Mod G w w') (hG : ∀ q, v.ownBlock = some q → ¬ G q) : FR w' v F := ⟨ownsRow_mod h.1 hm hG, h.2.later hm.size⟩

theorem bless : ∀ a b : Str, Op.bytesLess a b = bytesBefore a b
  | [], [] => rfl
  | [], _ :: _ => rfl
  | _ :: _, [] => rfl
  | a :: x, b :: y => by
    simp only [Op.bytesLess, bytesBefore, bless x y]
theorem rFind_eq (s : Str) : ∀ (F : Files) (k : Nat), k ≤ F.length → (∀ j, (hj : j < F.length) → j < k → bytesBefore F[j].1 s = true) → (∀ (hk : k < F.length), bytesBefore F[k].1 s = false) → rFind F s = k
  | [], k, h, _, _ => by
    have : k = 0 := by simpa using h
    rw [this]; rfl
  | e :: E, 0, _, _, h2 => rFind_cons_ge (h2 (by simp))
  | e :: E, k + 1, h, h1, h2 => by
    have h3 := h1 0 (by simp) (by omega)
    rw [rFind_cons_lt (x := e) h3, rFind_eq s E k (by simpa using h) (fun j hj hjk => h1 (j + 1) (Nat.succ_lt_succ hj) (by omega)) (fun hk => h2 (Nat.succ_lt_succ hk))]

set_option maxRecDepth 100000 in
set_option maxHeartbeats 1600000 in
theorem rfind_calls [Away] (v : Value) (F : Files) (s : Str) (w : World) (h : FR w v F) (hn : F.length ≤ 1000) :
    Calls Try.prog 122 #[v, .string ⟨s.toArray⟩] w fun e w' => e = .returned (.tuple #[.int .i64 (rFind F s), .bool (rIs F s)]) ∧ Mod NoB w w' := by
  obtain ⟨a, c, rfl, hc, hcell⟩ := h.cells
  have HC := Lib.hid hcell
  clear hcell h
  go_enter Try.func122, Try.ntmps122
  go_wp2
  go_loop [6] (fun i => ∃ (k : Nat), k ≤ F.length ∧ i = .int .i64 k ∧ Hid (∀ j, (hj : j < F.length) → j < k → bytesBefore F[j].1 s = true)) (fun i => F.length - (RowKit.intOf i).toNat)
  case atStart => exact ⟨0, by omega, rfl, fun j hj hk => absurd hk (Nat.not_lt_zero _)⟩
  case round =>
    obtain ⟨k, hk, rfl, HF⟩ := hrel
    by_cases hlt : k < F.length
    · obtain ⟨q, rfl, hq, h1, h2⟩ := HC.out k hlt
      cases hs : bytesBefore F[k].1 s with
      | true =>
        have HF2 : Hid (∀ j, (hj : j < F.length) → j < k + 1 → bytesBefore F[j].1 s = true) := fun j hj hk => by
          by_cases hjk : j = k
          · subst hjk; exact hs
          · exact HF.out j hj (by omega)
        generalize F[k] = x at *
        obtain ⟨x1, x2⟩ := x
        simp only at h1 hs
        have hs2 : Op.bytesLess x1 s = true := by rw [bless]; exact hs
        clear h2 hs
        go_wp2
        go_round
        case rel => exact ⟨k + 1, by omega, by go_num, HF2⟩
        case measure => simp [RowKit.intOf]; omega
      | false =>
        have hfa := rFind_eq s F k hk HF.out (fun _ => hs)
        have his : rIs F s = (F[k].1 == s) := by
          unfold rIs
          rw [hfa, List.getElem?_eq_getElem hlt]
        have HFA := Lib.hid hfa
        have HIS := Lib.hid his
        generalize F[k] = x at *
        obtain ⟨x1, x2⟩ := x
        simp only at h1 hs
        have hs2 : Op.bytesLess x1 s = false := by rw [bless]; exact hs
        clear h2 hfa his HF hs
        go_wp2
        refine wp_region_quiet_all (fun w' => ∃ x, w' = over _ (NoB) x) (by kernel_rfl) (by kernel_rfl) (Cls.drew _ _) ?_
        repeat (go_big_quiet_step (fail))
        refine wpQuiet_nil ?_
        rintro _ ⟨y, rfl⟩
        go_wp2
        go_ret2
        exact ⟨by rw [HFA.out, HIS.out]; rfl, over_mod _ _ _⟩
    · have hke : k = F.length := by omega
      have hfa := rFind_eq s F k hk HF.out (fun h => absurd h hlt)
      have his : rIs F s = false := by
        unfold rIs
        rw [hfa, List.getElem?_eq_none (by omega)]
      have HFA := Lib.hid hfa
      have HIS := Lib.hid his
      clear hfa his HF
      go_wp2
      refine wp_region_quiet_all (fun w' => ∃ x, w' = over _ (NoB) x) (by kernel_rfl) (by kernel_rfl) (Cls.drew _ _) ?_
      repeat (go_big_quiet_step (fail))
      refine wpQuiet_nil ?_
      rintro _ ⟨y, rfl⟩
      go_wp2
      go_ret2
      exact ⟨by rw [HFA.out, HIS.out, hke]; rfl, over_mod _ _ _⟩

theorem elemF : Elem Try.prog 125 207 2 32 := elem_of Try.underlying125 (z := .agg #[.string ⟨#[]⟩, .string ⟨#[]⟩]) (by kernel_rfl) rfl (by decide)
theorem FR.off [Away] {w : World} {base : Nat} {v : Value} {F : Files} (h : w.ownsRow base 207 2 v F.length (fCells F)) (hb : ∀ q, Away.S q → q < base) (hw : base ≤ w.heap.size) : FR w v F := ⟨row_base h (Nat.zero_le _), OutS.row h hb hw⟩
theorem f_part_take [Away] {w : World} {g c : Nat} {E : Files} {i : Nat} (h : FR w (.slice (some ⟨g, 0, none⟩) E.length c) E) (hi : i ≤ E.length) (hc : E.length ≤ c) : PartAt w 2 (.slice (some ⟨g, 0, none⟩) i c) i (fCells (E.take i)) := by
  have := row_sub (o := 0) (m := i) (c := c) h.1 (by omega) (by omega) ⟨g, 0, none⟩ (fun _ => by simp)
  rw [Nat.zero_mul, List.drop_zero, fCells_take] at this
  exact this
theorem f_part_drop [Away] {w : World} {g c c2 : Nat} {E : Files} {i : Nat} (h : FR w (.slice (some ⟨g, 0, none⟩) E.length c) E) (hi : i ≤ E.length) (hc : E.length - i ≤ c2) (a : Addr) (ha : i < E.length → a = ⟨g, i * 2, none⟩) : PartAt w 2 (.slice (some a) (E.length - i) c2) (E.length - i) (fCells (E.drop i)) := by
  have := row_sub (o := i) (m := E.length - i) (c := c2) h.1 (by omega) hc a (fun h0 => ha (by omega))
  rw [fCells_drop, List.take_of_length_le (by rw [fCells_length, List.length_drop]; exact Nat.le_refl _)] at this
  exact this
theorem f_part_nil (w : World) : PartAt w 2 (.slice none 0 0) 0 (fCells []) := ⟨rfl, .inl ⟨rfl, rfl⟩⟩
theorem put_runs [Away] {W : World} {v1 v2 : Value} {A R : Files} (hB : ∀ q, Away.S q → q < W.heap.size) (k s : Str) (h1 : ∀ X, Mod NoB W X → PartAt X 2 v1 A.length (fCells A)) (h2 : ∀ X, Mod NoB W X → PartAt X 2 v2 R.length (fCells R)) (hn : A.length + R.length ≤ 10000) (ty : TypeId) :
    ∃ b6 c6 W6 b7 c7 W7 b8 c8 W8, (Builtin.append_ #[125, 125] ty #[.slice (some ⟨W.heap.size, 0, none⟩) 0 0, v1]).run Try.prog (W.alloc (.cells #[] 207)) = .ok (.slice b6 A.length c6) W6 ∧
      (Builtin.append_ #[125, 125] ty #[.slice b6 A.length c6, .slice (some ⟨W6.heap.size, 0, none⟩) 1 1]).run Try.prog (W6.alloc (.cells #[.string ⟨k.toArray⟩, .string ⟨s.toArray⟩] 207)) = .ok (.slice b7 (A.length + 1) c7) W7 ∧
      (Builtin.append_ #[125, 125] ty #[.slice b7 (A.length + 1) c7, v2]).run Try.prog W7 = .ok (.slice b8 (A.length + 1 + R.length) c8) W8 ∧ FR W8 (.slice b8 (A.length + 1 + R.length) c8) (A ++ (k, s) :: R) ∧ Mod NoB W W8 := by
  have m1 : Mod NoB W (W.alloc (.cells #[] 207)) := (Mod.refl _ _).alloc _
  obtain ⟨v6, W6, r6, o6, g6, k6⟩ := own_append (base := W.heap.size) ty elemF (row_empty (heap_alloc_new _ _) (Nat.le_refl _)) (h1 _ m1) (fCells_one _) (by omega) (by decide) m1.size
  obtain ⟨b6, c6, rfl, _⟩ := row_shape o6
  simp only [Nat.zero_add, List.nil_append] at o6 r6
  have M6 : Mod NoB W W6 := m1.grown g6 (fun q hq hl => by simp only [Value.ownBlock, Option.some.injEq] at hq; omega)
  have m2 : Mod NoB W (W6.alloc (.cells #[.string ⟨k.toArray⟩, .string ⟨s.toArray⟩] 207)) := M6.alloc _
  obtain ⟨v7, W7, r7, o7, g7, k7⟩ := own_append (m := 1) (ys := [.string ⟨k.toArray⟩, .string ⟨s.toArray⟩]) ty elemF (ownsRow_mod o6 ((Mod.refl NoB W6).alloc (.cells #[.string ⟨k.toArray⟩, .string ⟨s.toArray⟩] 207)) (fun _ _ => id)) (part_block (heap_alloc_new _ _) rfl) (fun u hu => by
    simp only [List.mem_cons, List.not_mem_nil, or_false] at hu
    rcases hu with rfl | rfl <;> rfl) (by omega) (by decide) m2.size
  obtain ⟨b7, c7, rfl, _⟩ := row_shape o7
  have M7 : Mod NoB W W7 := m2.grown g7 (fun q hq hl => by have := (o6.lt q hq).1; omega)
  obtain ⟨v8, W8, r8, o8, g8, k8⟩ := own_append ty elemF o7 (h2 _ M7) (fCells_one _) (by omega) (by decide) M7.size
  obtain ⟨b8, c8, rfl, _⟩ := row_shape o8
  have M8 : Mod NoB W W8 := M7.grown g8 (fun q hq hl => by have := (o7.lt q hq).1; omega)
  refine ⟨b6, c6, W6, b7, c7, W7, b8, c8, W8, r6, r7, r8, ?_, M8⟩
  refine FR.off (base := W.heap.size) ?_ hB M8.size
  rw [show (A ++ (k, s) :: R).length = A.length + 1 + R.length by simp; omega, show fCells (A ++ (k, s) :: R) = fCells A ++ [.string ⟨k.toArray⟩, .string ⟨s.toArray⟩] ++ fCells R by simp [fCells]]
  exact o8

theorem rFind_le (F : Files) (k : Str) : rFind F k ≤ F.length := List.Sublist.length_le (List.takeWhile_sublist _)
theorem rIs_lt {F : Files} {k : Str} (h : rIs F k = true) : rFind F k < F.length := by
  apply Classical.byContradiction
  intro hn
  unfold rIs at h
  rw [List.getElem?_eq_none (by omega)] at h
  cases h
theorem fr_case [Away] {w : World} {v : Value} {F : Files} (h : FR w v F) : (v = .slice none 0 0 ∧ F = []) ∨ ∃ g c, v = .slice (some ⟨g, 0, none⟩) F.length c ∧ F.length ≤ c := by
  rcases h.1.2 with ⟨hv, hn⟩ | ⟨g, cap, cur, hv, _, hg, hnc, _⟩
  · exact .inl ⟨hv, List.eq_nil_of_length_eq_zero hn⟩
  · exact .inr ⟨g, cap, hv, hnc⟩

set_option maxRecDepth 100000 in
set_option maxHeartbeats 800000 in
theorem rput_calls [Away] (v : Value) (F : Files) (k s : Str) (w : World) (h : FR w v F) (hn : F.length ≤ 1000) :
    Calls Try.prog 80 #[v, .string ⟨k.toArray⟩, .string ⟨s.toArray⟩] w fun e w' => ∃ v', e = .returned v' ∧ FR w' v' (rPut F k s) ∧ Mod NoB w w' := by
  have HFI := Lib.hid (rfind_calls v F k w h hn)
  have hle := rFind_le F k
  have HH := Lib.hid h
  rcases fr_case h with ⟨rfl, rfl⟩ | ⟨g, c, rfl, hc⟩
  · clear h
    go_enter Try.func80, Try.ntmps80
    go_wp2_with fail
    refine HFI.out.mono ?_
    rintro e W ⟨rfl, hm⟩
    obtain ⟨b6, c6, W6, b7, c7, W7, b8, c8, W8, r6, r7, r8, o8, M8⟩ := put_runs (W := W) (A := []) (R := []) (HH.out.mod hm).2.old k s (fun X _ => f_part_nil X) (fun X _ => f_part_nil X) (by simp) 125
    have HO : Hid (FR W8 (.slice b8 (([] : Files).length + 1 + ([] : Files).length) c8) (rPut [] k s)) := o8
    have HM := Lib.hid (hm.trans M8 (fun _ _ h => h))
    simp only [List.length_nil, Nat.zero_add] at r6 r7 r8 HO
    have e1 : rFind [] k = 0 := rfl
    have e2 : rIs [] k = false := rfl
    rw [e1, e2]
    clear o8 M8 hm HFI HH e1 e2
    go_wp2_with (first
      | (at_builtin; refine wpList_append_run rfl (.tmp 24) (.tmp 27) _ rfl rfl rfl r6 ?_)
      | (at_builtin; refine wpList_append_run rfl (.tmp 28) (.tmp 32) _ rfl rfl rfl r7 ?_)
      | (at_builtin; refine wpList_append_run rfl (.tmp 33) (.tmp 34) _ rfl rfl rfl r8 ?_))
    go_ret
    exact ⟨_, rfl, HO.out, HM.out⟩
  · have hd : rPut F k s = F.take (rFind F k) ++ (k, s) :: F.drop (if rIs F k then rFind F k + 1 else rFind F k) := rfl
    have hlt : rIs F k = true → rFind F k < F.length := rIs_lt
    rw [hd]
    clear hd h
    generalize rFind F k = i at *
    cases hi : rIs F k with
    | true =>
      rw [hi] at HFI
      have hil := hlt hi
      clear hlt hi
      rw [if_pos rfl]
      have hl1 : (F.take i).length = i := by rw [List.length_take]; omega
      have hl2 : (F.drop (i + 1)).length = F.length - (i + 1) := List.length_drop
      go_enter Try.func80, Try.ntmps80
      go_wp2_with fail
      refine HFI.out.mono ?_
      rintro e W ⟨rfl, hm⟩
      have hfr := HH.out.mod hm
      obtain ⟨b6, c6, W6, b7, c7, W7, b8, c8, W8, r6, r7, r8, o8, M8⟩ := put_runs (W := W) (A := F.take i) (R := F.drop (i + 1)) (v1 := .slice (some ⟨g, 0, none⟩) i c) (v2 := .slice (if c = i + 1 then some ⟨g, 0, none⟩ else some ⟨g, (i + 1) * 2, none⟩) (F.length - (i + 1)) (c - (i + 1))) hfr.2.old k s
        (fun X hX => by rw [hl1]; exact f_part_take (hfr.mod hX) hle hc) (fun X hX => by
          rw [hl2]
          by_cases hci : c = i + 1
          · rw [if_pos hci]
            exact f_part_drop (hfr.mod hX) hil (by omega) _ (fun h => by omega)
          · rw [if_neg hci]
            exact f_part_drop (hfr.mod hX) hil (by omega) _ (fun _ => rfl)) (by rw [hl1, hl2]; omega) 125
      rw [hl1, hl2] at r8 o8
      rw [hl1] at r6 r7
      have HO := Lib.hid o8
      have HM := Lib.hid (hm.trans M8 (fun _ _ h => h))
      have hic : i ≤ c := by omega
      have hic1 : i + 1 ≤ c := by omega
      have hi7 : (i : Int) + 1 ≤ (F.length : Int) := by omega
      have hi6 : (0 : Int) ≤ (i : Int) + 1 := by omega
      clear o8 M8 hm HFI HH hl1 hl2 hfr
      go_wp2_with (first
        | (at_builtin; refine wpList_append_run rfl (.tmp 24) (.tmp 27) _ rfl rfl rfl r6 ?_)
        | (at_builtin; refine wpList_append_run rfl (.tmp 28) (.tmp 32) _ rfl rfl rfl r7 ?_)
        | (at_builtin; refine wpList_append_run rfl (.tmp 33) (.tmp 34) _ rfl rfl rfl r8 ?_))
      all_goals go_ret
      all_goals exact ⟨_, rfl, HO.out, HM.out⟩
    | false =>
      rw [hi] at HFI
      clear hlt hi
      rw [if_neg (by decide)]
      have hl1 : (F.take i).length = i := by rw [List.length_take]; omega
      have hl2 : (F.drop i).length = F.length - i := List.length_drop
      go_enter Try.func80, Try.ntmps80
      go_wp2_with fail
      refine HFI.out.mono ?_
      rintro e W ⟨rfl, hm⟩
      have hfr := HH.out.mod hm
      obtain ⟨b6, c6, W6, b7, c7, W7, b8, c8, W8, r6, r7, r8, o8, M8⟩ := put_runs (W := W) (A := F.take i) (R := F.drop i) (v1 := .slice (some ⟨g, 0, none⟩) i c) (v2 := .slice (if c = i then some ⟨g, 0, none⟩ else some ⟨g, i * 2, none⟩) (F.length - i) (c - i)) hfr.2.old k s
        (fun X hX => by rw [hl1]; exact f_part_take (hfr.mod hX) hle hc) (fun X hX => by
          rw [hl2]
          by_cases hci : c = i
          · rw [if_pos hci]
            exact f_part_drop (hfr.mod hX) hle (by omega) _ (fun h => by omega)
          · rw [if_neg hci]
            exact f_part_drop (hfr.mod hX) hle (by omega) _ (fun _ => rfl)) (by rw [hl1, hl2]; omega) 125
      rw [hl1, hl2] at r8 o8
      rw [hl1] at r6 r7
      have HO := Lib.hid o8
      have HM := Lib.hid (hm.trans M8 (fun _ _ h => h))
      have hic : i ≤ c := by omega
      have hi7 : (i : Int) ≤ (F.length : Int) := by omega
      clear o8 M8 hm HFI HH hl1 hl2 hfr
      go_wp2_with (first
        | (at_builtin; refine wpList_append_run rfl (.tmp 24) (.tmp 27) _ rfl rfl rfl r6 ?_)
        | (at_builtin; refine wpList_append_run rfl (.tmp 28) (.tmp 32) _ rfl rfl rfl r7 ?_)
        | (at_builtin; refine wpList_append_run rfl (.tmp 33) (.tmp 34) _ rfl rfl rfl r8 ?_))
      all_goals go_ret
      all_goals exact ⟨_, rfl, HO.out, HM.out⟩

set_option maxRecDepth 100000 in
set_option maxHeartbeats 1600000 in
theorem rdrop_calls [Away] (v : Value) (F : Files) (k : Str) (w : World) (h : FR w v F) (hn : F.length ≤ 1000) :
    Calls Try.prog 123 #[v, .string ⟨k.toArray⟩] w fun e w' => ∃ v', e = .returned v' ∧ FR w' v' (rDrop F k) ∧ Mod NoB w w' := by
  have HFI := Lib.hid (rfind_calls v F k w h hn)
  have hle := rFind_le F k
  have HH := Lib.hid h
  have hlt : rIs F k = true → rFind F k < F.length := rIs_lt
  unfold rDrop
  generalize rFind F k = i at *
  cases hi : rIs F k with
  | false =>
    rw [hi] at HFI
    obtain ⟨a, c, rfl, _, _⟩ := h.cells
    rw [if_neg (by decide)]
    clear hlt hi h
    go_enter Try.func123, Try.ntmps123
    go_wp2_with fail
    refine HFI.out.mono ?_
    rintro e W ⟨rfl, hm⟩
    have HM := Lib.hid hm
    clear hm
    go_wp2_with fail
    go_ret
    exact ⟨_, rfl, HH.out.mod HM.out, HM.out⟩
  | true =>
    rw [hi] at HFI
    have hil := hlt hi
    rcases fr_case h with ⟨_, rfl⟩ | ⟨g, c, rfl, hc⟩
    · simp at hil
    rw [if_pos rfl]
    clear hlt hi h
    have hic : i ≤ c := by omega
    have hic1 : i + 1 ≤ c := by omega
    have hil1 : i + 1 ≤ F.length := by omega
    have hi5 : (i : Int) ≤ (F.length : Int) := by omega
    have hi4 : (0 : Int) ≤ (i : Int) := by omega
    have hi7 : (i : Int) + 1 ≤ (F.length : Int) := by omega
    have hi6 : (0 : Int) ≤ (i : Int) + 1 := by omega
    have hi9 : IntKind.i64.wrap ((i : Int) + 1) = (i : Int) + 1 := by rw [IntKind.wrap_i64]; omega
    have hi8 : ((i : Int) + 1).toNat = i + 1 := by omega
    go_enter Try.func123, Try.ntmps123
    go_wp2_with fail
    refine HFI.out.mono ?_
    rintro e W1 ⟨rfl, hm⟩
    have HM := Lib.hid hm
    clear hm HFI
    have HPT : Hid (∀ X, Mod NoB W1 X → PartAt X 2 (.slice (some ⟨g, 0, none⟩) i c) i (fCells (F.take i))) := fun X hX => f_part_take (HH.out.mod (HM.out.trans hX (fun _ _ h => h))) hle hc
    have HPD : Hid (∀ X, Mod NoB W1 X → PartAt X 2 (.slice (if c = i + 1 then some ⟨g, 0, none⟩ else some ⟨g, (i + 1) * 2, none⟩) (F.length - (i + 1)) (c - (i + 1))) (F.length - (i + 1)) (fCells (F.drop (i + 1)))) := fun X hX => by
      by_cases hci : c = i + 1
      · rw [if_pos hci]
        exact f_part_drop (HH.out.mod (HM.out.trans hX (fun _ _ h => h))) hil (by omega) _ (fun h => by omega)
      · rw [if_neg hci]
        exact f_part_drop (HH.out.mod (HM.out.trans hX (fun _ _ h => h))) hil (by omega) _ (fun _ => rfl)
    go_upto_region 4 with fail
    go_region_law (first
      | (refine step_own rfl (.tmp 16) (.tmp 19) 125 rfl (v := .slice (some ⟨_, 0, none⟩) 0 0) (v2 := .slice (some ⟨g, 0, none⟩) i c) rfl rfl (base := W1.heap.size) (n := 0) (m := i) (xs := []) (ys := fCells (F.take i)) i (fCells (F.take i)) elemF (by decide) ?_ ?_ ?_ ?_ ?_ rfl ?_ ?_
         · exact row_empty (by first | exact heap_alloc_at' _ _ _ rfl | exact heap_alloc_at' _ _ _ (by simp) | exact heap_alloc_old' _ _ _ (by (first | omega | (simp only [size_alloc]; omega) | (simp only [size_alloc, heap_drew]; omega))) (heap_alloc_at' _ _ _ (by first | rfl | simp))) (by (first | omega | (simp only [size_alloc]; omega) | (simp only [size_alloc, heap_drew]; omega)))
         · exact HPT.out _ (by (repeat (first | with_reducible exact Mod.refl _ _ | with_reducible refine Mod.drew ?_ | with_reducible refine Mod.alloc ?_ _)))
         · exact fCells_one _
         · omega
         · omega
         · (first | omega | (simp only [size_alloc]; omega) | (simp only [size_alloc, heap_drew]; omega))
         intro b6 c6 W6 hr6 hg6 hk6
         have hW6 : Mod NoB W1 W6 := Mod.grown (by (repeat (first | with_reducible exact Mod.refl _ _ | with_reducible refine Mod.drew ?_ | with_reducible refine Mod.alloc ?_ _))) hg6 (fun q hq hl => by simp only [Value.ownBlock, Option.some.injEq] at hq; (try simp only [size_alloc] at hq); omega))
      | (refine step_own rfl (.tmp 20) (.tmp 24) 125 rfl (v := .slice b6 i c6) (v2 := .slice (if c = i + 1 then some ⟨g, 0, none⟩ else some ⟨g, (i + 1) * 2, none⟩) (F.length - (i + 1)) (c - (i + 1))) rfl rfl (base := W1.heap.size) (n := i) (m := F.length - (i + 1)) (xs := fCells (F.take i)) (ys := fCells (F.drop (i + 1))) (F.length - 1) (fCells (F.take i ++ F.drop (i + 1))) elemF (by decide) ?_ ?_ ?_ ?_ ?_ ?_ ?_ ?_
         · exact ownsRow_mod hr6 (by (repeat (first | with_reducible exact Mod.refl _ _ | with_reducible refine Mod.drew ?_ | with_reducible refine Mod.alloc ?_ _))) (fun _ _ => id)
         · exact HPD.out _ (hW6.trans (by (repeat (first | with_reducible exact Mod.refl _ _ | with_reducible refine Mod.drew ?_ | with_reducible refine Mod.alloc ?_ _))) (fun _ _ h => h))
         · exact fCells_one _
         · omega
         · omega
         · rw [fCells_append]
         · have := hW6.size; (first | omega | (simp only [size_alloc]; omega) | (simp only [size_alloc, heap_drew]; omega))
         intro b7 c7 W7 hr7 hg7 hk7
         have hW7 : Mod NoB W1 W7 := hW6.trans (Mod.grown (F := fun q => W1.heap.size ≤ q) (by (repeat (first | with_reducible exact Mod.refl _ _ | with_reducible refine Mod.drew ?_ | with_reducible refine Mod.alloc ?_ _))) hg7 (fun q hq hl => (hr6.lt q hq).1)) (fun q hq h => by omega)))
    all_goals go_wp2_with fail
    all_goals go_ret
    all_goals
      refine ⟨_, rfl, FR.off (base := W1.heap.size) ?_ (HH.out.mod HM.out).2.old hW7.size, HM.out.trans hW7 (fun _ _ h => h)⟩
      rw [show (F.take i ++ F.drop (i + 1)).length = F.length - 1 by rw [List.length_append, List.length_take, List.length_drop]; omega]
      exact hr7

end Go.Proofs.Ytgofngilfdnakaa

namespace Go.Proofs.Ytgofngilfdnakaa
open Go Go.RowKit
set_option linter.unusedSimpArgs false
attribute [local go_sem] over_cell over_frozen lt_over le_over noB loudUpon ByteArray.mk_append_mk ByteArray.extract_mk

abbrev act6V (A : Act6) : Value := .agg #[.int .i64 A.kind, .string ⟨A.key.toArray⟩, .string ⟨A.value.toArray⟩]
def mayOf (A : Act6) : Bool := decide (keyOk A.key ∧ A.value.length ≤ 8192)
theorem Act3w.facts {w : World} {D : Nat} {x0 x1 x2 : Value} {T : TypeId} (h : w.heap[D]? = some (.cells #[x0, x1, x2] T (0, 0))) : D < w.heap.size ∧ w.cell? ⟨D, 0, none⟩ = some x0 ∧ w.cell? ⟨D, 1, none⟩ = some x1 ∧ w.cell? ⟨D, 2, none⟩ = some x2 ∧ ∀ i, w.frozen? ⟨D, i, none⟩ = false :=
  ⟨lt_heap h, cell_heap h 0, cell_heap h 1, cell_heap h 2, frozen_heap h⟩

set_option maxRecDepth 100000 in
set_option maxHeartbeats 3200000 in
theorem may6_calls (A : Act6) (w : World) (h1 : A.key.length ≤ 9223372036854775807) (h2 : A.value.length ≤ 9223372036854775807) :
    Calls Try.prog 124 #[act6V A] w fun e w' => e = .returned (.bool (mayOf A)) ∧ Mod NoB w w' := by
  obtain ⟨kind, key, val⟩ := A
  generalize hb : mayOf _ = b
  unfold mayOf keyOk at hb
  simp only at h1 h2 hb ⊢
  have hcs : (1 ≤ key.length ∧ key.length ≤ 64 ∧ val.length ≤ 8192 ∧ b = true) ∨ (1 ≤ key.length ∧ key.length ≤ 64 ∧ ¬ val.length ≤ 8192 ∧ b = false) ∨ (1 ≤ key.length ∧ ¬ key.length ≤ 64 ∧ b = false) ∨ (¬ 1 ≤ key.length ∧ b = false) := by
    by_cases q1 : 1 ≤ key.length
    · by_cases q2 : key.length ≤ 64
      · by_cases q3 : val.length ≤ 8192
        · exact .inl ⟨q1, q2, q3, by rw [← hb]; exact decide_eq_true ⟨⟨q1, q2⟩, q3⟩⟩
        · exact .inr (.inl ⟨q1, q2, q3, by rw [← hb]; exact decide_eq_false fun h => q3 h.2⟩)
      · exact .inr (.inr (.inl ⟨q1, q2, by rw [← hb]; exact decide_eq_false fun h => q2 h.1.2⟩))
    · exact .inr (.inr (.inr ⟨q1, by rw [← hb]; exact decide_eq_false fun h => q1 h.1.1⟩))
  clear hb
  go_enter Try.func124, Try.ntmps124
  rcases hcs with ⟨q1, q2, q3, rfl⟩ | ⟨q1, q2, q3, rfl⟩ | ⟨q1, q2, rfl⟩ | ⟨q1, rfl⟩
  · go_wp2_with fail
    exact bodyPost_ret (v := .bool true) (by simp [results, Try.f124, go_sem]; omega) rfl ⟨rfl, (Mod.refl _ _).alloc _⟩
  · go_wp2_with fail
    exact bodyPost_ret (v := .bool false) (by simp [results, Try.f124, go_sem]; omega) rfl ⟨rfl, (Mod.refl _ _).alloc _⟩
  · go_wp2_with fail
    exact bodyPost_ret (v := .bool false) (by simp [results, Try.f124, go_sem]) rfl ⟨rfl, (Mod.refl _ _).alloc _⟩
  · go_wp2_with fail
    exact bodyPost_ret (v := .bool false) (by simp [results, Try.f124, go_sem]) rfl ⟨rfl, (Mod.refl _ _).alloc _⟩

def OnePost [Away] (w : World) (t l p : Nat) (g : Lg) (M : Files) (e : Ending) (w' : World) : Prop :=
  ∃ v' root' g', e = .returned (.tuple #[v', .bool true]) ∧ Mod (fun k => k = l ∨ k = t) w w' ∧ TL w' t l p g' root' ∧ Grew g g' ∧ g'.wait.length ≤ g.wait.length + 700000 ∧ TR g' root' M ∧ FR w' v' M
theorem rIs_some {M : Files} (k : Str) (h : Sorted M) : (M.get k).isSome = rIs M k := by
  rw [rIs_get k M h]
  cases rIs M k <;> rfl

set_option maxRecDepth 100000 in
set_option maxHeartbeats 6400000 in
theorem one_del [Away] (t l p : Nat) (g : Lg) (root : Int) (v : Value) (M : Files) (A : Act6) (w : World) (hS : ∀ q, (q = l ∨ q = t) → Away.S q) (h : TL w t l p g root) (hr : TR g root M) (hM : M.length ≤ 400) (hs : Small g 6) (hf : FR w v M) (hk : A.kind = 3 ∨ A.kind = 4) :
    Calls Try.prog 78 #[.pointer (some ⟨t, 0, none⟩), v, act6V A] w (OnePost w t l p g (M.del A.key)) := by
  obtain ⟨kind, key, val⟩ := A
  have hlb := lt_heap h.log
  have htb := lt_heap h.tree
  obtain ⟨a1, c1, rfl, _, _⟩ := hf.cells
  have hso := hr.sorted
  obtain ⟨W1, hW1⟩ : ∃ W1, w.alloc (.cells #[.int .i64 kind, .string ⟨key.toArray⟩, .string ⟨val.toArray⟩] 120) = W1 := ⟨_, rfl⟩
  have hm1 : Mod NoB w W1 := by rw [← hW1]; exact (Mod.refl _ _).alloc _
  have hA1 : W1.heap[w.heap.size]? = some (.cells #[.int .i64 kind, .string ⟨key.toArray⟩, .string ⟨val.toArray⟩] 120 (0, 0)) := by rw [← hW1]; exact heap_alloc_new _ _
  have HFI := Lib.hid (rfind_calls _ M key W1 (hf.mod hm1) (by omega))
  have HT := Lib.hid (fun X (hX : Mod NoB w X) => h.mod hX)
  have HF := Lib.hid (fun X (hX : Mod NoB w X) => hf.mod hX)
  have HOF := Lib.hid hf.2.off
  have HR := Lib.hid hr
  have HS := Lib.hid hs
  have HSO := Lib.hid hso
  have HM1 := Lib.hid hm1
  have HML := Lib.hid hM
  obtain ⟨ab, x0, x1, x2, xf⟩ := Act3w.facts hA1
  have HA1 := Lib.hid hA1
  simp only at hk
  have HSX := Lib.hid hS
  clear h hr hM hs hf hso hm1 hA1 hS
  go_enter Try.func78, Try.ntmps78
  go_wp2_with fail
  clear hW1
  refine HFI.out.mono ?_
  rintro e W2 ⟨rfl, hm2⟩
  have hA2 := (hm2.block _ ab id).trans HA1.out
  have HM2 := Lib.hid (HM1.out.trans hm2 (fun _ _ h => h))
  clear x0 x1 x2 xf ab hm2 HFI HA1 HM1
  obtain ⟨ab, x0, x1, x2, xf⟩ := Act3w.facts hA2
  have HA2 := Lib.hid hA2
  have hsz := HM2.out.size
  clear hA2
  have HDE := Lib.hid (TDelete_calls t l p g root key M W2 (HT.out W2 HM2.out) HR.out HML.out HS.out)
  rw [rIs_some key HSO.out] at HDE
  generalize rIs M key = b at *
  rcases hk with rfl | rfl
  all_goals
    go_wp2_with fail
    refine HDE.out.mono ?_
    rintro e W3 ⟨root', g', rfl, hm3, ht3, hg3, hn3, hr3⟩
    have hA3 := (hm3.block _ ab (fun e => by omega)).trans HA2.out
    have hf3 := (HF.out W2 HM2.out).upd hm3 (fun q hq e => HOF.out q hq (HSX.out q e))
    have HDR := Lib.hid (rdrop_calls _ M key W3 hf3 (by have := HML.out; omega))
    rw [rDrop_del key M HSO.out] at HDR
    have HM3 := Lib.hid ((HM2.out.mono (noB_sub (fun k => k = l ∨ k = t) _)).trans hm3 (fun _ _ h => h))
    have HT3 := Lib.hid ht3
    have HG3 := Lib.hid hg3
    have HN3 := Lib.hid hn3
    have HR3 := Lib.hid hr3
    clear x0 x1 x2 xf ab hm3 ht3 hg3 hn3 hr3 hf3 HDE HA2 HM2
    obtain ⟨ab, x0, x1, x2, xf⟩ := Act3w.facts hA3
    clear hA3
    go_wp2_with fail
    refine HDR.out.mono ?_
    rintro e W4 ⟨v', rfl, hf4, hm4⟩
    have HF4 := Lib.hid hf4
    have HM4 := Lib.hid (HM3.out.trans hm4 (fun _ _ h => h.elim))
    have HT4 := Lib.hid (HT3.out.mod hm4)
    clear hf4 hm4 HDR HM3 HT3 x0 x1 x2 xf ab
    go_wp2_with fail
    refine bodyPost_ret (v := .tuple #[v', .bool true]) (by simp [results, Try.f78, go_sem]) rfl ?_
    exact ⟨v', root', g', rfl, HM4.out, HT4.out, HG3.out, HN3.out, HR3.out, HF4.out⟩

set_option maxRecDepth 100000 in
set_option maxHeartbeats 6400000 in
theorem one_get [Away] (t l p : Nat) (g : Lg) (root : Int) (v : Value) (M : Files) (A : Act6) (w : World) (h : TL w t l p g root) (hr : TR g root M) (hM : M.length ≤ 400) (hs : Small g 6) (hf : FR w v M) (hk : A.kind = 5) :
    Calls Try.prog 78 #[.pointer (some ⟨t, 0, none⟩), v, act6V A] w (OnePost w t l p g M) := by
  obtain ⟨kind, key, val⟩ := A
  have hlb := lt_heap h.log
  have htb := lt_heap h.tree
  obtain ⟨a1, c1, rfl, _, _⟩ := hf.cells
  have hso := hr.sorted
  obtain ⟨W1, hW1⟩ : ∃ W1, w.alloc (.cells #[.int .i64 kind, .string ⟨key.toArray⟩, .string ⟨val.toArray⟩] 120) = W1 := ⟨_, rfl⟩
  have hm1 : Mod NoB w W1 := by rw [← hW1]; exact (Mod.refl _ _).alloc _
  have hA1 : W1.heap[w.heap.size]? = some (.cells #[.int .i64 kind, .string ⟨key.toArray⟩, .string ⟨val.toArray⟩] 120 (0, 0)) := by rw [← hW1]; exact heap_alloc_new _ _
  have HFI := Lib.hid (rfind_calls _ M key W1 (hf.mod hm1) (by omega))
  have HT := Lib.hid (fun X (hX : Mod NoB w X) => h.mod hX)
  have HF := Lib.hid (fun X (hX : Mod NoB w X) => hf.mod hX)
  have HOF := Lib.hid hf.2.off
  have HR := Lib.hid hr
  have HS := Lib.hid hs
  have HSO := Lib.hid hso
  have HM1 := Lib.hid hm1
  have HML := Lib.hid hM
  obtain ⟨ab, x0, x1, x2, xf⟩ := Act3w.facts hA1
  have HA1 := Lib.hid hA1
  simp only at hk
  subst hk
  clear h hr hM hs hf hso hm1 hA1
  go_enter Try.func78, Try.ntmps78
  go_wp2_with fail
  clear hW1
  refine HFI.out.mono ?_
  rintro e W2 ⟨rfl, hm2⟩
  have hA2 := (hm2.block _ ab id).trans HA1.out
  have HM2 := Lib.hid (HM1.out.trans hm2 (fun _ _ h => h))
  clear x0 x1 x2 xf ab hm2 HFI HA1 HM1
  obtain ⟨ab, x0, x1, x2, xf⟩ := Act3w.facts hA2
  have HA2 := Lib.hid hA2
  have hsz := HM2.out.size
  clear hA2
  have hge := Get_calls t l p g root key M W2 (HT.out W2 HM2.out) HR.out HS.out.zero
  rw [rIs_get key M HSO.out] at hge
  cases hb : rIs M key with
  | false =>
    rw [hb] at hge
    have HGE := Lib.hid hge
    clear hge
    unfold gotV at HGE
    simp only [Bool.false_eq_true, if_false] at HGE
    go_wp2_with fail
    refine HGE.out.mono ?_
    rintro e W3 ⟨rfl, hm3⟩
    have HM3 := Lib.hid (HM2.out.trans hm3 (fun _ _ h => h))
    clear hm3 HGE HA2 HM2 x0 x1 x2 xf ab
    go_wp2_with fail
    refine bodyPost_ret (v := .tuple #[.slice a1 M.length c1, .bool true]) (by simp [results, Try.f78, go_sem]) rfl ?_
    exact ⟨_, root, g, rfl, HM3.out.mono (noB_sub _ _), HT.out _ HM3.out, Grew.refl g, Nat.le_add_right _ _, HR.out, HF.out _ HM3.out⟩
  | true =>
    rw [hb] at hge
    have HGE := Lib.hid hge
    clear hge
    unfold gotV at HGE
    simp only [if_true] at HGE
    have hlt := rIs_lt hb
    have hat : rAt M key = M[rFind M key].2 := by
      unfold rAt
      rw [List.getElem?_eq_getElem hlt]
      rfl
    go_wp2_with fail
    refine HGE.out.mono ?_
    rintro e W3 ⟨rfl, hm3⟩
    have HM3 := Lib.hid (HM2.out.trans hm3 (fun _ _ h => h))
    clear hm3 HGE HA2 HM2 x0 x1 x2 xf ab
    obtain ⟨_, _, e2, _, hcell⟩ := (HF.out _ HM3.out).cells
    cases e2
    obtain ⟨q, rfl, hq, y1, y2⟩ := hcell _ hlt
    rw [hat]
    generalize M[rFind M key] = kv at *
    obtain ⟨kv1, kv2⟩ := kv
    simp only at y1 y2
    clear hcell hat
    go_wp2_with fail
    refine wp_region_quiet_all (fun w' => ∃ x, w' = over _ (NoB) x) (by kernel_rfl) (by kernel_rfl) (Cls.drew _ _) ?_
    repeat (go_big_quiet_step (fail))
    refine wpQuiet_nil ?_
    rintro _ ⟨y, rfl⟩
    go_wp2_with fail
    refine at_world6 (P := bodyPost _ _ _ _ _) (fun X => Mod NoB w X) (HM3.out.trans (over_mod _ _ _) (fun _ _ h => h)) ?_
    intro X hX
    refine bodyPost_ret (v := .tuple #[.slice (some ⟨q, 0, none⟩) M.length c1, .bool true]) (by simp [results, Try.f78, go_sem]) rfl ?_
    exact ⟨_, root, g, rfl, hX.mono (noB_sub _ _), HT.out _ hX, Grew.refl g, Nat.le_add_right _ _, HR.out, HF.out _ hX⟩

set_option maxRecDepth 100000 in
set_option maxHeartbeats 6400000 in
theorem one_put [Away] (t l p : Nat) (g : Lg) (root : Int) (v : Value) (M : Files) (A : Act6) (w : World) (hS : ∀ q, (q = l ∨ q = t) → Away.S q) (h : TL w t l p g root) (hr : TR g root M) (hM : M.length ≤ 400) (hs : Small g 6) (hf : FR w v M) (h1 : A.key.length ≤ 9223372036854775807) (h2 : A.value.length ≤ 9223372036854775807) (hk3 : A.kind ≠ 3) (hk4 : A.kind ≠ 4) (hk5 : A.kind ≠ 5) :
    Calls Try.prog 78 #[.pointer (some ⟨t, 0, none⟩), v, act6V A] w (OnePost w t l p g (if keyOk A.key ∧ A.value.length ≤ 8192 then M.put A.key A.value else M)) := by
  obtain ⟨kind, key, val⟩ := A
  have hlb := lt_heap h.log
  have htb := lt_heap h.tree
  obtain ⟨a1, c1, rfl, _, _⟩ := hf.cells
  have hso := hr.sorted
  obtain ⟨W1, hW1⟩ : ∃ W1, w.alloc (.cells #[.int .i64 kind, .string ⟨key.toArray⟩, .string ⟨val.toArray⟩] 120) = W1 := ⟨_, rfl⟩
  have hm1 : Mod NoB w W1 := by rw [← hW1]; exact (Mod.refl _ _).alloc _
  have hA1 : W1.heap[w.heap.size]? = some (.cells #[.int .i64 kind, .string ⟨key.toArray⟩, .string ⟨val.toArray⟩] 120 (0, 0)) := by rw [← hW1]; exact heap_alloc_new _ _
  have HFI := Lib.hid (rfind_calls _ M key W1 (hf.mod hm1) (by omega))
  have HT := Lib.hid (fun X (hX : Mod NoB w X) => h.mod hX)
  have HF := Lib.hid (fun X (hX : Mod NoB w X) => hf.mod hX)
  have HOF := Lib.hid hf.2.off
  have HR := Lib.hid hr
  have HS := Lib.hid hs
  have HSO := Lib.hid hso
  have HM1 := Lib.hid hm1
  have HML := Lib.hid hM
  obtain ⟨ab, x0, x1, x2, xf⟩ := Act3w.facts hA1
  have HA1 := Lib.hid hA1
  simp only at h1 h2 hk3 hk4 hk5
  have HSX := Lib.hid hS
  clear h hr hM hs hf hso hm1 hA1 hS
  by_cases hok : keyOk key ∧ val.length ≤ 8192
  · rw [if_pos hok]
    go_enter Try.func78, Try.ntmps78
    go_wp2_with fail
    clear hW1
    refine HFI.out.mono ?_
    rintro e W2 ⟨rfl, hm2⟩
    have hA2 := (hm2.block _ ab id).trans HA1.out
    have HM2 := Lib.hid (HM1.out.trans hm2 (fun _ _ h => h))
    clear x0 x1 x2 xf ab hm2 HFI HA1 HM1
    obtain ⟨ab, x0, x1, x2, xf⟩ := Act3w.facts hA2
    have HA2 := Lib.hid hA2
    have hsz := HM2.out.size
    clear hA2
    have hk3' : (kind == 3) = false := beq_eq_false_iff_ne.2 hk3
    have hk4' : (kind == 4) = false := beq_eq_false_iff_ne.2 hk4
    have hk5' : (kind == 5) = false := beq_eq_false_iff_ne.2 hk5
    clear hk3 hk4 hk5
    have hpu := Put_any t l p g root key val M W2 (HT.out W2 HM2.out) HR.out HML.out HS.out h1 h2
    rw [if_pos hok, if_pos hok] at hpu
    have HPU := Lib.hid hpu
    clear hpu
    go_wp2_with fail
    refine HPU.out.mono ?_
    rintro e W3 ⟨root', g', rfl, hm3, ht3, hg3, hn3, hr3⟩
    have hA3 := (hm3.block _ ab (fun e => by omega)).trans HA2.out
    have hf3 := (HF.out W2 HM2.out).upd hm3 (fun q hq e => HOF.out q hq (HSX.out q e))
    have HMY := Lib.hid (may6_calls ⟨kind, key, val⟩ W3 h1 h2)
    have HWI := Lib.hid (fun X (hX : Mod NoB W3 X) => rput_calls _ M key val X (hf3.mod hX) (by have := HML.out; omega))
    rw [rPut_put key val M HSO.out] at HWI
    have HM3 := Lib.hid ((HM2.out.mono (noB_sub (fun k => k = l ∨ k = t) _)).trans hm3 (fun _ _ h => h))
    have HF3 := Lib.hid hf3
    have HT3 := Lib.hid ht3
    have HG3 := Lib.hid hg3
    have HN3 := Lib.hid hn3
    have HR3 := Lib.hid hr3
    clear x0 x1 x2 xf ab hm3 ht3 hg3 hn3 hr3 hf3 HPU HA2 HM2
    obtain ⟨ab, x0, x1, x2, xf⟩ := Act3w.facts hA3
    have HA3 := Lib.hid hA3
    clear hA3
    have hmy : mayOf ⟨kind, key, val⟩ = true := decide_eq_true hok
    rw [hmy] at HMY
    clear hmy
    have HOK := Lib.hid hok
    clear hok
    go_wp2_with fail
    refine HMY.out.mono ?_
    rintro e W4 ⟨rfl, hm4⟩
    have hA4 := (hm4.block _ ab id).trans HA3.out
    have HM4 := Lib.hid (HM3.out.trans hm4 (fun _ _ h => h.elim))
    have HT4 := Lib.hid (HT3.out.mod hm4)
    have HW4 := Lib.hid (HWI.out W4 hm4)
    clear x0 x1 x2 xf ab hm4 HMY HA3 HM3 HT3 HWI
    obtain ⟨ab, x0, x1, x2, xf⟩ := Act3w.facts hA4
    clear hA4
    go_wp2_with fail
    refine HW4.out.mono ?_
    rintro e W5 ⟨v', rfl, hf5, hm5⟩
    have HF5 := Lib.hid hf5
    have HM5 := Lib.hid (HM4.out.trans hm5 (fun _ _ h => h.elim))
    have HT5 := Lib.hid (HT4.out.mod hm5)
    clear hf5 hm5 HW4 HM4 HT4 x0 x1 x2 xf ab
    go_wp2_with fail
    refine bodyPost_ret (v := .tuple #[v', .bool true]) (by simp [results, Try.f78, go_sem]) rfl ?_
    exact ⟨v', root', g', rfl, HM5.out, HT5.out, HG3.out, HN3.out, HR3.out, HF5.out⟩
  · rw [if_neg hok]
    go_enter Try.func78, Try.ntmps78
    go_wp2_with fail
    clear hW1
    refine HFI.out.mono ?_
    rintro e W2 ⟨rfl, hm2⟩
    have hA2 := (hm2.block _ ab id).trans HA1.out
    have HM2 := Lib.hid (HM1.out.trans hm2 (fun _ _ h => h))
    clear x0 x1 x2 xf ab hm2 HFI HA1 HM1
    obtain ⟨ab, x0, x1, x2, xf⟩ := Act3w.facts hA2
    have HA2 := Lib.hid hA2
    have hsz := HM2.out.size
    clear hA2
    have hk3' : (kind == 3) = false := beq_eq_false_iff_ne.2 hk3
    have hk4' : (kind == 4) = false := beq_eq_false_iff_ne.2 hk4
    have hk5' : (kind == 5) = false := beq_eq_false_iff_ne.2 hk5
    clear hk3 hk4 hk5
    have hpu := Put_any t l p g root key val M W2 (HT.out W2 HM2.out) HR.out HML.out HS.out h1 h2
    rw [if_neg hok, if_neg hok] at hpu
    have HPU := Lib.hid hpu
    clear hpu
    go_wp2_with fail
    refine HPU.out.mono ?_
    rintro e W3 ⟨root', g', rfl, hm3, ht3, hg3, hn3, hr3⟩
    have hA3 := (hm3.block _ ab (fun e => by omega)).trans HA2.out
    have hf3 := (HF.out W2 HM2.out).upd hm3 (fun q hq e => HOF.out q hq (HSX.out q e))
    have HMY := Lib.hid (may6_calls ⟨kind, key, val⟩ W3 h1 h2)
    have HWI := Lib.hid (fun X (hX : Mod NoB W3 X) => rput_calls _ M key val X (hf3.mod hX) (by have := HML.out; omega))
    rw [rPut_put key val M HSO.out] at HWI
    have HM3 := Lib.hid ((HM2.out.mono (noB_sub (fun k => k = l ∨ k = t) _)).trans hm3 (fun _ _ h => h))
    have HF3 := Lib.hid hf3
    have HT3 := Lib.hid ht3
    have HG3 := Lib.hid hg3
    have HN3 := Lib.hid hn3
    have HR3 := Lib.hid hr3
    clear x0 x1 x2 xf ab hm3 ht3 hg3 hn3 hr3 hf3 HPU HA2 HM2
    obtain ⟨ab, x0, x1, x2, xf⟩ := Act3w.facts hA3
    have HA3 := Lib.hid hA3
    clear hA3
    have hmy : mayOf ⟨kind, key, val⟩ = false := decide_eq_false hok
    rw [hmy] at HMY
    clear hmy
    have HOK := Lib.hid hok
    clear hok
    go_wp2_with fail
    refine HMY.out.mono ?_
    rintro e W4 ⟨rfl, hm4⟩
    have HM4 := Lib.hid (HM3.out.trans hm4 (fun _ _ h => h.elim))
    have HT4 := Lib.hid (HT3.out.mod hm4)
    have HF4 := Lib.hid (HF3.out.mod hm4)
    clear x0 x1 x2 xf ab hm4 HMY HA3 HM3 HT3 HWI HF3
    go_wp2_with fail
    refine bodyPost_ret (v := .tuple #[.slice a1 M.length c1, .bool true]) (by simp [results, Try.f78, go_sem]) rfl ?_
    exact ⟨_, root', g', rfl, HM4.out, HT4.out, HG3.out, HN3.out, HR3.out, HF4.out⟩

end Go.Proofs.Ytgofngilfdnakaa

namespace Go.Proofs.Ytgofngilfdnakaa
open Go Go.RowKit

def SeqMod2 {α : Type} (F : Fence) (n : Nat) (P : Program) (g : Nat) (lb : Array Value) (encs : α → Array Value) (G B : Nat → Prop) (xs : List α) (w : World) : Prop :=
  ∀ (l : Nat) (J : List α → World → Prop) (W : World), Mod NoB w W → w.heap.size + 2 ≤ W.heap.size → (∀ s X Y, J s X → Mod G X Y → J s Y) →
    (∀ pre x, (∃ post, xs = pre ++ x :: post) → ∀ W1, J pre W1 → YieldAt F (n - 1) P l (encs x) W1 fun e W' => e = .returned (.bool true) ∧ J (pre ++ [x]) W' ∧ Mod (fun k => B k ∨ (w.heap.size ≤ k ∧ k < w.heap.size + 2)) W1 W') →
    J [] W → CallsIn F n P g (#[.func (.yield l) #[] #[]] ++ lb) W fun e W' => (∃ v, e = .returned v) ∧ J xs W'

theorem wpIn_rangeFunc_mod2 {F : Fence} {n : Nat} {P : Program} {α : Type} {g : Operand} {ps : Array Tmp} {assign body : Code} {Q : Exit → Act → World → Prop} {a : Act} {w : World}
    (hro : F.round = none) (h1 : 1 ≤ n) {gf : Nat} {lb : Array Value} (hg : a.eval g = .func (.func gf) #[] lb) (hFg : F.fn gf) (eg : ∀ args w, (callFunc gf args).run P w = .ok (.enter gf args) w)
    {encs : α → Array Value} {G B : Nat → Prop} {xs : List α} (hseq : SeqMod2 F (n - 1) P gf lb encs G B xs w) (hps : ∀ x, (encs x).size = ps.size)
    (hG : ∀ k, G k → k < w.heap.size) (hB : ∀ k, B k → k < w.heap.size)
    (I : List α → World → Prop) (hI : ∀ s X Y, I s X → Mod (fun k => G k ∨ (w.heap.size ≤ k ∧ k < w.heap.size + 2)) X Y → I s Y) (h0 : I [] w)
    (Ax : List α → α → Act → World → Prop) (hAx : ∀ pre x a' X Y, Ax pre x a' X → Mod (fun k => w.heap.size ≤ k ∧ k < w.heap.size + 2) X Y → Ax pre x a' Y)
    (hassign : ∀ (l : Nat) (pre : List α) (x : α) (W : World), I pre W → w.heap.size + 2 ≤ W.heap.size →
      assign.wpIn (F.inRound l) (n - 1 - 1) P (Exit.then (fun a' W' => Mod NoB W W' ∧ Ax pre x a' W') (fun _ _ _ => False)) { tmps := (ps.zip (encs x)).foldl (fun t (p, v) => t.setIfInBounds p v) a.tmps, defers := [] } W)
    (hbody : ∀ (l : Nat) (pre : List α) (x : α) (a' : Act) (W : World), (∃ post, xs = pre ++ x :: post) → Ax pre x a' W → w.heap.size + 2 ≤ W.heap.size → body.wpIn (F.inRound l) (n - 1 - 1) P (fun e _ W' => e = .normal ∧ Mod B W W' ∧ I (pre ++ [x]) W') a' W)
    (hdone : ∀ (W : World), I xs W → w.heap.size + 2 ≤ W.heap.size → W.heap[w.heap.size]? = some (.deferred (some [])) → Q .normal { a with defers := { target := .collected w.heap.size, args := #[] } :: a.defers } W) :
    (Code.rangeFunc g ps assign body).wpIn F n P Q a w := by
  refine wpIn_rangeFunc ?_
  intro fn hfn
  rw [hro]
  obtain ⟨rec, hrec⟩ : ∃ rec : LoopState → Option Code → Loop, rec = fun st pe => { state := st, pending := pe, fn, tmps := a.tmps, params := ps, assign, body, defers := w.heap.size } := ⟨_, rfl⟩
  obtain ⟨W1, hW1⟩ : ∃ W1, (w.alloc (.deferred (some []))).alloc (.loop (rec .ready none)) = W1 := ⟨_, rfl⟩
  have hL1 : W1.heap[w.heap.size + 1]? = some (.loop (rec .ready none)) := by
    rw [← hW1]; have := World.alloc_heap_new (w.alloc (.deferred (some []))) (.loop (rec .ready none)); rwa [World.size_alloc] at this
  have hK1 : W1.heap[w.heap.size]? = some (.deferred (some [])) := by
    rw [← hW1, heap_alloc_lt _ _ _ (by simp)]; exact World.alloc_heap_new w _
  have hM1 : Mod NoB w W1 := by rw [← hW1]; exact ((Mod.refl _ _).alloc _).alloc _
  have hI1 : I [] W1 := hI _ _ _ h0 (hM1.mono (noB_sub _ _))
  have hB1 : Mod NoB w W1 := hM1
  have hne : w.heap.size + 1 ≠ w.heap.size := by omega
  refine ⟨w.heap.size + 1, [{ target := .collected w.heap.size, args := #[] }], W1, { target := .fn (.func gf) lb, args := #[.func (.yield (w.heap.size + 1)) #[] #[]] }, W1, gf,
    #[.func (.yield (w.heap.size + 1)) #[] #[]] ++ lb, W1, ?_, ?_, ?_, ?_, fun _ => h1, ?_⟩
  · rw [← hW1, hrec]; exact run_enterLoop_outer _ _ _ _ _
  · simp only [resolve, hg]
    simp [go_sem]
  · intro f' hf'; simp [Target.leads] at hf'; subst hf'; exact hFg
  · simp [invoke, go_sem, eg]
  · refine (hseq (w.heap.size + 1)
      (fun pre W => I pre W ∧ W.heap[w.heap.size + 1]? = some (.loop (rec .ready none)) ∧ W.heap[w.heap.size]? = some (.deferred (some [])))
      W1 hB1 (by rw [← hW1]; simp) ?_ ?_ ⟨hI1, hL1, hK1⟩).mono ?_
    · rintro s X Y ⟨hi, hl, hk⟩ hm
      have h1 := lt_heap hl
      have h2 := lt_heap hk
      exact ⟨hI _ _ _ hi (hm.mono (fun _ _ h => .inl h)), (hm.block _ h1 (fun h => by have := hG _ h; omega)).trans hl, (hm.block _ h2 (fun h => by have := hG _ h; omega)).trans hk⟩
    · rintro pre x hpost W ⟨hi, hl, hk⟩
      have hlt := lt_heap hl
      have hy := run_yield (P := P) (args := encs x) hl (by rw [hrec]; exact hps x)
      rw [hrec] at hy
      refine ⟨fn, _, assign, body, hy, roundIn_of_wpIn hfn (wpIn_mono (hassign _ pre x W hi (by omega)) ?_)⟩
      rintro e a' Wa hp
      cases e with
      | normal =>
        obtain ⟨hma, hax⟩ := hp
        have hl' : Wa.heap[w.heap.size + 1]? = some (.loop (rec .ready none)) := (hma.block _ hlt id).trans hl
        have hk' : Wa.heap[w.heap.size]? = some (.deferred (some [])) := (hma.block _ (lt_heap hk) id).trans hk
        have hlt' := lt_heap hl'
        refine ⟨_, run_beginRound hl' (by rw [hrec]), ?_⟩
        have hm2 : Mod (fun k => w.heap.size ≤ k ∧ k < w.heap.size + 2) Wa (Wa.putObj (w.heap.size + 1) (.loop { rec .ready none with state := .busy })) := mod_putObj _ _ _ ⟨by omega, by omega⟩
        have hl2 : (Wa.putObj (w.heap.size + 1) (.loop { rec .ready none with state := .busy })).heap[w.heap.size + 1]? = some (.loop { rec .ready none with state := .busy }) := World.putObj_heap_same hlt'
        have hk2 : (Wa.putObj (w.heap.size + 1) (.loop { rec .ready none with state := .busy })).heap[w.heap.size]? = some (.deferred (some [])) := (World.putObj_heap_other (by omega)).trans hk'
        refine wpIn_mono (hbody _ pre x a' _ hpost (hAx _ _ _ _ _ hax hm2) (Nat.le_trans (show w.heap.size + 2 ≤ Wa.heap.size by omega) hm2.size)) ?_
        rintro e a3 W3 ⟨rfl, hm3, hi3⟩
        have hl3 := (hm3.block _ (lt_heap hl2) (fun h => by have := hB _ h; omega)).trans hl2
        have hk3 := (hm3.block _ (lt_heap hk2) (fun h => by have := hB _ h; omega)).trans hk2
        have hr := run_endRound (P := P) none hl3
        rw [hrec] at hr hl3
        have hm4 : ∀ o, Mod (fun k => w.heap.size ≤ k ∧ k < w.heap.size + 2) W3 (W3.putObj (w.heap.size + 1) o) := fun o => mod_putObj _ _ _ ⟨by omega, by omega⟩
        refine ⟨_, _, hr, rfl, ⟨hI _ _ _ hi3 ((hm4 _).mono (fun _ _ h => .inr h)), by rw [hrec]; exact World.putObj_heap_same (lt_heap hl3), (World.putObj_heap_other (by omega)).trans hk3⟩, ?_⟩
        refine ((((hma.mono (noB_sub _ _)).trans hm2 (fun _ _ h => .inr h)).trans hm3 (fun _ _ h => .inl h)).trans (hm4 _) (fun _ _ h => .inr h))
      | _ => exact hp.elim
    · rintro e W2 ⟨⟨v, rfl⟩, hi, hl, hk⟩
      have hlt := lt_heap hl
      exact ⟨none, _, by have := run_endLoop (P := P) hl (by rw [hrec]; simp); rw [hrec] at this; exact this,
        hdone _ (hI _ _ _ hi (mod_putObj _ _ _ (.inr ⟨by omega, by omega⟩))) (by simp [World.putObj]; omega) ((World.putObj_heap_other (by omega)).trans hk)⟩


end Go.Proofs.Ytgofngilfdnakaa

namespace Go.Proofs.Ytgofngilfdnakaa
open Go Go.RowKit
set_option linter.unusedSimpArgs false
attribute [local go_sem] over_cell over_frozen lt_over le_over noB loudUpon ByteArray.mk_append_mk ByteArray.extract_mk

def fromOn (M : Files) (f : Str) : Files := M.filter fun x => !bb x.1 f
abbrev pairVs (x : Str × Str) : Array Value := #[.string ⟨x.1.toArray⟩, .string ⟨x.2.toArray⟩]
theorem yield_any {n m : Nat} {P : Program} {l : Nat} {args : Array Value} {W : World} {R : Ending → World → Prop} (h : YieldAt Fence.wide n P l args W R) : YieldAt Fence.wide m P l args W R := by
  obtain ⟨fn, tmps, assign, body, h1, h2, h3⟩ := h
  exact ⟨fn, tmps, assign, body, h1, h2, fun c cs _ => h3 c cs (room_wide _)⟩
theorem from_drop (f : Str) : ∀ {M : Files}, Sorted M → fromOn M f = M.drop (rFind M f)
  | [], _ => rfl
  | x :: M, h => by
    obtain ⟨h1, h2⟩ := List.pairwise_cons.1 h
    unfold fromOn
    cases hb : bb x.1 f with
    | true =>
      rw [List.filter_cons_of_neg (by rw [hb]; decide), rFind_cons_lt hb]
      exact from_drop f h2
    | false =>
      rw [rFind_cons_ge hb, List.drop_zero]
      refine List.filter_eq_self.2 fun y hy => ?_
      rcases List.mem_cons.1 hy with rfl | hy
      · rw [hb]; rfl
      · cases hy2 : bb y.1 f with
        | false => rfl
        | true =>
          have := bb_trans (h1 y hy) hy2
          rw [hb] at this
          cases this
theorem drop_step {M : Files} {i j : Nat} (hij : i ≤ j) (hj : j < M.length) : (M.take (j + 1)).drop i = (M.take j).drop i ++ [M[j]] := by
  rw [List.take_succ_eq_append_getElem hj, List.drop_append_of_le_length (by rw [List.length_take]; omega)]
structure Tells (P : Program) (ly b0 t l : Nat) (J : List (Str × Str) → World → Prop) (Bd : Nat → Prop) (xs : Files) : Prop where
  quiet : ∀ s X Y, J s X → Mod NoB X Y → J s Y
  yields : ∀ pre x, (∃ post, xs = pre ++ x :: post) → ∀ W1, J pre W1 → YieldAt Fence.wide 4 P ly (pairVs x) W1 fun e W' => e = .returned (.bool true) ∧ J (pre ++ [x]) W' ∧ Mod Bd W1 W'
  below : ∀ q, Bd q → q < b0 ∧ q ≠ t ∧ q ≠ l
def Walks (t l p : Nat) (g : Lg) (root : Int) (ly b0 : Nat) (J : List (Str × Str) → World → Prop) (Bd : Nat → Prop) (xs : Files) (f : Str) (d : Nat) : Prop :=
  ∀ (k m : Nat) (lo : Str) (hi : Option Str) (M : Files) (pre : Files) (W : World), TL W t l p g root → b0 ≤ W.heap.size → Rep (rdG g) m d k lo hi M → J pre W → (∃ post, xs = pre ++ (fromOn M f ++ post)) →
    Calls Try.prog 166 #[.pointer (some ⟨t, 0, none⟩), .int .i64 k, .string ⟨f.toArray⟩, .func (.yield ly) #[] #[]] W fun e W' => e = .returned (.bool true) ∧ J (pre ++ fromOn M f) W' ∧ Mod Bd W W'

set_option maxRecDepth 100000 in
set_option maxHeartbeats 6400000 in
theorem walk_leaf (t l p : Nat) (g : Lg) (root : Int) (ly b0 : Nat) (J : List (Str × Str) → World → Prop) (Bd : Nat → Prop) (xs : Files) (f : Str) (hs : Small g 0) (hT : Tells Try.prog ly b0 t l J Bd xs) : Walks t l p g root ly b0 J Bd xs f 0 := by
  intro k m lo hi M pre W h hbW hr hJ hxs
  obtain ⟨_, q, hq, hm, h8, hp⟩ := hr
  have HLD := Lib.hid (load_calls t l p g root k q W h hq hs)
  have HPG := Lib.hid hq.1
  have HLF := Lib.hid hp.1
  have HTE := Lib.hid hT
  have HJ := Lib.hid hJ
  have HXS := Lib.hid hxs
  unfold pageV at HLD
  rw [HLF.out] at HLD
  have hso : Sorted M := hp.2.2.2.2.1
  have hkm : q.keys = M.map (·.1) := hp.2.2.1
  have hvm : q.vals = M.map (·.2) := hp.2.2.2.1
  rw [from_drop f hso] at hxs ⊢
  have hkf : kFind q.keys f = rFind M f := by rw [hkm]; exact kFind_map M f
  have hml : q.keys.length = M.length := by rw [hkm]; simp
  have hvl : q.vals.length = M.length := by rw [hvm]; simp
  have hir := kFind_le q.keys f
  have HKM := Lib.hid hkm
  have HVM := Lib.hid hvm
  have HML := Lib.hid hml
  have HVL := Lib.hid hvl
  replace HXS := Lib.hid hxs
  have hkf2 := hkf.symm
  rw [hkf2] at HXS ⊢
  clear hkf2
  clear h hq hp hT hJ hxs hs hkm hvm hml hvl hso
  generalize hkg : kFind q.keys f = i0 at *
  have HKG := Lib.hid hkg
  clear hkf hkg
  go_enter Try.func166, Try.ntmps166
  go_wp2_with fail
  refine HLD.out.mono ?_
  rintro e W2 ⟨kv, vv, cv, rfl, ho2, hm2⟩
  obtain ⟨⟨a1, c1, rfl⟩, ⟨a2, c2, rfl⟩, a3, c3, rfl⟩ := ho2.shapes
  obtain ⟨W3, hW3⟩ : ∃ W3, W2.alloc (.cells #[.bool true, .slice a1 q.keys.length c1, .slice a2 q.vals.length c2, .slice a3 q.kids.length c3] 195) = W3 := ⟨_, rfl⟩
  have hm3 : Mod NoB W2 W3 := by rw [← hW3]; exact (Mod.refl _ _).alloc _
  have hP3 : W3.heap[W2.heap.size]? = some (.cells #[.bool true, .slice a1 q.keys.length c1, .slice a2 q.vals.length c2, .slice a3 q.kids.length c3] 195 (0, 0)) := by rw [← hW3]; exact heap_alloc_new _ _
  have HM3 := Lib.hid (hm2.trans hm3 (fun _ _ h => h))
  have HSZ2 := Lib.hid hm2.size
  have HO3 := Lib.hid (ho2.mod hm3)
  obtain ⟨pb, p0, p1, p2, p3, pf⟩ := Page4.facts hP3
  have HP3 := Lib.hid hP3
  have hfc := Find_calls q _ _ _ f W3 HO3.out.in1 HPG.out
  unfold pageV at hfc
  rw [HLF.out, HKG.out] at hfc
  generalize kIs q.keys f = bs at hfc
  have HFC := Lib.hid hfc
  clear hm2 ho2 hm3 hP3 HLD hfc
  go_wp2_with fail
  clear hW3
  refine HFC.out.mono ?_
  rintro e W4 ⟨rfl, hm4⟩
  have HP4 := Lib.hid ((hm4.block _ pb id).trans HP3.out)
  have HO4 := Lib.hid (HO3.out.mod hm4)
  have HM4 := Lib.hid (HM3.out.trans hm4 (fun _ _ h => h))
  have hsz := HM3.out.size
  have hsz4 := hm4.size
  clear p0 p1 p2 p3 pf hm4 HFC HM3 HO3 HP3
  have hbP : b0 ≤ W2.heap.size := Nat.le_trans hbW HSZ2.out
  generalize W2.heap.size = P at *
  have hk100 : q.keys.length ≤ 100 := by omega
  go_wp2_with fail
  go_loopw [11] (fun i wr => ∃ j : Nat, i0 ≤ j ∧ j ≤ q.keys.length ∧ i = .int .i64 j ∧ Hid (J (pre ++ (M.take j).drop i0) wr) ∧ Hid (Mod Bd W4 wr)) (fun i _ => q.keys.length - (intOf i).toNat)
  case atStart =>
    refine ⟨i0, Nat.le_refl _, hir, rfl, ?_, Mod.refl _ _⟩
    have := HTE.out.quiet _ _ _ HJ.out HM4.out
    rw [List.drop_eq_nil_of_le (by rw [List.length_take]; omega), List.append_nil]
    exact this
  case round =>
    obtain ⟨j, hij, hj, rfl, HJ1, HMR⟩ := hrel
    have hsr := HMR.out.size
    have hPr := (HMR.out.block P (lt_heap HP4.out) (fun e => by have := (HTE.out.below P e).1; omega)).trans HP4.out
    obtain ⟨pb, p0, p1, p2, p3, pf⟩ := Page4.facts hPr
    clear hPr
    by_cases hlt : j < q.keys.length
    · have hjM : j < M.length := by have := HML.out; omega
      have hks : q.keys[j]? = some M[j].1 := by rw [HKM.out, List.getElem?_map, List.getElem?_eq_getElem hjM]; rfl
      have hvs : q.vals[j]? = some M[j].2 := by rw [HVM.out, List.getElem?_map, List.getElem?_eq_getElem hjM]; rfl
      have hok := own_of_mod HO4.out.k HMR.out (fun r hr e => by have := (HTE.out.below r e).1; have := (HO4.out.k.lt r hr).1; omega)
      have hov := own_of_mod HO4.out.v HMR.out (fun r hr e => by have := (HTE.out.below r e).1; have := (HO4.out.v.lt r hr).1; omega)
      have hvlt : j < q.vals.length := by rw [HVL.out]; exact hjM
      obtain ⟨_, _, e2, _, _, _, hg⟩ := own_shape hok
      cases e2
      obtain ⟨kg, rfl⟩ := hg (by omega)
      clear hg
      obtain ⟨_, _, e2, _, _, _, hg⟩ := own_shape hov
      cases e2
      obtain ⟨vg, rfl⟩ := hg (by omega)
      clear hg
      obtain ⟨c0, _, cb⟩ := row_atS hok hks rfl
      obtain ⟨d0, _, db⟩ := row_atS hov hvs rfl
      have hstep := drop_step hij hjM
      obtain ⟨post, hxs⟩ := HXS.out
      have hxs2 : xs = (pre ++ (M.take j).drop i0) ++ M[j] :: (M.drop (j + 1) ++ post) := by
        rw [hxs]
        have : M.drop i0 = (M.take j).drop i0 ++ M[j] :: M.drop (j + 1) := by
          have h1 : M = M.take j ++ M.drop j := (List.take_append_drop j M).symm
          conv => lhs; rw [h1]
          rw [List.drop_append_of_le_length (by rw [List.length_take]; omega), List.drop_eq_getElem_cons hjM]
        rw [this]
        simp only [List.append_assoc, List.cons_append]
      obtain ⟨fn, tmps, assign, body, hy, hR⟩ := HTE.out.yields _ M[j] ⟨_, hxs2⟩ wr.drew (HTE.out.quiet _ _ _ HJ1.out (Mod.drew (Mod.refl _ _)))
      have HR := Lib.hid hR
      have HST := Lib.hid hstep
      clear hR hxs2 hxs hks hvs hok hov hstep
      generalize M[j] = x at *
      go_upto_region 8 with fail
      refine (wpIn_wide (n := 5)).1 ?_
      refine wpIn_region_any (by kernel_rfl) ?_
      refine wpAnyIn_take (i := 0) (v := ?_) rfl rfl (by kernel_rfl) (by kernel_rfl) (by kernel_rfl) (fun _ _ _ h => h) ⟨Or.inl ⟨by rfl, ?_⟩, fun _ => rfl⟩ ?_
      rotate_left
      · (intro wS; simp only [List.getElem_toArray, List.getElem_cons_zero]; go_simp; try with_reducible rfl)
      simp only [Act.put, List.getElem_toArray, List.getElem_cons_zero, List.setIfInBounds_toArray, List.set_cons_zero, List.set_cons_succ]
      refine wpAnyIn_take (i := 1) (v := ?_) rfl rfl (by kernel_rfl) (by kernel_rfl) (by kernel_rfl) (fun _ _ _ h => h) ⟨Or.inl ⟨by rfl, ?_⟩, fun _ => rfl⟩ ?_
      rotate_left
      · (intro wS; simp only [List.getElem_toArray, List.getElem_cons_succ, List.getElem_cons_zero]; go_simp; try with_reducible rfl)
      simp only [Act.put, List.getElem_toArray, List.getElem_cons_succ, List.getElem_cons_zero, List.setIfInBounds_toArray, List.set_cons_zero, List.set_cons_succ]
      refine wpAnyIn_take (i := 3) (v := ?_) rfl rfl (by kernel_rfl) (by kernel_rfl) (by kernel_rfl) (fun _ _ _ h => h) ⟨Or.inl ⟨by rfl, ?_⟩, fun _ => rfl⟩ ?_
      rotate_left
      · (intro wS; simp only [List.getElem_toArray, List.getElem_cons_succ, List.getElem_cons_zero]; go_simp; try with_reducible rfl)
      simp only [Act.put, List.getElem_toArray, List.getElem_cons_succ, List.getElem_cons_zero, List.setIfInBounds_toArray, List.set_cons_zero, List.set_cons_succ]
      refine wpAnyIn_take (i := 6) (v := ?_) rfl rfl (by kernel_rfl) (by kernel_rfl) (by kernel_rfl) (fun _ _ _ h => h) ⟨Or.inl ⟨by rfl, ?_⟩, fun _ => rfl⟩ ?_
      rotate_left
      · (intro wS; simp only [List.getElem_toArray, List.getElem_cons_succ, List.getElem_cons_zero]; go_simp; try with_reducible rfl)
      simp only [Act.put, List.getElem_toArray, List.getElem_cons_succ, List.getElem_cons_zero, List.setIfInBounds_toArray, List.set_cons_zero, List.set_cons_succ]
      refine wpAnyIn_take (i := 8) (v := ?_) rfl rfl (by kernel_rfl) (by kernel_rfl) (by kernel_rfl) (fun _ _ _ h => h) ⟨Or.inl ⟨by rfl, ?_⟩, fun _ => rfl⟩ ?_
      rotate_left
      · (intro wS; simp only [List.getElem_toArray, List.getElem_cons_succ, List.getElem_cons_zero]; go_simp; try with_reducible rfl)
      simp only [Act.put, List.getElem_toArray, List.getElem_cons_succ, List.getElem_cons_zero, List.setIfInBounds_toArray, List.set_cons_zero, List.set_cons_succ]
      refine wpAnyIn_all (rs := [2, 7]) (by kernel_rfl) (by simp) (List.forall_mem_cons.2 ⟨wpOpIn_step rfl ?_, List.forall_mem_cons.2 ⟨wpOpIn_step rfl ?_, List.forall_mem_nil _⟩⟩)
      · intro K hK
        dsimp only [List.getElem_toArray, List.getElem_cons_succ, List.getElem_cons_zero]
        rw [if_pos (by rfl)]
        refine ⟨fun _ _ => trivial, ?_⟩
        simp only [Fence.wide_round, Oper.semAt_none]
        go_simp
        refine hK _ _ ?_
        clear hK K
        (try simp only [Act.put, List.setIfInBounds_toArray, List.set_cons_zero, List.set_cons_succ])
        refine wpAnyIn_take (i := 4) (v := ?_) rfl rfl (by kernel_rfl) (by kernel_rfl) (by kernel_rfl) (fun _ _ _ h => h) ⟨Or.inl ⟨by rfl, ?_⟩, fun _ => rfl⟩ ?_
        rotate_left
        · (intro wS; simp only [List.getElem_toArray, List.getElem_cons_succ, List.getElem_cons_zero]; go_simp; try with_reducible rfl)
        simp only [Act.put, List.getElem_toArray, List.getElem_cons_succ, List.getElem_cons_zero, List.setIfInBounds_toArray, List.set_cons_zero, List.set_cons_succ]
        refine wpAnyIn_all (rs := [5, 7]) (by kernel_rfl) (by simp) (List.forall_mem_cons.2 ⟨wpOpIn_step rfl ?_, List.forall_mem_cons.2 ⟨wpOpIn_step rfl ?_, List.forall_mem_nil _⟩⟩)
        · intro K hK
          dsimp only [List.getElem_toArray, List.getElem_cons_succ, List.getElem_cons_zero]
          rw [if_pos (by rfl)]
          refine ⟨fun _ _ => trivial, ?_⟩
          simp only [Fence.wide_round, Oper.semAt_none]
          go_simp
          refine hK _ _ ?_
          clear hK K
          (try simp only [Act.put, List.setIfInBounds_toArray, List.set_cons_zero, List.set_cons_succ])
          refine wpAnyIn_all (rs := [7]) (by kernel_rfl) (by simp) (List.forall_mem_cons.2 ⟨wpOpIn_step rfl ?_, List.forall_mem_nil _⟩)
          intro K hK
          dsimp only [List.getElem_toArray, List.getElem_cons_succ, List.getElem_cons_zero]
          rw [if_pos (by rfl)]
          refine ⟨fun _ _ => trivial, ?_⟩
          simp only [Fence.wide_round, Oper.semAt_none]
          go_simp
          refine hK _ _ ?_
          clear hK K
          (try simp only [Act.put, List.setIfInBounds_toArray, List.set_cons_zero, List.set_cons_succ])
          refine wpAnyIn_take (i := 9) (v := ?_) rfl rfl (by kernel_rfl) (by kernel_rfl) (by kernel_rfl) (fun _ _ _ h => h) ⟨Or.inl ⟨by rfl, ?_⟩, fun _ => rfl⟩ ?_
          rotate_left
          · (intro wS; simp only [List.getElem_toArray, List.getElem_cons_succ, List.getElem_cons_zero]; go_simp; try with_reducible rfl)
          simp only [Act.put, List.getElem_toArray, List.getElem_cons_succ, List.getElem_cons_zero, List.setIfInBounds_toArray, List.set_cons_zero, List.set_cons_succ]
          refine wpAnyIn_all (rs := [10]) (by kernel_rfl) (by simp) (List.forall_mem_cons.2 ⟨wpOpIn_step rfl ?_, List.forall_mem_nil _⟩)
          intro K hK
          dsimp only [List.getElem_toArray, List.getElem_cons_succ, List.getElem_cons_zero]
          rw [if_pos (by rfl)]
          refine ⟨fun _ _ => trivial, ?_⟩
          simp only [Fence.wide_round, Oper.semAt_none]
          go_simp
          refine hK _ _ ?_
          clear hK K
          (try simp only [Act.put, List.setIfInBounds_toArray, List.set_cons_zero, List.set_cons_succ])
          refine wpAnyIn_all (rs := [11]) (by kernel_rfl) (by simp) (List.forall_mem_cons.2 ⟨wpOpIn_step rfl ?_, List.forall_mem_nil _⟩)
          intro K hK
          dsimp only [List.getElem_toArray, List.getElem_cons_succ, List.getElem_cons_zero]
          rw [if_pos (by rfl)]
          refine ⟨fun _ _ => trivial, ?_⟩
          simp only [Fence.wide_round, Oper.semAt_none]
          go_simp
          refine HR.out.mono ?_
          rintro e W5 ⟨rfl, hJ5, hm5⟩
          have HJ5 := Lib.hid hJ5
          have HM5 := Lib.hid ((HMR.out.trans (show Mod Bd wr wr.drew from Mod.drew (Mod.refl _ _)) (fun _ _ h => h)).trans hm5 (fun _ _ h => h))
          rw [List.append_assoc, ← HST.out] at HJ5
          clear hJ5 hm5
          refine hK _ _ ?_
          clear hK K
          (try simp only [Act.put, List.setIfInBounds_toArray, List.set_cons_zero, List.set_cons_succ])
          refine wpAnyIn_take (i := 12) (v := ?_) rfl rfl (by kernel_rfl) (by kernel_rfl) (by kernel_rfl) (fun _ _ _ h => h) ⟨Or.inl ⟨by rfl, ?_⟩, fun _ => rfl⟩ ?_
          rotate_left
          · (intro wS; simp only [List.getElem_toArray, List.getElem_cons_succ, List.getElem_cons_zero]; go_simp; try with_reducible rfl)
          simp only [Act.put, List.getElem_toArray, List.getElem_cons_succ, List.getElem_cons_zero, List.setIfInBounds_toArray, List.set_cons_zero, List.set_cons_succ]
          refine wpAnyIn_done (by kernel_rfl) ?_ _
          go_wp2_with fail
          go_roundw
          case rel => exact ⟨j + 1, by omega, by omega, by go_num, HJ5, HM5⟩
          case measure => simp [intOf]; omega
        · intro K hK
          dsimp only [List.getElem_toArray, List.getElem_cons_succ, List.getElem_cons_zero]
          rw [if_pos (by rfl)]
          refine ⟨fun _ _ => trivial, ?_⟩
          simp only [Fence.wide_round, Oper.semAt_none]
          go_simp
          refine hK _ _ ?_
          clear hK K
          (try simp only [Act.put, List.setIfInBounds_toArray, List.set_cons_zero, List.set_cons_succ])
          refine wpAnyIn_take (i := 9) (v := ?_) rfl rfl (by kernel_rfl) (by kernel_rfl) (by kernel_rfl) (fun _ _ _ h => h) ⟨Or.inl ⟨by rfl, ?_⟩, fun _ => rfl⟩ ?_
          rotate_left
          · (intro wS; simp only [List.getElem_toArray, List.getElem_cons_succ, List.getElem_cons_zero]; go_simp; try with_reducible rfl)
          simp only [Act.put, List.getElem_toArray, List.getElem_cons_succ, List.getElem_cons_zero, List.setIfInBounds_toArray, List.set_cons_zero, List.set_cons_succ]
          refine wpAnyIn_all (rs := [5, 10]) (by kernel_rfl) (by simp) (List.forall_mem_cons.2 ⟨wpOpIn_step rfl ?_, List.forall_mem_cons.2 ⟨wpOpIn_step rfl ?_, List.forall_mem_nil _⟩⟩)
          · intro K hK
            dsimp only [List.getElem_toArray, List.getElem_cons_succ, List.getElem_cons_zero]
            rw [if_pos (by rfl)]
            refine ⟨fun _ _ => trivial, ?_⟩
            simp only [Fence.wide_round, Oper.semAt_none]
            go_simp
            refine hK _ _ ?_
            clear hK K
            (try simp only [Act.put, List.setIfInBounds_toArray, List.set_cons_zero, List.set_cons_succ])
            refine wpAnyIn_all (rs := [10]) (by kernel_rfl) (by simp) (List.forall_mem_cons.2 ⟨wpOpIn_step rfl ?_, List.forall_mem_nil _⟩)
            intro K hK
            dsimp only [List.getElem_toArray, List.getElem_cons_succ, List.getElem_cons_zero]
            rw [if_pos (by rfl)]
            refine ⟨fun _ _ => trivial, ?_⟩
            simp only [Fence.wide_round, Oper.semAt_none]
            go_simp
            refine hK _ _ ?_
            clear hK K
            (try simp only [Act.put, List.setIfInBounds_toArray, List.set_cons_zero, List.set_cons_succ])
            refine wpAnyIn_all (rs := [11]) (by kernel_rfl) (by simp) (List.forall_mem_cons.2 ⟨wpOpIn_step rfl ?_, List.forall_mem_nil _⟩)
            intro K hK
            dsimp only [List.getElem_toArray, List.getElem_cons_succ, List.getElem_cons_zero]
            rw [if_pos (by rfl)]
            refine ⟨fun _ _ => trivial, ?_⟩
            simp only [Fence.wide_round, Oper.semAt_none]
            go_simp
            refine HR.out.mono ?_
            rintro e W5 ⟨rfl, hJ5, hm5⟩
            have HJ5 := Lib.hid hJ5
            have HM5 := Lib.hid ((HMR.out.trans (show Mod Bd wr wr.drew from Mod.drew (Mod.refl _ _)) (fun _ _ h => h)).trans hm5 (fun _ _ h => h))
            rw [List.append_assoc, ← HST.out] at HJ5
            clear hJ5 hm5
            refine hK _ _ ?_
            clear hK K
            (try simp only [Act.put, List.setIfInBounds_toArray, List.set_cons_zero, List.set_cons_succ])
            refine wpAnyIn_take (i := 12) (v := ?_) rfl rfl (by kernel_rfl) (by kernel_rfl) (by kernel_rfl) (fun _ _ _ h => h) ⟨Or.inl ⟨by rfl, ?_⟩, fun _ => rfl⟩ ?_
            rotate_left
            · (intro wS; simp only [List.getElem_toArray, List.getElem_cons_succ, List.getElem_cons_zero]; go_simp; try with_reducible rfl)
            simp only [Act.put, List.getElem_toArray, List.getElem_cons_succ, List.getElem_cons_zero, List.setIfInBounds_toArray, List.set_cons_zero, List.set_cons_succ]
            refine wpAnyIn_done (by kernel_rfl) ?_ _
            go_wp2_with fail
            go_roundw
            case rel => exact ⟨j + 1, by omega, by omega, by go_num, HJ5, HM5⟩
            case measure => simp [intOf]; omega
          · intro K hK
            dsimp only [List.getElem_toArray, List.getElem_cons_succ, List.getElem_cons_zero]
            rw [if_pos (by rfl)]
            refine ⟨fun _ _ => trivial, ?_⟩
            simp only [Fence.wide_round, Oper.semAt_none]
            go_simp
            refine hK _ _ ?_
            clear hK K
            (try simp only [Act.put, List.setIfInBounds_toArray, List.set_cons_zero, List.set_cons_succ])
            refine wpAnyIn_all (rs := [5]) (by kernel_rfl) (by simp) (List.forall_mem_cons.2 ⟨wpOpIn_step rfl ?_, List.forall_mem_nil _⟩)
            intro K hK
            dsimp only [List.getElem_toArray, List.getElem_cons_succ, List.getElem_cons_zero]
            rw [if_pos (by rfl)]
            refine ⟨fun _ _ => trivial, ?_⟩
            simp only [Fence.wide_round, Oper.semAt_none]
            go_simp
            refine hK _ _ ?_
            clear hK K
            (try simp only [Act.put, List.setIfInBounds_toArray, List.set_cons_zero, List.set_cons_succ])
            refine wpAnyIn_all (rs := [11]) (by kernel_rfl) (by simp) (List.forall_mem_cons.2 ⟨wpOpIn_step rfl ?_, List.forall_mem_nil _⟩)
            intro K hK
            dsimp only [List.getElem_toArray, List.getElem_cons_succ, List.getElem_cons_zero]
            rw [if_pos (by rfl)]
            refine ⟨fun _ _ => trivial, ?_⟩
            simp only [Fence.wide_round, Oper.semAt_none]
            go_simp
            refine HR.out.mono ?_
            rintro e W5 ⟨rfl, hJ5, hm5⟩
            have HJ5 := Lib.hid hJ5
            have HM5 := Lib.hid ((HMR.out.trans (show Mod Bd wr wr.drew from Mod.drew (Mod.refl _ _)) (fun _ _ h => h)).trans hm5 (fun _ _ h => h))
            rw [List.append_assoc, ← HST.out] at HJ5
            clear hJ5 hm5
            refine hK _ _ ?_
            clear hK K
            (try simp only [Act.put, List.setIfInBounds_toArray, List.set_cons_zero, List.set_cons_succ])
            refine wpAnyIn_take (i := 12) (v := ?_) rfl rfl (by kernel_rfl) (by kernel_rfl) (by kernel_rfl) (fun _ _ _ h => h) ⟨Or.inl ⟨by rfl, ?_⟩, fun _ => rfl⟩ ?_
            rotate_left
            · (intro wS; simp only [List.getElem_toArray, List.getElem_cons_succ, List.getElem_cons_zero]; go_simp; try with_reducible rfl)
            simp only [Act.put, List.getElem_toArray, List.getElem_cons_succ, List.getElem_cons_zero, List.setIfInBounds_toArray, List.set_cons_zero, List.set_cons_succ]
            refine wpAnyIn_done (by kernel_rfl) ?_ _
            go_wp2_with fail
            go_roundw
            case rel => exact ⟨j + 1, by omega, by omega, by go_num, HJ5, HM5⟩
            case measure => simp [intOf]; omega
      · intro K hK
        dsimp only [List.getElem_toArray, List.getElem_cons_succ, List.getElem_cons_zero]
        rw [if_pos (by rfl)]
        refine ⟨fun _ _ => trivial, ?_⟩
        simp only [Fence.wide_round, Oper.semAt_none]
        go_simp
        refine hK _ _ ?_
        clear hK K
        (try simp only [Act.put, List.setIfInBounds_toArray, List.set_cons_zero, List.set_cons_succ])
        refine wpAnyIn_take (i := 9) (v := ?_) rfl rfl (by kernel_rfl) (by kernel_rfl) (by kernel_rfl) (fun _ _ _ h => h) ⟨Or.inl ⟨by rfl, ?_⟩, fun _ => rfl⟩ ?_
        rotate_left
        · (intro wS; simp only [List.getElem_toArray, List.getElem_cons_succ, List.getElem_cons_zero]; go_simp; try with_reducible rfl)
        simp only [Act.put, List.getElem_toArray, List.getElem_cons_succ, List.getElem_cons_zero, List.setIfInBounds_toArray, List.set_cons_zero, List.set_cons_succ]
        refine wpAnyIn_all (rs := [2, 10]) (by kernel_rfl) (by simp) (List.forall_mem_cons.2 ⟨wpOpIn_step rfl ?_, List.forall_mem_cons.2 ⟨wpOpIn_step rfl ?_, List.forall_mem_nil _⟩⟩)
        · intro K hK
          dsimp only [List.getElem_toArray, List.getElem_cons_succ, List.getElem_cons_zero]
          rw [if_pos (by rfl)]
          refine ⟨fun _ _ => trivial, ?_⟩
          simp only [Fence.wide_round, Oper.semAt_none]
          go_simp
          refine hK _ _ ?_
          clear hK K
          (try simp only [Act.put, List.setIfInBounds_toArray, List.set_cons_zero, List.set_cons_succ])
          refine wpAnyIn_take (i := 4) (v := ?_) rfl rfl (by kernel_rfl) (by kernel_rfl) (by kernel_rfl) (fun _ _ _ h => h) ⟨Or.inl ⟨by rfl, ?_⟩, fun _ => rfl⟩ ?_
          rotate_left
          · (intro wS; simp only [List.getElem_toArray, List.getElem_cons_succ, List.getElem_cons_zero]; go_simp; try with_reducible rfl)
          simp only [Act.put, List.getElem_toArray, List.getElem_cons_succ, List.getElem_cons_zero, List.setIfInBounds_toArray, List.set_cons_zero, List.set_cons_succ]
          refine wpAnyIn_all (rs := [5, 10]) (by kernel_rfl) (by simp) (List.forall_mem_cons.2 ⟨wpOpIn_step rfl ?_, List.forall_mem_cons.2 ⟨wpOpIn_step rfl ?_, List.forall_mem_nil _⟩⟩)
          · intro K hK
            dsimp only [List.getElem_toArray, List.getElem_cons_succ, List.getElem_cons_zero]
            rw [if_pos (by rfl)]
            refine ⟨fun _ _ => trivial, ?_⟩
            simp only [Fence.wide_round, Oper.semAt_none]
            go_simp
            refine hK _ _ ?_
            clear hK K
            (try simp only [Act.put, List.setIfInBounds_toArray, List.set_cons_zero, List.set_cons_succ])
            refine wpAnyIn_all (rs := [10]) (by kernel_rfl) (by simp) (List.forall_mem_cons.2 ⟨wpOpIn_step rfl ?_, List.forall_mem_nil _⟩)
            intro K hK
            dsimp only [List.getElem_toArray, List.getElem_cons_succ, List.getElem_cons_zero]
            rw [if_pos (by rfl)]
            refine ⟨fun _ _ => trivial, ?_⟩
            simp only [Fence.wide_round, Oper.semAt_none]
            go_simp
            refine hK _ _ ?_
            clear hK K
            (try simp only [Act.put, List.setIfInBounds_toArray, List.set_cons_zero, List.set_cons_succ])
            refine wpAnyIn_all (rs := [11]) (by kernel_rfl) (by simp) (List.forall_mem_cons.2 ⟨wpOpIn_step rfl ?_, List.forall_mem_nil _⟩)
            intro K hK
            dsimp only [List.getElem_toArray, List.getElem_cons_succ, List.getElem_cons_zero]
            rw [if_pos (by rfl)]
            refine ⟨fun _ _ => trivial, ?_⟩
            simp only [Fence.wide_round, Oper.semAt_none]
            go_simp
            refine HR.out.mono ?_
            rintro e W5 ⟨rfl, hJ5, hm5⟩
            have HJ5 := Lib.hid hJ5
            have HM5 := Lib.hid ((HMR.out.trans (show Mod Bd wr wr.drew from Mod.drew (Mod.refl _ _)) (fun _ _ h => h)).trans hm5 (fun _ _ h => h))
            rw [List.append_assoc, ← HST.out] at HJ5
            clear hJ5 hm5
            refine hK _ _ ?_
            clear hK K
            (try simp only [Act.put, List.setIfInBounds_toArray, List.set_cons_zero, List.set_cons_succ])
            refine wpAnyIn_take (i := 12) (v := ?_) rfl rfl (by kernel_rfl) (by kernel_rfl) (by kernel_rfl) (fun _ _ _ h => h) ⟨Or.inl ⟨by rfl, ?_⟩, fun _ => rfl⟩ ?_
            rotate_left
            · (intro wS; simp only [List.getElem_toArray, List.getElem_cons_succ, List.getElem_cons_zero]; go_simp; try with_reducible rfl)
            simp only [Act.put, List.getElem_toArray, List.getElem_cons_succ, List.getElem_cons_zero, List.setIfInBounds_toArray, List.set_cons_zero, List.set_cons_succ]
            refine wpAnyIn_done (by kernel_rfl) ?_ _
            go_wp2_with fail
            go_roundw
            case rel => exact ⟨j + 1, by omega, by omega, by go_num, HJ5, HM5⟩
            case measure => simp [intOf]; omega
          · intro K hK
            dsimp only [List.getElem_toArray, List.getElem_cons_succ, List.getElem_cons_zero]
            rw [if_pos (by rfl)]
            refine ⟨fun _ _ => trivial, ?_⟩
            simp only [Fence.wide_round, Oper.semAt_none]
            go_simp
            refine hK _ _ ?_
            clear hK K
            (try simp only [Act.put, List.setIfInBounds_toArray, List.set_cons_zero, List.set_cons_succ])
            refine wpAnyIn_all (rs := [5]) (by kernel_rfl) (by simp) (List.forall_mem_cons.2 ⟨wpOpIn_step rfl ?_, List.forall_mem_nil _⟩)
            intro K hK
            dsimp only [List.getElem_toArray, List.getElem_cons_succ, List.getElem_cons_zero]
            rw [if_pos (by rfl)]
            refine ⟨fun _ _ => trivial, ?_⟩
            simp only [Fence.wide_round, Oper.semAt_none]
            go_simp
            refine hK _ _ ?_
            clear hK K
            (try simp only [Act.put, List.setIfInBounds_toArray, List.set_cons_zero, List.set_cons_succ])
            refine wpAnyIn_all (rs := [11]) (by kernel_rfl) (by simp) (List.forall_mem_cons.2 ⟨wpOpIn_step rfl ?_, List.forall_mem_nil _⟩)
            intro K hK
            dsimp only [List.getElem_toArray, List.getElem_cons_succ, List.getElem_cons_zero]
            rw [if_pos (by rfl)]
            refine ⟨fun _ _ => trivial, ?_⟩
            simp only [Fence.wide_round, Oper.semAt_none]
            go_simp
            refine HR.out.mono ?_
            rintro e W5 ⟨rfl, hJ5, hm5⟩
            have HJ5 := Lib.hid hJ5
            have HM5 := Lib.hid ((HMR.out.trans (show Mod Bd wr wr.drew from Mod.drew (Mod.refl _ _)) (fun _ _ h => h)).trans hm5 (fun _ _ h => h))
            rw [List.append_assoc, ← HST.out] at HJ5
            clear hJ5 hm5
            refine hK _ _ ?_
            clear hK K
            (try simp only [Act.put, List.setIfInBounds_toArray, List.set_cons_zero, List.set_cons_succ])
            refine wpAnyIn_take (i := 12) (v := ?_) rfl rfl (by kernel_rfl) (by kernel_rfl) (by kernel_rfl) (fun _ _ _ h => h) ⟨Or.inl ⟨by rfl, ?_⟩, fun _ => rfl⟩ ?_
            rotate_left
            · (intro wS; simp only [List.getElem_toArray, List.getElem_cons_succ, List.getElem_cons_zero]; go_simp; try with_reducible rfl)
            simp only [Act.put, List.getElem_toArray, List.getElem_cons_succ, List.getElem_cons_zero, List.setIfInBounds_toArray, List.set_cons_zero, List.set_cons_succ]
            refine wpAnyIn_done (by kernel_rfl) ?_ _
            go_wp2_with fail
            go_roundw
            case rel => exact ⟨j + 1, by omega, by omega, by go_num, HJ5, HM5⟩
            case measure => simp [intOf]; omega
        · intro K hK
          dsimp only [List.getElem_toArray, List.getElem_cons_succ, List.getElem_cons_zero]
          rw [if_pos (by rfl)]
          refine ⟨fun _ _ => trivial, ?_⟩
          simp only [Fence.wide_round, Oper.semAt_none]
          go_simp
          refine hK _ _ ?_
          clear hK K
          (try simp only [Act.put, List.setIfInBounds_toArray, List.set_cons_zero, List.set_cons_succ])
          refine wpAnyIn_all (rs := [2]) (by kernel_rfl) (by simp) (List.forall_mem_cons.2 ⟨wpOpIn_step rfl ?_, List.forall_mem_nil _⟩)
          intro K hK
          dsimp only [List.getElem_toArray, List.getElem_cons_succ, List.getElem_cons_zero]
          rw [if_pos (by rfl)]
          refine ⟨fun _ _ => trivial, ?_⟩
          simp only [Fence.wide_round, Oper.semAt_none]
          go_simp
          refine hK _ _ ?_
          clear hK K
          (try simp only [Act.put, List.setIfInBounds_toArray, List.set_cons_zero, List.set_cons_succ])
          refine wpAnyIn_take (i := 4) (v := ?_) rfl rfl (by kernel_rfl) (by kernel_rfl) (by kernel_rfl) (fun _ _ _ h => h) ⟨Or.inl ⟨by rfl, ?_⟩, fun _ => rfl⟩ ?_
          rotate_left
          · (intro wS; simp only [List.getElem_toArray, List.getElem_cons_succ, List.getElem_cons_zero]; go_simp; try with_reducible rfl)
          simp only [Act.put, List.getElem_toArray, List.getElem_cons_succ, List.getElem_cons_zero, List.setIfInBounds_toArray, List.set_cons_zero, List.set_cons_succ]
          refine wpAnyIn_all (rs := [5]) (by kernel_rfl) (by simp) (List.forall_mem_cons.2 ⟨wpOpIn_step rfl ?_, List.forall_mem_nil _⟩)
          intro K hK
          dsimp only [List.getElem_toArray, List.getElem_cons_succ, List.getElem_cons_zero]
          rw [if_pos (by rfl)]
          refine ⟨fun _ _ => trivial, ?_⟩
          simp only [Fence.wide_round, Oper.semAt_none]
          go_simp
          refine hK _ _ ?_
          clear hK K
          (try simp only [Act.put, List.setIfInBounds_toArray, List.set_cons_zero, List.set_cons_succ])
          refine wpAnyIn_all (rs := [11]) (by kernel_rfl) (by simp) (List.forall_mem_cons.2 ⟨wpOpIn_step rfl ?_, List.forall_mem_nil _⟩)
          intro K hK
          dsimp only [List.getElem_toArray, List.getElem_cons_succ, List.getElem_cons_zero]
          rw [if_pos (by rfl)]
          refine ⟨fun _ _ => trivial, ?_⟩
          simp only [Fence.wide_round, Oper.semAt_none]
          go_simp
          refine HR.out.mono ?_
          rintro e W5 ⟨rfl, hJ5, hm5⟩
          have HJ5 := Lib.hid hJ5
          have HM5 := Lib.hid ((HMR.out.trans (show Mod Bd wr wr.drew from Mod.drew (Mod.refl _ _)) (fun _ _ h => h)).trans hm5 (fun _ _ h => h))
          rw [List.append_assoc, ← HST.out] at HJ5
          clear hJ5 hm5
          refine hK _ _ ?_
          clear hK K
          (try simp only [Act.put, List.setIfInBounds_toArray, List.set_cons_zero, List.set_cons_succ])
          refine wpAnyIn_take (i := 12) (v := ?_) rfl rfl (by kernel_rfl) (by kernel_rfl) (by kernel_rfl) (fun _ _ _ h => h) ⟨Or.inl ⟨by rfl, ?_⟩, fun _ => rfl⟩ ?_
          rotate_left
          · (intro wS; simp only [List.getElem_toArray, List.getElem_cons_succ, List.getElem_cons_zero]; go_simp; try with_reducible rfl)
          simp only [Act.put, List.getElem_toArray, List.getElem_cons_succ, List.getElem_cons_zero, List.setIfInBounds_toArray, List.set_cons_zero, List.set_cons_succ]
          refine wpAnyIn_done (by kernel_rfl) ?_ _
          go_wp2_with fail
          go_roundw
          case rel => exact ⟨j + 1, by omega, by omega, by go_num, HJ5, HM5⟩
          case measure => simp [intOf]; omega
    · have hje : j = q.keys.length := by omega
      have hjM : j = M.length := by have := HML.out; omega
      have HJ2 := HJ1
      rw [hjM, List.take_length] at HJ2
      clear HJ1
      go_wp2_with fail
      refine bodyPost_ret (v := .bool true) (by simp [results, Try.f166, go_sem]) rfl ⟨rfl, HJ2.out, ?_⟩
      exact (HM4.out.mono (noB_sub _ _)).trans HMR.out (fun _ _ h => h)
theorem kr_parts {R : Nat → Str → Option Str → Files → Prop} (hR : Bounded R) : ∀ {ks : List Str} {kids : List Nat} {lo : Str} {hi : Option Str} {M : Files}, KidsRep R ks kids lo hi M → ∃ Ms : List Files, Ms.length = kids.length ∧ M = Ms.flatten ∧ (∀ i (h1 : i < kids.length) (h2 : i < Ms.length), ∃ lo' hi', R kids[i] lo' hi' Ms[i]) ∧ ∀ i (h1 : i < ks.length) (h2 : i < Ms.length), ∀ y ∈ Ms[i], bb y.1 ks[i] = true
  | [], [k], lo, hi, M, h => ⟨[M], rfl, by simp, fun i h1 h2 => by
      simp only [List.length_singleton] at h1
      obtain rfl : i = 0 := by omega
      exact ⟨lo, hi, h⟩, fun i h1 => by simp at h1⟩
  | [], [], _, _, _, h => h.elim
  | [], _ :: _ :: _, _, _, _, h => h.elim
  | _ :: _, [], _, _, _, h => h.elim
  | s :: ks, k :: kids, lo, hi, M, h => by
    obtain ⟨M1, M2, rfl, h2, h3, h4, h5⟩ := h
    obtain ⟨Ms, g1, g2, g3, g4⟩ := kr_parts hR h5
    refine ⟨M1 :: Ms, by simp [g1], by simp [g2], fun i hi1 hi2 => ?_, fun i hi1 hi2 y hy => ?_⟩
    · cases i with
      | zero => exact ⟨lo, some s, h4⟩
      | succ i => exact g3 i (by simpa using hi1) (by simpa using hi2)
    · cases i with
      | zero => exact (hR.inb h4 y hy).2
      | succ i => exact g4 i (by simpa using hi1) (by simpa using hi2) y hy
def FP (Ms : List Files) (i0 : Nat) (f : Str) (j : Nat) : Files := (((Ms.take j).drop i0).map fun N => fromOn N f).flatten
theorem FP_step {Ms : List Files} {i0 j : Nat} (f : Str) (hij : i0 ≤ j) (hj : j < Ms.length) : FP Ms i0 f (j + 1) = FP Ms i0 f j ++ fromOn Ms[j] f := by
  unfold FP
  rw [List.take_succ_eq_append_getElem hj, List.drop_append_of_le_length (by rw [List.length_take]; omega)]
  simp
theorem FP_all {Ms : List Files} {i0 : Nat} {f : Str} (h : ∀ i (h : i < Ms.length), i < i0 → fromOn Ms[i] f = []) : fromOn Ms.flatten f = FP Ms i0 f Ms.length := by
  unfold FP
  rw [List.take_length]
  have h1 : (Ms.take i0).flatMap (fun N => fromOn N f) = [] := List.flatMap_eq_nil_iff.2 fun N hN => by
    obtain ⟨i, hi, rfl⟩ := List.mem_iff_getElem.1 hN
    rw [List.length_take] at hi
    rw [List.getElem_take]
    exact h i (by omega) (by omega)
  have h2 : fromOn Ms.flatten f = Ms.flatMap (fun N => fromOn N f) := by
    unfold fromOn
    rw [List.filter_flatten, List.flatMap_def]
  rw [h2]
  conv => lhs; rw [← List.take_append_drop i0 Ms]
  rw [List.flatMap_append, h1, List.nil_append, List.flatMap_def]
theorem FP_rest {Ms : List Files} {i0 : Nat} {f : Str} : ∀ (n j : Nat), i0 ≤ j → j + n = Ms.length → ∃ r, FP Ms i0 f Ms.length = FP Ms i0 f j ++ r
  | 0, j, _, h => ⟨[], by rw [List.append_nil, ← h]; rfl⟩
  | n + 1, j, hij, h => by
    obtain ⟨r, hr⟩ := FP_rest (Ms := Ms) (i0 := i0) (f := f) n (j + 1) (by omega) (by omega)
    have hj : j < Ms.length := by omega
    exact ⟨fromOn Ms[j] f ++ r, by rw [hr, FP_step f hij (by omega), List.append_assoc]⟩

set_option maxRecDepth 100000 in
set_option maxHeartbeats 6400000 in
theorem walk_node (t l p : Nat) (g : Lg) (root : Int) (ly b0 : Nat) (J : List (Str × Str) → World → Prop) (Bd : Nat → Prop) (xs : Files) (f : Str) (d : Nat) (hs : Small g 0) (hT : Tells Try.prog ly b0 t l J Bd xs) (HW : Walks t l p g root ly b0 J Bd xs f d) : Walks t l p g root ly b0 J Bd xs f (d + 1) := by
  intro k m lo hi M pre W h hbW hr hJ hxs
  obtain ⟨_, q, hq, hm, h8, hp⟩ := hr
  obtain ⟨Ms, hml, hMs, hreps, hups⟩ := kr_parts (repP_bounded (rdG g) d 4) hp.2.2.2
  have hkn : q.kids.length = q.keys.length + 1 := kr_length hp.2.2.2
  have hsp := (kKid_split f q.keys (kr_keys hp.2.2.2).1).1
  have hkl := kKid_le q.keys f
  have hall := FP_all (Ms := Ms) (i0 := kKid q.keys f) (f := f) fun i hi hlt => by
    unfold fromOn
    refine List.filter_eq_nil_iff.2 fun y hy => ?_
    have h1 := hups i (by omega) hi y hy
    have h2 := hsp q.keys[i] (List.mem_take_iff_getElem.2 ⟨i, by omega, rfl⟩)
    rw [bb_lt_le h1 h2]
    decide
  rw [hMs, hall] at hxs ⊢
  have HLD := Lib.hid (load_calls t l p g root k q W h hq hs)
  have HPG := Lib.hid hq.1
  have HLF := Lib.hid hp.1
  have HTE := Lib.hid hT
  have HTL := Lib.hid h
  have HJ := Lib.hid hJ
  have HXS := Lib.hid hxs
  have HRE := Lib.hid hreps
  have HMLN := Lib.hid hml
  have HWW := Lib.hid HW
  have hk9 : q.kids.length ≤ 9 := by omega
  have hkl2 : kKid q.keys f < q.kids.length := by omega
  unfold pageV at HLD
  rw [HLF.out] at HLD
  clear h hq hp hT hJ hxs hs hall hsp hups hreps hMs hkl hkn HW
  generalize hkg : kKid q.keys f = i0 at *
  have HKG := Lib.hid hkg
  clear hkg
  go_enter Try.func166, Try.ntmps166
  go_wp2_with fail
  refine HLD.out.mono ?_
  rintro e W2 ⟨kv, vv, cv, rfl, ho2, hm2⟩
  obtain ⟨⟨a1, c1, rfl⟩, ⟨a2, c2, rfl⟩, a3, c3, rfl⟩ := ho2.shapes
  obtain ⟨_, _, e2, hnc, _, _, hg⟩ := own_shape ho2.c
  cases e2
  obtain ⟨cg, rfl⟩ := hg (by omega)
  clear hg
  obtain ⟨W3, hW3⟩ : ∃ W3, W2.alloc (.cells #[.bool false, .slice a1 q.keys.length c1, .slice a2 q.vals.length c2, .slice (some ⟨cg, 0, none⟩) q.kids.length c3] 195) = W3 := ⟨_, rfl⟩
  have hm3 : Mod NoB W2 W3 := by rw [← hW3]; exact (Mod.refl _ _).alloc _
  have hP3 : W3.heap[W2.heap.size]? = some (.cells #[.bool false, .slice a1 q.keys.length c1, .slice a2 q.vals.length c2, .slice (some ⟨cg, 0, none⟩) q.kids.length c3] 195 (0, 0)) := by rw [← hW3]; exact heap_alloc_new _ _
  have HM3 := Lib.hid (hm2.trans hm3 (fun _ _ h => h))
  have HO3 := Lib.hid (ho2.mod hm3)
  obtain ⟨pb, p0, p1, p2, p3, pf⟩ := Page4.facts hP3
  have HP3 := Lib.hid hP3
  have HKC : Hid (∀ X, Mod NoB W3 X → Calls Try.prog 154 #[.agg #[.bool false, .slice a1 q.keys.length c1, .slice a2 q.vals.length c2, .slice (some ⟨cg, 0, none⟩) q.kids.length c3], .string ⟨f.toArray⟩] X fun e w' => ∃ u, e = .returned u ∧ (u = .int .i64 i0 ∧ Mod NoB X w')) := fun X hX => by
    have hfc := Kid_calls q _ _ _ f X (HO3.out.mod hX).in1 HPG.out
    unfold pageV at hfc
    rw [HLF.out, HKG.out] at hfc
    exact hfc.mono fun e w' ⟨h1, h2⟩ => ⟨_, h1, rfl, h2⟩
  have hc3 : ¬ c3 = i0 := by omega
  have hsl1 : (i0 : Int) ≤ (q.kids.length : Int) := by omega
  have hsl2 : i0 ≤ q.kids.length := by omega
  clear hm2 ho2 hm3 hP3 HLD
  go_wp2_with fail
  clear hW3
  go_upto_region 11 with fail
  generalize W2.heap.size = P at *
  refine wp_region_front (fun w' => w'.cell? ⟨P, 0, none⟩ = some (.bool false) ∧ w'.cell? ⟨P, 1, none⟩ = some (.slice a1 q.keys.length c1) ∧ w'.cell? ⟨P, 2, none⟩ = some (.slice a2 q.vals.length c2) ∧ w'.cell? ⟨P, 3, none⟩ = some (.slice (some ⟨cg, 0, none⟩) q.kids.length c3)) (notIn []) (by kernel_rfl) ?_ (fun hHeld => ?_)
  · go_keep
  refine wpAnyF_takeT (i := 0) (v := ?_) rfl (by kernel_rfl) (by kernel_rfl) (by kernel_rfl) (by kernel_rfl) (fun _ _ _ h => h) (Or.inl ⟨by rfl, ?_⟩) hHeld ?_
  rotate_left
  · (intro wS; simp only [List.getElem_toArray, List.getElem_cons_zero]; go_simp; try with_reducible rfl)
  simp only [Act.put, List.getElem_toArray, List.getElem_cons_zero, List.setIfInBounds_toArray, List.set_cons_zero, List.set_cons_succ]
  refine wpAnyF_take (i := 1) (v := ?_) rfl (by kernel_rfl) (by kernel_rfl) (by kernel_rfl) (by kernel_rfl) (fun _ _ _ h => h) (Or.inl ⟨by rfl, ?_⟩) hHeld ?_
  rotate_left
  · (intro wS hSw; (try dsimp only at hSw); simp only [List.getElem_toArray, List.getElem_cons_succ, List.getElem_cons_zero]; go_simp; try with_reducible rfl)
  simp only [Act.put, List.getElem_toArray, List.getElem_cons_succ, List.getElem_cons_zero, List.setIfInBounds_toArray, List.set_cons_zero, List.set_cons_succ]
  refine wpAnyF_take (i := 2) (v := ?_) rfl (by kernel_rfl) (by kernel_rfl) (by kernel_rfl) (by kernel_rfl) (fun _ _ _ h => h) (Or.inl ⟨by rfl, ?_⟩) hHeld ?_
  rotate_left
  · (intro wS hSw; (try dsimp only at hSw); simp only [List.getElem_toArray, List.getElem_cons_succ, List.getElem_cons_zero]; go_simp; try with_reducible rfl)
  simp only [Act.put, List.getElem_toArray, List.getElem_cons_succ, List.getElem_cons_zero, List.setIfInBounds_toArray, List.set_cons_zero, List.set_cons_succ]
  refine wpAnyF_takeT (i := 3) (v := ?_) rfl (by kernel_rfl) (by kernel_rfl) (by kernel_rfl) (by kernel_rfl) (fun _ _ _ h => h) (Or.inl ⟨by rfl, ?_⟩) hHeld ?_
  rotate_left
  · (intro wS; simp only [List.getElem_toArray, List.getElem_cons_succ, List.getElem_cons_zero]; go_simp; try with_reducible rfl)
  simp only [Act.put, List.getElem_toArray, List.getElem_cons_succ, List.getElem_cons_zero, List.setIfInBounds_toArray, List.set_cons_zero, List.set_cons_succ]
  refine wpAnyF_takeT (i := 7) (v := ?_) rfl (by kernel_rfl) (by kernel_rfl) (by kernel_rfl) (by kernel_rfl) (fun _ _ _ h => h) (Or.inl ⟨by rfl, ?_⟩) hHeld ?_
  rotate_left
  · (intro wS; simp only [List.getElem_toArray, List.getElem_cons_succ, List.getElem_cons_zero]; go_simp; try with_reducible rfl)
  simp only [Act.put, List.getElem_toArray, List.getElem_cons_succ, List.getElem_cons_zero, List.setIfInBounds_toArray, List.set_cons_zero, List.set_cons_succ]
  refine wpAnyF_all (rs := [4]) (by kernel_rfl) (by simp) (List.forall_mem_cons.2 ⟨stepF_op rfl (by kernel_rfl) ?_, List.forall_mem_nil _⟩)
  intro K hK
  dsimp only [List.getElem_toArray, List.getElem_cons_succ, List.getElem_cons_zero]
  rw [if_pos (by rfl)]
  refine wp_fn 154 (fun _ _ => by kernel_rfl) #[.tmp 53, .tmp 54] #[195, 9] rfl (vs := #[.agg #[.bool false, .slice a1 q.keys.length c1, .slice a2 q.vals.length c2, .slice (some ⟨cg, 0, none⟩) q.kids.length c3], .string ⟨f.toArray⟩]) rfl (HKC.out _ (by (repeat (first | with_reducible exact Mod.refl _ _ | with_reducible refine Mod.drew ?_ | with_reducible refine Mod.alloc ?_ _)))) ?_
  rintro u X4 ⟨rfl, hm4'⟩
  have hm4 : Mod NoB W3 X4 := (show Mod NoB W3 _ from (by (repeat (first | with_reducible exact Mod.refl _ _ | with_reducible refine Mod.drew ?_ | with_reducible refine Mod.alloc ?_ _)))).trans hm4' (fun _ _ h => h)
  have z0 := keep_cell hm4 pb p0
  have z1 := keep_cell hm4 pb p1
  have z2 := keep_cell hm4 pb p2
  have z3 := keep_cell hm4 pb p3
  have HM4 := Lib.hid (HM3.out.trans hm4 (fun _ _ h => h))
  have HO4 := Lib.hid (HO3.out.mod hm4)
  clear hm4 hm4' p0 p1 p2 p3
  refine hK _ _ (show_held ?_ (fun hHeld => ?_))
  · go_keep
  clear hK K
  simp only [Act.put, List.setIfInBounds_toArray, List.set_cons_zero, List.set_cons_succ]
  refine wpAnyF_takeT (i := 5) (v := ?_) rfl (by kernel_rfl) (by kernel_rfl) (by kernel_rfl) (by kernel_rfl) (fun _ _ _ h => h) (Or.inl ⟨by rfl, ?_⟩) hHeld ?_
  rotate_left
  · (intro wS; simp only [List.getElem_toArray, List.getElem_cons_succ, List.getElem_cons_zero]; go_simp; try with_reducible rfl)
  simp only [Act.put, List.getElem_toArray, List.getElem_cons_succ, List.getElem_cons_zero, List.setIfInBounds_toArray, List.set_cons_zero, List.set_cons_succ]
  refine wpAnyF_takeT (i := 6) (v := ?_) rfl (by kernel_rfl) (by kernel_rfl) (by kernel_rfl) (by kernel_rfl) (fun _ _ _ h => h) (Or.inl ⟨by rfl, ?_⟩) hHeld ?_
  rotate_left
  · (intro wS; simp only [List.getElem_toArray, List.getElem_cons_succ, List.getElem_cons_zero]; go_simp; try with_reducible rfl)
  simp only [Act.put, List.getElem_toArray, List.getElem_cons_succ, List.getElem_cons_zero, List.setIfInBounds_toArray, List.set_cons_zero, List.set_cons_succ]
  refine wpAnyF_done (by kernel_rfl) ?_ _
  clear HKC HO3 HM3 HP3 pb pf hHeld z0 z1 z2 z3
  go_step
  go_wp2_with fail
  go_loopw [58] (fun i wr => ∃ j : Nat, i0 + j ≤ q.kids.length ∧ i = .int .i64 j ∧ Hid (J (pre ++ FP Ms i0 f (i0 + j)) wr) ∧ Hid (Mod Bd X4 wr)) (fun i _ => q.kids.length - (intOf i).toNat)
  case atStart =>
    refine ⟨0, by omega, rfl, ?_, Mod.refl _ _⟩
    have h0 : FP Ms i0 f (i0 + 0) = [] := by
      unfold FP
      rw [List.drop_eq_nil_of_le (by rw [List.length_take]; omega)]
      rfl
    rw [h0, List.append_nil]
    exact HTE.out.quiet _ _ _ HJ.out HM4.out
  case round =>
    obtain ⟨j, hj, rfl, HJ1, HMR⟩ := hrel
    have hsr := HMR.out.size
    have hs4 := HM4.out.size
    by_cases hlt : i0 + j < q.kids.length
    · have hjM : i0 + j < Ms.length := by have := HMLN.out; omega
      have hks : q.kids[i0 + j]? = some q.kids[i0 + j] := List.getElem?_eq_getElem hlt
      have hoc := own_of_mod HO4.out.c HMR.out (fun r hr e => by have := (HTE.out.below r e).1; have := (HO4.out.c.lt r hr).1; omega)
      obtain ⟨c0, cf, cb⟩ := row_at hoc hks rfl
      obtain ⟨lo', hi', hrep⟩ := HRE.out (i0 + j) hlt hjM
      obtain ⟨post, hxs⟩ := HXS.out
      obtain ⟨r, hr⟩ := FP_rest (Ms := Ms) (i0 := i0) (f := f) (Ms.length - (i0 + j + 1)) (i0 + j + 1) (by omega) (by omega)
      have hstep := FP_step f (i0 := i0) (by omega) hjM
      have hxs2 : xs = (pre ++ FP Ms i0 f (i0 + j)) ++ (fromOn Ms[i0 + j] f ++ (r ++ post)) := by
        rw [hxs, hr, hstep]
        simp only [List.append_assoc]
      have hTr := ((HTL.out.mod HM4.out).upd HMR.out (fun e => (HTE.out.below _ e).2.1 rfl) (fun e => (HTE.out.below _ e).2.2 rfl))
      have HWC := Lib.hid (HWW.out q.kids[i0 + j] 4 lo' hi' Ms[i0 + j] _ wr hTr (by omega) hrep HJ1.out ⟨_, hxs2⟩)
      rw [List.append_assoc, ← hstep] at HWC
      have HMLJ := Lib.hid hjM
      clear hks hoc hrep hxs hr hstep hxs2 hTr hjM
      generalize q.kids[i0 + j] = x at *
      go_wp2_with fail
      refine HWC.out.mono ?_
      rintro e W5 ⟨rfl, hJ5, hm5⟩
      have HJ5 := Lib.hid hJ5
      have HM5 := Lib.hid (HMR.out.trans hm5 (fun _ _ h => h))
      clear hJ5 hm5 HWC c0 cf cb
      go_wp2_with fail
      go_roundw
      case rel => exact ⟨j + 1, by omega, by go_num, HJ5, HM5⟩
      case measure => simp [intOf]; omega
    · have hje : i0 + j = Ms.length := by have := HMLN.out; omega
      have HJ2 := HJ1
      rw [hje] at HJ2
      clear HJ1 hje
      go_wp2_with fail
      refine bodyPost_ret (v := .bool true) (by simp [results, Try.f166, go_sem]) rfl ⟨rfl, HJ2.out, ?_⟩
      exact (HM4.out.mono (noB_sub _ _)).trans HMR.out (fun _ _ h => h)

theorem walk_calls (t l p : Nat) (g : Lg) (root : Int) (ly b0 : Nat) (J : List (Str × Str) → World → Prop) (Bd : Nat → Prop) (xs : Files) (f : Str) (hs : Small g 0) (hT : Tells Try.prog ly b0 t l J Bd xs) : ∀ d, Walks t l p g root ly b0 J Bd xs f d
  | 0 => walk_leaf t l p g root ly b0 J Bd xs f hs hT
  | d + 1 => walk_node t l p g root ly b0 J Bd xs f d hs hT (walk_calls t l p g root ly b0 J Bd xs f hs hT d)
theorem keep_cellM {G : Nat → Prop} {X W : World} {b o : Nat} {v : Value} (hm : Mod G X W) (hb : b < X.heap.size) (hg : ¬ G b) (h : X.cell? ⟨b, o, none⟩ = some v) : W.cell? ⟨b, o, none⟩ = some v := by
  rw [World.cell?_of_block (w := X) (hm.block b hb hg)]
  exact h
set_option maxRecDepth 100000 in
set_option maxHeartbeats 3200000 in
theorem all1_seq (t l p : Nat) (g : Lg) (root : Int) (M : Files) (f : Str) (bt bf n : Nat) (B : Nat → Prop) (w : World) (h : TL w t l p g root) (hr : TR g root M) (hs : Small g 0)
    (hbt : w.heap[bt]? = some (.cells #[.pointer (some ⟨t, 0, none⟩)] 116 (0, 0))) (hbf : w.heap[bf]? = some (.cells #[.string ⟨f.toArray⟩] 9 (0, 0))) (hB : ∀ q, B q → q < w.heap.size ∧ q ≠ t ∧ q ≠ l ∧ q ≠ bt ∧ q ≠ bf) :
    SeqMod2 Fence.wide n Try.prog 165 #[.pointer (some ⟨bt, 0, none⟩), .pointer (some ⟨bf, 0, none⟩)] pairVs (fun _ => False) B (fromOn M f) w := by
  intro ly J W hm hsz hJ hY h0
  refine callsIn_wide.2 ?_
  have hT : Tells Try.prog ly (w.heap.size + 2) t l J (fun k => B k ∨ (w.heap.size ≤ k ∧ k < w.heap.size + 2)) (fromOn M f) := ⟨fun s X Y hX hXY => hJ s X Y hX hXY, fun pre x hpost W1 hJ1 => yield_any (hY pre x hpost W1 hJ1), fun q hq => by
    have ht := lt_heap h.tree
    have hl := lt_heap h.log
    rcases hq with hq | hq
    · have := hB q hq
      exact ⟨by omega, this.2.1, this.2.2.1⟩
    · exact ⟨by omega, by omega, by omega⟩⟩
  have hTW := h.mod hm
  have e0 := (hm.block bt (lt_heap hbt) id).trans hbt
  have e1 := (hm.block bf (lt_heap hbf) id).trans hbf
  obtain ⟨tb, t0, t1, tf⟩ := hTW.tree.facts
  have b0 := lt_heap e0
  have b1 := lt_heap e1
  have d0 := cell_heap e0 0
  have d1 := cell_heap e1 0
  simp only [List.getElem?_toArray, List.getElem?_cons_zero] at d0 d1
  have HJ := Lib.hid hJ
  have H0 := Lib.hid h0
  show Calls Try.prog 165 #[.func (.yield ly) #[] #[], .pointer (some ⟨bt, 0, none⟩), .pointer (some ⟨bf, 0, none⟩)] W _
  rcases hr with ⟨rfl, rfl⟩ | ⟨d, r, rfl, hrep⟩
  · clear h hT hTW hm hJ hY h0 e0 e1 hbt hbf
    go_enter Try.func165, Try.ntmps165
    go_wp2_with fail
    go_end0
    exact ⟨⟨_, rfl⟩, H0.out⟩
  · have HW : Hid (∀ X, Mod NoB W X → Calls Try.prog 166 #[.pointer (some ⟨t, 0, none⟩), .int .i64 r, .string ⟨f.toArray⟩, .func (.yield ly) #[] #[]] X fun e W' => ∃ u, e = .returned u ∧ (J (fromOn M f) W' ∧ W'.cell? ⟨bt, 0, none⟩ = some (.pointer (some ⟨t, 0, none⟩)) ∧ W'.cell? ⟨bf, 0, none⟩ = some (.string ⟨f.toArray⟩) ∧ W'.cell? ⟨t, 1, none⟩ = some (.int .i64 r))) := fun X hX =>
      (walk_calls t l p g r ly (w.heap.size + 2) J _ (fromOn M f) f hs hT d r 1 [] none M [] X (hTW.mod hX) (Nat.le_trans hsz hX.size) hrep (HJ.out _ _ _ H0.out hX) ⟨[], by simp⟩).mono fun e w' ⟨h1, h2, h3⟩ => ⟨_, h1, h2, keep_cellM h3 (Nat.lt_of_lt_of_le b0 hX.size) (fun e => e.elim (fun e => (hB _ e).2.2.2.1 rfl) (fun e => by have := lt_heap hbt; omega)) (keep_cell hX b0 d0), keep_cellM h3 (Nat.lt_of_lt_of_le b1 hX.size) (fun e => e.elim (fun e => (hB _ e).2.2.2.2 rfl) (fun e => by have := lt_heap hbf; omega)) (keep_cell hX b1 d1), keep_cellM h3 (Nat.lt_of_lt_of_le tb hX.size) (fun e => (hT.below _ e).2.1 rfl) (keep_cell hX tb t1)⟩
    clear h hT hTW hm hJ hY h0 e0 e1 hbt hbf hrep
    go_enter Try.func165, Try.ntmps165
    go_wp2_with fail
    refine wp_region_front (fun w' => w'.cell? ⟨bt, 0, none⟩ = some (.pointer (some ⟨t, 0, none⟩)) ∧ w'.cell? ⟨bf, 0, none⟩ = some (.string ⟨f.toArray⟩) ∧ w'.cell? ⟨t, 1, none⟩ = some (.int .i64 r)) (notIn []) (by kernel_rfl) ?_ (fun hHeld => ?_)
    · go_keep
    refine wpAnyF_take (i := 0) (v := ?_) rfl (by kernel_rfl) (by kernel_rfl) (by kernel_rfl) (by kernel_rfl) (fun _ _ _ h => h) (Or.inl ⟨by rfl, ?_⟩) hHeld ?_
    rotate_left
    · (intro wS hSw; (try dsimp only at hSw); simp only [List.getElem_toArray, List.getElem_cons_zero]; go_simp; try with_reducible rfl)
    simp only [Act.put, List.getElem_toArray, List.getElem_cons_zero, List.setIfInBounds_toArray, List.set_cons_zero, List.set_cons_succ]
    refine wpAnyF_take (i := 1) (v := ?_) rfl (by kernel_rfl) (by kernel_rfl) (by kernel_rfl) (by kernel_rfl) (fun _ _ _ h => h) (Or.inl ⟨by rfl, ?_⟩) hHeld ?_
    rotate_left
    · (intro wS hSw; (try dsimp only at hSw); simp only [List.getElem_toArray, List.getElem_cons_succ, List.getElem_cons_zero]; go_simp; try with_reducible rfl)
    simp only [Act.put, List.getElem_toArray, List.getElem_cons_succ, List.getElem_cons_zero, List.setIfInBounds_toArray, List.set_cons_zero, List.set_cons_succ]
    refine wpAnyF_takeT (i := 2) (v := ?_) rfl (by kernel_rfl) (by kernel_rfl) (by kernel_rfl) (by kernel_rfl) (fun _ _ _ h => h) (Or.inl ⟨by rfl, ?_⟩) hHeld ?_
    rotate_left
    · (intro wS; simp only [List.getElem_toArray, List.getElem_cons_succ, List.getElem_cons_zero]; go_simp; try with_reducible rfl)
    simp only [Act.put, List.getElem_toArray, List.getElem_cons_succ, List.getElem_cons_zero, List.setIfInBounds_toArray, List.set_cons_zero, List.set_cons_succ]
    refine wpAnyF_takeT (i := 3) (v := ?_) rfl (by kernel_rfl) (by kernel_rfl) (by kernel_rfl) (by kernel_rfl) (fun _ _ _ h => h) (Or.inl ⟨by rfl, ?_⟩) hHeld ?_
    rotate_left
    · (intro wS; simp only [List.getElem_toArray, List.getElem_cons_succ, List.getElem_cons_zero]; go_simp; try with_reducible rfl)
    simp only [Act.put, List.getElem_toArray, List.getElem_cons_succ, List.getElem_cons_zero, List.setIfInBounds_toArray, List.set_cons_zero, List.set_cons_succ]
    refine wpAnyF_take (i := 4) (v := ?_) rfl (by kernel_rfl) (by kernel_rfl) (by kernel_rfl) (by kernel_rfl) (fun _ _ _ h => h) (Or.inl ⟨by rfl, ?_⟩) hHeld ?_
    rotate_left
    · (intro wS hSw; (try dsimp only at hSw); simp only [List.getElem_toArray, List.getElem_cons_succ, List.getElem_cons_zero]; go_simp; try with_reducible rfl)
    simp only [Act.put, List.getElem_toArray, List.getElem_cons_succ, List.getElem_cons_zero, List.setIfInBounds_toArray, List.set_cons_zero, List.set_cons_succ]
    refine wpAnyF_take (i := 5) (v := ?_) rfl (by kernel_rfl) (by kernel_rfl) (by kernel_rfl) (by kernel_rfl) (fun _ _ _ h => h) (Or.inl ⟨by rfl, ?_⟩) hHeld ?_
    rotate_left
    · (intro wS hSw; (try dsimp only at hSw); simp only [List.getElem_toArray, List.getElem_cons_succ, List.getElem_cons_zero]; go_simp; try with_reducible rfl)
    simp only [Act.put, List.getElem_toArray, List.getElem_cons_succ, List.getElem_cons_zero, List.setIfInBounds_toArray, List.set_cons_zero, List.set_cons_succ]
    refine wpAnyF_takeT (i := 6) (v := ?_) rfl (by kernel_rfl) (by kernel_rfl) (by kernel_rfl) (by kernel_rfl) (fun _ _ _ h => h) (Or.inl ⟨by rfl, ?_⟩) hHeld ?_
    rotate_left
    · (intro wS; simp only [List.getElem_toArray, List.getElem_cons_succ, List.getElem_cons_zero]; go_simp; try with_reducible rfl)
    simp only [Act.put, List.getElem_toArray, List.getElem_cons_succ, List.getElem_cons_zero, List.setIfInBounds_toArray, List.set_cons_zero, List.set_cons_succ]
    refine wpAnyF_all (rs := [7]) (by kernel_rfl) (by simp) (List.forall_mem_cons.2 ⟨stepF_op rfl (by kernel_rfl) ?_, List.forall_mem_nil _⟩)
    intro K hK
    dsimp only [List.getElem_toArray, List.getElem_cons_succ, List.getElem_cons_zero]
    rw [if_pos (by rfl)]
    refine wp_fn 166 (fun _ _ => by kernel_rfl) #[.tmp 13, .tmp 17, .tmp 18, .tmp 19] #[116, 3, 9, 241] rfl (vs := #[.pointer (some ⟨t, 0, none⟩), .int .i64 r, .string ⟨f.toArray⟩, .func (.yield ly) #[] #[]]) rfl (HW.out _ (by (repeat (first | with_reducible exact Mod.refl _ _ | with_reducible refine Mod.drew ?_ | with_reducible refine Mod.alloc ?_ _)))) ?_
    rintro u W5 ⟨hJ5, z0, z1, z2⟩
    have HJ5 := Lib.hid hJ5
    clear hJ5
    refine hK _ _ (show_held ?_ (fun hHeld => ?_))
    · go_keep
    clear hK K
    simp only [Act.put, List.setIfInBounds_toArray, List.set_cons_zero, List.set_cons_succ]
    refine wpAnyF_done (by kernel_rfl) ?_ _
    go_end0
    exact ⟨⟨_, rfl⟩, HJ5.out⟩

end Go.Proofs.Ytgofngilfdnakaa

namespace Go.Proofs.Ytgofngilfdnakaa
open Go Go.RowKit
set_option linter.unusedSimpArgs false
attribute [local go_sem] over_cell over_frozen lt_over le_over noB loudUpon ByteArray.mk_append_mk ByteArray.extract_mk Oper.semAt_some

set_option maxRecDepth 100000 in
theorem All_calls (t : Nat) (f : Str) (w : World) : Calls Try.prog 125 #[.pointer (some ⟨t, 0, none⟩), .string ⟨f.toArray⟩] w fun e w' =>
    e = .returned (.func (.func 165) #[] #[.pointer (some ⟨w.heap.size, 0, none⟩), .pointer (some ⟨w.heap.size + 1, 0, none⟩)]) ∧ w' = (w.alloc (.cells #[.pointer (some ⟨t, 0, none⟩)] 116)).alloc (.cells #[.string ⟨f.toArray⟩] 9) := by
  go_enter Try.func125, Try.ntmps125
  go_wp2_with fail
  exact bodyPost_ret (v := .func (.func 165) #[] #[.pointer (some ⟨w.heap.size, 0, none⟩), .pointer (some ⟨w.heap.size + 1, 0, none⟩)]) (by simp [results, Try.f125, go_sem]) rfl ⟨rfl, rfl⟩

set_option maxRecDepth 100000 in
set_option maxHeartbeats 6400000 in
theorem has_calls [Away] (t l p : Nat) (g : Lg) (root : Int) (v : Value) (M : Files) (f : Str) (w : World) (h : TL w t l p g root) (hr : TR g root M) (hf : FR w v M) (hM : M.length ≤ 400) (hs : Small g 0) :
    Calls Try.prog 79 #[.pointer (some ⟨t, 0, none⟩), v, .string ⟨f.toArray⟩] w fun e w' => e = .returned (.bool true) ∧ Mod NoB w w' := by
  obtain ⟨a1, c1, rfl, _, _⟩ := hf.cells
  obtain ⟨W1, hW1⟩ : ∃ W1, (w.alloc (.cells #[.slice a1 M.length c1] 125)).alloc (.cells #[.bool false] 4) = W1 := ⟨_, rfl⟩
  have hm1 : Mod NoB w W1 := by rw [← hW1]; exact ((Mod.refl _ _).alloc _).alloc _
  have HFI := Lib.hid (rfind_calls _ M f W1 (hf.mod hm1) (by omega))
  have HM1 := Lib.hid hm1
  have HT := Lib.hid (fun X (hX : Mod NoB w X) => h.mod hX)
  have HF := Lib.hid (fun X (hX : Mod NoB w X) => hf.mod hX)
  have HR := Lib.hid hr
  have HS := Lib.hid hs
  have HSO := Lib.hid hr.sorted
  have HML := Lib.hid hM
  have hA1 : W1.heap[w.heap.size]? = some (.cells #[.slice a1 M.length c1] 125 (0, 0)) := by rw [← hW1]; exact heap_alloc_old' _ _ _ (by rw [size_alloc]; omega) (heap_alloc_new _ _)
  have hR1 : W1.heap[w.heap.size + 1]? = some (.cells #[.bool false] 4 (0, 0)) := by rw [← hW1]; exact heap_alloc_at' _ _ _ (by rw [size_alloc])
  have hlt := lt_heap h.tree
  have hll := lt_heap h.log
  have HA1 := Lib.hid hA1
  have HR1 := Lib.hid hR1
  have q0 := lt_heap hA1
  have q1 := cell_heap hA1 0
  simp only [List.getElem?_toArray, List.getElem?_cons_zero] at q1
  clear h hr hf hs hm1 hM hA1 hR1
  refine (callsIn_wide (n := 7)).1 (callsIn_of_wp_marks Try.func79 rfl trivial ?_ rfl)
  simp only [Try.ntmps79, List.size_toArray, List.length_cons, List.length_nil, Nat.reduceAdd, Nat.reduceSub, Array.replicate_succ, Array.replicate_zero, List.push_toArray, List.append_toArray, List.nil_append, List.cons_append]
  gi_wp2_with fail
  clear hW1
  refine ⟨trivial, (callsIn_wide.2 HFI.out).mono ?_⟩
  rintro e W2 ⟨rfl, hm2⟩
  obtain ⟨W3, hW3⟩ : ∃ W3, W2.alloc (.cells #[.int .i64 (rFind M f)] 3) = W3 := ⟨_, rfl⟩
  have hm3 : Mod NoB W2 W3 := by rw [← hW3]; exact (Mod.refl _ _).alloc _
  have hP3 : W3.heap[W2.heap.size]? = some (.cells #[.int .i64 (rFind M f)] 3 (0, 0)) := by rw [← hW3]; exact heap_alloc_new _ _
  have hA3 := (hm3.block _ (Nat.lt_of_lt_of_le q0 hm2.size) id).trans ((hm2.block _ q0 id).trans HA1.out)
  have hR3 := (hm3.block _ (Nat.lt_of_lt_of_le (lt_heap HR1.out) hm2.size) id).trans ((hm2.block _ (lt_heap HR1.out) id).trans HR1.out)
  have HM3 := Lib.hid ((HM1.out.trans hm2 (fun _ _ h => h)).trans hm3 (fun _ _ h => h))
  have hz2 := hm2.size
  have hz1 := lt_heap HR1.out
  have HA3 := Lib.hid hA3
  have HR3 := Lib.hid hR3
  have HP3 := Lib.hid hP3
  clear q0 q1 hm2 hm3 hA3 hR3 hP3 HFI HA1 HR1 HM1
  gi_wp2_with fail
  refine ⟨trivial, (callsIn_wide.2 (All_calls t f _)).mono ?_⟩
  rintro e W4 ⟨rfl, hW4⟩
  gi_wp2_with fail
  have hz3 : W2.heap.size < W3.heap.size := lt_heap HP3.out
  have hm4 : Mod NoB W3 W4 := by rw [hW4]; exact ((Mod.refl _ _).alloc _).alloc _
  have hB1 : W4.heap[W3.heap.size]? = some (.cells #[.pointer (some ⟨t, 0, none⟩)] 116 (0, 0)) := by rw [hW4]; exact heap_alloc_old' _ _ _ (by rw [size_alloc]; omega) (heap_alloc_new _ _)
  have hB2 : W4.heap[W3.heap.size + 1]? = some (.cells #[.string ⟨f.toArray⟩] 9 (0, 0)) := by rw [hW4]; exact heap_alloc_at' _ _ _ (by rw [size_alloc])
  have hA4 := (hm4.block _ (lt_heap HA3.out) id).trans HA3.out
  have hR4 := (hm4.block _ (lt_heap HR3.out) id).trans HR3.out
  have hP4 := (hm4.block _ (lt_heap HP3.out) id).trans HP3.out
  have hM4 := HM3.out.trans hm4 (fun _ _ h => h)
  have hsz4 := lt_heap hB2
  rw [← hW4]
  have hi0le := rFind_le M f
  generalize hi0 : rFind M f = i0 at *
  generalize rIs M f = bs at *
  generalize hR0 : w.heap.size + 1 = R0 at *
  generalize hA0 : w.heap.size = A0 at *
  generalize W2.heap.size = a at *
  generalize hb1 : W3.heap.size = b1 at *
  have hseq := all1_seq t l p g root M f b1 (b1 + 1) (7 - 1) (fun k => k = a) W4 (HT.out W4 hM4) HR.out HS.out hB1 hB2 (fun q hq => by subst hq; refine ⟨lt_heap hP4, ?_, ?_, ?_, ?_⟩ <;> omega)
  have HDR : Hid (fromOn M f = M.drop i0) := by rw [← hi0]; exact from_drop f HSO.out
  have HA4 := Lib.hid hA4
  have HR4 := Lib.hid hR4
  have HM4 := Lib.hid hM4
  have HF4 := Lib.hid (HF.out W4 hM4)
  have hz5 := lt_heap hR4
  have hz6 := lt_heap hA4
  have hz7 := lt_heap hP4
  clear hW4 hm4 hB1 hB2 hA4 hR4 hM4 HP3 HA3 HR3 HM3 hW3 hi0
  refine wpIn_rangeFunc_mod2 (α := Str × Str) (n := 7) rfl (by omega) (gf := 165) (lb := #[.pointer (some ⟨b1, 0, none⟩), .pointer (some ⟨b1 + 1, 0, none⟩)]) rfl trivial (enters_of Try.func165 (by kernel_rfl) rfl)
    (encs := pairVs) (G := fun _ => False) (B := fun k => k = a) (xs := fromOn M f) hseq (fun _ => rfl) (fun k hk => hk.elim) (fun k hk => by omega)
    (fun pre W => Mod (fun k => k = a ∨ (W4.heap.size ≤ k ∧ k < W4.heap.size + 2)) W4 W ∧ W.heap[a]? = some (.cells #[.int .i64 (i0 + pre.length : Nat)] 3 (0, 0))) ?stable ⟨Mod.refl _ _, hP4⟩
    (fun pre x a' W => a' = ⟨#[.pointer (some ⟨t, 0, none⟩), .slice a1 M.length c1, .string ⟨f.toArray⟩, undef, .pointer (some ⟨A0, 0, none⟩), undef, .pointer (some ⟨R0, 0, none⟩), .pointer (some ⟨a, 0, none⟩), .bool bs, .string ⟨x.1.toArray⟩, .string ⟨x.2.toArray⟩, .tuple #[.int .i64 i0, .bool bs], .slice a1 M.length c1, .string ⟨f.toArray⟩, .tuple #[.int .i64 i0, .bool bs], .int .i64 i0, .bool bs, .pointer (some ⟨t, 0, none⟩), .string ⟨f.toArray⟩, .func (.func 165) #[] #[.pointer (some ⟨b1, 0, none⟩), .pointer (some ⟨b1 + 1, 0, none⟩)], .string ⟨x.1.toArray⟩, .string ⟨x.2.toArray⟩, undef, undef, undef, undef, undef, undef, undef, undef, undef, undef, undef, undef, undef, undef, undef, undef, undef, undef, undef, undef, undef, undef, undef, undef, undef, undef, undef, undef], []⟩ ∧ Mod (fun k => k = a ∨ (W4.heap.size ≤ k ∧ k < W4.heap.size + 2)) W4 W ∧ W.heap[a]? = some (.cells #[.int .i64 (i0 + pre.length : Nat)] 3 (0, 0))) ?stable2 ?assign ?body ?done
  case stable =>
    rintro s X Y ⟨h1, h2⟩ hm
    exact ⟨h1.trans hm (fun k _ h => by rcases h with h | h; exact h.elim; exact .inr h), (hm.block a (lt_heap h2) (fun h => by rcases h with h | h; exact h; omega)).trans h2⟩
  case stable2 =>
    rintro pre x a' X Y ⟨h1, h2, h3⟩ hm
    exact ⟨h1, h2.trans hm (fun k _ h => .inr h), (hm.block a (lt_heap h3) (fun h => by omega)).trans h3⟩
  case assign =>
    rintro ly pre x W ⟨h1, h2⟩ hsz
    have HI1 := Lib.hid h1
    have HI2 := Lib.hid h2
    clear h1 h2 hseq
    gi_wp2
    exact ⟨Mod.refl _ _, trivial, HI1.out, HI2.out⟩
  case body =>
    rintro ly pre x a' W ⟨post, hpost⟩ ⟨rfl, h1, h2⟩ hsz
    rw [HDR.out] at hpost
    have hxM : M[i0 + pre.length]? = some x := by
      rw [← List.getElem?_drop, hpost]
      simp
    obtain ⟨hlt2, hxe⟩ := List.getElem?_eq_some_iff.1 hxM
    obtain ⟨_, _, e2, _, hcell⟩ := HF4.out.cells
    cases e2
    obtain ⟨q, rfl, hq, y1, y2⟩ := hcell _ hlt2
    rw [hxe] at y1 y2
    have hqa : q ≠ a := fun e => absurd (own_type HF4.out.1 (q := a) (by rw [← e]; rfl) hP4) (by decide)
    have y1 := keep_cellM h1 hq (fun e => e.elim hqa (fun e => by omega)) y1
    have y2 := keep_cellM h1 hq (fun e => e.elim hqa (fun e => by omega)) y2
    have hAW := (h1.block A0 hz6 (fun e => e.elim (fun e => by omega) (fun e => by omega))).trans HA4.out
    have u0 := cell_heap hAW 0
    have ub := lt_heap hAW
    have v0 := cell_heap h2 0
    have vf := frozen_heap h2
    have vb := lt_heap h2
    have qb : q < W.heap.size := Nat.lt_of_lt_of_le hq h1.size
    simp only [List.getElem?_toArray, List.getElem?_cons_zero] at u0 v0
    have HI1 := Lib.hid h1
    have HI2 := Lib.hid h2
    have HQ := Lib.hid hlt2
    have hml2 := HML.out
    have hJ4 : i0 + pre.length < 400 := by omega
    clear hcell hpost hxM hxe h1 h2 hAW hseq hP4
    generalize hJJ : i0 + pre.length = jj at *
    have HJJ := Lib.hid hJJ
    clear hJJ
    obtain ⟨x1, x2⟩ := x
    gi_wp2
    have hset : Mod (fun k => k = a) W (W.setCell ⟨a, 0, none⟩ (.int .i64 ((jj : Int) + 1))) := (Mod.refl _ _).setCell _ _ (fun _ => rfl)
    refine ⟨hset, HI1.out.trans hset (fun k _ h => .inl h), ?_⟩
    have h3 : (W.setCell ⟨a, 0, none⟩ (.int .i64 ((jj : Int) + 1))).heap[a]? = some (.cells #[.int .i64 ((jj : Int) + 1)] 3 (0, 0)) := by
      rw [heap_setCell_same, HI2.out]
      rfl
    rw [(Array.getElem?_eq_some_iff.1 h3).2]
    rw [show ((i0 : Int) + ((pre.length : Int) + 1)) = (jj : Int) + 1 by have := HJJ.out; omega]
  case done =>
    rintro W ⟨h1, h2⟩ hsz hk
    have hlen : i0 + (fromOn M f).length = M.length := by rw [HDR.out, List.length_drop]; omega
    rw [hlen] at h2
    clear hlen
    have hAW := (h1.block A0 hz6 (fun e => e.elim (fun e => by omega) (fun e => by omega))).trans HA4.out
    have hRW := (h1.block R0 hz5 (fun e => e.elim (fun e => by omega) (fun e => by omega))).trans HR4.out
    have u0 := cell_heap hAW 0
    have ub := lt_heap hAW
    have v0 := cell_heap h2 0
    have vb := lt_heap h2
    have r0 := cell_heap hRW 0
    have rf := frozen_heap hRW
    have rb := lt_heap hRW
    simp only [List.getElem?_toArray, List.getElem?_cons_zero] at u0 v0 r0
    have HI1 := Lib.hid h1
    have HK := Lib.hid hk
    have HRW := Lib.hid hRW
    clear h1 h2 hk hAW hRW hseq hP4
    gi_wp2
    have hne : R0 ≠ W4.heap.size := by omega
    have hKx : (W.setCell ⟨R0, 0, none⟩ (.bool true)).heap[W4.heap.size]? = some (.deferred (some [])) := by
      rw [heap_setCell_ne _ _ _ _ _ hne.symm]
      exact HK.out
    have hmF : Mod (fun k => k = R0 ∨ k = W4.heap.size) W ((W.setCell ⟨R0, 0, none⟩ (.bool true)).putObj W4.heap.size (.deferred none)) := ((Mod.refl (fun k => k = R0 ∨ k = W4.heap.size) W).setCell _ _ (fun _ => .inl rfl)).trans (mod_putObj (F := fun k => k = R0 ∨ k = W4.heap.size) _ _ _ (.inr rfl)) (fun _ _ h => h)
    have hcx : ((W.setCell ⟨R0, 0, none⟩ (.bool true)).putObj W4.heap.size (.deferred none)).cell? ⟨R0, 0, none⟩ = some (.bool true) := by
      have h4 : ((W.setCell ⟨R0, 0, none⟩ (.bool true)).putObj W4.heap.size (.deferred none)).heap[R0]? = some (.cells #[.bool true] 4 (0, 0)) := by
        rw [World.putObj_heap_other hne, heap_setCell_same, HRW.out]
        rfl
      exact cell_heap h4 0
    refine ⟨by simp, .inl ⟨_, _, rfl, run_takeDeferred hKx, ?_⟩⟩
    refine ⟨.bool true, ?_, rfl, ?_⟩
    · simp [results, Try.f79, go_sem, hcx]
    · exact (HM4.out.trans HI1.out (fun k hk e => by omega)).trans hmF (fun k hk e => by omega)

end Go.Proofs.Ytgofngilfdnakaa

namespace Go.Proofs.Ytgofngilfdnakaa
open Go Go.RowKit
set_option linter.unusedSimpArgs false
attribute [local go_sem] over_cell over_frozen lt_over le_over noB loudUpon ByteArray.mk_append_mk ByteArray.extract_mk

theorem BP.small {g : Lg} {k : Nat} (h : g.s.length + g.wait.length ≤ 700000 * k) (hk : k ≤ 300) : Small g 6 := by
  unfold Small
  omega
def BP [Away] (w wr : World) (t l : Nat) (v : Value) (k : Nat) : Prop := ∃ p g root M, TL wr t l p g root ∧ Mod NoB w wr ∧ TR g root M ∧ FR wr v M ∧ M.length ≤ k ∧ g.s.length + g.wait.length ≤ 700000 * k
theorem BP.quiet [Away] {w wr X : World} {t l k : Nat} {v : Value} (h : BP w wr t l v k) (hX : Mod NoB wr X) : BP w X t l v k := by
  obtain ⟨p, g, root, M, hT, hm, hr, hf, hM, hw⟩ := h
  exact ⟨p, g, root, M, hT.mod hX, hm.trans hX (fun _ _ h => h), hr, hf.mod hX, hM, hw⟩
theorem BP.has [Away] {w wr : World} {t l k : Nat} {v : Value} (f : Str) (h : BP w wr t l v k) (hk : k ≤ 300) : Calls Try.prog 79 #[.pointer (some ⟨t, 0, none⟩), v, .string ⟨f.toArray⟩] wr fun e w' => e = .returned (.bool true) ∧ BP w w' t l v k ∧ Mod NoB wr w' := by
  have h0 := h
  obtain ⟨p, g, root, M, hT, hm, hr, hf, hM, hw⟩ := h
  exact (has_calls t l p g root v M f wr hT hr hf (by omega) (BP.small hw hk).zero).mono fun e w' ⟨h1, h2⟩ => ⟨h1, h0.quiet h2, h2⟩
theorem BP.one [Away] {w wr : World} {t l k : Nat} {v : Value} (A : Act6) (h : BP w wr t l v k) (hk : k ≤ 300) (hS : ∀ q, (q = l ∨ q = t) → Away.S q) (ht : w.heap.size ≤ t) (hl : w.heap.size ≤ l) (h1 : A.key.length ≤ 9223372036854775807) (h2 : A.value.length ≤ 9223372036854775807) :
    Calls Try.prog 78 #[.pointer (some ⟨t, 0, none⟩), v, act6V A] wr fun e w' => ∃ v', e = .returned (.tuple #[v', .bool true]) ∧ BP w w' t l v' (k + 1) := by
  obtain ⟨p, g, root, M, hT, hm, hr, hf, hM, hw⟩ := h
  have fin : ∀ (M' : Files) e w', M'.length ≤ M.length + 1 → OnePost wr t l p g M' e w' → ∃ v', e = .returned (.tuple #[v', .bool true]) ∧ BP w w' t l v' (k + 1) := fun M' e w' hM' ⟨v', root', g', e1, e2, e3, e4, e5, e6, e7⟩ => by
    obtain ⟨x, rfl⟩ := e4
    refine ⟨v', e1, p, _, root', M', e3, hm.trans e2 (fun j hj e => by omega), e6, e7, by omega, ?_⟩
    simp only at e5 ⊢
    omega
  have hsm := BP.small hw hk
  by_cases k34 : A.kind = 3 ∨ A.kind = 4
  · exact (one_del t l p g root v M A wr hS hT hr (by omega) hsm hf k34).mono fun e w' h => fin _ e w' (Nat.le_trans (del_length _ _) (Nat.le_succ _)) h
  · by_cases k5 : A.kind = 5
    · exact (one_get t l p g root v M A wr hT hr (by omega) hsm hf k5).mono fun e w' h => fin _ e w' (Nat.le_succ _) h
    · refine (one_put t l p g root v M A wr hS hT hr (by omega) hsm hf h1 h2 (fun e => k34 (.inl e)) (fun e => k34 (.inr e)) k5).mono fun e w' h => fin _ e w' ?_ h
      split
      · exact put_length _ _ _
      · exact Nat.le_succ _
theorem BP.root [Away] {w wr : World} {t l k : Nat} {v : Value} (h : BP w wr t l v k) : ∃ (n c : Nat) (a : Option Addr) (root : Int), v = .slice a n c ∧ n ≤ k ∧ ((n = 0 ∧ root < 0) ∨ (0 < n ∧ 0 ≤ root)) ∧ Calls Try.prog 76 #[.pointer (some ⟨t, 0, none⟩)] wr fun e w' => e = .returned (.int .i64 root) ∧ wr = w' := by
  obtain ⟨p, g, root, M, hT, hm, hr, hf, hM, hw⟩ := h
  obtain ⟨a, c, e, _, _⟩ := hf.cells
  refine ⟨M.length, c, a, root, e, hM, ?_, TRoot_calls t l p g root wr hT⟩
  rcases hr with ⟨rfl, rfl⟩ | ⟨d, r, rfl, h1⟩
  · exact .inl ⟨rfl, by decide⟩
  · obtain ⟨_, q, _, hq, _, hp⟩ := h1
    exact .inr ⟨List.length_pos_iff.2 (repP_some hp hq), by omega⟩

set_option maxRecDepth 100000 in
set_option maxHeartbeats 12800000 in
theorem BtreePlays_calls (v : Value) (ls : List Act6) (f : Str) (w : World) (h : Acts6In w v ls) :
    Calls Try.prog 14 #[v, .string ⟨f.toArray⟩] w fun e w' => e = .returned (.bool true) ∧ Mod NoB w w' := by
  obtain ⟨a, cap, rfl, hcap, hmax, hc⟩ := h
  have HC := Lib.hid hc
  rw [maxLen_eq] at hmax
  clear hc
  go_enter Try.func14, Try.ntmps14
  go_wp2_with fail
  refine (fresh_calls w).mono ?_
  rintro e W1 ⟨t, l, p, rfl, hm1, ht1, htw, hlw⟩
  letI : Away := ⟨fun q => q = l ∨ q = t⟩
  have hS : ∀ q, (q = l ∨ q = t) → Away.S q := fun q h => h
  have HT1 := Lib.hid ht1
  have HM1 := Lib.hid hm1
  clear hm1 ht1
  go_wp2_with fail
  refine (awake6_calls W1).mono ?_
  rintro e W2 ⟨rfl, hm2⟩
  have HT2 := Lib.hid (HT1.out.mod hm2)
  have HM2 := Lib.hid (HM1.out.trans hm2 (fun _ _ h => h))
  clear hm2 HT1 HM1
  go_wp2_with fail
  have hlt2 := lt_heap HT2.out.tree
  have hll2 := lt_heap HT2.out.log
  have HIN : Hid (BP w (W2.alloc (.cells #[] 207)) t l (.slice (some ⟨W2.heap.size, 0, none⟩) 0 0) 0) := by
    refine ⟨p, emptyLog, -1, [], HT2.out.mod ((Mod.refl _ _).alloc _), HM2.out.alloc _, .inl ⟨rfl, rfl⟩, ⟨⟨rfl, .inr ⟨W2.heap.size, 0, #[], rfl, Nat.zero_le _, heap_alloc_new _ _, Nat.le_refl _, by rw [maxLen_eq]; omega, rfl, rfl⟩⟩, ⟨fun q hq hs => ?_, fun q hq => ?_⟩⟩, Nat.le_refl _, by decide⟩
    · have hq' : W2.heap.size = q := Option.some.inj hq
      have hs' : q = l ∨ q = t := hs
      omega
    · have hs' : q = l ∨ q = t := hq
      rw [size_alloc]
      omega
  generalize W2.alloc (.cells #[] 207) = W3 at *
  generalize W2.heap.size = g0 at *
  go_loopw [8, 9] (fun m i wr => ∃ k : Nat, k ≤ ls.length ∧ k ≤ 300 ∧ i = .int .i64 k ∧ Hid (BP w wr t l m k)) (fun _ i _ => ls.length - (intOf i).toNat)
  case atStart => exact ⟨0, by omega, by omega, rfl, HIN⟩
  case round =>
    obtain ⟨k, hkl, hk300, rfl, HREL⟩ := hrel
    by_cases hlt : k < ls.length ∧ k < 300
    · obtain ⟨hlt, hlt3⟩ := hlt
      obtain ⟨ba, q, rfl, hba, e0, e1, e2, hs1, hs2⟩ := HC.out k hlt
      have hM : Mod NoB w wr := by obtain ⟨_, _, _, _, _, hm, _⟩ := HREL.out; exact hm
      rw [← World.cell?_of_block (w := w) (hM.block ba hba id)] at e0 e1 e2
      have hbw := Nat.lt_of_lt_of_le hba hM.size
      generalize ls[k] = A at *
      have HON := Lib.hid (HREL.out.one A hk300 hS htw hlw hs1 hs2)
      obtain ⟨kind, key, val⟩ := A
      simp only at e0 e1 e2 hs1 hs2
      clear HIN hM HT2 HM2 HREL
      go_wp2_with fail
      refine HON.out.mono ?_
      rintro e W5 ⟨v', rfl, hb⟩
      have HB := Lib.hid hb
      clear hb HON e0 e1 e2
      have hk301 : k + 1 ≤ 300 := by omega
      have HHS := Lib.hid (HB.out.has f hk301)
      by_cases m16 : (k : Int) % 16 = 0
      · go_wp2_with fail
        refine HHS.out.mono ?_
        rintro e W6 ⟨rfl, hb, _⟩
        have HB2 := Lib.hid hb
        clear hb HHS HB
        go_wp2_with fail
        go_roundw
        case rel => exact ⟨k + 1, by omega, by omega, by go_num, HB2⟩
        case measure => simp [intOf]; omega
      · clear HHS
        go_wp2_with fail
        go_roundw
        case rel => exact ⟨k + 1, by omega, by omega, by go_num, HB⟩
        case measure => simp [intOf]; omega
    · clear HC HIN HT2 HM2
      obtain ⟨n, c, a', _, rfl, hnk, _, _⟩ := HREL.out.root
      have HH1 := Lib.hid (HREL.out.has [] hk300)
      clear HREL
      go_wp2_with fail
      all_goals
        refine HH1.out.mono ?_
        rintro e W5 ⟨rfl, hb5, _⟩
        have HH2 := Lib.hid (hb5.has f hk300)
        clear hb5
        go_wp2_with fail
        refine HH2.out.mono ?_
        rintro e W6 ⟨rfl, hb6, _⟩
        obtain ⟨n2, c2, a2, root, e6, _, hcs, hrt⟩ := hb6.root
        cases e6
        have hM6 : Mod NoB w W6 := by obtain ⟨_, _, _, _, _, hm, _⟩ := hb6; exact hm
        have HM6 := Lib.hid hM6
        have HRT := Lib.hid hrt
        clear hb6 hrt hM6 HH1 HH2
        rcases hcs with ⟨rfl, hr⟩ | ⟨hn, hr⟩
        · go_wp2_with fail
          refine HRT.out.mono ?_
          rintro e W7 ⟨rfl, rfl⟩
          go_wp2_with fail
          refine bodyPost_ret (v := .bool true) (by simp [results, Try.f14, go_sem]) rfl ⟨rfl, HM6.out⟩
        · have hn2 : (((n : Nat) : Int) == 0) = false := by
            rw [beq_eq_false_iff_ne]
            omega
          have hr2 : ¬ root < 0 := by omega
          go_wp2_with fail
          refine HRT.out.mono ?_
          rintro e W7 ⟨rfl, rfl⟩
          go_wp2_with fail
          refine bodyPost_ret (v := .bool true) (by simp [results, Try.f14, go_sem]; omega) rfl ⟨rfl, HM6.out⟩

end Go.Proofs.Ytgofngilfdnakaa

namespace Go.Proofs.Ytgofngilfdnakaa
open Go Go.ChangeShapes Go.WideShapes Go.ChangeAt Go.RowKit

theorem own : ownKnob Try.prog.godebug = none := by kernel_rfl

set_option maxRecDepth 100000 in
theorem btreePlays_lifted (os : Os) (started : os.Started) (H : Type) (enc : TypeId × Value → H) :
    ReturnsInHanded {} Try.checked os 14 .any (Rows.btreePlaysSpec.pre6 enc Try.prog Try.f14 Rows.btreePlaysRow.domain false) (Rows.btreePlaysSpec.post enc Try.prog Try.f14 false true false false) := by
  refine returnsInHanded_of_change (C := Try.checked) own started (by kernel_rfl) Try.func14
    (ChangeSpec.witness6 (enc := enc) (C := Try.checked) false ⟨#[], #[.slice none 0 0, .string ⟨#[]⟩], []⟩ 8 (by kernel_rfl) (by kernel_rfl) (by kernel_rfl) (by kernel_rfl)) ?_
  intro W base args ds gs before hval0 hW hcnd _
  have hval : ∀ (j : Nat) t v, Try.f14.params[j]? = some t → args[j]? = some v → Value.okWide Try.prog W .any base t v := hval0
  have hW' := hW
  obtain ⟨p, q, hA0, hV, rfl, hfz, hnd⟩ := hW
  have hA : DataW.TrodAll enc Try.prog W 0 (fun _ => true) true Try.f14.params.toList args.toList ds p := hA0
  rw [Try.params14] at hA hval
  obtain ⟨v0, v1, d0, d1, p0, p1, rfl, rfl, rfl, h0, h1⟩ := trodAll_two hA
  obtain ⟨rfl, rfl⟩ := trodVars_none hV
  obtain ⟨s1, rfl, _, _, ws1⟩ := Go.ChangeMaps.open_string Try.underlying9 (hval 1 9 v1 rfl rfl) h1
  obtain ⟨ls, hls⟩ := open_acts6 (hval 0 115 v0 rfl rfl) h0
  clear hA0 hval0
  have hc := BtreePlays_calls v0 ls s1.data.toList W hls
  rw [show (⟨s1.data.toList.toArray⟩ : ByteArray) = s1 from rfl] at hc
  refine hc.mono fun e W' ⟨he, hm⟩ => ?_
  subst he
  exact ⟨_, rfl, post_of_below (by kernel_rfl) (by rw [Try.params14]; decide +kernel) rfl hW' (hm.below (fun _ _ => id)) (fun _ _ _ => trodAll_mk1 (shut_bool Try.underlying4 _)) rfl rfl (ok_one (by kernel_rfl) rfl (okWide_bool_mk Try.underlying4 _))⟩

theorem btreePlays_holds : Rows.BtreePlaysSaid :=
  OpenClaim.holds_of_wide 14 Try.f14 rfl rfl rfl rfl rfl rfl rfl ⟨rfl, rfl, rfl, rfl, rfl⟩ rfl rfl rfl rfl rfl (by kernel_rfl) Try.func14 (by kernel_rfl)
    (of_decide_eq_true (by kernel_rfl)) (by unfold Func.isWrapper; first | (rw [if_pos (by decide +kernel)]; kernel_rfl) | (rw [if_neg (by decide +kernel)]; exact ⟨rfl, rfl⟩))
    (fun os started H enc _ => btreePlays_lifted os started H enc)
#print axioms btreePlays_holds

end Go.Proofs.Ytgofngilfdnakaa
