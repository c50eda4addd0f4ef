/-
  This text proves that slices.Delete takes the third of four numbers away, that a request of a table ends, and what cupellaw20.SessNil answers: no condition.
-/
import Derived.Test.YtgofngilfdnakaaSess
import Derived.Test.YtgofngilfdnakaaDiskD
import Derived.Deep.RegionWith
import Derived.Deep.Cut
import Derived.Deep.CutRange
namespace Go.Proofs.Ytgofngilfdnakaa
open Go Go.RowKit
attribute [local go_sem] over_cell over_frozen lt_over le_over noB loudUpon

theorem clearU (w : World) (g n c : Nat) (cs : Array Value) (ty : TypeId) (h : w.heap[g]? = some (.cells cs 73 (0, 0))) (hs : n < cs.size) :
    (Builtin.clear_ #[79] ty #[.slice (some ⟨g, n, none⟩) 1 c]).run Try.prog w = .ok (.tuple #[]) (w.setCells g n [.int .u32 0]) := by
  have hv : ∀ w, (zeroValue 73).run Try.prog w = .ok (.int .u32 0) w := fun w => by kernel_rfl
  have hst := run_storeCells_cells (P := Try.prog) g n [.int .u32 0] 0 w (fun j hj => by rw [cell_heap h]; simp at hj; simp; omega) (fun j hj => frozen_heap h _) (by simp [Value.oneCell'])
  have hz : (Builtin.zeroCells (Value.int .u32 0).cells 1).toList = [.int .u32 0] := by simp [Builtin.zeroCells, Value.cells]
  simp [Builtin.clear_, run_underlying Try.underlying79, hv, hz, hst]

set_option maxRecDepth 100000 in
set_option maxHeartbeats 800000 in
theorem Delete4_calls (g c : Nat) (cs : Array Value) (x : Nat) (w : World) (h : w.heap[g]? = some (.cells cs 73 (0, 0))) (hs : cs.size = c) (hc : 4 ≤ c) (hm : c ≤ maxLen) (hx : cs[3]? = some (.int .u32 x)) :
    Calls Try.prog 104 #[.slice (some ⟨g, 0, none⟩) 4 c, .int .i64 2, .int .i64 3] w fun e w' => e = .returned (.slice (some ⟨g, 0, none⟩) 3 c) ∧ Mod (fun k => k = g) w w' ∧
      w'.heap[g]? = some (.cells ((cs.setIfInBounds 2 (.int .u32 x)).setIfInBounds 3 (.int .u32 0)) 73 (0, 0)) := by
  have hg := lt_heap h
  obtain ⟨i, z, hi, hz, hz1, hz2, hz3⟩ := infoU
  rw [maxLen_eq] at hm
  have hn3 : ¬ c = 3 := by omega
  have hh := fun y => (over_heap (w := w) (x := y) (F := NoB) hg id).trans h
  have hrun := fun y => run_append_room_cells (P := Try.prog) (over w NoB y) 79 79 73 i Try.underlying79 hi g 0 2 c ⟨g, 3, none⟩ 1 (c - 3) [.int .u32 x] (by rw [hz1]; rfl) (fun j u hj => by
    have : j = 0 := by
      have := (List.getElem?_eq_some_iff.1 hj).1
      simpa using this
    subst this
    rw [show (⟨g, 3, none⟩ : Addr).add 0 = ⟨g, 3, none⟩ from rfl, cell_heap (hh y), hx]
    exact hj) (by simp [Value.oneCell']) (by omega) (fun j hj => by rw [cell_heap (hh y), hz1]; simp at hj; simp; omega) (fun j hj => frozen_heap (hh y) _)
  rw [hz1] at hrun
  have hset : ∀ y, (over w NoB y).setCells g (0 + 2 * 1) [.int .u32 x] = (over w NoB y).setCell ⟨g, 2, none⟩ (.int .u32 x) := fun y => rfl
  have hclr := fun y ty => clearU ((over w NoB y).setCell ⟨g, 2, none⟩ (.int .u32 x)) g 3 (c - 3) (cs.setIfInBounds 2 (.int .u32 x)) ty (by rw [heap_setCell_same, hh y]; rfl) (by simp; omega)
  have HH := Lib.hid hh
  have HRUN := Lib.hid hrun
  clear hh hrun
  go_enter Try.func104, Try.ntmps104
  go_wp2
  refine wp_region_quiet_tail 6 (fun w' => ∃ x, w' = over _ (NoB) x) (by kernel_rfl) (by kernel_rfl) (Cls.drew _ _) ?_
  simp only [List.take_succ_cons, List.take_zero, List.drop_succ_cons, List.drop_zero]
  repeat (go_big_quiet_step (fail))
  refine wpQuiet_nil ?_
  rintro _ ⟨y, rfl⟩
  refine wpList_append_run rfl _ _ _ rfl rfl rfl (HRUN.out y) ?_
  rw [hset]
  go_wp2
  go_ret
  refine ⟨rfl, ?_, ?_⟩
  · show Mod _ w (((over w NoB y).setCell ⟨g, 2, none⟩ (.int .u32 x)).setCell ⟨g, 3, none⟩ (.int .u32 0))
    iterate 2 refine Mod.setCell ?_ _ _ (fun _ => rfl)
    exact (over_mod _ _ _).mono (noB_sub _ _)
  · show (((over w NoB y).setCell ⟨g, 2, none⟩ (.int .u32 x)).setCell ⟨g, 3, none⟩ (.int .u32 0)).heap[g]? = _
    rw [heap_setCell_same, heap_setCell_same, HH.out y]
    rfl

theorem nums_cut {cur : Array Value} {c : Nat} (hs : cur.size = c) (hc : 4 ≤ c) (hcur : ∀ i : Nat, i < 4 → cur[i]? = ([0, 1, 2, 3].map fun n : Nat => Value.int .u32 (n : Int))[i]?) :
    ((cur.setIfInBounds 2 (.int .u32 3)).setIfInBounds 3 (.int .u32 0)).toList.take 3 = [0, 1, 3].map fun n : Nat => Value.int .u32 (n : Int) := by
  have h0 := hcur 0 (by omega)
  have h1 := hcur 1 (by omega)
  apply List.ext_getElem?
  intro i
  rw [List.getElem?_take]
  split
  · rename_i hi
    rw [Array.getElem?_toList]
    match i, hi with
    | 0, _ => simp; rw [h0]; rfl
    | 1, _ => simp; rw [h1]; rfl
    | 2, _ => simp [Array.getElem?_setIfInBounds]; omega
  · rw [List.getElem?_eq_none]
    simp; omega

set_option maxRecDepth 100000 in
set_option maxHeartbeats 1600000 in
theorem SEnd_calls (t b k a base : Nat) (v : Value) (w : World) (h : TabAt w t b k (one3 v) a) (hv : Nums w base v [0, 1, 2, 3]) (ha : 1 ≤ a) (ha2 : a ≤ 1000) (hk : k ≤ 900) (hne : v.ownBlock ≠ some t ∧ v.ownBlock ≠ some b) :
    Calls Try.prog 51 #[.pointer (some ⟨t, 0, none⟩), .int .i64 3, .int .u32 2] w fun e w' => e = .returned (.bool true) ∧ Mod (fun q => q = t ∨ q = b ∨ v.ownBlock = some q) w w' ∧
      ∃ v', TabAt w' t b (k + 1) (one3 v') (a - 1) ∧ Nums w' base v' [0, 1, 3] ∧ v'.ownBlock = v.ownBlock := by
  have HIS := Lib.hid (SIs_calls t b k a v w h)
  have HIX := Lib.hid (Index_some base v [0, 1, 2, 3] 2 2 w hv rfl (fun j hj => by
    rcases j with _ | _ | j
    · decide
    · decide
    · omega) (by decide))
  obtain ⟨ht, hm⟩ := h
  have htb : t ≠ b := fun e => by
    obtain ⟨es, clock, hb, _⟩ := hm
    rw [← e, ht] at hb
    cases hb
  have hl := hm.look1
  have hl0 := (hm.mod ((Mod.refl NoB w).drew) id).look1
  have c0 := cell_heap ht 0
  have c1 := cell_heap ht 1
  have tb := lt_heap ht
  simp only [List.getElem?_toArray, List.getElem?_cons_zero, List.getElem?_cons_succ] at c0 c1
  rcases hv.2 with ⟨hv0, hn⟩ | ⟨g, cap, cur, rfl, hbg, hg, hnc, hcm, hcs, htk⟩
  · simp at hn
  have hcur : ∀ i : Nat, i < 4 → cur[i]? = ([0, 1, 2, 3].map fun n : Nat => Value.int .u32 (n : Int))[i]? := fun i hi => by
    rw [← htk, List.getElem?_take, if_pos (by simpa using hi), Array.getElem?_toList]
  simp only [List.length_cons, List.length_nil, Nat.zero_add, Nat.reduceAdd] at hnc hl hl0 HIX
  have HDL := Lib.hid (fun X (hX : Mod NoB w X) => Delete4_calls g cap cur 3 X ((hX.block g (lt_heap hg) id).trans hg) (by omega) hnc hcm (hcur 3 (by omega)))
  have HM := Lib.hid hm
  have HT := Lib.hid ht
  have HTB := Lib.hid htb
  have HNE := Lib.hid hne
  have HCUR := Lib.hid hcur
  clear hm ht hv htb hne hg htk hcur
  go_enter Try.func51, Try.ntmps51
  go_upto_region 6 with (first
    | (go_at_call 57; refine HIS.out.mono ?_; rintro e w' ⟨rfl, rfl⟩)
    | (go_at_call 103; refine HIX.out.mono ?_; rintro e w' ⟨rfl, rfl⟩))
  go_region_with (go_at_call 104; refine (HDL.out _ ?_).mono ?_; exact (Mod.refl _ _).drew; rintro e w1 ⟨rfl, hm1, hh1⟩; have hm1' : Mod (fun k => k = g) w w1 := ((Mod.refl _ _).drew).trans hm1 (fun _ _ h => h); have ht1 := (hm1'.block t tb (fun e => HNE.out.1 (by rw [e]; rfl))).trans HT.out; obtain ⟨w2, hrun2, h2, hm2⟩ := (HM.out.mod hm1' (fun e => HNE.out.2 (by rw [e]; rfl))).put (.inr ⟨_, rfl⟩) (by omega) (.slice (some ⟨g, 0, none⟩) 3 cap); have x0 := (cell_heap ht1 0 : w1.cell? ⟨t, 0, none⟩ = some (.map (some b))); have xb := lt_heap ht1)
  all_goals
    have ht2 := (hm2.block t xb HTB.out).trans ht1
    have z1 := (cell_heap ht2 1 : w2.cell? ⟨t, 1, none⟩ = some (.int .i64 a))
    have zb := lt_heap ht2
    have zf := frozen_heap ht2
    have HT2 := Lib.hid ht2
    have H2 := Lib.hid h2
    have HM1 := Lib.hid hm1'
    have HM2 := Lib.hid hm2
    have HH1 := Lib.hid hh1
    clear ht2 h2 hm1 hm1' hm2 hh1 ht1 hrun2 x0 xb hl hl0
    go_wp2_with fail
    go_ret
    have hs : Mod (fun q => q = t) w2 (w2.setCell ⟨t, 1, none⟩ (.int .i64 ((a : Int) - 1))) := (Mod.refl _ _).setCell _ _ (fun _ => rfl)
    have hgt : g ≠ t := fun e => HNE.out.1 (by rw [e]; rfl)
    have hgb : g ≠ b := fun e => HNE.out.2 (by rw [e]; rfl)
    have hg2 := (hs.block g (Nat.lt_of_lt_of_le (lt_heap HH1.out) HM2.out.size) hgt).trans ((HM2.out.block g (lt_heap HH1.out) hgb).trans HH1.out)
    refine ⟨rfl, ?_, .slice (some ⟨g, 0, none⟩) 3 cap, ⟨?_, H2.out.mod hs (fun e => HTB.out e.symm)⟩, ⟨rfl, .inr ⟨g, cap, _, rfl, hbg, hg2, by simp only [List.length_cons, List.length_nil]; omega, hcm, ?_, ?_⟩⟩, rfl⟩
    · exact ((HM1.out.mono (fun k _ e => .inr (.inr (by rw [e]; rfl)))).trans HM2.out (fun _ _ e => .inr (.inl e))).trans hs (fun _ _ e => .inl e)
    · have e : ((a : Int) - 1) = ((a - 1 : Nat) : Int) := by omega
      rw [e, heap_setCell_same, HT2.out]
      rfl
    · simp; omega
    · exact nums_cut (by omega) hnc HCUR.out

set_option maxRecDepth 100000 in
set_option maxHeartbeats 1600000 in
theorem awake20_calls (w : World) : Calls Try.prog 47 #[] w fun e w' => e = .returned (.bool true) ∧ Mod NoB w w' := by
  go_enter Try.func47, Try.ntmps47
  go_wp2_with fail
  refine (SNew_calls w).mono ?_
  rintro e W1 ⟨rfl, hm1, ht1⟩
  have hop := SOpen_calls _ _ W1 ht1
  have hsz1 := hm1.size
  obtain ⟨t, htt⟩ : ∃ t, w.heap.size + 1 = t := ⟨_, rfl⟩
  obtain ⟨b, hbb⟩ : ∃ b, w.heap.size = b := ⟨_, rfl⟩
  rw [htt] at ht1 hop ⊢
  have HB : Hid (w.heap.size ≤ t ∧ w.heap.size ≤ b ∧ b = w.heap.size) := ⟨by omega, by omega, hbb.symm⟩
  have hopb : Calls Try.prog 49 #[.pointer (some ⟨t, 0, none⟩), .int .i64 3] W1 fun e w' => e = .returned (.int .i64 0) ∧ Mod (fun k => k = b) W1 w' ∧ TabAt w' t b 1 (one3 (.slice none 0 0)) 0 := by rw [← hbb]; exact hop
  have HOP := Lib.hid hopb
  have HM1 := Lib.hid hm1
  clear hop hopb hm1 ht1 hsz1 htt hbb
  go_wp2_with fail
  refine HOP.out.mono ?_
  rintro e W2 ⟨rfl, hm2, ht2⟩
  have HREL : Hid (∃ v, Mod NoB w W2 ∧ TabAt W2 t b (1 + 0) (one3 v) 0 ∧ Nums W2 w.heap.size v (List.range 0) ∧ v.ownBlock ≠ some t ∧ v.ownBlock ≠ some b) :=
    ⟨.slice none 0 0, HM1.out.trans hm2 (fun k hk e => by have := HB.out; omega), ht2, ⟨rfl, .inl ⟨rfl, rfl⟩⟩, by simp [Value.ownBlock], by simp [Value.ownBlock]⟩
  clear hm2 ht2 HOP HM1
  go_wp2_with fail
  go_loopw [2] (fun i wr => ∃ k : Nat, k ≤ 4 ∧ i = .int .i64 k ∧ Hid (∃ v, Mod NoB w wr ∧ TabAt wr t b (1 + k) (one3 v) k ∧ Nums wr w.heap.size v (List.range k) ∧ v.ownBlock ≠ some t ∧ v.ownBlock ≠ some b)) (fun i _ => 4 - (intOf i).toNat)
  case atStart => exact ⟨0, by omega, rfl, HREL⟩
  case round =>
    obtain ⟨k, hk, rfl, HR⟩ := hrel
    by_cases hlt : k < 4
    · obtain ⟨v, hm, ht, hv, hn1, hn2⟩ := HR.out
      have hbg := SBegin_ok t b (1 + k) k w.heap.size v (List.range k) k wr ht hv (by simp) (by simpa using hlt) (by omega) (by omega) hm.size ⟨hn1, hn2⟩
      have hlow := fun q (hq : v.ownBlock = some q) => (hv.lt q hq).1
      have HBG := Lib.hid hbg
      have HM := Lib.hid hm
      have HLOW := Lib.hid hlow
      clear hbg hm ht hv hn1 hn2 HR hlow HREL
      go_wp2_with fail
      refine HBG.out.mono ?_
      rintro e w2 ⟨rfl, hm2, v2, ht2, hv2, hn1, hn2⟩
      have HR2 : Hid (∃ v, Mod NoB w w2 ∧ TabAt w2 t b (1 + (k + 1)) (one3 v) (k + 1) ∧ Nums w2 w.heap.size v (List.range (k + 1)) ∧ v.ownBlock ≠ some t ∧ v.ownBlock ≠ some b) := by
        refine ⟨v2, HM.out.trans hm2 (fun q hq e => ?_), ht2, by rw [List.range_succ]; exact hv2, hn1, hn2⟩
        have := HB.out
        rcases e with e | e | e
        · omega
        · omega
        · have := HLOW.out q e; omega
      clear hm2 ht2 hv2 hn1 hn2 HBG HM HLOW
      go_wp2_with fail
      go_roundw
      case rel => exact ⟨k + 1, by omega, by go_num, HR2⟩
      case measure => simp [intOf]; omega
    · have hk4 : k = 4 := by omega
      subst hk4
      obtain ⟨v, hm, ht, hv, hn1, hn2⟩ := HR.out
      have hqu := SBegin_quota t b (1 + 4) 4 w.heap.size v (List.range 4) 9 wr ht hv (by decide) (by decide)
      have hen := SEnd_calls t b (1 + 4) 4 w.heap.size v wr ht hv (by omega) (by omega) (by omega) ⟨hn1, hn2⟩
      have hlow := fun q (hq : v.ownBlock = some q) => (hv.lt q hq).1
      have HQU := Lib.hid hqu
      have HEN := Lib.hid hen
      have HM := Lib.hid hm
      have HLOW := Lib.hid hlow
      have HNE : Hid (v.ownBlock ≠ some t ∧ v.ownBlock ≠ some b) := ⟨hn1, hn2⟩
      clear hqu hen hm ht hv hn1 hn2 HR hlow HREL
      go_wp2_with fail
      refine HQU.out.mono ?_
      rintro e w' ⟨rfl, rfl⟩
      go_wp2_with fail
      refine HEN.out.mono ?_
      rintro e w2 ⟨rfl, hm2, v2, ht2, hv2, hw2⟩
      have hM2 : Mod NoB w w2 := HM.out.trans hm2 (fun q hq e => by
        have := HB.out
        rcases e with e | e | e
        · omega
        · omega
        · have := HLOW.out q e; omega)
      have hbg := SBegin_ok t b (1 + 4 + 1) (4 - 1) w.heap.size v2 [0, 1, 3] 9 w2 ht2 hv2 (by decide) (by decide) (by omega) (by omega) hM2.size (by rw [hw2]; exact HNE.out)
      have HBG := Lib.hid hbg
      have HM2 := Lib.hid hM2
      have HL2 : Hid (∀ q, v2.ownBlock = some q → w.heap.size ≤ q) := fun q hq => (hv2.lt q hq).1
      clear hbg hM2 hm2 ht2 hv2 hw2 HQU HEN HM HLOW
      go_wp2_with fail
      refine HBG.out.mono ?_
      rintro e w3 ⟨rfl, hm3, v3, ht3, _⟩
      have HM3 : Hid (Mod NoB w w3) := HM2.out.trans hm3 (fun q hq e => by
        have := HB.out
        rcases e with e | e | e
        · omega
        · omega
        · have := HL2.out q e; omega)
      have HAL := Lib.hid (SAll_calls t b _ _ _ w3 ht3)
      clear hm3 ht3 HBG HM2 HL2
      go_wp2_with fail
      refine HAL.out.mono ?_
      rintro e w' ⟨rfl, rfl⟩
      go_wp2_with fail
      go_ret
      exact ⟨rfl, HM3.out⟩

set_option maxRecDepth 100000 in
set_option maxHeartbeats 1600000 in
theorem SessNil_calls (k n : Int) (w : World) : Calls Try.prog 10 #[.int .i64 k, .int .u32 n] w fun e w' => e = .returned (.bool true) ∧ Mod NoB w w' := by
  go_enter Try.func10, Try.ntmps10
  go_wp2_with fail
  refine (awake20_calls w).mono ?_
  rintro e W ⟨rfl, hm⟩
  have HM := Lib.hid hm
  clear hm
  go_wp2_with (first
    | (go_at_call 49; refine (SOpen_nil3 _ _).mono ?_; rintro e w' ⟨rfl, rfl⟩)
    | (go_at_call 57; refine (SIs_nil3 _ _).mono ?_; rintro e w' ⟨rfl, rfl⟩)
    | (go_at_call 55; refine (SBegin_nil3 _ _ _).mono ?_; rintro e w' ⟨rfl, rfl⟩)
    | (go_at_call 51; refine (SEnd_nil3 _ _ _).mono ?_; rintro e w' ⟨rfl, rfl⟩)
    | (go_at_call 53; refine (SClose_nil3 _ _).mono ?_; rintro e w' ⟨rfl, rfl⟩)
    | (go_at_call 58; refine (SSessions_nil3 () _).mono ?_; rintro e w' ⟨rfl, rfl⟩)
    | (go_at_call 59; refine (SCount_nil3 _ _).mono ?_; rintro e w' ⟨rfl, rfl⟩)
    | (go_at_call 60; refine (SAll_nil3 () _).mono ?_; rintro e w' ⟨rfl, rfl⟩))
  go_ret
  exact ⟨rfl, HM.out⟩

end Go.Proofs.Ytgofngilfdnakaa
