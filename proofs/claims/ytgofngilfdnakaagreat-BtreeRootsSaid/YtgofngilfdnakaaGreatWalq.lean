/-
  This text proves what the small methods of package wal's Log and wal.scan compute: under bounds on lengths that the callers meet.
-/
import Derived.Test.YtgofngilfdnakaaGreatPmA
import Derived.Test.YtgofngilfdnakaaGreatWalP
import Derived.Test.YtgofngilfdnakaaGreatUnframe

namespace Go.Proofs.YtgofngilfdnakaaGreat
open Go Go.RowKit
attribute [local go_sem] over_cell over_frozen lt_over le_over noB loudUpon ByteArray.mk_append_mk ByteArray.extract_mk drop_full

/-- A log in memory, over the disk at p. -/
def Lg.cells (g : Lg) (p : Nat) : Array Value := #[.pointer (some ⟨p, 0, none⟩), .string ⟨g.s.toArray⟩, .string ⟨g.wait.toArray⟩, .string ⟨g.root.toArray⟩, .int .i64 g.marks]
def LogAt (w : World) (l p : Nat) (g : Lg) : Prop := w.heap[l]? = some (.cells (g.cells p) 168 (0, 0))

theorem LogAt.facts {w : World} {l p : Nat} {g : Lg} (h : LogAt w l p g) : l < w.heap.size ∧ w.cell? ⟨l, 0, none⟩ = some (.pointer (some ⟨p, 0, none⟩)) ∧ w.cell? ⟨l, 1, none⟩ = some (.string ⟨g.s.toArray⟩) ∧ w.cell? ⟨l, 2, none⟩ = some (.string ⟨g.wait.toArray⟩) ∧
    w.cell? ⟨l, 3, none⟩ = some (.string ⟨g.root.toArray⟩) ∧ w.cell? ⟨l, 4, none⟩ = some (.int .i64 g.marks) ∧ ∀ i, w.frozen? ⟨l, i, none⟩ = false :=
  ⟨lt_heap h, cell_heap h 0, cell_heap h 1, cell_heap h 2, cell_heap h 3, cell_heap h 4, frozen_heap h⟩
theorem LogAt.mod {w w' : World} {F : Nat → Prop} {l p : Nat} {g : Lg} (h : LogAt w l p g) (hm : Mod F w w') (hF : ¬ F l) : LogAt w' l p g := (hm.block l (lt_heap h) hF).trans h

set_option maxRecDepth 100000 in
set_option maxHeartbeats 800000 in
theorem Len_calls (l p : Nat) (g : Lg) (w : World) (h : LogAt w l p g) : Calls Tryz.prog 76 #[.pointer (some ⟨l, 0, none⟩)] w fun e w' => e = .returned (.int .i64 g.s.length) ∧ w = w' := by
  obtain ⟨hb, c0, c1, c2, c3, c4, hf⟩ := h.facts
  go_enter Tryz.func76, Tryz.ntmps76
  go_wp2
  go_ret
  exact ⟨rfl, rfl⟩
set_option maxRecDepth 100000 in
set_option maxHeartbeats 800000 in
theorem Root_calls (l p : Nat) (g : Lg) (w : World) (h : LogAt w l p g) : Calls Tryz.prog 74 #[.pointer (some ⟨l, 0, none⟩)] w fun e w' => e = .returned (.tuple #[.string ⟨g.top.1.toArray⟩, .bool g.top.2]) ∧ w = w' := by
  obtain ⟨hb, c0, c1, c2, c3, c4, hf⟩ := h.facts
  unfold Lg.top
  by_cases h0 : g.marks = 0
  · rw [if_pos h0]
    rw [h0] at c4
    clear h0
    go_enter Tryz.func74, Tryz.ntmps74
    go_wp2
    go_ret2
    exact ⟨rfl, rfl⟩
  · rw [if_neg h0]
    have h0' : ((g.marks : Int) == 0) = false := by simpa using h0
    have H0 := Lib.hid h0; clear h0
    go_enter Tryz.func74, Tryz.ntmps74
    go_wp2
    go_ret2
    exact ⟨rfl, rfl⟩
set_option maxRecDepth 100000 in
set_option maxHeartbeats 800000 in
theorem Drop_calls (l p : Nat) (g : Lg) (w : World) (h : LogAt w l p g) : Calls Tryz.prog 80 #[.pointer (some ⟨l, 0, none⟩)] w fun e w' => e = .returned (.int .i64 g.wait.length) ∧ Mod (fun k => k = l) w w' ∧ LogAt w' l p { g with wait := [] } := by
  obtain ⟨hb, c0, c1, c2, c3, c4, hf⟩ := h.facts
  have H := Lib.hid h; clear h
  go_enter Tryz.func80, Tryz.ntmps80
  go_wp2
  go_ret
  refine ⟨rfl, Mod.setCell (Mod.refl (fun k => k = l) w) _ _ (fun _ => rfl), ?_⟩
  show _ = _
  rw [heap_setCell_same, H.out]
  simp only [Lg.cells, Option.map_some, setAt_cells, List.setIfInBounds_toArray, List.set_cons_zero, List.set_cons_succ]
set_option maxRecDepth 100000 in
set_option maxHeartbeats 800000 in
theorem LAppend_calls (l p : Nat) (g : Lg) (s : Str) (w : World) (h : LogAt w l p g) (hs : s.length ≤ 1000000000) (h1 : g.s.length ≤ 1000000000) (h2 : g.wait.length ≤ 1000000000) :
    Calls Tryz.prog 141 #[.pointer (some ⟨l, 0, none⟩), .string ⟨s.toArray⟩] w fun e w' => e = .returned (.tuple #[.int .i64 (g.append s).1, .int .i64 (g.append s).2.1]) ∧ Mod (fun k => k = l) w w' ∧ LogAt w' l p (g.append s).2.2 := by
  obtain ⟨hb, c0, c1, c2, c3, c4, hf⟩ := h.facts
  have H := Lib.hid h; clear h
  unfold Lg.append
  by_cases hlen : s.length > 1048576
  · rw [if_pos hlen]
    go_enter Tryz.func141, Tryz.ntmps141
    go_wp2
    go_ret2
    exact ⟨rfl, Mod.refl _ _, H.out⟩
  · rw [if_neg hlen]
    have hfl := frame_length (100 :: s)
    rw [List.length_cons] at hfl
    have hfr : ∀ X, Calls Tryz.prog 84 #[.string ⟨(100 :: s).toArray⟩] X fun e w' => e = .returned (.string ⟨(frame (100 :: s)).toArray⟩) ∧ Mod NoB X w' := fun X => Frame_calls (100 :: s) X (by simp only [List.length_cons]; omega)
    have HFR := Lib.hid hfr; clear hfr
    generalize hfe : frame (100 :: s) = fr at *
    have HFE := Lib.hid hfe; clear hfe
    go_enter Tryz.func141, Tryz.ntmps141
    go_wp2
    refine wp_region_quiet_all (fun w' => ∃ x, w' = over _ (NoB) x) (by kernel_rfl) (by kernel_rfl) (Cls.drew _ _) ?_
    repeat (go_big_quiet_step (fail))
    refine wpQuiet_nil ?_
    rintro _ ⟨y, rfl⟩
    go_wp2
    refine wp_region_quiet_tail 8 (fun w' => ∃ x, w' = over _ (NoB) x) (by kernel_rfl) (by kernel_rfl) (Cls.drew _ _) ?_
    simp only [List.take_succ_cons, List.take_zero, List.drop_succ_cons, List.drop_zero]
    repeat (go_big_quiet_step ((go_at_call 84; exact Calls.cls (fun _ _ h => h) (HFR.out _))))
    refine wpQuiet_nil ?_
    rintro _ ⟨y2, rfl⟩
    go_wp2
    go_ret2
    refine ⟨rfl, ?_, ?_⟩
    · (repeat (first | exact Mod.refl _ _ | refine Mod.drew ?_ | refine Mod.drewN _ ?_ | refine Mod.alloc ?_ _ | refine Mod.setCell ?_ _ _ (fun _ => rfl) | refine Mod.over' ?_ _ (fun _ _ h => h) | refine Mod.over' ?_ _ (fun _ _ h => h.elim)))
    · show _ = _
      rw [heap_setCell_same, over_heap (Nat.lt_of_lt_of_le hb (over_mod w NoB y).size) (noB l), over_heap hb (noB l), H.out]
      simp only [Lg.cells, Option.map_some, setAt_cells, List.setIfInBounds_toArray, List.set_cons_zero, List.set_cons_succ]

theorem unframe_ok {s : Str} {k : Nat} {t : Str} {n : Nat} (h : unframe s k = (t, n, 0)) : n = k + t.length + 8 ∧ n ≤ s.length ∨ s.length < k := by
  obtain ⟨⟨rest, h3⟩, h4, h5⟩ := (unframe_iff s k t n).1 h
  have hl := congrArg List.length h3
  simp only [List.length_drop, List.length_append, frame_length] at hl
  omega

set_option maxRecDepth 100000 in
set_option maxHeartbeats 1600000 in
theorem scan_calls (s : Str) (hs : s.length ≤ 1000000000000) (w : World) :
    Calls Tryz.prog 102 #[.string ⟨s.toArray⟩] w fun e w' => e = .returned (.tuple #[.int .i64 (scan s).1, .string ⟨(scan s).2.1.toArray⟩, .int .i64 (scan s).2.2]) ∧ Mod NoB w w' := by
  go_enter Tryz.func102, Tryz.ntmps102
  go_wp2
  have HM0 : Hid (Mod NoB w w) := Mod.refl _ _
  have HS0 : Hid (scanG (s.length + 1) s 0 (0, [], 0) = scan s) := rfl
  go_loopw [5, 6, 7, 8] (fun e r m i wr => ∃ (k x q f : Nat) (t : Str), i = .int .i64 k ∧ e = .int .i64 x ∧ r = .string ⟨t.toArray⟩ ∧ m = .int .i64 q ∧ k ≤ s.length ∧ s.length < k + f ∧ q ≤ k ∧ Hid (scanG f s k (x, t, q) = scan s) ∧ Hid (Mod NoB w wr)) (fun _ _ _ i _ => s.length - (intOf i).toNat)
  case atStart => exact ⟨0, 0, 0, s.length + 1, [], rfl, rfl, rfl, rfl, by omega, by omega, by omega, HS0, HM0⟩
  case round =>
    clear HM0 HS0
    obtain ⟨k, x, q, f, t, rfl, rfl, rfl, rfl, hk, hf, hq, HSC, HM⟩ := hrel
    by_cases hlt : k < s.length
    · obtain ⟨f, rfl⟩ : ∃ g, f = g + 1 := ⟨f - 1, by omega⟩
      have hst := HSC.out
      rw [scanG, if_pos hlt] at hst
      have hcall := Unframe_calls s k (by omega) (by omega) wr
      cases hu : unframe s k with
      | mk u ne =>
      obtain ⟨n, e⟩ := ne
      rw [hu] at hst hcall
      simp only at hst hcall
      have HC := Lib.hid hcall
      clear hcall HSC
      by_cases he : e = 0
      · subst he
        have hok := unframe_ok hu
        cases u with
        | nil =>
          simp only at hst
          have HST := Lib.hid hst
          clear hst hu hok
          go_wp2_with fail
          refine HC.out.mono ?_
          rintro e w2 ⟨rfl, hm⟩
          have HM2 : Hid (Mod NoB w w2) := HM.out.trans hm (fun _ _ h => h)
          clear hm HM HC
          go_wp2_with fail
          go_ret3
          rw [← HST.out]
          exact ⟨rfl, HM2.out⟩
        | cons c u =>
          simp only [ne_eq, not_true_eq_false, if_false] at hst
          simp only [List.length_cons] at hok
          by_cases c1 : c = 109
          · subst c1
            simp only [if_true] at hst
            have HST := Lib.hid hst
            clear hst hu
            go_wp2_with fail
            refine HC.out.mono ?_
            rintro e w2 ⟨rfl, hm⟩
            have HM2 : Hid (Mod NoB w w2) := HM.out.trans hm (fun _ _ h => h)
            clear hm HM HC
            go_wp2_with fail
            refine wp_region_staged [⟨0, 0, false⟩, ⟨0, 0, false⟩, ⟨0, 0, false⟩, ⟨0, 0, false⟩, ⟨0, 0, false⟩, ⟨0, 0, false⟩, ⟨0, 0, false⟩, ⟨0, 0, false⟩] 0 (clsOf ((fun W : World => [fun w' => ∃ x, w' = over W NoB x]) _)) (by kernel_rfl) (by kernel_rfl) (by first | exact Cls.drew _ _ | exact ⟨(), rfl⟩) ?_
            refine wpSt_same rfl ?_
            go_big_quiet_step (fail)
            refine wpQuiet_nil ?_
            refine wpSt_same rfl ?_
            go_big_quiet_step (fail)
            refine wpQuiet_nil ?_
            refine wpSt_same rfl ?_
            go_big_quiet_step (fail)
            refine wpQuiet_nil ?_
            refine wpSt_same rfl ?_
            go_big_quiet_step (fail)
            refine wpQuiet_nil ?_
            refine wpSt_same rfl ?_
            go_big_quiet_step (fail)
            refine wpQuiet_nil ?_
            refine wpSt_same rfl ?_
            go_big_quiet_step (fail)
            refine wpQuiet_nil ?_
            refine wpSt_same rfl ?_
            go_big_quiet_step (fail)
            refine wpQuiet_nil ?_
            refine wpSt_same rfl ?_
            go_big_quiet_step (fail)
            refine wpQuiet_nil ?_
            refine wpSt_nil ?_
            rintro _ ⟨y, rfl⟩
            go_wp2
            go_roundw
            case rel => exact ⟨n, n, q + 1, f, u, rfl, rfl, by simp, by go_num, by omega, by omega, by omega, HST, HM2.out.trans (over_mod _ _ _) (fun _ _ h => h)⟩
            case measure => simp [intOf]; omega
          · by_cases c2 : c = 100
            · subst c2
              simp only [show ¬ ((100 : UInt8) = 109) by decide, if_false, if_true] at hst
              have HST := Lib.hid hst
              clear hst hu c1
              go_wp2_with fail
              refine HC.out.mono ?_
              rintro e w2 ⟨rfl, hm⟩
              have HM2 : Hid (Mod NoB w w2) := HM.out.trans hm (fun _ _ h => h)
              clear hm HM HC
              go_wp2_with fail
              go_roundw
              case rel => exact ⟨n, x, q, f, t, rfl, rfl, rfl, rfl, by omega, by omega, by omega, HST, HM2⟩
              case measure => simp [intOf]; omega
            · simp only [c1, c2, if_false] at hst
              have d1 : (c == 109) = false := by simpa using c1
              have d2 : (c == 100) = false := by simpa using c2
              have HST := Lib.hid hst
              clear hst hu hok
              go_wp2_with fail
              refine HC.out.mono ?_
              rintro e w2 ⟨rfl, hm⟩
              have HM2 : Hid (Mod NoB w w2) := HM.out.trans hm (fun _ _ h => h)
              clear hm HM HC
              go_wp2_with fail
              go_ret3
              rw [← HST.out]
              exact ⟨rfl, HM2.out⟩
      · have hst2 : (x, t, q) = scan s := by
          rw [← hst]
          split
          · rename_i c u' n' e' heq
            simp only [Prod.mk.injEq] at heq
            rw [if_pos (by rw [← heq.2.2]; exact he)]
          · rfl
        have HST := Lib.hid hst2
        have he' : (e != 0) = true := by simpa using he
        have HE := Lib.hid he
        clear hst hst2 hu he
        go_wp2_with fail
        refine HC.out.mono ?_
        rintro e w2 ⟨rfl, hm⟩
        have HM2 : Hid (Mod NoB w w2) := HM.out.trans hm (fun _ _ h => h)
        clear hm HM HC
        go_wp2_with fail
        go_ret3
        rw [← HST.out]
        exact ⟨rfl, HM2.out⟩
    · have hst : (x, t, q) = scan s := by
        rw [← HSC.out]
        cases f with
        | zero => rfl
        | succ f => rw [scanG, if_neg hlt]
      have HST := Lib.hid hst
      clear hst HSC
      go_wp2_with fail
      go_ret3
      rw [← HST.out]
      exact ⟨rfl, HM.out⟩

end Go.Proofs.YtgofngilfdnakaaGreat
