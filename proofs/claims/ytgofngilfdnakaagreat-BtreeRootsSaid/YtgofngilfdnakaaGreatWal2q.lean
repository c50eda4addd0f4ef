/-
  This text proves what wal.Log.Read and wal.Log.Commit do: under bounds on lengths that the callers meet.
-/
import Derived.Test.YtgofngilfdnakaaGreatWalq

namespace Go.Proofs.YtgofngilfdnakaaGreat
open Go Go.RowKit
attribute [local go_sem] over_cell over_frozen lt_over le_over noB loudUpon ByteArray.mk_append_mk ByteArray.extract_mk drop_full

set_option maxRecDepth 100000 in
set_option maxHeartbeats 1600000 in
theorem LRead_calls (l p : Nat) (g : Lg) (k : Int) (w : World) (h : LogAt w l p g) (h1 : g.s.length ≤ 1000000000000) (h2 : g.wait.length ≤ 1000000000000) (hk : -9223372036854775808 ≤ k) (hk2 : k ≤ 9223372036854775807) :
    Calls Tryz.prog 81 #[.pointer (some ⟨l, 0, none⟩), .int .i64 k] w fun e w' => e = .returned (.tuple #[.string ⟨(g.read k).1.toArray⟩, .int .i64 (g.read k).2]) ∧ Mod NoB w w' := by
  obtain ⟨hb, c0, c1, c2, c3, c4, hf⟩ := h.facts
  clear h
  unfold Lg.read
  by_cases hge : k ≥ g.s.length
  · rw [if_pos hge]
    obtain ⟨j, hj⟩ : ∃ j : Nat, k - g.s.length = j := Int.eq_ofNat_of_zero_le (by omega)
    rw [hj]
    unfold readAt
    by_cases hr : (j : Int) < 0 ∨ (j : Int) ≥ g.wait.length
    · rw [if_pos hr]
      have hr' : (g.wait.length : Int) ≤ j := by omega
      clear hr
      go_enter Tryz.func81, Tryz.ntmps81
      go_wp2
      refine wp_region_staged [⟨0, 0, false⟩, ⟨0, 0, false⟩, ⟨0, 0, false⟩, ⟨0, 0, false⟩, ⟨0, 0, false⟩, ⟨0, 0, false⟩, ⟨0, 0, false⟩, ⟨0, 0, false⟩, ⟨0, 0, false⟩, ⟨0, 0, false⟩, ⟨0, 0, false⟩, ⟨0, 0, false⟩, ⟨0, 0, false⟩] 0 (clsOf ((fun W : World => [fun w' => ∃ x, w' = over W NoB x]) _)) (by kernel_rfl) (by kernel_rfl) (by first | exact Cls.drew _ _ | exact ⟨(), rfl⟩) ?_
      refine wpSt_same rfl ?_
      go_big_quiet_step (fail)
      refine wpQuiet_nil ?_
      refine wpSt_same rfl ?_
      go_big_quiet_step (fail)
      refine wpQuiet_nil ?_
      refine wpSt_same rfl ?_
      go_big_quiet_step (fail)
      refine wpQuiet_nil ?_
      refine wpSt_same rfl ?_
      go_big_quiet_step (fail)
      refine wpQuiet_nil ?_
      refine wpSt_same rfl ?_
      go_big_quiet_step (fail)
      refine wpQuiet_nil ?_
      refine wpSt_same rfl ?_
      go_big_quiet_step (fail)
      refine wpQuiet_nil ?_
      refine wpSt_same rfl ?_
      go_big_quiet_step (fail)
      refine wpQuiet_nil ?_
      refine wpSt_same rfl ?_
      go_big_quiet_step (fail)
      refine wpQuiet_nil ?_
      refine wpSt_same rfl ?_
      go_big_quiet_step (fail)
      refine wpQuiet_nil ?_
      refine wpSt_same rfl ?_
      go_big_quiet_step (fail)
      refine wpQuiet_nil ?_
      refine wpSt_same rfl ?_
      go_big_quiet_step (fail)
      refine wpQuiet_nil ?_
      refine wpSt_same rfl ?_
      go_big_quiet_step (fail)
      refine wpQuiet_nil ?_
      refine wpSt_same rfl ?_
      go_big_quiet_step (fail)
      refine wpQuiet_nil ?_
      refine wpSt_nil ?_
      rintro _ ⟨y, rfl⟩
      go_wp2
      go_ret2
      refine ⟨rfl, ?_⟩
      (repeat (first | exact Mod.refl _ _ | refine Mod.drew ?_ | refine Mod.drewN _ ?_ | refine Mod.alloc ?_ _ | refine Mod.setCell ?_ _ _ (fun _ => rfl) | refine Mod.over' ?_ _ (fun _ _ h => h) | refine Mod.over' ?_ _ (fun _ _ h => h.elim)))
    · rw [if_neg hr]
      have hu := Unframe_calls g.wait j (by omega) (by omega)
      rw [Int.toNat_natCast]
      have hjl : (j : Int) < g.wait.length := by omega
      have hj0 : ¬ (j : Int) < 0 := by omega
      have HU := Lib.hid hu
      clear hr hu
      generalize hx : unframe g.wait j = x at *
      obtain ⟨t, n, e⟩ := x
      have HX := Lib.hid hx
      clear hx
      by_cases he : e = 0
      · subst he
        cases t with
        | nil =>
          rw [asRecord_nil]
          go_enter Tryz.func81, Tryz.ntmps81
          go_wp2
          refine wp_region_staged [⟨0, 0, false⟩, ⟨0, 0, false⟩, ⟨0, 0, false⟩, ⟨0, 0, false⟩, ⟨0, 0, false⟩, ⟨0, 0, false⟩, ⟨0, 0, false⟩, ⟨0, 0, false⟩, ⟨0, 0, false⟩, ⟨0, 0, false⟩, ⟨0, 0, false⟩, ⟨0, 0, false⟩, ⟨0, 0, false⟩] 0 (clsOf ((fun W : World => [fun w' => ∃ x, w' = over W NoB x]) _)) (by kernel_rfl) (by kernel_rfl) (by first | exact Cls.drew _ _ | exact ⟨(), rfl⟩) ?_
          refine wpSt_same rfl ?_
          go_big_quiet_step (fail)
          refine wpQuiet_nil ?_
          refine wpSt_same rfl ?_
          go_big_quiet_step (fail)
          refine wpQuiet_nil ?_
          refine wpSt_same rfl ?_
          go_big_quiet_step (fail)
          refine wpQuiet_nil ?_
          refine wpSt_same rfl ?_
          go_big_quiet_step (fail)
          refine wpQuiet_nil ?_
          refine wpSt_same rfl ?_
          go_big_quiet_step (fail)
          refine wpQuiet_nil ?_
          refine wpSt_same rfl ?_
          go_big_quiet_step (fail)
          refine wpQuiet_nil ?_
          refine wpSt_same rfl ?_
          go_big_quiet_step (fail)
          refine wpQuiet_nil ?_
          refine wpSt_same rfl ?_
          go_big_quiet_step (fail)
          refine wpQuiet_nil ?_
          refine wpSt_same rfl ?_
          go_big_quiet_step (fail)
          refine wpQuiet_nil ?_
          refine wpSt_same rfl ?_
          go_big_quiet_step (fail)
          refine wpQuiet_nil ?_
          refine wpSt_same rfl ?_
          go_big_quiet_step (fail)
          refine wpQuiet_nil ?_
          refine wpSt_same rfl ?_
          go_big_quiet_step (fail)
          refine wpQuiet_nil ?_
          refine wpSt_same rfl ?_
          go_big_quiet_step (fail)
          refine wpQuiet_nil ?_
          refine wpSt_nil ?_
          rintro _ ⟨y, rfl⟩
          go_wp2_with fail
          refine (HU.out _).mono ?_
          rintro e w2 ⟨rfl, hm⟩
          go_wp2_with fail
          go_ret2
          refine ⟨rfl, (over_mod _ _ _).trans hm (fun _ _ h => h)⟩
        | cons c t =>
          rw [asRecord_cons]
          by_cases c2 : c = 100
          · subst c2
            simp only [if_true]
            go_enter Tryz.func81, Tryz.ntmps81
            go_wp2
            refine wp_region_staged [⟨0, 0, false⟩, ⟨0, 0, false⟩, ⟨0, 0, false⟩, ⟨0, 0, false⟩, ⟨0, 0, false⟩, ⟨0, 0, false⟩, ⟨0, 0, false⟩, ⟨0, 0, false⟩, ⟨0, 0, false⟩, ⟨0, 0, false⟩, ⟨0, 0, false⟩, ⟨0, 0, false⟩, ⟨0, 0, false⟩] 0 (clsOf ((fun W : World => [fun w' => ∃ x, w' = over W NoB x]) _)) (by kernel_rfl) (by kernel_rfl) (by first | exact Cls.drew _ _ | exact ⟨(), rfl⟩) ?_
            refine wpSt_same rfl ?_
            go_big_quiet_step (fail)
            refine wpQuiet_nil ?_
            refine wpSt_same rfl ?_
            go_big_quiet_step (fail)
            refine wpQuiet_nil ?_
            refine wpSt_same rfl ?_
            go_big_quiet_step (fail)
            refine wpQuiet_nil ?_
            refine wpSt_same rfl ?_
            go_big_quiet_step (fail)
            refine wpQuiet_nil ?_
            refine wpSt_same rfl ?_
            go_big_quiet_step (fail)
            refine wpQuiet_nil ?_
            refine wpSt_same rfl ?_
            go_big_quiet_step (fail)
            refine wpQuiet_nil ?_
            refine wpSt_same rfl ?_
            go_big_quiet_step (fail)
            refine wpQuiet_nil ?_
            refine wpSt_same rfl ?_
            go_big_quiet_step (fail)
            refine wpQuiet_nil ?_
            refine wpSt_same rfl ?_
            go_big_quiet_step (fail)
            refine wpQuiet_nil ?_
            refine wpSt_same rfl ?_
            go_big_quiet_step (fail)
            refine wpQuiet_nil ?_
            refine wpSt_same rfl ?_
            go_big_quiet_step (fail)
            refine wpQuiet_nil ?_
            refine wpSt_same rfl ?_
            go_big_quiet_step (fail)
            refine wpQuiet_nil ?_
            refine wpSt_same rfl ?_
            go_big_quiet_step (fail)
            refine wpQuiet_nil ?_
            refine wpSt_nil ?_
            rintro _ ⟨y, rfl⟩
            go_wp2_with fail
            refine (HU.out _).mono ?_
            rintro e w2 ⟨rfl, hm⟩
            go_wp2_with fail
            go_ret2
            refine ⟨rfl, (over_mod _ _ _).trans hm (fun _ _ h => h)⟩
          · simp only [c2, if_false]
            have d2 : (c == 100) = false := by simpa using c2
            clear c2
            go_enter Tryz.func81, Tryz.ntmps81
            go_wp2
            refine wp_region_staged [⟨0, 0, false⟩, ⟨0, 0, false⟩, ⟨0, 0, false⟩, ⟨0, 0, false⟩, ⟨0, 0, false⟩, ⟨0, 0, false⟩, ⟨0, 0, false⟩, ⟨0, 0, false⟩, ⟨0, 0, false⟩, ⟨0, 0, false⟩, ⟨0, 0, false⟩, ⟨0, 0, false⟩, ⟨0, 0, false⟩] 0 (clsOf ((fun W : World => [fun w' => ∃ x, w' = over W NoB x]) _)) (by kernel_rfl) (by kernel_rfl) (by first | exact Cls.drew _ _ | exact ⟨(), rfl⟩) ?_
            refine wpSt_same rfl ?_
            go_big_quiet_step (fail)
            refine wpQuiet_nil ?_
            refine wpSt_same rfl ?_
            go_big_quiet_step (fail)
            refine wpQuiet_nil ?_
            refine wpSt_same rfl ?_
            go_big_quiet_step (fail)
            refine wpQuiet_nil ?_
            refine wpSt_same rfl ?_
            go_big_quiet_step (fail)
            refine wpQuiet_nil ?_
            refine wpSt_same rfl ?_
            go_big_quiet_step (fail)
            refine wpQuiet_nil ?_
            refine wpSt_same rfl ?_
            go_big_quiet_step (fail)
            refine wpQuiet_nil ?_
            refine wpSt_same rfl ?_
            go_big_quiet_step (fail)
            refine wpQuiet_nil ?_
            refine wpSt_same rfl ?_
            go_big_quiet_step (fail)
            refine wpQuiet_nil ?_
            refine wpSt_same rfl ?_
            go_big_quiet_step (fail)
            refine wpQuiet_nil ?_
            refine wpSt_same rfl ?_
            go_big_quiet_step (fail)
            refine wpQuiet_nil ?_
            refine wpSt_same rfl ?_
            go_big_quiet_step (fail)
            refine wpQuiet_nil ?_
            refine wpSt_same rfl ?_
            go_big_quiet_step (fail)
            refine wpQuiet_nil ?_
            refine wpSt_same rfl ?_
            go_big_quiet_step (fail)
            refine wpQuiet_nil ?_
            refine wpSt_nil ?_
            rintro _ ⟨y, rfl⟩
            go_wp2_with fail
            refine (HU.out _).mono ?_
            rintro e w2 ⟨rfl, hm⟩
            go_wp2_with fail
            go_ret2
            refine ⟨rfl, (over_mod _ _ _).trans hm (fun _ _ h => h)⟩
      · have he' : (e != 0) = true := by simpa using he
        rw [asRecord_bad t n e he]
        have HE := Lib.hid he; clear he
        go_enter Tryz.func81, Tryz.ntmps81
        go_wp2
        refine wp_region_staged [⟨0, 0, false⟩, ⟨0, 0, false⟩, ⟨0, 0, false⟩, ⟨0, 0, false⟩, ⟨0, 0, false⟩, ⟨0, 0, false⟩, ⟨0, 0, false⟩, ⟨0, 0, false⟩, ⟨0, 0, false⟩, ⟨0, 0, false⟩, ⟨0, 0, false⟩, ⟨0, 0, false⟩, ⟨0, 0, false⟩] 0 (clsOf ((fun W : World => [fun w' => ∃ x, w' = over W NoB x]) _)) (by kernel_rfl) (by kernel_rfl) (by first | exact Cls.drew _ _ | exact ⟨(), rfl⟩) ?_
        refine wpSt_same rfl ?_
        go_big_quiet_step (fail)
        refine wpQuiet_nil ?_
        refine wpSt_same rfl ?_
        go_big_quiet_step (fail)
        refine wpQuiet_nil ?_
        refine wpSt_same rfl ?_
        go_big_quiet_step (fail)
        refine wpQuiet_nil ?_
        refine wpSt_same rfl ?_
        go_big_quiet_step (fail)
        refine wpQuiet_nil ?_
        refine wpSt_same rfl ?_
        go_big_quiet_step (fail)
        refine wpQuiet_nil ?_
        refine wpSt_same rfl ?_
        go_big_quiet_step (fail)
        refine wpQuiet_nil ?_
        refine wpSt_same rfl ?_
        go_big_quiet_step (fail)
        refine wpQuiet_nil ?_
        refine wpSt_same rfl ?_
        go_big_quiet_step (fail)
        refine wpQuiet_nil ?_
        refine wpSt_same rfl ?_
        go_big_quiet_step (fail)
        refine wpQuiet_nil ?_
        refine wpSt_same rfl ?_
        go_big_quiet_step (fail)
        refine wpQuiet_nil ?_
        refine wpSt_same rfl ?_
        go_big_quiet_step (fail)
        refine wpQuiet_nil ?_
        refine wpSt_same rfl ?_
        go_big_quiet_step (fail)
        refine wpQuiet_nil ?_
        refine wpSt_same rfl ?_
        go_big_quiet_step (fail)
        refine wpQuiet_nil ?_
        refine wpSt_nil ?_
        rintro _ ⟨y, rfl⟩
        go_wp2_with fail
        refine (HU.out _).mono ?_
        rintro e w2 ⟨rfl, hm⟩
        go_wp2_with fail
        go_ret2
        refine ⟨rfl, (over_mod _ _ _).trans hm (fun _ _ h => h)⟩
  · rw [if_neg hge]
    unfold readAt
    by_cases hr : k < 0 ∨ k ≥ g.s.length
    · rw [if_pos hr]
      have hr' : k < 0 := by omega
      clear hr
      go_enter Tryz.func81, Tryz.ntmps81
      go_wp2
      go_ret2
      exact ⟨rfl, Mod.refl _ _⟩
    · rw [if_neg hr]
      obtain ⟨j, rfl⟩ : ∃ j : Nat, k = j := Int.eq_ofNat_of_zero_le (by omega)
      have hu := Unframe_calls g.s j (by omega) (by omega)
      rw [Int.toNat_natCast]
      have HU := Lib.hid hu
      clear hr hu
      generalize hx : unframe g.s j = x at *
      obtain ⟨t, n, e⟩ := x
      have HX := Lib.hid hx
      clear hx
      by_cases he : e = 0
      · subst he
        cases t with
        | nil =>
          rw [asRecord_nil]
          go_enter Tryz.func81, Tryz.ntmps81
          go_wp2_with fail
          refine (HU.out _).mono ?_
          rintro e w2 ⟨rfl, hm⟩
          go_wp2_with fail
          go_ret2
          exact ⟨rfl, hm⟩
        | cons c t =>
          rw [asRecord_cons]
          by_cases c2 : c = 100
          · subst c2
            simp only [if_true]
            go_enter Tryz.func81, Tryz.ntmps81
            go_wp2_with fail
            refine (HU.out _).mono ?_
            rintro e w2 ⟨rfl, hm⟩
            go_wp2_with fail
            go_ret2
            exact ⟨rfl, hm⟩
          · simp only [c2, if_false]
            have d2 : (c == 100) = false := by simpa using c2
            clear c2
            go_enter Tryz.func81, Tryz.ntmps81
            go_wp2_with fail
            refine (HU.out _).mono ?_
            rintro e w2 ⟨rfl, hm⟩
            go_wp2_with fail
            go_ret2
            exact ⟨rfl, hm⟩
      · have he' : (e != 0) = true := by simpa using he
        rw [asRecord_bad t n e he]
        have HE := Lib.hid he; clear he
        go_enter Tryz.func81, Tryz.ntmps81
        go_wp2_with fail
        refine (HU.out _).mono ?_
        rintro e w2 ⟨rfl, hm⟩
        go_wp2_with fail
        go_ret2
        exact ⟨rfl, hm⟩

end Go.Proofs.YtgofngilfdnakaaGreat
