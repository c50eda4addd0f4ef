/-
  This text proves what disk.may, Read, Sync and Plan do to a disk in memory: under bounds on counts and lengths that the callers meet.
-/
import Derived.Test.YtgofngilfdnakaaGreatDisk
namespace Go.Proofs.YtgofngilfdnakaaGreat
open Go Go.RowKit
attribute [local go_sem] over_cell over_frozen lt_over le_over noB loudUpon ByteArray.mk_append_mk ByteArray.extract_mk

set_option maxRecDepth 100000 in
set_option maxHeartbeats 800000 in
theorem may_calls (p : Nat) (S : Nat → Prop) (d : Dk) (must : Bool) (g : Nat) (n0 : Str) (names : List Str) (c : Nat) (w : World) (h : Disk w p S d) (hn : NamesAt w g (n0 :: names)) (hl : (n0 :: names).length ≤ 1000) (hs : ∀ s ∈ n0 :: names, s.length ≤ 140737488351232) :
    Calls Tryz.prog 139 #[.pointer (some ⟨p, 0, none⟩), .bool must, .slice (some ⟨g, 0, none⟩) (n0 :: names).length c] w fun e w' => e = .returned (.int .i64 (d.may must (n0 :: names))) ∧ Mod NoB w w' := by
  have HD := Lib.hid (fun w (hm : Mod NoB _ w) => Dead_calls p S d w (h.mod hm (fun _ _ => id)))
  have HC := Lib.hid (ContainsFunc_calls g (n0 :: names) c w hn hl hs)
  obtain ⟨m, rfl, hd, hS⟩ := h
  obtain ⟨hb, c0, c1, c2, c3, c4, c5, c6, hf⟩ := hd.facts
  have hgl := lt_heap hn
  have hg0 := hn.cell (i := 0) (by simp)
  simp only [List.getElem?_cons_zero, Option.getD_some] at hg0
  have hn0 : n0.length ≤ 140737488351232 := hs n0 List.mem_cons_self
  have hlook : ∀ x, (Instr.lookup 139 (.map (some m.bn)) (.string ⟨n0.toArray⟩) true).run Tryz.prog (over w NoB x) = .ok (.tuple #[.string ⟨(d.now.val n0).toArray⟩, .bool (d.now.has n0)]) (over w NoB x) :=
    fun x => (hd.now.mod (over_mod w NoB x) id).look n0 (by rw [maxLen_eq]; omega)
  have hlook2 : ∀ y x, (Instr.lookup 139 (.map (some m.bn)) (.string ⟨n0.toArray⟩) true).run Tryz.prog (over (over w NoB y) NoB x) = .ok (.tuple #[.string ⟨(d.now.val n0).toArray⟩, .bool (d.now.has n0)]) (over (over w NoB y) NoB x) :=
    fun y x => ((hd.now.mod (over_mod w NoB y) id).mod (over_mod _ NoB x) id).look n0 (by rw [maxLen_eq]; omega)
  clear hd hS hn hs
  have hlen : (0 : Int) < (((n0 :: names).length : Nat) : Int) := by simp only [List.length_cons]; omega
  generalize hnm : (n0 :: names).length = nl at *
  have HNL := Lib.hid hnm; clear hnm
  unfold Dk.may
  cases hdn : d.down with
  | true =>
    rw [hdn] at c6 HD
    go_enter Tryz.func139, Tryz.ntmps139
    go_wp2_with fail
    refine (HD.out _ (Mod.refl _ _)).mono ?_
    rintro e w' ⟨rfl, rfl⟩
    go_wp2_with fail
    go_ret
    exact ⟨rfl, Mod.refl _ _⟩
  | false =>
    rw [hdn] at c6 HD
    simp only [Bool.false_eq_true, if_false]
    cases hany : (n0 :: names).any (fun s => !nameOk s) with
    | true =>
      rw [hany] at HC
      simp only [if_true]
      go_enter Tryz.func139, Tryz.ntmps139
      go_wp2_with fail
      refine (HD.out _ (Mod.refl _ _)).mono ?_
      rintro e w' ⟨rfl, rfl⟩
      go_wp2_with fail
      refine HC.out.mono ?_
      rintro e w' ⟨rfl, hm⟩
      go_wp2_with fail
      go_ret
      exact ⟨rfl, hm⟩
    | false =>
      rw [hany] at HC
      simp only [Bool.false_eq_true, if_false, List.headD_cons]
      cases must with
      | true =>
        by_cases hh : d.now.has n0 = true
        · rw [hh] at hlook2
          simp only [hh, Bool.not_true, Bool.and_false, Bool.false_eq_true, if_false]
          clear hh
          go_enter Tryz.func139, Tryz.ntmps139
          go_wp2_with fail
          refine (HD.out _ (Mod.refl _ _)).mono ?_
          rintro e w' ⟨rfl, rfl⟩
          go_wp2_with fail
          refine HC.out.mono ?_
          rintro e w' ⟨rfl, hm⟩
          obtain ⟨y1, rfl⟩ := hm.over
          go_wp2_with fail
          refine wp_region_quiet_all (fun w' => ∃ x, w' = over _ (NoB) x) (by kernel_rfl) (by kernel_rfl) (Cls.drew _ _) ?_
          repeat (go_big_quiet_step (fail))
          refine wpQuiet_nil ?_
          rintro _ ⟨y2, rfl⟩
          go_wp2
          go_ret
          exact ⟨rfl, (over_mod _ _ _).trans (over_mod _ _ _) (fun _ _ h => h)⟩
        · have hh : d.now.has n0 = false := by simpa using hh
          rw [hh] at hlook2
          simp only [hh, Bool.not_false, Bool.and_true, if_true]
          clear hh
          go_enter Tryz.func139, Tryz.ntmps139
          go_wp2_with fail
          refine (HD.out _ (Mod.refl _ _)).mono ?_
          rintro e w' ⟨rfl, rfl⟩
          go_wp2_with fail
          refine HC.out.mono ?_
          rintro e w' ⟨rfl, hm⟩
          obtain ⟨y1, rfl⟩ := hm.over
          go_wp2_with fail
          refine wp_region_quiet_all (fun w' => ∃ x, w' = over _ (NoB) x) (by kernel_rfl) (by kernel_rfl) (Cls.drew _ _) ?_
          repeat (go_big_quiet_step (fail))
          refine wpQuiet_nil ?_
          rintro _ ⟨y2, rfl⟩
          go_wp2
          go_ret
          exact ⟨rfl, (over_mod _ _ _).trans (over_mod _ _ _) (fun _ _ h => h)⟩
      | false =>
        simp only [Bool.false_and, Bool.false_eq_true, if_false]
        go_enter Tryz.func139, Tryz.ntmps139
        go_wp2_with fail
        refine (HD.out _ (Mod.refl _ _)).mono ?_
        rintro e w' ⟨rfl, rfl⟩
        go_wp2_with fail
        refine HC.out.mono ?_
        rintro e w' ⟨rfl, hm⟩
        obtain ⟨y1, rfl⟩ := hm.over
        go_wp2_with fail
        refine wp_region_quiet_all (fun w' => ∃ x, w' = over _ (NoB) x) (by kernel_rfl) (by kernel_rfl) (Cls.drew _ _) ?_
        repeat (go_big_quiet_step (fail))
        refine wpQuiet_nil ?_
        rintro _ ⟨y2, rfl⟩
        go_wp2
        go_ret
        exact ⟨rfl, (over_mod _ _ _).trans (over_mod _ _ _) (fun _ _ h => h)⟩

end Go.Proofs.YtgofngilfdnakaaGreat
