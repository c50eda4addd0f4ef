/-
  This text proves what cupellaw03.DiskNamed answers: under bounds that every argument keeps.
-/
import Derived.Test.YtgofngilfdnakaaDiskN
namespace Go.Proofs.Ytgofngilfdnakaa
open Go Go.RowKit
attribute [local go_sem] over_cell over_frozen lt_over le_over noB loudUpon ByteArray.mk_append_mk ByteArray.extract_mk drop_full

theorem Name_long (s : Str) (w : World) (h : 16 < s.length) (hs : s.length ≤ 9223372036854775807) : Calls Try.prog 67 #[.string ⟨s.toArray⟩] w fun e w' => e = .returned (.bool (nameOk s)) ∧ Mod NoB w w' := by
  have h0 : s ≠ [] := fun e => by rw [e] at h; simp at h
  have hfin : nameOk s = false := by
    have : ¬ s.length ≤ 16 := by omega
    rw [nameOk_eq]
    simp [this]
  rw [hfin]
  clear hfin
  go_enter Try.func67, Try.ntmps67
  go_wp2
  go_ret
  exact ⟨rfl, Mod.refl _ _⟩
theorem Name_all (s : Str) (w : World) (hs : s.length ≤ 9223372036854775807) : Calls Try.prog 67 #[.string ⟨s.toArray⟩] w fun e w' => e = .returned (.bool (nameOk s)) ∧ Mod NoB w w' := by
  rcases Nat.lt_or_ge 16 s.length with h | h
  · exact Name_long s w h hs
  · exact Name_calls s w (by omega)

set_option maxRecDepth 100000 in
set_option maxHeartbeats 1600000 in
theorem change_nil (q k n f0 f1 f2 : Int) (a b s : Str) (w : World) (hs : s.length ≤ 9223372036854775807) :
    Calls Try.prog 69 #[.pointer none, .int .i64 q, .agg #[.int .i64 k, .string ⟨a.toArray⟩, .string ⟨b.toArray⟩, .string ⟨s.toArray⟩, .int .i64 n, .int .i64 f0, .int .i64 f1, .int .i64 f2]] w fun e w' => e = .returned (.int .i64 7) ∧ Mod NoB w w' := by
  have HFW := Lib.hid (fun X => (few3_calls s X hs).mono (fun e w' (h : e = .returned (.string ⟨(few3 s).toArray⟩) ∧ X = w') => (⟨h.1, h.2 ▸ Mod.refl NoB X⟩ : e = .returned (.string ⟨(few3 s).toArray⟩) ∧ Mod NoB X w')))
  generalize few3 s = t at *
  obtain ⟨W, hW⟩ : ∃ W, w.alloc (.cells #[.int .i64 k, .string ⟨a.toArray⟩, .string ⟨b.toArray⟩, .string ⟨s.toArray⟩, .int .i64 n, .int .i64 f0, .int .i64 f1, .int .i64 f2] 103) = W := ⟨_, rfl⟩
  have hm0 : Mod NoB w W := by rw [← hW]; exact (Mod.refl _ _).alloc _
  have hbx : W.heap[w.heap.size]? = some (.cells #[.int .i64 k, .string ⟨a.toArray⟩, .string ⟨b.toArray⟩, .string ⟨s.toArray⟩, .int .i64 n, .int .i64 f0, .int .i64 f1, .int .i64 f2] 103 (0, 0)) := by rw [← hW]; exact heap_alloc_new _ _
  have c1 := cell_heap hbx 1
  have c2 := cell_heap hbx 2
  have c3 := cell_heap hbx 3
  have c4 := cell_heap hbx 4
  have cb := lt_heap hbx
  simp only [List.getElem?_toArray, List.getElem?_cons_zero, List.getElem?_cons_succ] at c1 c2 c3 c4
  have HM := Lib.hid hm0
  clear hm0 hbx
  by_cases q0 : q = 0
  · subst q0
    go_enter Try.func69, Try.ntmps69
    go_wp2_with fail
    refine wp_region_quiet_all (fun w' => ∃ x, w' = over _ (NoB) x) (by kernel_rfl) (by kernel_rfl) (Cls.drew _ _) ?_
    repeat (go_big_quiet_step ((first | (go_at_call 110; exact Calls.cls (fun _ _ h => h) (HFW.out _)) | (go_at_call 95; exact Calls.cls (fun _ _ h => h) (Append_nil3 _ _ _)))))
    refine wpQuiet_nil ?_
    rintro _ ⟨y, rfl⟩
    go_wp2_with fail
    go_ret
    exact ⟨rfl, HM.out.trans (over_mod _ _ _) (fun _ _ h => h)⟩
  · by_cases q1 : q = 1
    · subst q1
      go_enter Try.func69, Try.ntmps69
      go_wp2_with fail
      refine wp_region_quiet_all (fun w' => ∃ x, w' = over _ (NoB) x) (by kernel_rfl) (by kernel_rfl) (Cls.drew _ _) ?_
      repeat (go_big_quiet_step ((first | (go_at_call 110; exact Calls.cls (fun _ _ h => h) (HFW.out _)) | (go_at_call 23; exact Calls.cls (fun _ _ h => h) (Write_nil3 _ _ _)))))
      refine wpQuiet_nil ?_
      rintro _ ⟨y, rfl⟩
      go_wp2_with fail
      go_ret
      exact ⟨rfl, HM.out.trans (over_mod _ _ _) (fun _ _ h => h)⟩
    · have d0 : (q == 0) = false := by simpa using q0
      have d1 : (q == 1) = false := by simpa using q1
      by_cases q2 : q = 2
      · subst q2
        go_enter Try.func69, Try.ntmps69
        go_wp2_with fail
        refine (by first | exact Move_nil3 _ _ _ | exact Move_nil3 _ _ : Calls _ _ _ _ (fun e w' => e = .returned (.int .i64 7) ∧ Mod NoB W w')).mono ?_
        rintro e w' ⟨rfl, hm⟩
        have HM2 : Hid (Mod NoB w w') := HM.out.trans hm (fun _ _ h => h)
        clear hm
        go_wp2_with fail
        go_ret
        exact ⟨rfl, HM2.out⟩
      · have d2 : (q == 2) = false := by simpa using q2
        by_cases q3 : q = 3
        · subst q3
          go_enter Try.func69, Try.ntmps69
          go_wp2_with fail
          refine (by first | exact Remove_nil3 _ _ _ | exact Remove_nil3 _ _ : Calls _ _ _ _ (fun e w' => e = .returned (.int .i64 7) ∧ Mod NoB W w')).mono ?_
          rintro e w' ⟨rfl, hm⟩
          have HM2 : Hid (Mod NoB w w') := HM.out.trans hm (fun _ _ h => h)
          clear hm
          go_wp2_with fail
          go_ret
          exact ⟨rfl, HM2.out⟩
        · have d3 : (q == 3) = false := by simpa using q3
          go_enter Try.func69, Try.ntmps69
          go_wp2_with fail
          refine (by first | exact Truncate_nil3 _ _ _ | exact Truncate_nil3 _ _ : Calls _ _ _ _ (fun e w' => e = .returned (.int .i64 7) ∧ Mod NoB W w')).mono ?_
          rintro e w' ⟨rfl, hm⟩
          have HM2 : Hid (Mod NoB w w') := HM.out.trans hm (fun _ _ h => h)
          clear hm
          go_wp2_with fail
          go_ret
          exact ⟨rfl, HM2.out⟩

set_option maxRecDepth 100000 in
set_option maxHeartbeats 3200000 in
theorem DiskNamed_calls (z : Str) (k n f0 f1 f2 : Int) (a b s : Str) (w : World) (hz : z.length ≤ 9223372036854775807) (hs : s.length ≤ 9223372036854775807) :
    Calls Try.prog 12 #[.string ⟨z.toArray⟩, .agg #[.int .i64 k, .string ⟨a.toArray⟩, .string ⟨b.toArray⟩, .string ⟨s.toArray⟩, .int .i64 n, .int .i64 f0, .int .i64 f1, .int .i64 f2]] w fun e w' => e = .returned (.bool true) ∧ Mod NoB w w' := by
  obtain ⟨W, hW⟩ : ∃ W, w.alloc (.cells #[.int .i64 k, .string ⟨a.toArray⟩, .string ⟨b.toArray⟩, .string ⟨s.toArray⟩, .int .i64 n, .int .i64 f0, .int .i64 f1, .int .i64 f2] 103) = W := ⟨_, rfl⟩
  have hm0 : Mod NoB w W := by rw [← hW]; exact (Mod.refl _ _).alloc _
  have hbx : W.heap[w.heap.size]? = some (.cells #[.int .i64 k, .string ⟨a.toArray⟩, .string ⟨b.toArray⟩, .string ⟨s.toArray⟩, .int .i64 n, .int .i64 f0, .int .i64 f1, .int .i64 f2] 103 (0, 0)) := by rw [← hW]; exact heap_alloc_new _ _
  have HM := Lib.hid hm0
  have HBX := Lib.hid hbx
  have c4 := cell_heap hbx 4
  have c5 := cell_heap hbx 5
  have c6 := cell_heap hbx 6
  have c7 := cell_heap hbx 7
  have cb := lt_heap hbx
  simp only [List.getElem?_toArray, List.getElem?_cons_zero, List.getElem?_cons_succ] at c4 c5 c6 c7
  clear hm0 hbx
  go_enter Try.func12, Try.ntmps12
  go_wp2_with fail
  refine (Room_nil3 _ _).mono ?_
  rintro e w' ⟨rfl, rfl⟩
  go_wp2_with fail
  refine (Plan_nil3 _ _).mono ?_
  rintro e w' ⟨rfl, rfl⟩
  go_wp2_with fail
  refine (Crash_nil3 _ _ _).mono ?_
  rintro e W2 ⟨rfl, hm2⟩
  have HM2 := Lib.hid (((Mod.refl NoB W).alloc _).trans hm2 (fun _ _ h => h))
  clear hm2
  go_wp2_with fail
  refine (Read_nil3 _ _).mono ?_
  rintro e W3 ⟨rfl, hm3⟩
  have HM3 := Lib.hid (HM2.out.trans hm3 (fun _ _ h => h))
  clear hm3 HM2
  go_wp2_with fail
  refine (awake3_calls _).mono ?_
  rintro e W4 ⟨rfl, hm4⟩
  have HM4 := Lib.hid (HM3.out.trans hm4 (fun _ _ h => h))
  clear hm4 HM3
  go_wp2_with fail
  refine (Name_all z _ hz).mono ?_
  rintro e W5 ⟨rfl, hm5⟩
  have HM5 := Lib.hid (HM4.out.trans hm5 (fun _ _ h => h))
  clear hm5 HM4
  go_wp2_with fail
  refine (RefName_calls z _ hz).mono ?_
  rintro e w' ⟨rfl, rfl⟩
  have hb5 := (HM5.out.block _ cb id).trans HBX.out
  have x0 := cell_heap hb5 0
  have x1 := cell_heap hb5 1
  have x2 := cell_heap hb5 2
  have x3 := cell_heap hb5 3
  have x4 := cell_heap hb5 4
  have x5 := cell_heap hb5 5
  have x6 := cell_heap hb5 6
  have x7 := cell_heap hb5 7
  have xb := lt_heap hb5
  simp only [List.getElem?_toArray, List.getElem?_cons_zero, List.getElem?_cons_succ] at x0 x1 x2 x3 x4 x5 x6 x7
  clear hb5 c4 c5 c6 c7 HBX
  have HW5 : Hid (Mod NoB w W5) := HM.out.trans HM5.out (fun _ _ h => h)
  clear HM5 HM hW
  go_wp2_with (first
    | (go_at_call 45; refine (Dead_nil3 () _).mono ?_; rintro e w' ⟨rfl, rfl⟩)
    | (go_at_call 38; refine (Up_nil3 () _).mono ?_; rintro e w' ⟨rfl, rfl⟩)
    | (go_at_call 24; refine (Sync_nil3 () _).mono ?_; rintro e w' ⟨rfl, rfl⟩))
  refine (change_nil k k n f0 f1 f2 a b s _ hs).mono ?_
  rintro e W6 ⟨rfl, hm6⟩
  have HW6 := Lib.hid (HW5.out.trans hm6 (fun _ _ h => h))
  clear hm6
  go_wp2_with (first
    | (go_at_call 70; refine (Names_nil3 () _).mono ?_; rintro e w' ⟨rfl, rfl⟩)
    | (go_at_call 31; refine (Used_nil3 () _).mono ?_; rintro e w' ⟨rfl, rfl⟩)
    | (go_at_call 35; refine (Changes_nil3 () _).mono ?_; rintro e w' ⟨rfl, rfl⟩)
    | (go_at_call 71; refine (Loose_nil3 () _).mono ?_; rintro e w' ⟨rfl, rfl⟩)
    | (go_at_call 34; refine (Clone_nil3 () _).mono ?_; rintro e w' ⟨rfl, rfl⟩))
  go_ret
  exact ⟨rfl, HW6.out⟩

end Go.Proofs.Ytgofngilfdnakaa
