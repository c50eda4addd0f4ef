/-
  This text proves what wal.Log.Commit does: under bounds on lengths that the callers meet.
-/
import Derived.Test.YtgofngilfdnakaaWal
namespace Go.Proofs.Ytgofngilfdnakaa
open Go Go.RowKit
attribute [local go_sem] over_cell over_frozen lt_over le_over noB loudUpon ByteArray.mk_append_mk ByteArray.extract_mk drop_full

theorem Since.mono {S T : Nat → Prop} {a b c : World} (h1 : a.heap.size ≤ b.heap.size) (hT : ∀ k, k < b.heap.size → T k → S k ∨ a.heap.size ≤ k) : ∀ k, k < c.heap.size → Since T b c k → Since S a c k := fun k hk h => by
  rcases h with h | ⟨h2, h3⟩
  · by_cases hb : k < b.heap.size
    · rcases hT k hb h with h | h
      · exact .inl h
      · exact .inr ⟨h, hk⟩
    · exact .inr ⟨by omega, hk⟩
  · exact .inr ⟨Nat.le_trans h1 h2, hk⟩

set_option maxRecDepth 100000 in
set_option maxHeartbeats 1600000 in
theorem LCommit_calls (l p : Nat) (S : Nat → Prop) (d : Dk) (g : Lg) (root : Str) (N : Nat) (w : World) (hl : LogAt w l p g) (hd : Disk w p S d) (hSl : ¬ S l) (hF : Fit d N) (h1 : g.s.length ≤ 100000000) (h2 : g.wait.length ≤ 100000000) (h3 : root.length ≤ 100000000) (h4 : g.marks ≤ 1000000000) :
    Calls Try.prog 28 #[.pointer (some ⟨l, 0, none⟩), .string ⟨root.toArray⟩] w fun e w' => e = .returned (.int .i64 (g.commit d root).1) ∧ Mod (fun k => S k ∨ k = l) w w' ∧ LogAt w' l p (g.commit d root).2.1 ∧ Disk w' p (Since S w w') (g.commit d root).2.2 := by
  obtain ⟨hb, c0, c1, c2, c3, c4, hf⟩ := hl.facts
  have hfl := frame_length (109 :: root)
  rw [List.length_cons] at hfl
  have hfr : ∀ X, Calls Try.prog 94 #[.string ⟨(109 :: root).toArray⟩] X fun e w' => e = .returned (.string ⟨(frame (109 :: root)).toArray⟩) ∧ Mod NoB X w' := fun X => Frame_calls (109 :: root) X (by simp only [List.length_cons]; omega)
  have HFR := Lib.hid hfr; clear hfr
  unfold Lg.commit
  simp only
  generalize hfe : frame (109 :: root) = fr at *
  have HFE := Lib.hid hfe; clear hfe
  -- the world behind the first store
  have hX : ∀ y, Mod (fun k => k = l) w ((over w NoB y).setCell ⟨l, 2, none⟩ (.string ⟨#[]⟩)) := fun y => Mod.setCell ((over_mod w NoB y).mono (noB_sub _ _)) _ _ (fun _ => rfl)
  have hlX : ∀ y, LogAt ((over w NoB y).setCell ⟨l, 2, none⟩ (.string ⟨#[]⟩)) l p { g with wait := [] } := fun y => by
    show _ = _
    rw [heap_setCell_same, over_heap hb (noB l), hl]
    simp only [Lg.cells, Option.map_some, setAt_cells, List.setIfInBounds_toArray, List.set_cons_zero, List.set_cons_succ]
  have hdX : ∀ y, Disk ((over w NoB y).setCell ⟨l, 2, none⟩ (.string ⟨#[]⟩)) p S d := fun y => hd.mod (hX y) (fun k hk e => hSl (e ▸ hk))
  by_cases hlen : root.length > 1048576
  · rw [if_pos hlen]
    have HR : Hid (∀ y, Mod (fun k => S k ∨ k = l) w ((over w NoB y).setCell ⟨l, 2, none⟩ (.string ⟨#[]⟩)) ∧ LogAt ((over w NoB y).setCell ⟨l, 2, none⟩ (.string ⟨#[]⟩)) l p { g with wait := [] } ∧ Disk ((over w NoB y).setCell ⟨l, 2, none⟩ (.string ⟨#[]⟩)) p (Since S w ((over w NoB y).setCell ⟨l, 2, none⟩ (.string ⟨#[]⟩))) d) :=
      fun y => ⟨(hX y).mono (fun _ _ e => .inr e), hlX y, (hdX y).mono (fun _ _ h => .inl h)⟩
    clear hX hlX hdX hl hd hF
    go_enter Try.func28, Try.ntmps28
    go_wp2
    refine wp_region_quiet_all (fun w' => ∃ x, w' = over _ (NoB) x) (by kernel_rfl) (by kernel_rfl) (Cls.drew _ _) ?_
    repeat (go_big_quiet_step ((go_at_call 94; exact Calls.cls (fun _ _ h => h) (HFR.out _))))
    refine wpQuiet_nil ?_
    rintro _ ⟨y, rfl⟩
    go_wp2
    go_ret
    exact ⟨rfl, HR.out y⟩
  · rw [if_neg hlen]
    have HAP := Lib.hid (fun y => Append_calls p S d logName (g.wait ++ fr) N _ (hdX y) hF (by decide) (by rw [List.length_append]; omega))
    have HX := Lib.hid hX
    have HLX := Lib.hid hlX
    have HSL := Lib.hid hSl
    clear hX hlX hdX hl hd hF hSl
    have hlt : g.wait.length + fr.length ≤ 1000000000 := by omega
    generalize hres : d.append logName (g.wait ++ fr) = r at *
    obtain ⟨e1, d1⟩ := r
    have HRES := Lib.hid hres; clear hres
    simp only at *
    by_cases he : e1 = 0
    · rw [if_neg (by simpa using he)]
      subst he
      generalize hres2 : d1.sync = r at *
      obtain ⟨e2, d2⟩ := r
      have HRES2 := Lib.hid hres2; clear hres2
      simp only at *
      by_cases he : e2 = 0
      · rw [if_neg (by simpa using he)]
        subst he
        go_enter Try.func28, Try.ntmps28
        go_wp2
        refine wp_region_quiet_all (fun w' => ∃ x, w' = over _ (NoB) x) (by kernel_rfl) (by kernel_rfl) (Cls.drew _ _) ?_
        repeat (go_big_quiet_step ((go_at_call 94; exact Calls.cls (fun _ _ h => h) (HFR.out _))))
        refine wpQuiet_nil ?_
        rintro _ ⟨y, rfl⟩
        go_wp2_with fail
        refine (HAP.out y).mono ?_
        rintro e w2 ⟨rfl, hma, hda⟩
        have hl2 := (HLX.out y).mod hma HSL.out
        obtain ⟨hb2, k0, k1, k2, k3, k4, kf⟩ := hl2.facts
        have HL2 := Lib.hid hl2; clear hl2
        have HMA := Lib.hid hma; clear hma
        have HDA := Lib.hid hda; clear hda
        go_wp2_with fail
        have hsy := Sync_calls p _ d1 _ HDA.out
        rw [HRES2.out] at hsy
        refine hsy.mono ?_
        rintro e w3 ⟨rfl, hms, hds⟩
        simp only at hds
        have hsz := (HX.out y).size
        have hnl : ¬ Since S ((over w NoB y).setCell ⟨l, 2, none⟩ (.string ⟨#[]⟩)) w2 l := fun h => by
          rcases h with h | ⟨h, _⟩
          · exact HSL.out h
          · omega
        have hl3 := HL2.out.mod hms hnl
        have hm3 : Mod (fun k => S k ∨ k = l) w w3 := (((HX.out y).mono (fun _ _ e => .inr e)).trans HMA.out (fun _ _ h => .inl h)).trans hms (fun k hk h => by
          rcases h with h | ⟨h, _⟩
          · exact .inl h
          · omega)
        have hd3 : Disk w3 p (Since S w w3) d2 := hds.mono (Since.mono (Nat.le_trans hsz HMA.out.size) (fun k _ h => by
          rcases h with h | ⟨h, _⟩
          · exact .inl h
          · exact .inr (Nat.le_trans hsz h)))
        obtain ⟨hb3, m0, m1, m2, m3, m4, mf⟩ := hl3.facts
        have HL3 := Lib.hid hl3
        have HM3 := Lib.hid hm3
        have HD3 := Lib.hid hd3
        clear hl3 hm3 hd3 hds hms hsy hnl k0 k1 k2 k3 k4 kf c0 c1 c2 c3 c4 hf
        go_wp2_with fail
        refine wp_region_staged [⟨0, 0, false⟩, ⟨0, 1, false⟩, ⟨0, 2, false⟩, ⟨0, 0, false⟩, ⟨0, 0, false⟩, ⟨0, 0, false⟩, ⟨0, 0, false⟩, ⟨0, 0, false⟩, ⟨0, 0, false⟩, ⟨0, 1, false⟩, ⟨0, 2, false⟩, ⟨0, 2, false⟩, ⟨0, 2, false⟩, ⟨0, 0, false⟩, ⟨0, 2, false⟩, ⟨0, 1, false⟩, ⟨0, 0, false⟩, ⟨0, 0, true⟩, ⟨1, 2, false⟩, ⟨1, 1, false⟩, ⟨1, 1, true⟩, ⟨2, 3, false⟩, ⟨2, 2, false⟩, ⟨2, 2, true⟩] 3 (clsOf ((fun W : World => [fun w' => ∃ x, w' = over W NoB x, fun w' => ∃ x, w' = (over W NoB x).setCell ⟨l, 1, none⟩ (.string ⟨(g.s ++ (g.wait ++ fr)).toArray⟩), fun w' => ∃ x, w' = ((over W NoB x).setCell ⟨l, 1, none⟩ (.string ⟨(g.s ++ (g.wait ++ fr)).toArray⟩)).setCell ⟨l, 3, none⟩ (.string ⟨root.toArray⟩), fun w' => ∃ x, w' = (((over W NoB x).setCell ⟨l, 1, none⟩ (.string ⟨(g.s ++ (g.wait ++ fr)).toArray⟩)).setCell ⟨l, 3, none⟩ (.string ⟨root.toArray⟩)).setCell ⟨l, 4, none⟩ (.int .i64 (g.marks + 1))]) _)) (by kernel_rfl) (by kernel_rfl) (by first | exact Cls.drew _ _ | exact ⟨(), rfl⟩) ?_
        refine wpSt_same rfl ?_
        go_big_quiet_step (fail)
        refine wpQuiet_nil ?_
        refine wpSt_two rfl rfl ⟨_, rfl, by simp⟩ ?_
        go_big_quiet_step (fail)
        refine wpQuiet_nil ?_
        go_big_quiet_step (fail)
        refine wpQuiet_nil ?_
        refine ⟨rfl, ?_⟩
        refine wpSt_three rfl rfl rfl ⟨_, rfl, by simp⟩ ?_
        go_big_quiet_step (fail)
        refine wpQuiet_nil ?_
        go_big_quiet_step (fail)
        refine wpQuiet_nil ?_
        refine ⟨rfl, ?_⟩
        go_big_quiet_step (fail)
        refine wpQuiet_nil ?_
        refine ⟨rfl, ?_⟩
        refine wpSt_same rfl ?_
        go_big_quiet_step (fail)
        refine wpQuiet_nil ?_
        refine wpSt_same rfl ?_
        go_big_quiet_step (fail)
        refine wpQuiet_nil ?_
        refine wpSt_same rfl ?_
        go_big_quiet_step (fail)
        refine wpQuiet_nil ?_
        refine wpSt_same rfl ?_
        go_big_quiet_step (fail)
        refine wpQuiet_nil ?_
        refine wpSt_same rfl ?_
        go_big_quiet_step (fail)
        refine wpQuiet_nil ?_
        refine wpSt_same rfl ?_
        go_big_quiet_step (fail)
        refine wpQuiet_nil ?_
        refine wpSt_two rfl rfl ⟨_, rfl, by simp⟩ ?_
        go_big_quiet_step (fail)
        refine wpQuiet_nil ?_
        go_big_quiet_step (fail)
        refine wpQuiet_nil ?_
        refine ⟨rfl, ?_⟩
        refine wpSt_three rfl rfl rfl ⟨_, rfl, by simp⟩ ?_
        go_big_quiet_step (fail)
        refine wpQuiet_nil ?_
        go_big_quiet_step (fail)
        refine wpQuiet_nil ?_
        refine ⟨rfl, ?_⟩
        go_big_quiet_step (fail)
        refine wpQuiet_nil ?_
        refine ⟨rfl, ?_⟩
        refine wpSt_three rfl rfl rfl ⟨_, rfl, by simp⟩ ?_
        go_big_quiet_step (fail)
        refine wpQuiet_nil ?_
        go_big_quiet_step (fail)
        refine wpQuiet_nil ?_
        refine ⟨rfl, ?_⟩
        go_big_quiet_step (fail)
        refine wpQuiet_nil ?_
        refine ⟨rfl, ?_⟩
        refine wpSt_three rfl rfl rfl ⟨_, rfl, by simp⟩ ?_
        go_big_quiet_step (fail)
        refine wpQuiet_nil ?_
        go_big_quiet_step (fail)
        refine wpQuiet_nil ?_
        refine ⟨rfl, ?_⟩
        go_big_quiet_step (fail)
        refine wpQuiet_nil ?_
        refine ⟨rfl, ?_⟩
        refine wpSt_same rfl ?_
        go_big_quiet_step (fail)
        refine wpQuiet_nil ?_
        refine wpSt_three rfl rfl rfl ⟨_, rfl, by simp⟩ ?_
        go_big_quiet_step (fail)
        refine wpQuiet_nil ?_
        go_big_quiet_step (fail)
        refine wpQuiet_nil ?_
        refine ⟨rfl, ?_⟩
        go_big_quiet_step (fail)
        refine wpQuiet_nil ?_
        refine ⟨rfl, ?_⟩
        refine wpSt_two rfl rfl ⟨_, rfl, by simp⟩ ?_
        go_big_quiet_step (fail)
        refine wpQuiet_nil ?_
        go_big_quiet_step (fail)
        refine wpQuiet_nil ?_
        refine ⟨rfl, ?_⟩
        refine wpSt_same rfl ?_
        go_big_quiet_step (fail)
        refine wpQuiet_nil ?_
        refine wpSt_store rfl rfl rfl rfl ?_ ?_
        · (rintro _ ⟨x, rfl⟩; unfold loudAt; go_simp; first | done | exact ⟨_, rfl⟩)
        refine wpSt_two rfl rfl ⟨_, rfl, by simp⟩ ?_
        go_big_quiet_step (fail)
        refine wpQuiet_nil ?_
        go_big_quiet_step (fail)
        refine wpQuiet_nil ?_
        refine ⟨rfl, ?_⟩
        refine wpSt_same rfl ?_
        go_big_quiet_step (fail)
        refine wpQuiet_nil ?_
        refine wpSt_store rfl rfl rfl rfl ?_ ?_
        · (rintro _ ⟨x, rfl⟩; unfold loudAt; go_simp; first | done | exact ⟨_, rfl⟩)
        refine wpSt_two rfl rfl ⟨_, rfl, by simp⟩ ?_
        go_big_quiet_step (fail)
        refine wpQuiet_nil ?_
        go_big_quiet_step (fail)
        refine wpQuiet_nil ?_
        refine ⟨rfl, ?_⟩
        refine wpSt_same rfl ?_
        go_big_quiet_step (fail)
        refine wpQuiet_nil ?_
        refine wpSt_store rfl rfl rfl rfl ?_ ?_
        · (rintro _ ⟨x, rfl⟩; unfold loudAt; go_simp; first | done | exact ⟨_, rfl⟩)
        refine wpSt_nil ?_
        rintro _ ⟨z, rfl⟩
        go_wp2
        go_ret
        have hmz : Mod (fun k => k = l) w3 ((((over w3 NoB z).setCell ⟨l, 1, none⟩ (.string ⟨(g.s ++ (g.wait ++ fr)).toArray⟩)).setCell ⟨l, 3, none⟩ (.string ⟨root.toArray⟩)).setCell ⟨l, 4, none⟩ (.int .i64 (g.marks + 1))) :=
          Mod.setCell (Mod.setCell (Mod.setCell ((over_mod w3 NoB z).mono (noB_sub (fun k => k = l) _)) _ _ (fun _ => rfl)) _ _ (fun _ => rfl)) _ _ (fun _ => rfl)
        refine ⟨rfl, HM3.out.trans hmz (fun _ _ h => .inr h), ?_, ?_⟩
        · show _ = _
          simp only [heap_setCell_same]
          rw [over_heap hb3 (noB l), HL3.out]
          simp only [Lg.cells, Option.map_some, setAt_cells, List.setIfInBounds_toArray, List.set_cons_zero, List.set_cons_succ]
          rfl
        · refine (HD3.out.mod hmz (fun k hk e => ?_)).mono (fun k hk h => ?_)
          · rcases hk with hk | ⟨hk, _⟩
            · exact HSL.out (e ▸ hk)
            · omega
          · rcases h with h | ⟨h, _⟩
            · exact .inl h
            · exact .inr ⟨h, hk⟩
      · rw [if_pos he]
        have he' : (e2 != 0) = true := by simpa using he
        have HE := Lib.hid he; clear he
        go_enter Try.func28, Try.ntmps28
        go_wp2
        refine wp_region_quiet_all (fun w' => ∃ x, w' = over _ (NoB) x) (by kernel_rfl) (by kernel_rfl) (Cls.drew _ _) ?_
        repeat (go_big_quiet_step ((go_at_call 94; exact Calls.cls (fun _ _ h => h) (HFR.out _))))
        refine wpQuiet_nil ?_
        rintro _ ⟨y, rfl⟩
        go_wp2_with fail
        refine (HAP.out y).mono ?_
        rintro e w2 ⟨rfl, hma, hda⟩
        have hl2 := (HLX.out y).mod hma HSL.out
        obtain ⟨hb2, k0, k1, k2, k3, k4, kf⟩ := hl2.facts
        have HL2 := Lib.hid hl2; clear hl2
        have HMA := Lib.hid hma; clear hma
        have HDA := Lib.hid hda; clear hda
        go_wp2_with fail
        have hsy := Sync_calls p _ d1 _ HDA.out
        rw [HRES2.out] at hsy
        refine hsy.mono ?_
        rintro e w3 ⟨rfl, hms, hds⟩
        simp only at hds
        have hsz := (HX.out y).size
        have hnl : ¬ Since S ((over w NoB y).setCell ⟨l, 2, none⟩ (.string ⟨#[]⟩)) w2 l := fun h => by
          rcases h with h | ⟨h, _⟩
          · exact HSL.out h
          · omega
        have hl3 := HL2.out.mod hms hnl
        have hm3 : Mod (fun k => S k ∨ k = l) w w3 := (((HX.out y).mono (fun _ _ e => .inr e)).trans HMA.out (fun _ _ h => .inl h)).trans hms (fun k hk h => by
          rcases h with h | ⟨h, _⟩
          · exact .inl h
          · omega)
        have hd3 : Disk w3 p (Since S w w3) d2 := hds.mono (Since.mono (Nat.le_trans hsz HMA.out.size) (fun k _ h => by
          rcases h with h | ⟨h, _⟩
          · exact .inl h
          · exact .inr (Nat.le_trans hsz h)))
        obtain ⟨hb3, m0, m1, m2, m3, m4, mf⟩ := hl3.facts
        have HL3 := Lib.hid hl3
        have HM3 := Lib.hid hm3
        have HD3 := Lib.hid hd3
        clear hl3 hm3 hd3 hds hms hsy hnl k0 k1 k2 k3 k4 kf c0 c1 c2 c3 c4 hf
        go_wp2_with fail
        go_ret
        exact ⟨rfl, HM3.out, HL3.out, HD3.out⟩
    · rw [if_pos he]
      have he' : (e1 != 0) = true := by simpa using he
      have HE := Lib.hid he; clear he
      go_enter Try.func28, Try.ntmps28
      go_wp2
      refine wp_region_quiet_all (fun w' => ∃ x, w' = over _ (NoB) x) (by kernel_rfl) (by kernel_rfl) (Cls.drew _ _) ?_
      repeat (go_big_quiet_step ((go_at_call 94; exact Calls.cls (fun _ _ h => h) (HFR.out _))))
      refine wpQuiet_nil ?_
      rintro _ ⟨y, rfl⟩
      go_wp2_with fail
      refine (HAP.out y).mono ?_
      rintro e w2 ⟨rfl, hma, hda⟩
      have hl2 := (HLX.out y).mod hma HSL.out
      obtain ⟨hb2, k0, k1, k2, k3, k4, kf⟩ := hl2.facts
      have HL2 := Lib.hid hl2; clear hl2
      have HMA := Lib.hid hma; clear hma
      have HDA := Lib.hid hda; clear hda
      go_wp2_with fail
      go_ret
      exact ⟨rfl, ((HX.out y).mono (fun _ _ e => .inr e)).trans HMA.out (fun _ _ h => .inl h), HL2.out, HDA.out.mono (Since.mono (HX.out y).size (fun _ _ h => .inl h))⟩

end Go.Proofs.Ytgofngilfdnakaa
