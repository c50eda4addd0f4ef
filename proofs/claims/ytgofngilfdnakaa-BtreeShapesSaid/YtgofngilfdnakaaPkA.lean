/-
  This text proves what wal.Log.Commit does: under bounds on lengths that the callers meet.
  This text proves what wal.Open does to a disk in memory: under bounds that the callers meet.
  This text proves what the methods of a nil log, and opening no disk, answer: no condition.
  This text proves that cupellaw04.awake answers true, and what cupellaw04.WalNil answers: no condition.
-/
import Derived.Test.YtgofngilfdnakaaWal
import Derived.Test.YtgofngilfdnakaaWal2

namespace Go.Proofs.Ytgofngilfdnakaa
open Go Go.RowKit
attribute [local go_sem] over_cell over_frozen lt_over le_over noB loudUpon ByteArray.mk_append_mk ByteArray.extract_mk drop_full

theorem Since.mono {S T : Nat → Prop} {a b c : World} (h1 : a.heap.size ≤ b.heap.size) (hT : ∀ k, k < b.heap.size → T k → S k ∨ a.heap.size ≤ k) : ∀ k, k < c.heap.size → Since T b c k → Since S a c k := fun k hk h => by
  rcases h with h | ⟨h2, h3⟩
  · by_cases hb : k < b.heap.size
    · rcases hT k hb h with h | h
      · exact .inl h
      · exact .inr ⟨h, hk⟩
    · exact .inr ⟨by omega, hk⟩
  · exact .inr ⟨Nat.le_trans h1 h2, hk⟩

set_option maxRecDepth 100000 in
set_option maxHeartbeats 1600000 in
theorem LCommit_calls (l p : Nat) (S : Nat → Prop) (d : Dk) (g : Lg) (root : Str) (N : Nat) (w : World) (hl : LogAt w l p g) (hd : Disk w p S d) (hSl : ¬ S l) (hF : Fit d N) (h1 : g.s.length ≤ 100000000) (h2 : g.wait.length ≤ 100000000) (h3 : root.length ≤ 100000000) (h4 : g.marks ≤ 1000000000) :
    Calls Try.prog 28 #[.pointer (some ⟨l, 0, none⟩), .string ⟨root.toArray⟩] w fun e w' => e = .returned (.int .i64 (g.commit d root).1) ∧ Mod (fun k => S k ∨ k = l) w w' ∧ LogAt w' l p (g.commit d root).2.1 ∧ Disk w' p (Since S w w') (g.commit d root).2.2 := by
  obtain ⟨hb, c0, c1, c2, c3, c4, hf⟩ := hl.facts
  have hfl := frame_length (109 :: root)
  rw [List.length_cons] at hfl
  have hfr : ∀ X, Calls Try.prog 94 #[.string ⟨(109 :: root).toArray⟩] X fun e w' => e = .returned (.string ⟨(frame (109 :: root)).toArray⟩) ∧ Mod NoB X w' := fun X => Frame_calls (109 :: root) X (by simp only [List.length_cons]; omega)
  have HFR := Lib.hid hfr; clear hfr
  unfold Lg.commit
  simp only
  generalize hfe : frame (109 :: root) = fr at *
  have HFE := Lib.hid hfe; clear hfe
  -- the world behind the first store
  have hX : ∀ y, Mod (fun k => k = l) w ((over w NoB y).setCell ⟨l, 2, none⟩ (.string ⟨#[]⟩)) := fun y => Mod.setCell ((over_mod w NoB y).mono (noB_sub _ _)) _ _ (fun _ => rfl)
  have hlX : ∀ y, LogAt ((over w NoB y).setCell ⟨l, 2, none⟩ (.string ⟨#[]⟩)) l p { g with wait := [] } := fun y => by
    show _ = _
    rw [heap_setCell_same, over_heap hb (noB l), hl]
    simp only [Lg.cells, Option.map_some, setAt_cells, List.setIfInBounds_toArray, List.set_cons_zero, List.set_cons_succ]
  have hdX : ∀ y, Disk ((over w NoB y).setCell ⟨l, 2, none⟩ (.string ⟨#[]⟩)) p S d := fun y => hd.mod (hX y) (fun k hk e => hSl (e ▸ hk))
  by_cases hlen : root.length > 1048576
  · rw [if_pos hlen]
    have HR : Hid (∀ y, Mod (fun k => S k ∨ k = l) w ((over w NoB y).setCell ⟨l, 2, none⟩ (.string ⟨#[]⟩)) ∧ LogAt ((over w NoB y).setCell ⟨l, 2, none⟩ (.string ⟨#[]⟩)) l p { g with wait := [] } ∧ Disk ((over w NoB y).setCell ⟨l, 2, none⟩ (.string ⟨#[]⟩)) p (Since S w ((over w NoB y).setCell ⟨l, 2, none⟩ (.string ⟨#[]⟩))) d) :=
      fun y => ⟨(hX y).mono (fun _ _ e => .inr e), hlX y, (hdX y).mono (fun _ _ h => .inl h)⟩
    clear hX hlX hdX hl hd hF
    go_enter Try.func28, Try.ntmps28
    go_wp2
    refine wp_region_quiet_all (fun w' => ∃ x, w' = over _ (NoB) x) (by kernel_rfl) (by kernel_rfl) (Cls.drew _ _) ?_
    repeat (go_big_quiet_step ((go_at_call 94; exact Calls.cls (fun _ _ h => h) (HFR.out _))))
    refine wpQuiet_nil ?_
    rintro _ ⟨y, rfl⟩
    go_wp2
    go_ret
    exact ⟨rfl, HR.out y⟩
  · rw [if_neg hlen]
    have HAP := Lib.hid (fun y => Append_calls p S d logName (g.wait ++ fr) N _ (hdX y) hF (by decide) (by rw [List.length_append]; omega))
    have HX := Lib.hid hX
    have HLX := Lib.hid hlX
    have HSL := Lib.hid hSl
    clear hX hlX hdX hl hd hF hSl
    have hlt : g.wait.length + fr.length ≤ 1000000000 := by omega
    generalize hres : d.append logName (g.wait ++ fr) = r at *
    obtain ⟨e1, d1⟩ := r
    have HRES := Lib.hid hres; clear hres
    simp only at *
    by_cases he : e1 = 0
    · rw [if_neg (by simpa using he)]
      subst he
      generalize hres2 : d1.sync = r at *
      obtain ⟨e2, d2⟩ := r
      have HRES2 := Lib.hid hres2; clear hres2
      simp only at *
      by_cases he : e2 = 0
      · rw [if_neg (by simpa using he)]
        subst he
        go_enter Try.func28, Try.ntmps28
        go_wp2
        refine wp_region_quiet_all (fun w' => ∃ x, w' = over _ (NoB) x) (by kernel_rfl) (by kernel_rfl) (Cls.drew _ _) ?_
        repeat (go_big_quiet_step ((go_at_call 94; exact Calls.cls (fun _ _ h => h) (HFR.out _))))
        refine wpQuiet_nil ?_
        rintro _ ⟨y, rfl⟩
        go_wp2_with fail
        refine (HAP.out y).mono ?_
        rintro e w2 ⟨rfl, hma, hda⟩
        have hl2 := (HLX.out y).mod hma HSL.out
        obtain ⟨hb2, k0, k1, k2, k3, k4, kf⟩ := hl2.facts
        have HL2 := Lib.hid hl2; clear hl2
        have HMA := Lib.hid hma; clear hma
        have HDA := Lib.hid hda; clear hda
        go_wp2_with fail
        have hsy := Sync_calls p _ d1 _ HDA.out
        rw [HRES2.out] at hsy
        refine hsy.mono ?_
        rintro e w3 ⟨rfl, hms, hds⟩
        simp only at hds
        have hsz := (HX.out y).size
        have hnl : ¬ Since S ((over w NoB y).setCell ⟨l, 2, none⟩ (.string ⟨#[]⟩)) w2 l := fun h => by
          rcases h with h | ⟨h, _⟩
          · exact HSL.out h
          · omega
        have hl3 := HL2.out.mod hms hnl
        have hm3 : Mod (fun k => S k ∨ k = l) w w3 := (((HX.out y).mono (fun _ _ e => .inr e)).trans HMA.out (fun _ _ h => .inl h)).trans hms (fun k hk h => by
          rcases h with h | ⟨h, _⟩
          · exact .inl h
          · omega)
        have hd3 : Disk w3 p (Since S w w3) d2 := hds.mono (Since.mono (Nat.le_trans hsz HMA.out.size) (fun k _ h => by
          rcases h with h | ⟨h, _⟩
          · exact .inl h
          · exact .inr (Nat.le_trans hsz h)))
        obtain ⟨hb3, m0, m1, m2, m3, m4, mf⟩ := hl3.facts
        have HL3 := Lib.hid hl3
        have HM3 := Lib.hid hm3
        have HD3 := Lib.hid hd3
        clear hl3 hm3 hd3 hds hms hsy hnl k0 k1 k2 k3 k4 kf c0 c1 c2 c3 c4 hf
        go_wp2_with fail
        refine wp_region_staged [⟨0, 0, false⟩, ⟨0, 1, false⟩, ⟨0, 2, false⟩, ⟨0, 0, false⟩, ⟨0, 0, false⟩, ⟨0, 0, false⟩, ⟨0, 0, false⟩, ⟨0, 0, false⟩, ⟨0, 0, false⟩, ⟨0, 1, false⟩, ⟨0, 2, false⟩, ⟨0, 2, false⟩, ⟨0, 2, false⟩, ⟨0, 0, false⟩, ⟨0, 2, false⟩, ⟨0, 1, false⟩, ⟨0, 0, false⟩, ⟨0, 0, true⟩, ⟨1, 2, false⟩, ⟨1, 1, false⟩, ⟨1, 1, true⟩, ⟨2, 3, false⟩, ⟨2, 2, false⟩, ⟨2, 2, true⟩] 3 (clsOf ((fun W : World => [fun w' => ∃ x, w' = over W NoB x, fun w' => ∃ x, w' = (over W NoB x).setCell ⟨l, 1, none⟩ (.string ⟨(g.s ++ (g.wait ++ fr)).toArray⟩), fun w' => ∃ x, w' = ((over W NoB x).setCell ⟨l, 1, none⟩ (.string ⟨(g.s ++ (g.wait ++ fr)).toArray⟩)).setCell ⟨l, 3, none⟩ (.string ⟨root.toArray⟩), fun w' => ∃ x, w' = (((over W NoB x).setCell ⟨l, 1, none⟩ (.string ⟨(g.s ++ (g.wait ++ fr)).toArray⟩)).setCell ⟨l, 3, none⟩ (.string ⟨root.toArray⟩)).setCell ⟨l, 4, none⟩ (.int .i64 (g.marks + 1))]) _)) (by kernel_rfl) (by kernel_rfl) (by first | exact Cls.drew _ _ | exact ⟨(), rfl⟩) ?_
        refine wpSt_same rfl ?_
        go_big_quiet_step (fail)
        refine wpQuiet_nil ?_
        refine wpSt_two rfl rfl ⟨_, rfl, by simp⟩ ?_
        go_big_quiet_step (fail)
        refine wpQuiet_nil ?_
        go_big_quiet_step (fail)
        refine wpQuiet_nil ?_
        refine ⟨rfl, ?_⟩
        refine wpSt_three rfl rfl rfl ⟨_, rfl, by simp⟩ ?_
        go_big_quiet_step (fail)
        refine wpQuiet_nil ?_
        go_big_quiet_step (fail)
        refine wpQuiet_nil ?_
        refine ⟨rfl, ?_⟩
        go_big_quiet_step (fail)
        refine wpQuiet_nil ?_
        refine ⟨rfl, ?_⟩
        refine wpSt_same rfl ?_
        go_big_quiet_step (fail)
        refine wpQuiet_nil ?_
        refine wpSt_same rfl ?_
        go_big_quiet_step (fail)
        refine wpQuiet_nil ?_
        refine wpSt_same rfl ?_
        go_big_quiet_step (fail)
        refine wpQuiet_nil ?_
        refine wpSt_same rfl ?_
        go_big_quiet_step (fail)
        refine wpQuiet_nil ?_
        refine wpSt_same rfl ?_
        go_big_quiet_step (fail)
        refine wpQuiet_nil ?_
        refine wpSt_same rfl ?_
        go_big_quiet_step (fail)
        refine wpQuiet_nil ?_
        refine wpSt_two rfl rfl ⟨_, rfl, by simp⟩ ?_
        go_big_quiet_step (fail)
        refine wpQuiet_nil ?_
        go_big_quiet_step (fail)
        refine wpQuiet_nil ?_
        refine ⟨rfl, ?_⟩
        refine wpSt_three rfl rfl rfl ⟨_, rfl, by simp⟩ ?_
        go_big_quiet_step (fail)
        refine wpQuiet_nil ?_
        go_big_quiet_step (fail)
        refine wpQuiet_nil ?_
        refine ⟨rfl, ?_⟩
        go_big_quiet_step (fail)
        refine wpQuiet_nil ?_
        refine ⟨rfl, ?_⟩
        refine wpSt_three rfl rfl rfl ⟨_, rfl, by simp⟩ ?_
        go_big_quiet_step (fail)
        refine wpQuiet_nil ?_
        go_big_quiet_step (fail)
        refine wpQuiet_nil ?_
        refine ⟨rfl, ?_⟩
        go_big_quiet_step (fail)
        refine wpQuiet_nil ?_
        refine ⟨rfl, ?_⟩
        refine wpSt_three rfl rfl rfl ⟨_, rfl, by simp⟩ ?_
        go_big_quiet_step (fail)
        refine wpQuiet_nil ?_
        go_big_quiet_step (fail)
        refine wpQuiet_nil ?_
        refine ⟨rfl, ?_⟩
        go_big_quiet_step (fail)
        refine wpQuiet_nil ?_
        refine ⟨rfl, ?_⟩
        refine wpSt_same rfl ?_
        go_big_quiet_step (fail)
        refine wpQuiet_nil ?_
        refine wpSt_three rfl rfl rfl ⟨_, rfl, by simp⟩ ?_
        go_big_quiet_step (fail)
        refine wpQuiet_nil ?_
        go_big_quiet_step (fail)
        refine wpQuiet_nil ?_
        refine ⟨rfl, ?_⟩
        go_big_quiet_step (fail)
        refine wpQuiet_nil ?_
        refine ⟨rfl, ?_⟩
        refine wpSt_two rfl rfl ⟨_, rfl, by simp⟩ ?_
        go_big_quiet_step (fail)
        refine wpQuiet_nil ?_
        go_big_quiet_step (fail)
        refine wpQuiet_nil ?_
        refine ⟨rfl, ?_⟩
        refine wpSt_same rfl ?_
        go_big_quiet_step (fail)
        refine wpQuiet_nil ?_
        refine wpSt_store rfl rfl rfl rfl ?_ ?_
        · (rintro _ ⟨x, rfl⟩; unfold loudAt; go_simp; first | done | exact ⟨_, rfl⟩)
        refine wpSt_two rfl rfl ⟨_, rfl, by simp⟩ ?_
        go_big_quiet_step (fail)
        refine wpQuiet_nil ?_
        go_big_quiet_step (fail)
        refine wpQuiet_nil ?_
        refine ⟨rfl, ?_⟩
        refine wpSt_same rfl ?_
        go_big_quiet_step (fail)
        refine wpQuiet_nil ?_
        refine wpSt_store rfl rfl rfl rfl ?_ ?_
        · (rintro _ ⟨x, rfl⟩; unfold loudAt; go_simp; first | done | exact ⟨_, rfl⟩)
        refine wpSt_two rfl rfl ⟨_, rfl, by simp⟩ ?_
        go_big_quiet_step (fail)
        refine wpQuiet_nil ?_
        go_big_quiet_step (fail)
        refine wpQuiet_nil ?_
        refine ⟨rfl, ?_⟩
        refine wpSt_same rfl ?_
        go_big_quiet_step (fail)
        refine wpQuiet_nil ?_
        refine wpSt_store rfl rfl rfl rfl ?_ ?_
        · (rintro _ ⟨x, rfl⟩; unfold loudAt; go_simp; first | done | exact ⟨_, rfl⟩)
        refine wpSt_nil ?_
        rintro _ ⟨z, rfl⟩
        go_wp2
        go_ret
        have hmz : Mod (fun k => k = l) w3 ((((over w3 NoB z).setCell ⟨l, 1, none⟩ (.string ⟨(g.s ++ (g.wait ++ fr)).toArray⟩)).setCell ⟨l, 3, none⟩ (.string ⟨root.toArray⟩)).setCell ⟨l, 4, none⟩ (.int .i64 (g.marks + 1))) :=
          Mod.setCell (Mod.setCell (Mod.setCell ((over_mod w3 NoB z).mono (noB_sub (fun k => k = l) _)) _ _ (fun _ => rfl)) _ _ (fun _ => rfl)) _ _ (fun _ => rfl)
        refine ⟨rfl, HM3.out.trans hmz (fun _ _ h => .inr h), ?_, ?_⟩
        · show _ = _
          simp only [heap_setCell_same]
          rw [over_heap hb3 (noB l), HL3.out]
          simp only [Lg.cells, Option.map_some, setAt_cells, List.setIfInBounds_toArray, List.set_cons_zero, List.set_cons_succ]
          rfl
        · refine (HD3.out.mod hmz (fun k hk e => ?_)).mono (fun k hk h => ?_)
          · rcases hk with hk | ⟨hk, _⟩
            · exact HSL.out (e ▸ hk)
            · omega
          · rcases h with h | ⟨h, _⟩
            · exact .inl h
            · exact .inr ⟨h, hk⟩
      · rw [if_pos he]
        have he' : (e2 != 0) = true := by simpa using he
        have HE := Lib.hid he; clear he
        go_enter Try.func28, Try.ntmps28
        go_wp2
        refine wp_region_quiet_all (fun w' => ∃ x, w' = over _ (NoB) x) (by kernel_rfl) (by kernel_rfl) (Cls.drew _ _) ?_
        repeat (go_big_quiet_step ((go_at_call 94; exact Calls.cls (fun _ _ h => h) (HFR.out _))))
        refine wpQuiet_nil ?_
        rintro _ ⟨y, rfl⟩
        go_wp2_with fail
        refine (HAP.out y).mono ?_
        rintro e w2 ⟨rfl, hma, hda⟩
        have hl2 := (HLX.out y).mod hma HSL.out
        obtain ⟨hb2, k0, k1, k2, k3, k4, kf⟩ := hl2.facts
        have HL2 := Lib.hid hl2; clear hl2
        have HMA := Lib.hid hma; clear hma
        have HDA := Lib.hid hda; clear hda
        go_wp2_with fail
        have hsy := Sync_calls p _ d1 _ HDA.out
        rw [HRES2.out] at hsy
        refine hsy.mono ?_
        rintro e w3 ⟨rfl, hms, hds⟩
        simp only at hds
        have hsz := (HX.out y).size
        have hnl : ¬ Since S ((over w NoB y).setCell ⟨l, 2, none⟩ (.string ⟨#[]⟩)) w2 l := fun h => by
          rcases h with h | ⟨h, _⟩
          · exact HSL.out h
          · omega
        have hl3 := HL2.out.mod hms hnl
        have hm3 : Mod (fun k => S k ∨ k = l) w w3 := (((HX.out y).mono (fun _ _ e => .inr e)).trans HMA.out (fun _ _ h => .inl h)).trans hms (fun k hk h => by
          rcases h with h | ⟨h, _⟩
          · exact .inl h
          · omega)
        have hd3 : Disk w3 p (Since S w w3) d2 := hds.mono (Since.mono (Nat.le_trans hsz HMA.out.size) (fun k _ h => by
          rcases h with h | ⟨h, _⟩
          · exact .inl h
          · exact .inr (Nat.le_trans hsz h)))
        obtain ⟨hb3, m0, m1, m2, m3, m4, mf⟩ := hl3.facts
        have HL3 := Lib.hid hl3
        have HM3 := Lib.hid hm3
        have HD3 := Lib.hid hd3
        clear hl3 hm3 hd3 hds hms hsy hnl k0 k1 k2 k3 k4 kf c0 c1 c2 c3 c4 hf
        go_wp2_with fail
        go_ret
        exact ⟨rfl, HM3.out, HL3.out, HD3.out⟩
    · rw [if_pos he]
      have he' : (e1 != 0) = true := by simpa using he
      have HE := Lib.hid he; clear he
      go_enter Try.func28, Try.ntmps28
      go_wp2
      refine wp_region_quiet_all (fun w' => ∃ x, w' = over _ (NoB) x) (by kernel_rfl) (by kernel_rfl) (Cls.drew _ _) ?_
      repeat (go_big_quiet_step ((go_at_call 94; exact Calls.cls (fun _ _ h => h) (HFR.out _))))
      refine wpQuiet_nil ?_
      rintro _ ⟨y, rfl⟩
      go_wp2_with fail
      refine (HAP.out y).mono ?_
      rintro e w2 ⟨rfl, hma, hda⟩
      have hl2 := (HLX.out y).mod hma HSL.out
      obtain ⟨hb2, k0, k1, k2, k3, k4, kf⟩ := hl2.facts
      have HL2 := Lib.hid hl2; clear hl2
      have HMA := Lib.hid hma; clear hma
      have HDA := Lib.hid hda; clear hda
      go_wp2_with fail
      go_ret
      exact ⟨rfl, ((HX.out y).mono (fun _ _ e => .inr e)).trans HMA.out (fun _ _ h => .inl h), HL2.out, HDA.out.mono (Since.mono (HX.out y).size (fun _ _ h => .inl h))⟩

end Go.Proofs.Ytgofngilfdnakaa

namespace Go.Proofs.Ytgofngilfdnakaa
open Go Go.RowKit
attribute [local go_sem] over_cell over_frozen lt_over le_over noB loudUpon ByteArray.mk_append_mk ByteArray.extract_mk drop_full

theorem Dk.crash_room (d : Dk) (k t : Int) : (d.crash k t).room = d.room := by unfold Dk.crash; split <;> rfl
theorem Dk.commit_room (d : Dk) (c : Chg) : (d.commit c).2.room = d.room := by
  unfold Dk.commit
  split
  · split
    · rw [Dk.crash_room]
    · rfl
  · rfl
theorem Fit.commit {d : Dk} {N : Nat} (h : Fit d N) (c : Chg) (hc : c.kind = 2 → c.name ≠ c.to) (hN : N + c.s.length + 1 ≤ 400000000) : Fit (d.commit c).2 (N + c.s.length + 1) :=
  ⟨h.le.commit c hc, hN, by rw [Dk.commit_room]; exact h.low, by rw [Dk.commit_room]; exact h.high⟩
theorem Fit.mono {d : Dk} {N M : Nat} (h : Fit d N) (h1 : N ≤ M) (h2 : M ≤ 400000000) : Fit d M := ⟨h.le.mono h1, h2, h.low, h.high⟩
theorem Fit.remove {d : Dk} {N : Nat} (h : Fit d N) (n : Str) (hN : N + 1 ≤ 400000000) : Fit (d.remove n).2 (N + 1) := by
  unfold Dk.remove
  split
  · exact h.mono (by omega) hN
  · exact h.commit ⟨3, n, [], [], 0⟩ (by simp) (by simpa using hN)
theorem Fit.truncate {d : Dk} {N : Nat} (h : Fit d N) (n : Str) (k : Int) (hN : N + 1 ≤ 400000000) : Fit (d.truncate n k).2 (N + 1) := by
  unfold Dk.truncate
  split
  · exact h.mono (by omega) hN
  · split
    · exact h.mono (by omega) hN
    · exact h.commit ⟨4, n, [], [], k⟩ (by simp) (by simpa using hN)
theorem Fit.sync {d : Dk} {N : Nat} (h : Fit d N) : Fit d.sync.2 N := by
  refine ⟨h.le.sync, h.most, ?_, ?_⟩
  · unfold Dk.sync; split <;> exact h.low
  · unfold Dk.sync; split <;> exact h.high
theorem Fit.append {d : Dk} {N : Nat} (h : Fit d N) (n s : Str) (hN : N + s.length + 1 ≤ 400000000) : Fit (d.append n s).2 (N + s.length + 1) := by
  unfold Dk.append
  split
  · exact h.mono (by omega) hN
  · split
    · exact h.mono (by omega) hN
    · exact h.commit ⟨0, n, [], s, 0⟩ (by simp) hN
theorem Fit.write {d : Dk} {N : Nat} (h : Fit d N) (n s : Str) (hN : N + s.length + 1 ≤ 400000000) : Fit (d.write n s).2 (N + s.length + 1) := by
  unfold Dk.write
  split
  · exact h.mono (by omega) hN
  · split
    · exact h.mono (by omega) hN
    · exact h.commit ⟨1, n, [], s, 0⟩ (by simp) hN
theorem Fit.move {d : Dk} {N : Nat} (h : Fit d N) (n t : Str) (hN : N + 1 ≤ 400000000) : Fit (d.move n t).2 (N + 1) := by
  unfold Dk.move
  split
  · exact h.mono (by omega) hN
  · split
    · exact h.mono (by omega) hN
    · rename_i hne
      exact h.commit ⟨2, n, t, [], 0⟩ (fun _ => hne) (by simpa using hN)
theorem Fit.crash {d : Dk} {N : Nat} (h : Fit d N) (k t : Int) : Fit (d.crash k t) N := ⟨h.le.crash k t, h.most, by rw [Dk.crash_room]; exact h.low, by rw [Dk.crash_room]; exact h.high⟩
theorem Dk.read_length (d : Dk) (n : Str) : (d.read n).1.length ≤ d.now.size := by
  unfold Dk.read
  split
  · simp
  · exact d.now.val_le n

/-- What opening leaves. -/
def OpenPost (p : Nat) (S : Nat → Prop) (w : World) (r : Option Lg × Int × Int × Dk) (e : Ending) (w' : World) : Prop :=
  match r with
  | (none, t, x, d) => e = .returned (.tuple #[.pointer none, .int .i64 t, .int .i64 x]) ∧ Mod S w w' ∧ Disk w' p (Since S w w') d
  | (some g, t, x, d) => ∃ l, e = .returned (.tuple #[.pointer (some ⟨l, 0, none⟩), .int .i64 t, .int .i64 x]) ∧ w.heap.size ≤ l ∧ LogAt w' l p g ∧ Mod S w w' ∧ Disk w' p (fun k => Since S w w' k ∧ k ≠ l) d

theorem sync_after {p l : Nat} {S T : Nat → Prop} {d : Dk} {g : Lg} {w X : World} (hm : Mod S w X) (hl : LogAt X l p g) (hd : Disk X p T d) (hT : ∀ k, k < X.heap.size → T k → (S k ∨ w.heap.size ≤ k) ∧ k ≠ l) :
    Calls Try.prog 24 #[.pointer (some ⟨p, 0, none⟩)] X fun e w' => e = .returned (.int .i64 d.sync.1) ∧ Mod S w w' ∧ LogAt w' l p g ∧ Disk w' p (fun k => Since S w w' k ∧ k ≠ l) d.sync.2 := by
  have hll := lt_heap hl
  refine (Sync_calls p (fun k => T k ∧ k < X.heap.size) d X (hd.mono (fun k hk h => ⟨h, hk⟩))).mono ?_
  rintro e w' ⟨rfl, h1, h2⟩
  refine ⟨rfl, hm.trans h1 (fun k hk h => ?_), hl.mod h1 (fun h => (hT l h.2 h.1).2 rfl), h2.mono (fun k hk h => ?_)⟩
  · rcases (hT k h.2 h.1).1 with h | h
    · exact h
    · omega
  · rcases h with ⟨h3, h4⟩ | ⟨h3, h4⟩
    · refine ⟨?_, (hT k h4 h3).2⟩
      rcases (hT k h4 h3).1 with h | h
      · exact .inl h
      · exact .inr ⟨h, hk⟩
    · exact ⟨.inr ⟨Nat.le_trans hm.size h3, h4⟩, by omega⟩

set_option maxRecDepth 100000 in
set_option maxHeartbeats 3200000 in
theorem Open_calls (p : Nat) (S : Nat → Prop) (d : Dk) (N : Nat) (w : World) (hd : Disk w p S d) (hF : Fit d N) (hN : N + 2 ≤ 400000000) :
    Calls Try.prog 25 #[.pointer (some ⟨p, 0, none⟩)] w (OpenPost p S w (openW d)) := by
  have HDEAD := Lib.hid (Dead_calls p S d w hd)
  have HD := Lib.hid hd
  have HF := Lib.hid hF
  clear hd hF
  unfold openW
  by_cases hdn : d.down = true
  · rw [if_pos hdn]
    rw [hdn] at HDEAD
    clear hdn
    go_enter Try.func25, Try.ntmps25
    go_wp2_with fail
    refine HDEAD.out.mono ?_
    rintro e w' ⟨rfl, rfl⟩
    go_wp2_with fail
    go_ret3
    exact ⟨rfl, Mod.refl _ _, HD.out.mono (fun _ _ h => .inl h)⟩
  · rw [if_neg hdn]
    have hdn : d.down = false := by simpa using hdn
    rw [hdn] at HDEAD
    clear hdn
    have HRD := Lib.hid (Read_calls p S d freshName w HD.out (by decide))
    have hrl := d.read_length freshName
    generalize hr : d.read freshName = r at *
    obtain ⟨s0, e0⟩ := r
    have HR := Lib.hid hr; clear hr
    simp only at HRD hrl ⊢
    by_cases he : e0 = 0
    · subst he
      simp only [if_true]
      have HRM := Lib.hid (fun X hX => Remove_calls p S d freshName N X (HD.out.mod (w' := X) hX (fun (k : Nat) _ => (id : ¬ NoB k))) HF.out (by decide))
      have hfit2 := HF.out.remove freshName (by omega)
      generalize hq : d.remove freshName = q at *
      obtain ⟨e3, d3⟩ := q
      have HQ := Lib.hid hq; clear hq
      simp only at hfit2 HRM ⊢
      have HF3 := Lib.hid hfit2; clear hfit2
      by_cases he3 : e3 = 0
      · subst he3
        rw [if_neg (by simp)]
        unfold openB
        have hsl := d3.read_length logName
        have hle := (HF3.out).le.now_size
        have hmost := (HF3.out).most
        generalize hr2 : d3.read logName = r at *
        obtain ⟨s1, e1⟩ := r
        have HR2 := Lib.hid hr2; clear hr2
        simp only at hsl ⊢
        by_cases he1 : e1 = 0
        · subst he1
          rw [if_neg (by simp)]
          have hsc := scan_bounds s1
          have HSC := Lib.hid (fun X => scan_calls s1 (by omega) X)
          generalize hrs : scan s1 = r at *
          obtain ⟨en, rt, mk⟩ := r
          have HRS := Lib.hid hrs; clear hrs
          simp only at hsc HSC ⊢
          obtain ⟨b1, b2, b3⟩ := hsc
          have hs1 : s1.length ≤ 400000000 := by omega
          clear hsl hle hmost
          by_cases hlt : en < s1.length
          · rw [if_pos hlt]
            have HTR := Lib.hid (fun X T (hX : Disk X p T d3) => Truncate_calls p T d3 logName (en : Nat) (N + 1) X hX (HF3.out) (by decide))
            generalize hqt : d3.truncate logName (en : Nat) = q at *
            obtain ⟨e4, d4⟩ := q
            have HQT := Lib.hid hqt; clear hqt
            simp only at HTR ⊢
            by_cases he4 : e4 = 0
            · subst he4
              rw [if_neg (by simp)]
              go_enter Try.func25, Try.ntmps25
              go_wp2_with fail
              refine HDEAD.out.mono ?_
              rintro e w' ⟨rfl, rfl⟩
              go_wp2_with fail
              refine HRD.out.mono ?_
              rintro e X0 ⟨rfl, hm0⟩
              have HM0 := Lib.hid hm0
              go_wp2_with fail
              refine (HRM.out X0 HM0.out).mono ?_
              rintro e X ⟨rfl, hmr, hdr⟩
              have HMR : Hid (Mod S w X) := (HM0.out.mono (noB_sub S _)).trans hmr (fun _ _ h => h)
              have HDR : Hid (Disk X p (Since S w X) d3) := hdr.mono (fun k _ h => by
                rcases h with h | ⟨h, h'⟩
                · exact .inl h
                · exact .inr ⟨Nat.le_trans hm0.size h, h'⟩)
              clear hm0 hmr hdr
              go_wp2_with fail
              have HXD : Hid (Disk X p (fun k => Since S w X k ∧ k < X.heap.size) d3) := HDR.out.mono (fun k hk h => ⟨h, hk⟩)
              have HXM := HMR
              go_wp2_with fail
              have hm1 : Mod NoB X (X.alloc (.cells #[.pointer (some ⟨p, 0, none⟩), .string ⟨#[]⟩, .string ⟨#[]⟩, .string ⟨#[]⟩, .int .i64 0] 152)) := (Mod.refl _ _).alloc _
              have hrd := Read_calls p _ d3 logName _ (HXD.out.mod hm1 (fun _ _ => id)) (by decide)
              rw [HR2.out] at hrd
              refine hrd.mono ?_
              rintro e X2 ⟨rfl, hm2⟩
              have hl2 : LogAt X2 X.heap.size p ⟨[], [], [], 0⟩ := (hm2.block _ (by rw [size_alloc]; omega) id).trans (heap_alloc_new _ _)
              have hd2 : Disk X2 p (fun k => Since S w X k ∧ k < X.heap.size) d3 := HXD.out.mod (hm1.trans hm2 (fun _ _ h => h)) (fun _ _ => id)
              have hsz2 : X.heap.size + 1 ≤ X2.heap.size := by have := hm2.size; rw [size_alloc] at this; exact this
              have HM2 : Hid (Mod S w X2) := (HXM.out.trans hm1 (noB_sub _ _)).trans hm2 (noB_sub _ _)
              have HL2 := Lib.hid hl2
              have HD2 := Lib.hid hd2
              obtain ⟨bl, k0, k1, k2, k3, k4, kf⟩ := hl2.facts
              clear hm1 hm2 hl2 hd2 hrd
              go_wp2_with fail
              refine (HSC.out _).mono ?_
              rintro e X3 ⟨rfl, hm3⟩
              have hl3 := HL2.out.mod hm3 id
              have HD3 := Lib.hid (HD2.out.mod hm3 (fun _ _ => id))
              have HM3 : Hid (Mod S w X3) := HM2.out.trans hm3 (noB_sub _ _)
              have hsz3 := Nat.le_trans hsz2 hm3.size
              have HL3 := Lib.hid hl3
              obtain ⟨bl3, m0, m1, m2, m3, m4, mf⟩ := hl3.facts
              clear hm3 hl3 k0 k1 k2 k3 k4 kf bl
              have hmz : Mod (fun k => k = X.heap.size) X3 (((X3.setCell ⟨X.heap.size, 1, none⟩ (.string ⟨(s1.take en).toArray⟩)).setCell ⟨X.heap.size, 3, none⟩ (.string ⟨rt.toArray⟩)).setCell ⟨X.heap.size, 4, none⟩ (.int .i64 mk)) :=
                Mod.setCell (Mod.setCell (Mod.setCell (Mod.refl (fun k => k = X.heap.size) X3) _ _ (fun _ => rfl)) _ _ (fun _ => rfl)) _ _ (fun _ => rfl)
              have HL4 : Hid (LogAt (((X3.setCell ⟨X.heap.size, 1, none⟩ (.string ⟨(s1.take en).toArray⟩)).setCell ⟨X.heap.size, 3, none⟩ (.string ⟨rt.toArray⟩)).setCell ⟨X.heap.size, 4, none⟩ (.int .i64 mk)) X.heap.size p ⟨s1.take en, [], rt, mk⟩) := by
                show _ = _
                simp only [heap_setCell_same]
                rw [HL3.out]
                simp only [Lg.cells, Option.map_some, setAt_cells, List.setIfInBounds_toArray, List.set_cons_zero, List.set_cons_succ]
              have hxs := HXM.out.size
              have HM4 : Hid (Mod S w (((X3.setCell ⟨X.heap.size, 1, none⟩ (.string ⟨(s1.take en).toArray⟩)).setCell ⟨X.heap.size, 3, none⟩ (.string ⟨rt.toArray⟩)).setCell ⟨X.heap.size, 4, none⟩ (.int .i64 mk))) := HM3.out.trans hmz (fun k hk h => by omega)
              have HD4 : Hid (Disk (((X3.setCell ⟨X.heap.size, 1, none⟩ (.string ⟨(s1.take en).toArray⟩)).setCell ⟨X.heap.size, 3, none⟩ (.string ⟨rt.toArray⟩)).setCell ⟨X.heap.size, 4, none⟩ (.int .i64 mk)) p (fun k => Since S w X k ∧ k < X.heap.size) d3) := HD3.out.mod hmz (fun k h e => by have := h.2; omega)
              have HT4 : Hid (∀ k, k < (((X3.setCell ⟨X.heap.size, 1, none⟩ (.string ⟨(s1.take en).toArray⟩)).setCell ⟨X.heap.size, 3, none⟩ (.string ⟨rt.toArray⟩)).setCell ⟨X.heap.size, 4, none⟩ (.int .i64 mk)).heap.size → (Since S w X k ∧ k < X.heap.size) → (S k ∨ w.heap.size ≤ k) ∧ k ≠ X.heap.size) := fun k _ h => by
                refine ⟨?_, by omega⟩
                rcases h.1 with h | ⟨h, _⟩
                · exact .inl h
                · exact .inr h
              have hsz4 := hmz.size
              clear hmz
              go_wp2_with fail
              refine (HTR.out _ _ HD4.out).mono ?_
              rintro e X5 ⟨rfl, hm5, hd5⟩
              have HM5 : Hid (Mod S w X5) := HM4.out.trans hm5 (fun k hk h => by
                rcases h.1 with h | ⟨h, _⟩
                · exact h
                · omega)
              have HL5 := Lib.hid (HL4.out.mod hm5 (fun h => by have := h.2; omega))
              have HD5 := Lib.hid hd5
              have HT5 : Hid (∀ k, k < X5.heap.size → Since (fun k => Since S w X k ∧ k < X.heap.size) (((X3.setCell ⟨X.heap.size, 1, none⟩ (.string ⟨(s1.take en).toArray⟩)).setCell ⟨X.heap.size, 3, none⟩ (.string ⟨rt.toArray⟩)).setCell ⟨X.heap.size, 4, none⟩ (.int .i64 mk)) X5 k → (S k ∨ w.heap.size ≤ k) ∧ k ≠ X.heap.size) := fun k _ h => by
                rcases h with h | ⟨h, _⟩
                · refine ⟨?_, by omega⟩
                  rcases h.1 with h | ⟨h, _⟩
                  · exact .inl h
                  · exact .inr h
                · exact ⟨.inr (by omega), by omega⟩
              clear hm5 hd5
              go_wp2_with fail
              refine (sync_after HM5.out HL5.out HD5.out HT5.out).mono ?_
              rintro e w' ⟨rfl, q1, q2, q3⟩
              go_wp2_with fail
              go_ret3
              exact ⟨X.heap.size, rfl, HXM.out.size, q2, q1, q3⟩
            · rw [if_pos he4]
              have he4' : (e4 != 0) = true := by simpa using he4
              have HE4 := Lib.hid he4; clear he4
              go_enter Try.func25, Try.ntmps25
              go_wp2_with fail
              refine HDEAD.out.mono ?_
              rintro e w' ⟨rfl, rfl⟩
              go_wp2_with fail
              refine HRD.out.mono ?_
              rintro e X0 ⟨rfl, hm0⟩
              have HM0 := Lib.hid hm0
              go_wp2_with fail
              refine (HRM.out X0 HM0.out).mono ?_
              rintro e X ⟨rfl, hmr, hdr⟩
              have HMR : Hid (Mod S w X) := (HM0.out.mono (noB_sub S _)).trans hmr (fun _ _ h => h)
              have HDR : Hid (Disk X p (Since S w X) d3) := hdr.mono (fun k _ h => by
                rcases h with h | ⟨h, h'⟩
                · exact .inl h
                · exact .inr ⟨Nat.le_trans hm0.size h, h'⟩)
              clear hm0 hmr hdr
              go_wp2_with fail
              have HXD : Hid (Disk X p (fun k => Since S w X k ∧ k < X.heap.size) d3) := HDR.out.mono (fun k hk h => ⟨h, hk⟩)
              have HXM := HMR
              go_wp2_with fail
              have hm1 : Mod NoB X (X.alloc (.cells #[.pointer (some ⟨p, 0, none⟩), .string ⟨#[]⟩, .string ⟨#[]⟩, .string ⟨#[]⟩, .int .i64 0] 152)) := (Mod.refl _ _).alloc _
              have hrd := Read_calls p _ d3 logName _ (HXD.out.mod hm1 (fun _ _ => id)) (by decide)
              rw [HR2.out] at hrd
              refine hrd.mono ?_
              rintro e X2 ⟨rfl, hm2⟩
              have hl2 : LogAt X2 X.heap.size p ⟨[], [], [], 0⟩ := (hm2.block _ (by rw [size_alloc]; omega) id).trans (heap_alloc_new _ _)
              have hd2 : Disk X2 p (fun k => Since S w X k ∧ k < X.heap.size) d3 := HXD.out.mod (hm1.trans hm2 (fun _ _ h => h)) (fun _ _ => id)
              have hsz2 : X.heap.size + 1 ≤ X2.heap.size := by have := hm2.size; rw [size_alloc] at this; exact this
              have HM2 : Hid (Mod S w X2) := (HXM.out.trans hm1 (noB_sub _ _)).trans hm2 (noB_sub _ _)
              have HL2 := Lib.hid hl2
              have HD2 := Lib.hid hd2
              obtain ⟨bl, k0, k1, k2, k3, k4, kf⟩ := hl2.facts
              clear hm1 hm2 hl2 hd2 hrd
              go_wp2_with fail
              refine (HSC.out _).mono ?_
              rintro e X3 ⟨rfl, hm3⟩
              have hl3 := HL2.out.mod hm3 id
              have HD3 := Lib.hid (HD2.out.mod hm3 (fun _ _ => id))
              have HM3 : Hid (Mod S w X3) := HM2.out.trans hm3 (noB_sub _ _)
              have hsz3 := Nat.le_trans hsz2 hm3.size
              have HL3 := Lib.hid hl3
              obtain ⟨bl3, m0, m1, m2, m3, m4, mf⟩ := hl3.facts
              clear hm3 hl3 k0 k1 k2 k3 k4 kf bl
              have hmz : Mod (fun k => k = X.heap.size) X3 (((X3.setCell ⟨X.heap.size, 1, none⟩ (.string ⟨(s1.take en).toArray⟩)).setCell ⟨X.heap.size, 3, none⟩ (.string ⟨rt.toArray⟩)).setCell ⟨X.heap.size, 4, none⟩ (.int .i64 mk)) :=
                Mod.setCell (Mod.setCell (Mod.setCell (Mod.refl (fun k => k = X.heap.size) X3) _ _ (fun _ => rfl)) _ _ (fun _ => rfl)) _ _ (fun _ => rfl)
              have HL4 : Hid (LogAt (((X3.setCell ⟨X.heap.size, 1, none⟩ (.string ⟨(s1.take en).toArray⟩)).setCell ⟨X.heap.size, 3, none⟩ (.string ⟨rt.toArray⟩)).setCell ⟨X.heap.size, 4, none⟩ (.int .i64 mk)) X.heap.size p ⟨s1.take en, [], rt, mk⟩) := by
                show _ = _
                simp only [heap_setCell_same]
                rw [HL3.out]
                simp only [Lg.cells, Option.map_some, setAt_cells, List.setIfInBounds_toArray, List.set_cons_zero, List.set_cons_succ]
              have hxs := HXM.out.size
              have HM4 : Hid (Mod S w (((X3.setCell ⟨X.heap.size, 1, none⟩ (.string ⟨(s1.take en).toArray⟩)).setCell ⟨X.heap.size, 3, none⟩ (.string ⟨rt.toArray⟩)).setCell ⟨X.heap.size, 4, none⟩ (.int .i64 mk))) := HM3.out.trans hmz (fun k hk h => by omega)
              have HD4 : Hid (Disk (((X3.setCell ⟨X.heap.size, 1, none⟩ (.string ⟨(s1.take en).toArray⟩)).setCell ⟨X.heap.size, 3, none⟩ (.string ⟨rt.toArray⟩)).setCell ⟨X.heap.size, 4, none⟩ (.int .i64 mk)) p (fun k => Since S w X k ∧ k < X.heap.size) d3) := HD3.out.mod hmz (fun k h e => by have := h.2; omega)
              have HT4 : Hid (∀ k, k < (((X3.setCell ⟨X.heap.size, 1, none⟩ (.string ⟨(s1.take en).toArray⟩)).setCell ⟨X.heap.size, 3, none⟩ (.string ⟨rt.toArray⟩)).setCell ⟨X.heap.size, 4, none⟩ (.int .i64 mk)).heap.size → (Since S w X k ∧ k < X.heap.size) → (S k ∨ w.heap.size ≤ k) ∧ k ≠ X.heap.size) := fun k _ h => by
                refine ⟨?_, by omega⟩
                rcases h.1 with h | ⟨h, _⟩
                · exact .inl h
                · exact .inr h
              have hsz4 := hmz.size
              clear hmz
              go_wp2_with fail
              refine (HTR.out _ _ HD4.out).mono ?_
              rintro e X5 ⟨rfl, hm5, hd5⟩
              have HM5 : Hid (Mod S w X5) := HM4.out.trans hm5 (fun k hk h => by
                rcases h.1 with h | ⟨h, _⟩
                · exact h
                · omega)
              have HL5 := Lib.hid (HL4.out.mod hm5 (fun h => by have := h.2; omega))
              have HD5 := Lib.hid hd5
              have HT5 : Hid (∀ k, k < X5.heap.size → Since (fun k => Since S w X k ∧ k < X.heap.size) (((X3.setCell ⟨X.heap.size, 1, none⟩ (.string ⟨(s1.take en).toArray⟩)).setCell ⟨X.heap.size, 3, none⟩ (.string ⟨rt.toArray⟩)).setCell ⟨X.heap.size, 4, none⟩ (.int .i64 mk)) X5 k → (S k ∨ w.heap.size ≤ k) ∧ k ≠ X.heap.size) := fun k _ h => by
                rcases h with h | ⟨h, _⟩
                · refine ⟨?_, by omega⟩
                  rcases h.1 with h | ⟨h, _⟩
                  · exact .inl h
                  · exact .inr h
                · exact ⟨.inr (by omega), by omega⟩
              clear hm5 hd5
              go_wp2_with fail
              go_ret3
              refine ⟨rfl, HM5.out, HD5.out.mono (fun k hk h => ?_)⟩
              rcases (HT5.out k hk h).1 with h | h
              · exact .inl h
              · exact .inr ⟨h, hk⟩
          · rw [if_neg hlt]
            go_enter Try.func25, Try.ntmps25
            go_wp2_with fail
            refine HDEAD.out.mono ?_
            rintro e w' ⟨rfl, rfl⟩
            go_wp2_with fail
            refine HRD.out.mono ?_
            rintro e X0 ⟨rfl, hm0⟩
            have HM0 := Lib.hid hm0
            go_wp2_with fail
            refine (HRM.out X0 HM0.out).mono ?_
            rintro e X ⟨rfl, hmr, hdr⟩
            have HMR : Hid (Mod S w X) := (HM0.out.mono (noB_sub S _)).trans hmr (fun _ _ h => h)
            have HDR : Hid (Disk X p (Since S w X) d3) := hdr.mono (fun k _ h => by
              rcases h with h | ⟨h, h'⟩
              · exact .inl h
              · exact .inr ⟨Nat.le_trans hm0.size h, h'⟩)
            clear hm0 hmr hdr
            go_wp2_with fail
            have HXD : Hid (Disk X p (fun k => Since S w X k ∧ k < X.heap.size) d3) := HDR.out.mono (fun k hk h => ⟨h, hk⟩)
            have HXM := HMR
            go_wp2_with fail
            have hm1 : Mod NoB X (X.alloc (.cells #[.pointer (some ⟨p, 0, none⟩), .string ⟨#[]⟩, .string ⟨#[]⟩, .string ⟨#[]⟩, .int .i64 0] 152)) := (Mod.refl _ _).alloc _
            have hrd := Read_calls p _ d3 logName _ (HXD.out.mod hm1 (fun _ _ => id)) (by decide)
            rw [HR2.out] at hrd
            refine hrd.mono ?_
            rintro e X2 ⟨rfl, hm2⟩
            have hl2 : LogAt X2 X.heap.size p ⟨[], [], [], 0⟩ := (hm2.block _ (by rw [size_alloc]; omega) id).trans (heap_alloc_new _ _)
            have hd2 : Disk X2 p (fun k => Since S w X k ∧ k < X.heap.size) d3 := HXD.out.mod (hm1.trans hm2 (fun _ _ h => h)) (fun _ _ => id)
            have hsz2 : X.heap.size + 1 ≤ X2.heap.size := by have := hm2.size; rw [size_alloc] at this; exact this
            have HM2 : Hid (Mod S w X2) := (HXM.out.trans hm1 (noB_sub _ _)).trans hm2 (noB_sub _ _)
            have HL2 := Lib.hid hl2
            have HD2 := Lib.hid hd2
            obtain ⟨bl, k0, k1, k2, k3, k4, kf⟩ := hl2.facts
            clear hm1 hm2 hl2 hd2 hrd
            go_wp2_with fail
            refine (HSC.out _).mono ?_
            rintro e X3 ⟨rfl, hm3⟩
            have hl3 := HL2.out.mod hm3 id
            have HD3 := Lib.hid (HD2.out.mod hm3 (fun _ _ => id))
            have HM3 : Hid (Mod S w X3) := HM2.out.trans hm3 (noB_sub _ _)
            have hsz3 := Nat.le_trans hsz2 hm3.size
            have HL3 := Lib.hid hl3
            obtain ⟨bl3, m0, m1, m2, m3, m4, mf⟩ := hl3.facts
            clear hm3 hl3 k0 k1 k2 k3 k4 kf bl
            have hmz : Mod (fun k => k = X.heap.size) X3 (((X3.setCell ⟨X.heap.size, 1, none⟩ (.string ⟨(s1.take en).toArray⟩)).setCell ⟨X.heap.size, 3, none⟩ (.string ⟨rt.toArray⟩)).setCell ⟨X.heap.size, 4, none⟩ (.int .i64 mk)) :=
              Mod.setCell (Mod.setCell (Mod.setCell (Mod.refl (fun k => k = X.heap.size) X3) _ _ (fun _ => rfl)) _ _ (fun _ => rfl)) _ _ (fun _ => rfl)
            have HL4 : Hid (LogAt (((X3.setCell ⟨X.heap.size, 1, none⟩ (.string ⟨(s1.take en).toArray⟩)).setCell ⟨X.heap.size, 3, none⟩ (.string ⟨rt.toArray⟩)).setCell ⟨X.heap.size, 4, none⟩ (.int .i64 mk)) X.heap.size p ⟨s1.take en, [], rt, mk⟩) := by
              show _ = _
              simp only [heap_setCell_same]
              rw [HL3.out]
              simp only [Lg.cells, Option.map_some, setAt_cells, List.setIfInBounds_toArray, List.set_cons_zero, List.set_cons_succ]
            have hxs := HXM.out.size
            have HM4 : Hid (Mod S w (((X3.setCell ⟨X.heap.size, 1, none⟩ (.string ⟨(s1.take en).toArray⟩)).setCell ⟨X.heap.size, 3, none⟩ (.string ⟨rt.toArray⟩)).setCell ⟨X.heap.size, 4, none⟩ (.int .i64 mk))) := HM3.out.trans hmz (fun k hk h => by omega)
            have HD4 : Hid (Disk (((X3.setCell ⟨X.heap.size, 1, none⟩ (.string ⟨(s1.take en).toArray⟩)).setCell ⟨X.heap.size, 3, none⟩ (.string ⟨rt.toArray⟩)).setCell ⟨X.heap.size, 4, none⟩ (.int .i64 mk)) p (fun k => Since S w X k ∧ k < X.heap.size) d3) := HD3.out.mod hmz (fun k h e => by have := h.2; omega)
            have HT4 : Hid (∀ k, k < (((X3.setCell ⟨X.heap.size, 1, none⟩ (.string ⟨(s1.take en).toArray⟩)).setCell ⟨X.heap.size, 3, none⟩ (.string ⟨rt.toArray⟩)).setCell ⟨X.heap.size, 4, none⟩ (.int .i64 mk)).heap.size → (Since S w X k ∧ k < X.heap.size) → (S k ∨ w.heap.size ≤ k) ∧ k ≠ X.heap.size) := fun k _ h => by
              refine ⟨?_, by omega⟩
              rcases h.1 with h | ⟨h, _⟩
              · exact .inl h
              · exact .inr h
            have hsz4 := hmz.size
            clear hmz
            go_wp2_with fail
            refine (sync_after HM4.out HL4.out HD4.out HT4.out).mono ?_
            rintro e w' ⟨rfl, q1, q2, q3⟩
            go_wp2_with fail
            go_ret3
            exact ⟨X.heap.size, rfl, HXM.out.size, q2, q1, q3⟩
        · rw [if_pos he1]
          have he1' : (e1 != 0) = true := by simpa using he1
          have HE1 := Lib.hid he1; clear he1
          go_enter Try.func25, Try.ntmps25
          go_wp2_with fail
          refine HDEAD.out.mono ?_
          rintro e w' ⟨rfl, rfl⟩
          go_wp2_with fail
          refine HRD.out.mono ?_
          rintro e X0 ⟨rfl, hm0⟩
          have HM0 := Lib.hid hm0
          go_wp2_with fail
          refine (HRM.out X0 HM0.out).mono ?_
          rintro e X ⟨rfl, hmr, hdr⟩
          have HMR : Hid (Mod S w X) := (HM0.out.mono (noB_sub S _)).trans hmr (fun _ _ h => h)
          have HDR : Hid (Disk X p (Since S w X) d3) := hdr.mono (fun k _ h => by
            rcases h with h | ⟨h, h'⟩
            · exact .inl h
            · exact .inr ⟨Nat.le_trans hm0.size h, h'⟩)
          clear hm0 hmr hdr
          go_wp2_with fail
          have HXD : Hid (Disk X p (fun k => Since S w X k ∧ k < X.heap.size) d3) := HDR.out.mono (fun k hk h => ⟨h, hk⟩)
          have HXM := HMR
          go_wp2_with fail
          have hm1 : Mod NoB X (X.alloc (.cells #[.pointer (some ⟨p, 0, none⟩), .string ⟨#[]⟩, .string ⟨#[]⟩, .string ⟨#[]⟩, .int .i64 0] 152)) := (Mod.refl _ _).alloc _
          have hrd := Read_calls p _ d3 logName _ (HXD.out.mod hm1 (fun _ _ => id)) (by decide)
          rw [HR2.out] at hrd
          refine hrd.mono ?_
          rintro e X2 ⟨rfl, hm2⟩
          have hl2 : LogAt X2 X.heap.size p ⟨[], [], [], 0⟩ := (hm2.block _ (by rw [size_alloc]; omega) id).trans (heap_alloc_new _ _)
          have hd2 : Disk X2 p (fun k => Since S w X k ∧ k < X.heap.size) d3 := HXD.out.mod (hm1.trans hm2 (fun _ _ h => h)) (fun _ _ => id)
          have hsz2 : X.heap.size + 1 ≤ X2.heap.size := by have := hm2.size; rw [size_alloc] at this; exact this
          have HM2 : Hid (Mod S w X2) := (HXM.out.trans hm1 (noB_sub _ _)).trans hm2 (noB_sub _ _)
          have HL2 := Lib.hid hl2
          have HD2 := Lib.hid hd2
          obtain ⟨bl, k0, k1, k2, k3, k4, kf⟩ := hl2.facts
          clear hm1 hm2 hl2 hd2 hrd
          go_wp2_with fail
          have hT2 : ∀ k, k < X2.heap.size → (Since S w X k ∧ k < X.heap.size) → (S k ∨ w.heap.size ≤ k) ∧ k ≠ X.heap.size := fun k _ h => by
            refine ⟨?_, by omega⟩
            rcases h.1 with h | ⟨h, _⟩
            · exact .inl h
            · exact .inr h
          refine (sync_after HM2.out HL2.out HD2.out hT2).mono ?_
          rintro e w' ⟨rfl, q1, q2, q3⟩
          go_wp2_with fail
          go_ret3
          exact ⟨X.heap.size, rfl, HXM.out.size, q2, q1, q3⟩
      · rw [if_pos he3]
        have he3' : (e3 != 0) = true := by simpa using he3
        have HE3 := Lib.hid he3; clear he3
        go_enter Try.func25, Try.ntmps25
        go_wp2_with fail
        refine HDEAD.out.mono ?_
        rintro e w' ⟨rfl, rfl⟩
        go_wp2_with fail
        refine HRD.out.mono ?_
        rintro e X0 ⟨rfl, hm0⟩
        have HM0 := Lib.hid hm0
        go_wp2_with fail
        refine (HRM.out X0 HM0.out).mono ?_
        rintro e X ⟨rfl, hmr, hdr⟩
        have HMR : Hid (Mod S w X) := (HM0.out.mono (noB_sub S _)).trans hmr (fun _ _ h => h)
        have HDR : Hid (Disk X p (Since S w X) d3) := hdr.mono (fun k _ h => by
          rcases h with h | ⟨h, h'⟩
          · exact .inl h
          · exact .inr ⟨Nat.le_trans hm0.size h, h'⟩)
        clear hm0 hmr hdr
        go_wp2_with fail
        go_ret3
        exact ⟨rfl, HMR.out, HDR.out⟩
    · rw [if_neg he]
      have he' : (e0 == 0) = false := by simpa using he
      have HE := Lib.hid he; clear he
      unfold openB
      have hsl := d.read_length logName
      have hle := (HF.out).le.now_size
      have hmost := (HF.out).most
      generalize hr2 : d.read logName = r at *
      obtain ⟨s1, e1⟩ := r
      have HR2 := Lib.hid hr2; clear hr2
      simp only at hsl ⊢
      by_cases he1 : e1 = 0
      · subst he1
        rw [if_neg (by simp)]
        have hsc := scan_bounds s1
        have HSC := Lib.hid (fun X => scan_calls s1 (by omega) X)
        generalize hrs : scan s1 = r at *
        obtain ⟨en, rt, mk⟩ := r
        have HRS := Lib.hid hrs; clear hrs
        simp only at hsc HSC ⊢
        obtain ⟨b1, b2, b3⟩ := hsc
        have hs1 : s1.length ≤ 400000000 := by omega
        clear hsl hle hmost
        by_cases hlt : en < s1.length
        · rw [if_pos hlt]
          have HTR := Lib.hid (fun X T (hX : Disk X p T d) => Truncate_calls p T d logName (en : Nat) (N) X hX (HF.out) (by decide))
          generalize hqt : d.truncate logName (en : Nat) = q at *
          obtain ⟨e4, d4⟩ := q
          have HQT := Lib.hid hqt; clear hqt
          simp only at HTR ⊢
          by_cases he4 : e4 = 0
          · subst he4
            rw [if_neg (by simp)]
            go_enter Try.func25, Try.ntmps25
            go_wp2_with fail
            refine HDEAD.out.mono ?_
            rintro e w' ⟨rfl, rfl⟩
            go_wp2_with fail
            refine HRD.out.mono ?_
            rintro e X ⟨rfl, hmX⟩
            have HXD : Hid (Disk X p (fun k => Since S w X k ∧ k < X.heap.size) d) := (HD.out.mod hmX (fun _ _ => id)).mono (fun k hk h => ⟨.inl h, hk⟩)
            have HXM : Hid (Mod S w X) := hmX.mono (noB_sub _ _)
            clear hmX
            go_wp2_with fail
            have hm1 : Mod NoB X (X.alloc (.cells #[.pointer (some ⟨p, 0, none⟩), .string ⟨#[]⟩, .string ⟨#[]⟩, .string ⟨#[]⟩, .int .i64 0] 152)) := (Mod.refl _ _).alloc _
            have hrd := Read_calls p _ d logName _ (HXD.out.mod hm1 (fun _ _ => id)) (by decide)
            rw [HR2.out] at hrd
            refine hrd.mono ?_
            rintro e X2 ⟨rfl, hm2⟩
            have hl2 : LogAt X2 X.heap.size p ⟨[], [], [], 0⟩ := (hm2.block _ (by rw [size_alloc]; omega) id).trans (heap_alloc_new _ _)
            have hd2 : Disk X2 p (fun k => Since S w X k ∧ k < X.heap.size) d := HXD.out.mod (hm1.trans hm2 (fun _ _ h => h)) (fun _ _ => id)
            have hsz2 : X.heap.size + 1 ≤ X2.heap.size := by have := hm2.size; rw [size_alloc] at this; exact this
            have HM2 : Hid (Mod S w X2) := (HXM.out.trans hm1 (noB_sub _ _)).trans hm2 (noB_sub _ _)
            have HL2 := Lib.hid hl2
            have HD2 := Lib.hid hd2
            obtain ⟨bl, k0, k1, k2, k3, k4, kf⟩ := hl2.facts
            clear hm1 hm2 hl2 hd2 hrd
            go_wp2_with fail
            refine (HSC.out _).mono ?_
            rintro e X3 ⟨rfl, hm3⟩
            have hl3 := HL2.out.mod hm3 id
            have HD3 := Lib.hid (HD2.out.mod hm3 (fun _ _ => id))
            have HM3 : Hid (Mod S w X3) := HM2.out.trans hm3 (noB_sub _ _)
            have hsz3 := Nat.le_trans hsz2 hm3.size
            have HL3 := Lib.hid hl3
            obtain ⟨bl3, m0, m1, m2, m3, m4, mf⟩ := hl3.facts
            clear hm3 hl3 k0 k1 k2 k3 k4 kf bl
            have hmz : Mod (fun k => k = X.heap.size) X3 (((X3.setCell ⟨X.heap.size, 1, none⟩ (.string ⟨(s1.take en).toArray⟩)).setCell ⟨X.heap.size, 3, none⟩ (.string ⟨rt.toArray⟩)).setCell ⟨X.heap.size, 4, none⟩ (.int .i64 mk)) :=
              Mod.setCell (Mod.setCell (Mod.setCell (Mod.refl (fun k => k = X.heap.size) X3) _ _ (fun _ => rfl)) _ _ (fun _ => rfl)) _ _ (fun _ => rfl)
            have HL4 : Hid (LogAt (((X3.setCell ⟨X.heap.size, 1, none⟩ (.string ⟨(s1.take en).toArray⟩)).setCell ⟨X.heap.size, 3, none⟩ (.string ⟨rt.toArray⟩)).setCell ⟨X.heap.size, 4, none⟩ (.int .i64 mk)) X.heap.size p ⟨s1.take en, [], rt, mk⟩) := by
              show _ = _
              simp only [heap_setCell_same]
              rw [HL3.out]
              simp only [Lg.cells, Option.map_some, setAt_cells, List.setIfInBounds_toArray, List.set_cons_zero, List.set_cons_succ]
            have hxs := HXM.out.size
            have HM4 : Hid (Mod S w (((X3.setCell ⟨X.heap.size, 1, none⟩ (.string ⟨(s1.take en).toArray⟩)).setCell ⟨X.heap.size, 3, none⟩ (.string ⟨rt.toArray⟩)).setCell ⟨X.heap.size, 4, none⟩ (.int .i64 mk))) := HM3.out.trans hmz (fun k hk h => by omega)
            have HD4 : Hid (Disk (((X3.setCell ⟨X.heap.size, 1, none⟩ (.string ⟨(s1.take en).toArray⟩)).setCell ⟨X.heap.size, 3, none⟩ (.string ⟨rt.toArray⟩)).setCell ⟨X.heap.size, 4, none⟩ (.int .i64 mk)) p (fun k => Since S w X k ∧ k < X.heap.size) d) := HD3.out.mod hmz (fun k h e => by have := h.2; omega)
            have HT4 : Hid (∀ k, k < (((X3.setCell ⟨X.heap.size, 1, none⟩ (.string ⟨(s1.take en).toArray⟩)).setCell ⟨X.heap.size, 3, none⟩ (.string ⟨rt.toArray⟩)).setCell ⟨X.heap.size, 4, none⟩ (.int .i64 mk)).heap.size → (Since S w X k ∧ k < X.heap.size) → (S k ∨ w.heap.size ≤ k) ∧ k ≠ X.heap.size) := fun k _ h => by
              refine ⟨?_, by omega⟩
              rcases h.1 with h | ⟨h, _⟩
              · exact .inl h
              · exact .inr h
            have hsz4 := hmz.size
            clear hmz
            go_wp2_with fail
            refine (HTR.out _ _ HD4.out).mono ?_
            rintro e X5 ⟨rfl, hm5, hd5⟩
            have HM5 : Hid (Mod S w X5) := HM4.out.trans hm5 (fun k hk h => by
              rcases h.1 with h | ⟨h, _⟩
              · exact h
              · omega)
            have HL5 := Lib.hid (HL4.out.mod hm5 (fun h => by have := h.2; omega))
            have HD5 := Lib.hid hd5
            have HT5 : Hid (∀ k, k < X5.heap.size → Since (fun k => Since S w X k ∧ k < X.heap.size) (((X3.setCell ⟨X.heap.size, 1, none⟩ (.string ⟨(s1.take en).toArray⟩)).setCell ⟨X.heap.size, 3, none⟩ (.string ⟨rt.toArray⟩)).setCell ⟨X.heap.size, 4, none⟩ (.int .i64 mk)) X5 k → (S k ∨ w.heap.size ≤ k) ∧ k ≠ X.heap.size) := fun k _ h => by
              rcases h with h | ⟨h, _⟩
              · refine ⟨?_, by omega⟩
                rcases h.1 with h | ⟨h, _⟩
                · exact .inl h
                · exact .inr h
              · exact ⟨.inr (by omega), by omega⟩
            clear hm5 hd5
            go_wp2_with fail
            refine (sync_after HM5.out HL5.out HD5.out HT5.out).mono ?_
            rintro e w' ⟨rfl, q1, q2, q3⟩
            go_wp2_with fail
            go_ret3
            exact ⟨X.heap.size, rfl, HXM.out.size, q2, q1, q3⟩
          · rw [if_pos he4]
            have he4' : (e4 != 0) = true := by simpa using he4
            have HE4 := Lib.hid he4; clear he4
            go_enter Try.func25, Try.ntmps25
            go_wp2_with fail
            refine HDEAD.out.mono ?_
            rintro e w' ⟨rfl, rfl⟩
            go_wp2_with fail
            refine HRD.out.mono ?_
            rintro e X ⟨rfl, hmX⟩
            have HXD : Hid (Disk X p (fun k => Since S w X k ∧ k < X.heap.size) d) := (HD.out.mod hmX (fun _ _ => id)).mono (fun k hk h => ⟨.inl h, hk⟩)
            have HXM : Hid (Mod S w X) := hmX.mono (noB_sub _ _)
            clear hmX
            go_wp2_with fail
            have hm1 : Mod NoB X (X.alloc (.cells #[.pointer (some ⟨p, 0, none⟩), .string ⟨#[]⟩, .string ⟨#[]⟩, .string ⟨#[]⟩, .int .i64 0] 152)) := (Mod.refl _ _).alloc _
            have hrd := Read_calls p _ d logName _ (HXD.out.mod hm1 (fun _ _ => id)) (by decide)
            rw [HR2.out] at hrd
            refine hrd.mono ?_
            rintro e X2 ⟨rfl, hm2⟩
            have hl2 : LogAt X2 X.heap.size p ⟨[], [], [], 0⟩ := (hm2.block _ (by rw [size_alloc]; omega) id).trans (heap_alloc_new _ _)
            have hd2 : Disk X2 p (fun k => Since S w X k ∧ k < X.heap.size) d := HXD.out.mod (hm1.trans hm2 (fun _ _ h => h)) (fun _ _ => id)
            have hsz2 : X.heap.size + 1 ≤ X2.heap.size := by have := hm2.size; rw [size_alloc] at this; exact this
            have HM2 : Hid (Mod S w X2) := (HXM.out.trans hm1 (noB_sub _ _)).trans hm2 (noB_sub _ _)
            have HL2 := Lib.hid hl2
            have HD2 := Lib.hid hd2
            obtain ⟨bl, k0, k1, k2, k3, k4, kf⟩ := hl2.facts
            clear hm1 hm2 hl2 hd2 hrd
            go_wp2_with fail
            refine (HSC.out _).mono ?_
            rintro e X3 ⟨rfl, hm3⟩
            have hl3 := HL2.out.mod hm3 id
            have HD3 := Lib.hid (HD2.out.mod hm3 (fun _ _ => id))
            have HM3 : Hid (Mod S w X3) := HM2.out.trans hm3 (noB_sub _ _)
            have hsz3 := Nat.le_trans hsz2 hm3.size
            have HL3 := Lib.hid hl3
            obtain ⟨bl3, m0, m1, m2, m3, m4, mf⟩ := hl3.facts
            clear hm3 hl3 k0 k1 k2 k3 k4 kf bl
            have hmz : Mod (fun k => k = X.heap.size) X3 (((X3.setCell ⟨X.heap.size, 1, none⟩ (.string ⟨(s1.take en).toArray⟩)).setCell ⟨X.heap.size, 3, none⟩ (.string ⟨rt.toArray⟩)).setCell ⟨X.heap.size, 4, none⟩ (.int .i64 mk)) :=
              Mod.setCell (Mod.setCell (Mod.setCell (Mod.refl (fun k => k = X.heap.size) X3) _ _ (fun _ => rfl)) _ _ (fun _ => rfl)) _ _ (fun _ => rfl)
            have HL4 : Hid (LogAt (((X3.setCell ⟨X.heap.size, 1, none⟩ (.string ⟨(s1.take en).toArray⟩)).setCell ⟨X.heap.size, 3, none⟩ (.string ⟨rt.toArray⟩)).setCell ⟨X.heap.size, 4, none⟩ (.int .i64 mk)) X.heap.size p ⟨s1.take en, [], rt, mk⟩) := by
              show _ = _
              simp only [heap_setCell_same]
              rw [HL3.out]
              simp only [Lg.cells, Option.map_some, setAt_cells, List.setIfInBounds_toArray, List.set_cons_zero, List.set_cons_succ]
            have hxs := HXM.out.size
            have HM4 : Hid (Mod S w (((X3.setCell ⟨X.heap.size, 1, none⟩ (.string ⟨(s1.take en).toArray⟩)).setCell ⟨X.heap.size, 3, none⟩ (.string ⟨rt.toArray⟩)).setCell ⟨X.heap.size, 4, none⟩ (.int .i64 mk))) := HM3.out.trans hmz (fun k hk h => by omega)
            have HD4 : Hid (Disk (((X3.setCell ⟨X.heap.size, 1, none⟩ (.string ⟨(s1.take en).toArray⟩)).setCell ⟨X.heap.size, 3, none⟩ (.string ⟨rt.toArray⟩)).setCell ⟨X.heap.size, 4, none⟩ (.int .i64 mk)) p (fun k => Since S w X k ∧ k < X.heap.size) d) := HD3.out.mod hmz (fun k h e => by have := h.2; omega)
            have HT4 : Hid (∀ k, k < (((X3.setCell ⟨X.heap.size, 1, none⟩ (.string ⟨(s1.take en).toArray⟩)).setCell ⟨X.heap.size, 3, none⟩ (.string ⟨rt.toArray⟩)).setCell ⟨X.heap.size, 4, none⟩ (.int .i64 mk)).heap.size → (Since S w X k ∧ k < X.heap.size) → (S k ∨ w.heap.size ≤ k) ∧ k ≠ X.heap.size) := fun k _ h => by
              refine ⟨?_, by omega⟩
              rcases h.1 with h | ⟨h, _⟩
              · exact .inl h
              · exact .inr h
            have hsz4 := hmz.size
            clear hmz
            go_wp2_with fail
            refine (HTR.out _ _ HD4.out).mono ?_
            rintro e X5 ⟨rfl, hm5, hd5⟩
            have HM5 : Hid (Mod S w X5) := HM4.out.trans hm5 (fun k hk h => by
              rcases h.1 with h | ⟨h, _⟩
              · exact h
              · omega)
            have HL5 := Lib.hid (HL4.out.mod hm5 (fun h => by have := h.2; omega))
            have HD5 := Lib.hid hd5
            have HT5 : Hid (∀ k, k < X5.heap.size → Since (fun k => Since S w X k ∧ k < X.heap.size) (((X3.setCell ⟨X.heap.size, 1, none⟩ (.string ⟨(s1.take en).toArray⟩)).setCell ⟨X.heap.size, 3, none⟩ (.string ⟨rt.toArray⟩)).setCell ⟨X.heap.size, 4, none⟩ (.int .i64 mk)) X5 k → (S k ∨ w.heap.size ≤ k) ∧ k ≠ X.heap.size) := fun k _ h => by
              rcases h with h | ⟨h, _⟩
              · refine ⟨?_, by omega⟩
                rcases h.1 with h | ⟨h, _⟩
                · exact .inl h
                · exact .inr h
              · exact ⟨.inr (by omega), by omega⟩
            clear hm5 hd5
            go_wp2_with fail
            go_ret3
            refine ⟨rfl, HM5.out, HD5.out.mono (fun k hk h => ?_)⟩
            rcases (HT5.out k hk h).1 with h | h
            · exact .inl h
            · exact .inr ⟨h, hk⟩
        · rw [if_neg hlt]
          go_enter Try.func25, Try.ntmps25
          go_wp2_with fail
          refine HDEAD.out.mono ?_
          rintro e w' ⟨rfl, rfl⟩
          go_wp2_with fail
          refine HRD.out.mono ?_
          rintro e X ⟨rfl, hmX⟩
          have HXD : Hid (Disk X p (fun k => Since S w X k ∧ k < X.heap.size) d) := (HD.out.mod hmX (fun _ _ => id)).mono (fun k hk h => ⟨.inl h, hk⟩)
          have HXM : Hid (Mod S w X) := hmX.mono (noB_sub _ _)
          clear hmX
          go_wp2_with fail
          have hm1 : Mod NoB X (X.alloc (.cells #[.pointer (some ⟨p, 0, none⟩), .string ⟨#[]⟩, .string ⟨#[]⟩, .string ⟨#[]⟩, .int .i64 0] 152)) := (Mod.refl _ _).alloc _
          have hrd := Read_calls p _ d logName _ (HXD.out.mod hm1 (fun _ _ => id)) (by decide)
          rw [HR2.out] at hrd
          refine hrd.mono ?_
          rintro e X2 ⟨rfl, hm2⟩
          have hl2 : LogAt X2 X.heap.size p ⟨[], [], [], 0⟩ := (hm2.block _ (by rw [size_alloc]; omega) id).trans (heap_alloc_new _ _)
          have hd2 : Disk X2 p (fun k => Since S w X k ∧ k < X.heap.size) d := HXD.out.mod (hm1.trans hm2 (fun _ _ h => h)) (fun _ _ => id)
          have hsz2 : X.heap.size + 1 ≤ X2.heap.size := by have := hm2.size; rw [size_alloc] at this; exact this
          have HM2 : Hid (Mod S w X2) := (HXM.out.trans hm1 (noB_sub _ _)).trans hm2 (noB_sub _ _)
          have HL2 := Lib.hid hl2
          have HD2 := Lib.hid hd2
          obtain ⟨bl, k0, k1, k2, k3, k4, kf⟩ := hl2.facts
          clear hm1 hm2 hl2 hd2 hrd
          go_wp2_with fail
          refine (HSC.out _).mono ?_
          rintro e X3 ⟨rfl, hm3⟩
          have hl3 := HL2.out.mod hm3 id
          have HD3 := Lib.hid (HD2.out.mod hm3 (fun _ _ => id))
          have HM3 : Hid (Mod S w X3) := HM2.out.trans hm3 (noB_sub _ _)
          have hsz3 := Nat.le_trans hsz2 hm3.size
          have HL3 := Lib.hid hl3
          obtain ⟨bl3, m0, m1, m2, m3, m4, mf⟩ := hl3.facts
          clear hm3 hl3 k0 k1 k2 k3 k4 kf bl
          have hmz : Mod (fun k => k = X.heap.size) X3 (((X3.setCell ⟨X.heap.size, 1, none⟩ (.string ⟨(s1.take en).toArray⟩)).setCell ⟨X.heap.size, 3, none⟩ (.string ⟨rt.toArray⟩)).setCell ⟨X.heap.size, 4, none⟩ (.int .i64 mk)) :=
            Mod.setCell (Mod.setCell (Mod.setCell (Mod.refl (fun k => k = X.heap.size) X3) _ _ (fun _ => rfl)) _ _ (fun _ => rfl)) _ _ (fun _ => rfl)
          have HL4 : Hid (LogAt (((X3.setCell ⟨X.heap.size, 1, none⟩ (.string ⟨(s1.take en).toArray⟩)).setCell ⟨X.heap.size, 3, none⟩ (.string ⟨rt.toArray⟩)).setCell ⟨X.heap.size, 4, none⟩ (.int .i64 mk)) X.heap.size p ⟨s1.take en, [], rt, mk⟩) := by
            show _ = _
            simp only [heap_setCell_same]
            rw [HL3.out]
            simp only [Lg.cells, Option.map_some, setAt_cells, List.setIfInBounds_toArray, List.set_cons_zero, List.set_cons_succ]
          have hxs := HXM.out.size
          have HM4 : Hid (Mod S w (((X3.setCell ⟨X.heap.size, 1, none⟩ (.string ⟨(s1.take en).toArray⟩)).setCell ⟨X.heap.size, 3, none⟩ (.string ⟨rt.toArray⟩)).setCell ⟨X.heap.size, 4, none⟩ (.int .i64 mk))) := HM3.out.trans hmz (fun k hk h => by omega)
          have HD4 : Hid (Disk (((X3.setCell ⟨X.heap.size, 1, none⟩ (.string ⟨(s1.take en).toArray⟩)).setCell ⟨X.heap.size, 3, none⟩ (.string ⟨rt.toArray⟩)).setCell ⟨X.heap.size, 4, none⟩ (.int .i64 mk)) p (fun k => Since S w X k ∧ k < X.heap.size) d) := HD3.out.mod hmz (fun k h e => by have := h.2; omega)
          have HT4 : Hid (∀ k, k < (((X3.setCell ⟨X.heap.size, 1, none⟩ (.string ⟨(s1.take en).toArray⟩)).setCell ⟨X.heap.size, 3, none⟩ (.string ⟨rt.toArray⟩)).setCell ⟨X.heap.size, 4, none⟩ (.int .i64 mk)).heap.size → (Since S w X k ∧ k < X.heap.size) → (S k ∨ w.heap.size ≤ k) ∧ k ≠ X.heap.size) := fun k _ h => by
            refine ⟨?_, by omega⟩
            rcases h.1 with h | ⟨h, _⟩
            · exact .inl h
            · exact .inr h
          have hsz4 := hmz.size
          clear hmz
          go_wp2_with fail
          refine (sync_after HM4.out HL4.out HD4.out HT4.out).mono ?_
          rintro e w' ⟨rfl, q1, q2, q3⟩
          go_wp2_with fail
          go_ret3
          exact ⟨X.heap.size, rfl, HXM.out.size, q2, q1, q3⟩
      · rw [if_pos he1]
        have he1' : (e1 != 0) = true := by simpa using he1
        have HE1 := Lib.hid he1; clear he1
        go_enter Try.func25, Try.ntmps25
        go_wp2_with fail
        refine HDEAD.out.mono ?_
        rintro e w' ⟨rfl, rfl⟩
        go_wp2_with fail
        refine HRD.out.mono ?_
        rintro e X ⟨rfl, hmX⟩
        have HXD : Hid (Disk X p (fun k => Since S w X k ∧ k < X.heap.size) d) := (HD.out.mod hmX (fun _ _ => id)).mono (fun k hk h => ⟨.inl h, hk⟩)
        have HXM : Hid (Mod S w X) := hmX.mono (noB_sub _ _)
        clear hmX
        go_wp2_with fail
        have hm1 : Mod NoB X (X.alloc (.cells #[.pointer (some ⟨p, 0, none⟩), .string ⟨#[]⟩, .string ⟨#[]⟩, .string ⟨#[]⟩, .int .i64 0] 152)) := (Mod.refl _ _).alloc _
        have hrd := Read_calls p _ d logName _ (HXD.out.mod hm1 (fun _ _ => id)) (by decide)
        rw [HR2.out] at hrd
        refine hrd.mono ?_
        rintro e X2 ⟨rfl, hm2⟩
        have hl2 : LogAt X2 X.heap.size p ⟨[], [], [], 0⟩ := (hm2.block _ (by rw [size_alloc]; omega) id).trans (heap_alloc_new _ _)
        have hd2 : Disk X2 p (fun k => Since S w X k ∧ k < X.heap.size) d := HXD.out.mod (hm1.trans hm2 (fun _ _ h => h)) (fun _ _ => id)
        have hsz2 : X.heap.size + 1 ≤ X2.heap.size := by have := hm2.size; rw [size_alloc] at this; exact this
        have HM2 : Hid (Mod S w X2) := (HXM.out.trans hm1 (noB_sub _ _)).trans hm2 (noB_sub _ _)
        have HL2 := Lib.hid hl2
        have HD2 := Lib.hid hd2
        obtain ⟨bl, k0, k1, k2, k3, k4, kf⟩ := hl2.facts
        clear hm1 hm2 hl2 hd2 hrd
        go_wp2_with fail
        have hT2 : ∀ k, k < X2.heap.size → (Since S w X k ∧ k < X.heap.size) → (S k ∨ w.heap.size ≤ k) ∧ k ≠ X.heap.size := fun k _ h => by
          refine ⟨?_, by omega⟩
          rcases h.1 with h | ⟨h, _⟩
          · exact .inl h
          · exact .inr h
        refine (sync_after HM2.out HL2.out HD2.out hT2).mono ?_
        rintro e w' ⟨rfl, q1, q2, q3⟩
        go_wp2_with fail
        go_ret3
        exact ⟨X.heap.size, rfl, HXM.out.size, q2, q1, q3⟩

end Go.Proofs.Ytgofngilfdnakaa

namespace Go.Proofs.Ytgofngilfdnakaa
open Go Go.RowKit

set_option maxRecDepth 100000 in
set_option maxHeartbeats 400000 in
theorem LAppend_nil (s : ByteArray) (w : World) : Calls Try.prog 32 #[.pointer none, .string s] w fun e w' => e = .returned (.tuple #[.int .i64 0, .int .i64 1]) ∧ w = w' := by
  go_enter Try.func32, Try.ntmps32
  go_wp2
  go_ret2
  exact ⟨rfl, rfl⟩
set_option maxRecDepth 100000 in
set_option maxHeartbeats 400000 in
theorem LRead_nil (k : Int) (w : World) : Calls Try.prog 43 #[.pointer none, .int .i64 k] w fun e w' => e = .returned (.tuple #[.string ⟨#[]⟩, .int .i64 1]) ∧ w = w' := by
  go_enter Try.func43, Try.ntmps43
  go_wp2
  go_ret2
  exact ⟨rfl, rfl⟩
set_option maxRecDepth 100000 in
set_option maxHeartbeats 400000 in
theorem Root_nil (w : World) : Calls Try.prog 39 #[.pointer none] w fun e w' => e = .returned (.tuple #[.string ⟨#[]⟩, .bool false]) ∧ w = w' := by
  go_enter Try.func39, Try.ntmps39
  go_wp2
  go_ret2
  exact ⟨rfl, rfl⟩
set_option maxRecDepth 100000 in
set_option maxHeartbeats 400000 in
theorem Drop_nil (w : World) : Calls Try.prog 41 #[.pointer none] w fun e w' => e = .returned (.int .i64 0) ∧ w = w' := by
  go_enter Try.func41, Try.ntmps41
  go_wp2
  go_ret
  exact ⟨rfl, rfl⟩
set_option maxRecDepth 100000 in
set_option maxHeartbeats 400000 in
theorem LCommit_nil (s : ByteArray) (w : World) : Calls Try.prog 28 #[.pointer none, .string s] w fun e w' => e = .returned (.int .i64 1) ∧ w = w' := by
  go_enter Try.func28, Try.ntmps28
  go_wp2
  go_ret
  exact ⟨rfl, rfl⟩
set_option maxRecDepth 100000 in
set_option maxHeartbeats 400000 in
theorem Replace_nil (v : Value) (s : ByteArray) (w : World) : Calls Try.prog 42 #[.pointer none, v, .string s] w fun e w' => e = .returned (.int .i64 1) ∧ w = w' := by
  go_enter Try.func42, Try.ntmps42
  go_wp2
  go_ret
  exact ⟨rfl, rfl⟩
set_option maxRecDepth 100000 in
set_option maxHeartbeats 400000 in
theorem Len_nil (w : World) : Calls Try.prog 40 #[.pointer none] w fun e w' => e = .returned (.int .i64 0) ∧ w = w' := by
  go_enter Try.func40, Try.ntmps40
  go_wp2
  go_ret
  exact ⟨rfl, rfl⟩
set_option maxRecDepth 100000 in
set_option maxHeartbeats 400000 in
theorem Waits_nil (w : World) : Calls Try.prog 44 #[.pointer none] w fun e w' => e = .returned (.int .i64 0) ∧ w = w' := by
  go_enter Try.func44, Try.ntmps44
  go_wp2
  go_ret
  exact ⟨rfl, rfl⟩
set_option maxRecDepth 100000 in
set_option maxHeartbeats 400000 in
theorem Open_nil (w : World) : Calls Try.prog 25 #[.pointer none] w fun e w' => e = .returned (.tuple #[.pointer none, .int .i64 0, .int .i64 1]) ∧ w = w' := by
  go_enter Try.func25, Try.ntmps25
  go_wp2
  go_ret3
  exact ⟨rfl, rfl⟩

end Go.Proofs.Ytgofngilfdnakaa

namespace Go.Proofs.Ytgofngilfdnakaa
open Go Go.RowKit
attribute [local go_sem] over_cell over_frozen lt_over le_over noB loudUpon ByteArray.mk_append_mk ByteArray.extract_mk drop_full

def rootName : Str := [114, 111, 111, 116]
/-- The bytes of the one batch that awake commits. -/
def oneBatch : Str := frame [100, 97] ++ frame (109 :: rootName)
def oneDisk : Dk := ⟨[(logName, oneBatch)], [(logName, oneBatch)], [], -1, none, 1, false⟩
def emptyLog : Lg := ⟨[], [], [], 0⟩
theorem aw_open : openW Dk.fresh = (some emptyLog, 0, 0, Dk.fresh) := by kernel_rfl
theorem aw_append : emptyLog.append [97] = (0, 0, ⟨[], frame [100, 97], [], 0⟩) := by kernel_rfl
theorem aw_commit : Lg.commit ⟨[], frame [100, 97], [], 0⟩ Dk.fresh rootName = (0, ⟨oneBatch, [], rootName, 1⟩, oneDisk) := by kernel_rfl
theorem aw_append2 : Lg.append ⟨oneBatch, [], rootName, 1⟩ [98] = (((oneBatch.length : Nat) : Int), 0, (⟨oneBatch, frame [100, 98], rootName, 1⟩ : Lg)) := by kernel_rfl
theorem aw_crash : ({ (oneDisk.crash 0 0) with down := false } : Dk) = oneDisk := by kernel_rfl
theorem aw_open2 : openW oneDisk = (some ⟨oneBatch, [], rootName, 1⟩, 0, 0, oneDisk) := by kernel_rfl
theorem aw_read : Lg.read ⟨oneBatch, [], rootName, 1⟩ 0 = ([97], 0) := by kernel_rfl
theorem aw_read2 : Lg.read ⟨oneBatch, [], rootName, 1⟩ oneBatch.length = ([], 2) := by kernel_rfl
theorem aw_len : oneBatch.length = 23 := by kernel_rfl
theorem fit_fresh : Fit Dk.fresh 0 := ⟨⟨by decide, by decide, by decide, by decide, fun c hc => (by cases hc), by decide⟩, by decide, by decide, by decide⟩
theorem fit_one : Fit oneDisk 100 := ⟨⟨by decide, by decide, by decide, by decide, fun c hc => (by cases hc), by decide⟩, by decide, by decide, by decide⟩

/-- What has come since w, one block aside. -/
def New (w : World) (l : Nat) (k : Nat) : Prop := w.heap.size ≤ k ∧ k ≠ l

set_option maxRecDepth 100000 in
set_option maxHeartbeats 3200000 in
theorem awake_calls (w : World) : Calls Try.prog 22 #[] w fun e w' => e = .returned (.bool true) ∧ Mod NoB w w' := by
  go_enter Try.func22, Try.ntmps22
  go_wp2_with fail
  refine (New_calls w).mono ?_
  rintro e W1 ⟨rfl, hm1, hd1⟩
  generalize hp : w.heap.size + 2 = p at *
  clear hp
  have hop := Open_calls p _ Dk.fresh 0 W1 hd1 fit_fresh (by decide)
  rw [aw_open] at hop
  have HOP := Lib.hid hop
  have HM1 := Lib.hid hm1
  clear hop hm1 hd1
  go_wp2_with fail
  refine HOP.out.mono ?_
  rintro e W2 ⟨l, rfl, hl0, hl2, hm2, hd2⟩
  have HL : Hid (w.heap.size ≤ l) := Nat.le_trans HM1.out.size hl0
  have HM2 : Hid (Mod NoB w W2) := HM1.out.trans hm2 (fun k hk h => by rcases h with h | ⟨h, _⟩; exact h; omega)
  have HD2 : Hid (Disk W2 p (New w l) Dk.fresh) := hd2.mono (fun k _ h => by
    refine ⟨?_, h.2⟩
    rcases h.1 with (h | ⟨h, _⟩) | ⟨h, _⟩
    · exact h.elim
    · exact h
    · exact Nat.le_trans HM1.out.size h)
  have HL2 := Lib.hid hl2
  clear hl0 hl2 hm2 hd2 HOP HM1
  -- a record
  have hap := LAppend_calls l p emptyLog [97] W2 HL2.out (by decide) (by decide) (by decide)
  rw [aw_append] at hap
  have HAP := Lib.hid hap; clear hap
  go_wp2_with fail
  refine HAP.out.mono ?_
  rintro e W3 ⟨rfl, hm3, hl3⟩
  have HM3 : Hid (Mod NoB w W3) := HM2.out.trans hm3 (fun k hk h => by have := HL.out; omega)
  have HD3 : Hid (Disk W3 p (New w l) Dk.fresh) := HD2.out.mod hm3 (fun k h e => h.2 e)
  have HL3 := Lib.hid hl3
  clear hm3 hl3 HAP HM2 HD2 HL2
  -- the batch
  have hcm := LCommit_calls l p (New w l) Dk.fresh ⟨[], frame [100, 97], [], 0⟩ rootName 0 W3 HL3.out HD3.out (fun h => h.2 rfl) fit_fresh (by decide) (by decide) (by decide) (by decide)
  rw [aw_commit] at hcm
  have HCM := Lib.hid hcm; clear hcm
  go_wp2_with fail
  refine HCM.out.mono ?_
  rintro e W4 ⟨rfl, hm4, hl4, hd4⟩
  have HM4 : Hid (Mod NoB w W4) := HM3.out.trans hm4 (fun k hk h => by have := HL.out; rcases h with h | h; exact absurd h.1 (by omega); omega)
  have HD4 : Hid (Disk W4 p (New w l) oneDisk) := hd4.mono (fun k _ h => by
    rcases h with h | ⟨h, _⟩
    · exact h
    · exact ⟨Nat.le_trans HM3.out.size h, by have := lt_heap HL3.out; omega⟩)
  have HL4 := Lib.hid hl4
  clear hm4 hl4 hd4 HCM HM3 HD3 HL3
  have hap := LAppend_calls l p ⟨oneBatch, [], rootName, 1⟩ [98] W4 HL4.out (by decide) (by decide) (by decide)
  rw [aw_append2, aw_len] at hap
  have HAP := Lib.hid hap; clear hap
  go_wp2_with fail
  refine HAP.out.mono ?_
  rintro e W5 ⟨rfl, hm5, hl5⟩
  have HM5 : Hid (Mod NoB w W5) := HM4.out.trans hm5 (fun k hk h => by have := HL.out; omega)
  have HD5 : Hid (Disk W5 p (New w l) oneDisk) := HD4.out.mod hm5 (fun k h e => h.2 e)
  clear hm5 hl5 HAP HM4 HD4 HL4
  -- the power fails
  have HCR := Lib.hid (Crash_calls p (New w l) oneDisk 0 0 100 W5 HD5.out fit_one.le (by decide))
  go_wp2_with fail
  refine HCR.out.mono ?_
  rintro e W6 ⟨rfl, hm6, hd6⟩
  have HM6 : Hid (Mod NoB w W6) := HM5.out.trans hm6 (fun k hk h => absurd h.1 (by omega))
  have hup := Up_calls p _ _ W6 hd6
  rw [aw_crash] at hup
  have HUP := Lib.hid hup
  have HSZ := Lib.hid HM5.out.size
  clear hm6 hd6 hup HCR HM5 HD5
  go_wp2_with fail
  refine HUP.out.mono ?_
  rintro e W7 ⟨rfl, hm7, hd7⟩
  have HM7 : Hid (Mod NoB w W7) := HM6.out.trans hm7 (fun k hk h => by rcases h with h | ⟨h, _⟩; exact absurd h.1 (by omega); have := HSZ.out; omega)
  have hop := Open_calls p _ oneDisk 100 W7 hd7 fit_one (by decide)
  rw [aw_open2] at hop
  have HOP := Lib.hid hop
  clear hop hm7 hd7 HUP HM6
  go_wp2_with fail
  refine HOP.out.mono ?_
  rintro e W8 ⟨l2, rfl, hl0, hl8, hm8, hd8⟩
  have HM8 : Hid (Mod NoB w W8) := HM7.out.trans hm8 (fun k hk h => by rcases h with h | ⟨h, _⟩; exact absurd h.1 (by omega); have := HSZ.out; omega)
  have HL8 := Lib.hid hl8
  clear hm8 hd8 hl0 hl8 HOP HM7
  have hr1 := LRead_calls l2 p ⟨oneBatch, [], rootName, 1⟩ 0 W8 HL8.out (by decide) (by decide) (by decide) (by decide)
  rw [aw_read] at hr1
  have HR1 := Lib.hid hr1; clear hr1
  go_wp2_with fail
  refine HR1.out.mono ?_
  rintro e W9 ⟨rfl, hm9⟩
  have HM9 : Hid (Mod NoB w W9) := HM8.out.trans hm9 (fun _ _ h => h)
  have HL9 := Lib.hid (HL8.out.mod hm9 id)
  clear hm9 HR1 HM8 HL8
  have hr2 := LRead_calls l2 p ⟨oneBatch, [], rootName, 1⟩ oneBatch.length W9 HL9.out (by decide) (by decide) (by decide) (by decide)
  rw [aw_read2, aw_len] at hr2
  have HR2 := Lib.hid hr2; clear hr2
  go_wp2_with fail
  refine HR2.out.mono ?_
  rintro e WA ⟨rfl, hma⟩
  have HMA : Hid (Mod NoB w WA) := HM9.out.trans hma (fun _ _ h => h)
  have HLA := Lib.hid (HL9.out.mod hma id)
  clear hma HR2 HM9 HL9
  have HRT := Lib.hid (Root_calls l2 p ⟨oneBatch, [], rootName, 1⟩ WA HLA.out)
  go_wp2_with fail
  refine HRT.out.mono ?_
  rintro e w' ⟨rfl, rfl⟩
  clear HRT
  go_wp2_with fail
  go_ret
  exact ⟨rfl, HMA.out⟩

theorem nil_open : openW (Dk.fresh.crash 0 0) = (none, 0, 7, Dk.fresh.crash 0 0) := by kernel_rfl

set_option maxRecDepth 100000 in
set_option maxHeartbeats 3200000 in
theorem WalNil_calls (v : Value) (k : Int) (w : World) : Calls Try.prog 7 #[v, .int .i64 k] w fun e w' => e = .returned (.bool true) ∧ Mod NoB w w' := by
  go_enter Try.func7, Try.ntmps7
  go_wp2_with fail
  refine (Open_nil w).mono ?_
  rintro e w' ⟨rfl, rfl⟩
  go_wp2_with fail
  refine (New_calls w).mono ?_
  rintro e W1 ⟨rfl, hm1, hd1⟩
  generalize hp : w.heap.size + 2 = p at *
  clear hp
  have HCR := Lib.hid (Crash_calls p _ Dk.fresh 0 0 0 W1 hd1 fit_fresh.le (by decide))
  have HM1 := Lib.hid hm1
  clear hm1 hd1
  go_wp2_with fail
  refine HCR.out.mono ?_
  rintro e W2 ⟨rfl, hm2, hd2⟩
  have hop := Open_calls p _ (Dk.fresh.crash 0 0) 0 W2 hd2 (fit_fresh.crash 0 0) (by decide)
  rw [nil_open] at hop
  have HOP := Lib.hid hop
  have HM2 : Hid (Mod NoB w W2) := HM1.out.trans hm2 (fun k hk h => by rcases h with h | ⟨h, _⟩; exact h; omega)
  have HSZ := Lib.hid HM1.out.size
  clear hop hm2 hd2 HCR HM1
  go_wp2_with fail
  refine HOP.out.mono ?_
  rintro e W3 ⟨rfl, hm3, _⟩
  have HM3 : Hid (Mod NoB w W3) := HM2.out.trans hm3 (fun k hk h => by rcases h with (h | ⟨h, _⟩) | ⟨h, _⟩; exact h; omega; have := HSZ.out; omega)
  clear hm3 HOP HM2
  go_wp2_with (first
    | (go_at_call 32; refine (LAppend_nil _ _).mono ?_; rintro e w' ⟨rfl, rfl⟩)
    | (go_at_call 43; refine (LRead_nil _ _).mono ?_; rintro e w' ⟨rfl, rfl⟩)
    | (go_at_call 39; refine (Root_nil _).mono ?_; rintro e w' ⟨rfl, rfl⟩)
    | (go_at_call 22; refine (awake_calls _).mono ?_; rintro e W4 ⟨rfl, hm4⟩; have HM4 := Lib.hid (HM3.out.trans hm4 (fun _ _ h => h)); clear hm4 HM3)
    | (go_at_call 41; refine (Drop_nil _).mono ?_; rintro e w' ⟨rfl, rfl⟩)
    | (go_at_call 28; refine (LCommit_nil _ _).mono ?_; rintro e w' ⟨rfl, rfl⟩)
    | (go_at_call 42; refine (Replace_nil _ _ _).mono ?_; rintro e w' ⟨rfl, rfl⟩)
    | (go_at_call 40; refine (Len_nil _).mono ?_; rintro e w' ⟨rfl, rfl⟩)
    | (go_at_call 44; refine (Waits_nil _).mono ?_; rintro e w' ⟨rfl, rfl⟩))
  go_ret
  exact ⟨rfl, HM4.out⟩

end Go.Proofs.Ytgofngilfdnakaa
