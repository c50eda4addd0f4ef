/-
  This text proves what cupelref03.Disk's Change does where a change may be: for few files and changes, any room, no falls.
-/
import Derived.Test.YtgofngilfdnakaaRefH
namespace Go.Proofs.Ytgofngilfdnakaa
open Go Go.RowKit
attribute [local go_sem] over_cell over_frozen lt_over le_over noB loudUpon ByteArray.mk_append_mk ByteArray.extract_mk

theorem elemR : Elem Try.prog 96 178 5 64 := elem_of Try.underlying96 (z := .agg #[.int .i64 0, .string ⟨#[]⟩, .string ⟨#[]⟩, .string ⟨#[]⟩, .int .i64 0]) (by kernel_rfl) rfl (by decide)
theorem chgs_one (l : List Chg) : ∀ u ∈ l.flatMap Chg.cells, u.oneCell' = true := fun u hu => by
  obtain ⟨c, _, hu⟩ := List.mem_flatMap.1 hu
  unfold Chg.cells at hu
  simp only [List.mem_cons, List.not_mem_nil, or_false] at hu
  rcases hu with rfl | rfl | rfl | rfl | rfl <;> rfl
theorem chErr_ok {G : Files} {kd : Nat} {name tt s : Str} {n : Int} (h : chErr G ⟨kd, name, tt, s, n⟩ = 0) : nameOk name = true ∧ (kd = 2 → nameOk tt = true ∧ name ≠ tt) ∧ (1 < kd → rIs G name = true) ∧ (kd = 4 → 0 ≤ n ∧ n ≤ (rAt G name).length) := by
  unfold chErr at h
  simp only at h
  by_cases h1 : nameOk name = false ∨ (kd = 2 ∧ nameOk tt = false)
  · rw [if_pos h1] at h; cases h
  · rw [if_neg h1] at h
    by_cases h2 : 1 < kd ∧ rIs G name = false
    · rw [if_pos h2] at h; cases h
    · rw [if_neg h2] at h
      by_cases h3 : (kd = 2 ∧ name = tt) ∨ (kd = 4 ∧ (n < 0 ∨ ((rAt G name).length : Int) < n))
      · rw [if_pos h3] at h; cases h
      · refine ⟨?_, fun e => ⟨?_, fun e2 => h3 (.inl ⟨e, e2⟩)⟩, fun e => ?_, fun e => ?_⟩
        · cases h4 : nameOk name with
          | true => rfl
          | false => exact absurd (.inl h4) h1
        · cases h4 : nameOk tt with
          | true => rfl
          | false => exact absurd (.inr ⟨e, h4⟩) h1
        · cases h4 : rIs G name with
          | true => rfl
          | false => exact absurd ⟨e, h4⟩ h2
        · refine ⟨?_, ?_⟩
          · apply Classical.byContradiction
            intro hn
            exact h3 (.inr ⟨e, .inl (by omega)⟩)
          · apply Classical.byContradiction
            intro hn
            exact h3 (.inr ⟨e, .inr (by omega)⟩)

set_option maxRecDepth 100000 in
set_option maxHeartbeats 6400000 in
theorem rchange_ok [Away] (sv lv : Value) (F G : Files) (L : List Chg) (ch : Nat) (kd : Nat) (kz : Int) (hkz : kz = (kd : Int)) (name tt s : Str) (n : Int) (w : World) (hF : FR w sv F) (hL : CR w lv L) (hS : Sorted F) (hok : ∀ c ∈ L, OkR c) (hn : F.length + L.length ≤ 500) (hz : F.size + 60 * L.length ≤ 1000000)
    (hG : L.foldl Files.act F = G) (hk : kd ≤ 4) (hs1 : name.length ≤ 9223372036854775807) (hs2 : tt.length ≤ 9223372036854775807) (hs3 : s.length ≤ 60) (hch : ch ≤ 1000000) (he : chErr G ⟨kd, name, tt, s, n⟩ = 0) :
    Calls Try.prog 111 #[.agg #[sv, lv, .int .i64 (-1), .slice none 0 0, .int .i64 ch, .bool false], .agg #[.int .i64 kz, .string ⟨name.toArray⟩, .string ⟨tt.toArray⟩, .string ⟨s.toArray⟩, .int .i64 n]] w fun e w' => ∃ lv',
      e = .returned (.tuple #[.agg #[sv, lv', .int .i64 (-1), .slice none 0 0, .int .i64 (ch + 1 : Nat), .bool false], .int .i64 0]) ∧ CR w' lv' (L ++ [(⟨kd, name, tt, s, n⟩ : Chg)]) ∧ Mod NoB w w' := by
  obtain ⟨g1, g2, g3, g4⟩ := chErr_ok he
  have hs0 : (if rIs G name = true then rAt G name else []).length ≤ 1000000 := by
    have hb := acts_bounds (F := F) hok
    rw [hG] at hb
    cases hi : rIs G name with
    | false => rw [if_neg (by decide)]; simp
    | true =>
      rw [if_pos rfl]
      have h1 := at_le (rIs_lt hi)
      unfold rAt
      rw [List.getElem?_eq_getElem (rIs_lt hi)]
      simp only [Option.map_some, Option.getD_some]
      omega
  have hg4 : kd = 4 → 0 ≤ n ∧ n ≤ (if rIs G name = true then rAt G name else []).length := fun e => by
    rw [if_pos (g3 (by omega))]
    exact g4 e
  have HN1 := Lib.hid (fun X => (RefName_calls name X hs1).mono (fun e w' h => (⟨by rw [h.1, g1], h.2⟩ : e = .returned (.bool true) ∧ X = w')))
  have HN2 := Lib.hid (fun X (e2 : kd = 2) => (RefName_calls tt X hs2).mono (fun e w' h => (⟨by rw [h.1, (g2 e2).1], h.2⟩ : e = .returned (.bool true) ∧ X = w')))
  have HNE : Hid (kd = 2 → name ≠ tt) := fun e => (g2 e).2
  have HG3 := Lib.hid g3
  have HG4 := Lib.hid hg4
  have HKZ := Lib.hid hkz
  have HLL := Lib.hid hL
  have hll : L.length ≤ 500 := by omega
  clear he g1 g2 g3 g4 hg4 hkz
  have HN := Lib.hid (fun X (hX : Mod NoB w X) => rnow_calls sv lv (.slice none 0 0) F L (-1) ch false X (hF.mod hX) (hL.mod hX) hS hok hn hz ⟨_, _, _, rfl⟩)
  have HGT := Lib.hid (fun X v (hv : FR X v G) => rget_calls v G name X hv (by have := acts_bounds (F := F) hok; rw [hG] at this; omega))
  rw [hG] at HN
  have HF0 := Lib.hid hF
  have HL0 := Lib.hid hL
  obtain ⟨a1, c1, rfl, _, _⟩ := hF.cells
  obtain ⟨a2, c2, rfl, _, _⟩ := hL.cells
  clear hF hL hS hok hn hz hG
  obtain ⟨W, hW⟩ : ∃ W, ((w.alloc (.cells #[.slice a1 F.length c1, .slice a2 L.length c2, .int .i64 (-1), .slice none 0 0, .int .i64 ch, .bool false] 99)).alloc (.cells #[.int .i64 kz, .string ⟨name.toArray⟩, .string ⟨tt.toArray⟩, .string ⟨s.toArray⟩, .int .i64 n] 178)).alloc (.cells #[.slice none 0 0, .slice none 0 0, .int .i64 0, .slice none 0 0, .int .i64 0, .bool false] 99) = W := ⟨_, rfl⟩
  have hm0 : Mod NoB w W := by rw [← hW]; exact (((Mod.refl _ _).alloc _).alloc _).alloc _
  have hP : W.heap[w.heap.size]? = some (.cells #[.slice a1 F.length c1, .slice a2 L.length c2, .int .i64 (-1), .slice none 0 0, .int .i64 ch, .bool false] 99 (0, 0)) := by
    rw [← hW, heap_alloc_lt _ _ _ (by rw [size_alloc, size_alloc]; omega), heap_alloc_lt _ _ _ (by rw [size_alloc]; omega)]
    exact heap_alloc_new _ _
  have hQ : W.heap[w.heap.size + 1]? = some (.cells #[.int .i64 kz, .string ⟨name.toArray⟩, .string ⟨tt.toArray⟩, .string ⟨s.toArray⟩, .int .i64 n] 178 (0, 0)) := by
    rw [← hW, heap_alloc_lt _ _ _ (by rw [size_alloc, size_alloc]; omega)]
    exact heap_alloc_at' _ _ _ (by rw [size_alloc])
  have hR : W.heap[w.heap.size + 2]? = some (.cells #[.slice none 0 0, .slice none 0 0, .int .i64 0, .slice none 0 0, .int .i64 0, .bool false] 99 (0, 0)) := by
    rw [← hW]
    exact heap_alloc_at' _ _ _ (by rw [size_alloc, size_alloc])
  obtain ⟨db, d0, d1, d2, d3, d4, d5, df⟩ := Disk6.facts hP
  obtain ⟨qb, q0, q1, q2, q3, q4, qf⟩ := Chg5.facts hQ
  obtain ⟨rb, r0, r1, r2, r3, r4, r5, rf⟩ := Disk6.facts hR
  have HM0 := Lib.hid hm0
  have HP := Lib.hid hP
  have HQ := Lib.hid hQ
  have HR := Lib.hid hR
  clear hm0 hP hQ hR
  generalize rIs G name = is at *
  generalize (if is = true then rAt G name else []) = s0 at *
  go_enter Try.func111, Try.ntmps111
  go_wp2_with fail
  clear hW
  refine (HN.out _ HM0.out).mono ?_
  rintro e W1 ⟨v6, rfl, hf1, hm1⟩
  obtain ⟨a6, c6, rfl, _, _⟩ := hf1.cells
  have HG1 := Lib.hid (HGT.out _ _ hf1)
  have hP1 := (hm1.block _ db id).trans HP.out
  have hQ1 := (hm1.block _ qb id).trans HQ.out
  have hR1 := (hm1.block _ rb id).trans HR.out
  clear d0 d1 d2 d3 d4 d5 df q0 q1 q2 q3 q4 qf r0 r1 r2 r3 r4 r5 rf HN HGT
  obtain ⟨xb, x0, x1, x2, x3, x4, x5, xf⟩ := Disk6.facts hP1
  obtain ⟨yb, y0, y1, y2, y3, y4, yf⟩ := Chg5.facts hQ1
  obtain ⟨zb, z0, z1, z2, z3, z4, z5, zf⟩ := Disk6.facts hR1
  have HP1 := Lib.hid hP1
  have HQ1 := Lib.hid hQ1
  have HR1 := Lib.hid hR1
  have HM1 := Lib.hid (HM0.out.trans hm1 (fun _ _ h => h))
  have HFG := Lib.hid hf1
  clear hP1 hQ1 hR1 hm1 hf1
  go_wp2_with fail
  refine HG1.out.mono ?_
  rintro e W2 ⟨rfl, hm2⟩
  have hP2 := (hm2.block _ xb id).trans HP1.out
  have hQ2 := (hm2.block _ yb id).trans HQ1.out
  have hR2 := (hm2.block _ zb id).trans HR1.out
  clear x0 x1 x2 x3 x4 x5 xf y0 y1 y2 y3 y4 yf z0 z1 z2 z3 z4 z5 zf HG1 db qb rb
  have HP2 := Lib.hid hP2
  have HQ2 := Lib.hid hQ2
  have HR2 := Lib.hid hR2
  have HM2 := Lib.hid (HM1.out.trans hm2 (fun _ _ h => h))
  have HFG2 := Lib.hid (HFG.out.mod hm2)
  obtain ⟨xb', x0, x1, x2, x3, x4, x5, xf⟩ := Disk6.facts hP2
  obtain ⟨yb', y0, y1, y2, y3, y4, yf⟩ := Chg5.facts hQ2
  obtain ⟨zb', z0, z1, z2, z3, z4, z5, zf⟩ := Disk6.facts hR2
  clear hP2 hQ2 hR2 hm2 xb yb zb HP HQ HR HP1 HQ1 HR1 HM1 HFG HM0
  go_upto_block 0 with fail
  go_cut [] from 20 (fun wx => wx = W2)
  case first =>
    have hk5 : kd = 0 ∨ kd = 1 ∨ kd = 2 ∨ kd = 3 ∨ kd = 4 := by omega
    rcases hk5 with rfl | rfl | rfl | rfl | rfl
    · obtain rfl : kz = 0 := HKZ.out
      go_wp2_with (go_at_call 68; ((with_reducible refine (HN1.out _).mono ?_); rintro e w' ⟨rfl, rfl⟩))
      go_meet
      rfl
    · obtain rfl : kz = 1 := HKZ.out
      go_wp2_with (go_at_call 68; ((with_reducible refine (HN1.out _).mono ?_); rintro e w' ⟨rfl, rfl⟩))
      go_meet
      rfl
    · obtain rfl : kz = 2 := HKZ.out
      obtain rfl := HG3.out (by omega)
      have HN3 := Lib.hid (fun X => HN2.out X rfl)
      have hne : (name == tt) = false := by simpa using HNE.out rfl
      have hne2 : ¬ name = tt := HNE.out rfl
      go_wp2_with (first
        | (go_at_call 68; ((with_reducible refine (HN1.out _).mono ?_); rintro e w' ⟨rfl, rfl⟩))
        | (go_at_call 68; ((with_reducible refine (HN3.out _).mono ?_); rintro e w' ⟨rfl, rfl⟩)))
      go_meet
      rfl
    · obtain rfl : kz = 3 := HKZ.out
      obtain rfl := HG3.out (by omega)
      go_wp2_with (go_at_call 68; ((with_reducible refine (HN1.out _).mono ?_); rintro e w' ⟨rfl, rfl⟩))
      go_meet
      rfl
    · obtain rfl : kz = 4 := HKZ.out
      obtain rfl := HG3.out (by omega)
      obtain ⟨hn1, hn2⟩ := HG4.out rfl
      have hn3 : ¬ n < 0 := by omega
      have hn4 : ¬ (s0.length : Int) < n := by omega
      go_wp2_with (go_at_call 68; ((with_reducible refine (HN1.out _).mono ?_); rintro e w' ⟨rfl, rfl⟩))
      go_meet
      rfl
  case rest =>
    have hwc : wc = W2 := hcut
    clear hcut
    subst hwc
    generalize wc = Wd at *
    clear HN1 HN2 HNE HG3 HG4
    go_upto_if 84 with fail
    go_cut [9] from 84 (fun m wx => wx = Wd ∧ ∃ z : Int, m = .int .i64 z)
    case first =>
      go_wp2_with fail
      all_goals
        go_meet
        exact ⟨rfl, _, rfl⟩
    case rest =>
      obtain ⟨hwx, z, rfl⟩ := hcut
      subst hwx
      generalize wc = We at *
      go_upto_region 14 with fail
      go_cut [109] from 89 (fun b wx => b = .bool false ∧ Hid (Mod NoB We wx))
      case first =>
        by_cases ha : kz < 2
        · by_cases hb : 0 < z
          · have ha' : decide (kz < 2) = true := by simpa using ha
            have hb' : decide (0 < z) = true := by simpa using hb
            refine wp_region_quiet_all (fun w' => ∃ x, w' = over _ (NoB) x) (by kernel_rfl) (by kernel_rfl) (Cls.drew _ _) ?_
            repeat (go_big_quiet_step (fail))
            refine wpQuiet_nil ?_
            rintro _ ⟨y, rfl⟩
            go_wp2_with fail
            go_meet
            exact ⟨rfl, Lib.hid (over_mod _ _ _)⟩
          · have ha' : decide (kz < 2) = true := by simpa using ha
            have hb' : decide (0 < z) = false := by simpa using hb
            refine wp_region_quiet_all (fun w' => ∃ x, w' = over _ (NoB) x) (by kernel_rfl) (by kernel_rfl) (Cls.drew _ _) ?_
            repeat (go_big_quiet_step (fail))
            refine wpQuiet_nil ?_
            rintro _ ⟨y, rfl⟩
            go_wp2_with fail
            go_meet
            exact ⟨rfl, Lib.hid (over_mod _ _ _)⟩
        · have ha' : decide (kz < 2) = false := by simpa using ha
          refine wp_region_quiet_all (fun w' => ∃ x, w' = over _ (NoB) x) (by kernel_rfl) (by kernel_rfl) (Cls.drew _ _) ?_
          repeat (go_big_quiet_step (fail))
          refine wpQuiet_nil ?_
          rintro _ ⟨y, rfl⟩
          go_wp2_with fail
          go_meet
          exact ⟨rfl, Lib.hid (over_mod _ _ _)⟩
      case rest =>
        generalize wc = wcc at *
        obtain ⟨rfl, HMC⟩ := hcut
        have hst := strike_calls (.slice a1 F.length c1) (.slice a2 L.length c2) (-1) ch false wcc ⟨_, _, _, rfl⟩ ⟨_, _, _, rfl⟩
        have HST := Lib.hid hst
        have hP3 := (HMC.out.block _ xb' id).trans HP2.out
        have hQ3 := (HMC.out.block _ yb' id).trans HQ2.out
        have hR3 := (HMC.out.block _ zb' id).trans HR2.out
        clear hst x0 x1 x2 x3 x4 x5 xf y0 y1 y2 y3 y4 yf z0 z1 z2 z3 z4 z5 zf
        have HP3 := Lib.hid hP3
        have HQ3 := Lib.hid hQ3
        have HR3 := Lib.hid hR3
        have HM3 := Lib.hid (HM2.out.trans HMC.out (fun _ _ h => h))
        obtain ⟨xb, x0, x1, x2, x3, x4, x5, xf⟩ := Disk6.facts hP3
        obtain ⟨yb, y0, y1, y2, y3, y4, yf⟩ := Chg5.facts hQ3
        obtain ⟨zb, z0, z1, z2, z3, z4, z5, zf⟩ := Disk6.facts hR3
        clear hP3 hQ3 hR3 HP2 HQ2 HR2 HM2 HMC xb' yb' zb'
        go_wp2_with fail
        refine HST.out.mono ?_
        rintro e W4 ⟨rfl, hm4⟩
        have hP4 := (hm4.block _ xb id).trans HP3.out
        have hQ4 := (hm4.block _ yb id).trans HQ3.out
        have hR4 := (hm4.block _ zb id).trans HR3.out
        clear x0 x1 x2 x3 x4 x5 xf y0 y1 y2 y3 y4 yf z0 z1 z2 z3 z4 z5 zf HST
        have HP4 := Lib.hid hP4
        have HQ4 := Lib.hid hQ4
        have HR4 := Lib.hid hR4
        have HM4 := Lib.hid (HM3.out.trans hm4 (fun _ _ h => h))
        obtain ⟨xb', x0, x1, x2, x3, x4, x5, xf⟩ := Disk6.facts hP4
        clear hP4 hQ4 hR4 HP3 HQ3 HR3 HM3 hm4 xb yb zb
        go_upto_region 20 with fail
        refine at_world (P := Code.wp _ _ _ _) (fun X => X.heap[w.heap.size]? = some (.cells #[.slice a1 F.length c1, .slice a2 L.length c2, .int .i64 (-1), .slice none 0 0, .int .i64 (ch + 1 : Nat), .bool false] 99 (0, 0)) ∧ Mod (fun k => k = w.heap.size) W4 X) ?_ ?_
        · refine ⟨?_, ?_⟩
          · simp only [heap_setCell, if_true, HP4.out, Option.map_some, setAt_cells, List.setIfInBounds_toArray, List.set_cons_zero, List.set_cons_succ]
            rfl
          · repeat (first | with_reducible exact Mod.refl _ _ | ((with_reducible refine Mod.setCell ?_ _ _ ?_); rotate_left; (intro _; simp)))
        · rintro X ⟨hPX, hMX⟩
          have hne1 : ¬ w.heap.size + 1 = w.heap.size := by omega
          have hne2 : ¬ w.heap.size + 2 = w.heap.size := by omega
          have hQX := (hMX.block _ (lt_heap HQ4.out) hne1).trans HQ4.out
          have hRX := (hMX.block _ (lt_heap HR4.out) hne2).trans HR4.out
          have hLX : CR X (.slice a2 L.length c2) L := (HL0.out.mod HM4.out).upd hMX (fun q hq e => by
            have := (HL0.out.1.lt q hq).2
            omega)
          have hMW : Mod NoB w X := HM4.out.trans hMX (fun q hq e => by omega)
          clear hne1 hne2 x0 x1 x2 x3 x4 x5 xf xb'
          obtain ⟨xb, x0, x1, x2, x3, x4, x5, xf⟩ := Disk6.facts hPX
          obtain ⟨yb, y0, y1, y2, y3, y4, yf⟩ := Chg5.facts hQX
          have HPX := Lib.hid hPX
          have HQX := Lib.hid hQX
          have HRX := Lib.hid hRX
          have HLX := Lib.hid hLX
          have HMW := Lib.hid hMW
          clear hPX hQX hRX hLX hMW hMX HP4 HQ4 HR4 HM4
          have hq0 : w.heap.size ≤ w.heap.size + 1 := by omega
          have hr0 : w.heap.size < w.heap.size + 2 := by omega
          have hp0 : w.heap.size ≤ w.heap.size := Nat.le_refl _
          have hr3 : w.heap.size + 1 < w.heap.size + 1 + 1 := by omega
          rw [show w.heap.size + 2 = w.heap.size + 1 + 1 by omega] at HRX hr0
          have hqe : w.heap.size < w.heap.size + 1 := by omega
          generalize hQe : w.heap.size + 1 = Q at *
          obtain ⟨P, hPe⟩ : ∃ P, w.heap.size = P := ⟨_, rfl⟩
          rw [hPe] at x0 x1 x2 x3 x4 x5 xf xb HPX ⊢
          clear hQe
          have hr1 : P < Q := by omega
          have hp1 : w.heap.size ≤ P := by omega
          clear hPe
          go_cut [] from 122 (fun wx => ∃ b c, Hid (wx.heap[P]? = some (.cells #[.slice a1 F.length c1, .slice b (L.length + 1) c, .int .i64 (-1), .slice none 0 0, .int .i64 (ch + 1 : Nat), .bool false] 99 (0, 0)) ∧ CR wx (.slice b (L.length + 1) c) (L ++ [(⟨kd, name, tt, s, n⟩ : Chg)]) ∧ Mod (fun k => k = P) X wx))
          case first =>
            have HZS : Hid (L.flatMap Chg.cells ++ [.int .i64 kz, .string ⟨name.toArray⟩, .string ⟨tt.toArray⟩, .string ⟨s.toArray⟩, .int .i64 n] = (L ++ [(⟨kd, name, tt, s, n⟩ : Chg)]).flatMap Chg.cells) := by
              show _ = _
              rw [List.flatMap_append, HKZ.out]
              simp [Chg.cells]
            go_region_law (first
              | (refine step_own rfl (.tmp 122) (.tmp 124) 96 rfl (v := .slice (some ⟨_, 0, none⟩) 0 0) (v2 := .slice a2 L.length c2) rfl rfl (base := X.heap.size) (n := 0) (m := L.length) (xs := []) (ys := L.flatMap Chg.cells) L.length (L.flatMap Chg.cells) elemR (by decide) ?_ ?_ ?_ ?_ ?_ rfl ?_ ?_
                 · exact row_empty (by first | exact heap_alloc_at' _ _ _ rfl | exact heap_alloc_at' _ _ _ (by simp) | exact heap_alloc_old' _ _ _ (by (first | omega | (simp only [size_alloc]; omega) | (simp only [size_alloc, heap_drew]; omega))) (heap_alloc_at' _ _ _ (by first | rfl | simp))) (by (first | omega | (simp only [size_alloc]; omega) | (simp only [size_alloc, heap_drew]; omega)))
                 · exact row_part (HLX.out.mod (by (repeat (first | with_reducible exact Mod.refl _ _ | with_reducible refine Mod.drew ?_ | with_reducible refine Mod.alloc ?_ _)))).1
                 · exact chgs_one _
                 · omega
                 · omega
                 · (first | omega | (simp only [size_alloc]; omega) | (simp only [size_alloc, heap_drew]; omega))
                 intro b6 c6 W6 hr6 hg6 hk6
                 have hW6 : Mod NoB X W6 := Mod.grown (by (repeat (first | with_reducible exact Mod.refl _ _ | with_reducible refine Mod.drew ?_ | with_reducible refine Mod.alloc ?_ _))) hg6 (fun q hq hl => by simp only [Value.ownBlock, Option.some.injEq] at hq; (try simp only [size_alloc] at hq); omega)
                 obtain ⟨vb, v0, v1, v2', v3, v4, vf⟩ := Chg5.facts ((hW6.block Q yb id).trans HQX.out))
              | (refine step_own rfl (.tmp 125) (.tmp 127) 96 rfl (v := .slice b6 L.length c6) (v2 := .slice (some ⟨_, 0, none⟩) 1 1) rfl rfl (base := X.heap.size) (n := L.length) (m := 1) (xs := L.flatMap Chg.cells) (ys := [.int .i64 kz, .string ⟨name.toArray⟩, .string ⟨tt.toArray⟩, .string ⟨s.toArray⟩, .int .i64 n]) (L.length + 1) ((L ++ [(⟨kd, name, tt, s, n⟩ : Chg)]).flatMap Chg.cells) elemR (by decide) ?_ ?_ ?_ ?_ ?_ HZS.out ?_ ?_
                 · exact ownsRow_mod hr6 (by (repeat (first | with_reducible exact Mod.refl _ _ | with_reducible refine Mod.drew ?_ | with_reducible refine Mod.alloc ?_ _))) (fun _ _ => id)
                 · first | exact part_block (heap_alloc_at' _ _ _ (by first | rfl | simp)) rfl | exact part_block (grown_at hg6 (by first | exact heap_alloc_at' _ _ _ rfl | exact heap_alloc_at' _ _ _ (by simp) | exact heap_alloc_old' _ _ _ (by (first | omega | (simp only [size_alloc]; omega) | (simp only [size_alloc, heap_drew]; omega))) (heap_alloc_at' _ _ _ (by first | rfl | simp))) (by simp only [Value.ownBlock, ne_eq, Option.some.injEq]; omega)) rfl
                 · intro u hu; simp only [List.mem_cons, List.not_mem_nil, or_false] at hu; rcases hu with rfl | rfl | rfl | rfl | rfl <;> rfl
                 · omega
                 · omega
                 · have := hW6.size; (first | omega | (simp only [size_alloc]; omega) | (simp only [size_alloc, heap_drew]; omega))
                 intro b7 c7 W7 hr7 hg7 hk7
                 have hW7 : Mod NoB X W7 := hW6.trans (Mod.grown (F := fun q => X.heap.size ≤ q) (by (repeat (first | with_reducible exact Mod.refl _ _ | with_reducible refine Mod.drew ?_ | with_reducible refine Mod.alloc ?_ _))) hg7 (fun q hq hl => (hr6.lt q hq).1)) (fun q hq h => by omega)
                 obtain ⟨wb, w0, w1, w2, w3, w4, w5, wf⟩ := Disk6.facts ((hW7.block P xb id).trans HPX.out)))
            all_goals go_wp2_with fail
            all_goals
              go_meet
              refine ⟨b7, c7, ?_, ?_, ?_⟩
              · rw [heap_setCell_same, (hW7.block P xb id).trans HPX.out]
                rfl
              · refine CR.offs (base := X.heap.size) ?_ HLX.out.2.old (by rw [size_setCell]; exact hW7.size)
                rw [show (L ++ [(⟨kd, name, tt, s, n⟩ : Chg)]).length = L.length + 1 by simp]
                exact ownsRow_mod hr7 (Mod.setCell (F := fun k => k = P) (Mod.refl _ _) _ _ (fun _ => rfl)) (fun q hq (e : q = P) => by have := (hr7.lt q hq).1; omega)
              · exact (hW7.mono (noB_sub _ _)).setCell _ _ (fun _ => rfl)
          case rest =>
            generalize wc = Wz at *
            obtain ⟨b, c, HZ⟩ := hcut
            obtain ⟨hPz, hLz, hMz⟩ := HZ.out
            have hRz := (hMz.block (Q + 1) (lt_heap HRX.out) (by omega)).trans HRX.out
            clear x0 x1 x2 x3 x4 x5 xf xb y0 y1 y2 y3 y4 yf yb
            obtain ⟨xb, x0, x1, x2, x3, x4, x5, xf⟩ := Disk6.facts hPz
            obtain ⟨zb, z0, z1, z2, z3, z4, z5, zf⟩ := Disk6.facts hRz
            have HRz := Lib.hid hRz
            have HLz := Lib.hid hLz
            have HMz := Lib.hid hMz
            clear hPz hLz hMz hRz
            go_wp2_with fail
            refine at_world (P := bodyPost _ _ _ _ _) (fun Y => Y.heap[Q + 1]? = some (.cells #[.slice a1 F.length c1, .slice b (L.length + 1) c, .int .i64 (-1), .slice none 0 0, .int .i64 (ch + 1 : Nat), .bool false] 99 (0, 0)) ∧ Mod (fun k => k = Q + 1) Wz Y) ?_ ?_
            · refine ⟨?_, ?_⟩
              · simp only [heap_setCell, if_true, HRz.out, Option.map_some, setAt_cells, List.setIfInBounds_toArray, List.set_cons_zero, List.set_cons_succ]
                rfl
              · repeat (first | with_reducible exact Mod.refl _ _ | ((with_reducible refine Mod.setCell ?_ _ _ ?_); rotate_left; (intro _; rfl)))
            · rintro Y ⟨hRY, hMY⟩
              obtain ⟨tb, t0, t1, t2, t3, t4, t5, tf⟩ := Disk6.facts hRY
              refine bodyPost_ret (v := .tuple #[.agg #[.slice a1 F.length c1, .slice b (L.length + 1) c, .int .i64 (-1), .slice none 0 0, .int .i64 (ch + 1 : Nat), .bool false], .int .i64 0]) (by simp [results, Try.f111, go_sem, t0, t1, t2, t3, t4, t5]) rfl ⟨_, rfl, ?_, ?_⟩
              · exact HLz.out.upd hMY (fun q hq (e : q = Q + 1) => absurd (row_type HLz.out.1 hq (e ▸ HRz.out)) (by decide))
              · exact (HMW.out.trans HMz.out (fun q hq (e : q = P) => by omega)).trans hMY (fun q hq (e : q = Q + 1) => by omega)

end Go.Proofs.Ytgofngilfdnakaa
