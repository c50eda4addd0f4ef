/-
  This text proves what cupelref03.Disk's Change answers where a change may not be: for few files and changes, any room, no falls.
-/
import Derived.Test.YtgofngilfdnakaaRefG
import Derived.Test.YtgofngilfdnakaaDiskN
namespace Go.Proofs.Ytgofngilfdnakaa
open Go Go.RowKit
attribute [local go_sem] over_cell over_frozen lt_over le_over noB loudUpon ByteArray.mk_append_mk ByteArray.extract_mk

/-- Which error a change is told. -/
def chErr (G : Files) (c : Chg) : Int :=
  if nameOk c.name = false ∨ (c.kind = 2 ∧ nameOk c.to = false) then 30
  else if 1 < c.kind ∧ rIs G c.name = false then 2
  else if (c.kind = 2 ∧ c.name = c.to) ∨ (c.kind = 4 ∧ (c.n < 0 ∨ ((rAt G c.name).length : Int) < c.n)) then 1 else 0

set_option maxRecDepth 100000 in
set_option maxHeartbeats 6400000 in
theorem rchange_err [Away] (sv lv : Value) (F G : Files) (L : List Chg) (ch : Int) (kd : Nat) (kz : Int) (hkz : kz = (kd : Int)) (name tt s : Str) (n : Int) (w : World) (hF : FR w sv F) (hL : CR w lv L) (hS : Sorted F) (hok : ∀ c ∈ L, OkR c) (hn : F.length + L.length ≤ 500) (hz : F.size + 60 * L.length ≤ 1000000)
    (hG : L.foldl Files.act F = G) (hk : kd ≤ 4) (hs1 : name.length ≤ 9223372036854775807) (hs2 : tt.length ≤ 9223372036854775807) (he : chErr G ⟨kd, name, tt, s, n⟩ ≠ 0) :
    Calls Try.prog 111 #[.agg #[sv, lv, .int .i64 (-1), .slice none 0 0, .int .i64 ch, .bool false],   .agg #[.int .i64 kz, .string ⟨name.toArray⟩, .string ⟨tt.toArray⟩, .string ⟨s.toArray⟩, .int .i64 n]] w fun e w' =>
      e = .returned (.tuple #[.agg #[sv, lv, .int .i64 (-1), .slice none 0 0, .int .i64 ch, .bool false], .int .i64 (chErr G ⟨kd, name, tt, s, n⟩)]) ∧ Mod NoB w w' := by
  have HN1 := Lib.hid (fun X => RefName_calls name X hs1)
  have HN2 := Lib.hid (fun X => RefName_calls tt X hs2)
  have HN := Lib.hid (fun X (hX : Mod NoB w X) => rnow_calls sv lv (.slice none 0 0) F L (-1) ch false X (hF.mod hX) (hL.mod hX) hS hok hn hz ⟨_, _, _, rfl⟩)
  have HGT := Lib.hid (fun X v (hv : FR X v G) => rget_calls v G name X hv (by have := acts_bounds (F := F) hok; rw [hG] at this; omega))
  rw [hG] at HN
  have HF0 := Lib.hid hF
  have HL0 := Lib.hid hL
  obtain ⟨a1, c1, rfl, _, _⟩ := hF.cells
  obtain ⟨a2, c2, rfl, _, _⟩ := hL.cells
  clear hF hL hS hok hn hz hG
  obtain ⟨W, hW⟩ : ∃ W, ((w.alloc (.cells #[.slice a1 F.length c1, .slice a2 L.length c2, .int .i64 (-1), .slice none 0 0, .int .i64 ch, .bool false] 99)).alloc (.cells #[.int .i64 kz, .string ⟨name.toArray⟩, .string ⟨tt.toArray⟩, .string ⟨s.toArray⟩, .int .i64 n] 178)).alloc (.cells #[.slice none 0 0, .slice none 0 0, .int .i64 0, .slice none 0 0, .int .i64 0, .bool false] 99) = W := ⟨_, rfl⟩
  have hm0 : Mod NoB w W := by rw [← hW]; exact (((Mod.refl _ _).alloc _).alloc _).alloc _
  have hP : W.heap[w.heap.size]? = some (.cells #[.slice a1 F.length c1, .slice a2 L.length c2, .int .i64 (-1), .slice none 0 0, .int .i64 ch, .bool false] 99 (0, 0)) := by
    rw [← hW, heap_alloc_lt _ _ _ (by rw [size_alloc, size_alloc]; omega), heap_alloc_lt _ _ _ (by rw [size_alloc]; omega)]
    exact heap_alloc_new _ _
  have hQ : W.heap[w.heap.size + 1]? = some (.cells #[.int .i64 kz, .string ⟨name.toArray⟩, .string ⟨tt.toArray⟩, .string ⟨s.toArray⟩, .int .i64 n] 178 (0, 0)) := by
    rw [← hW, heap_alloc_lt _ _ _ (by rw [size_alloc, size_alloc]; omega)]
    exact heap_alloc_at' _ _ _ (by rw [size_alloc])
  have hR : W.heap[w.heap.size + 2]? = some (.cells #[.slice none 0 0, .slice none 0 0, .int .i64 0, .slice none 0 0, .int .i64 0, .bool false] 99 (0, 0)) := by
    rw [← hW]
    exact heap_alloc_at' _ _ _ (by rw [size_alloc, size_alloc])
  obtain ⟨db, d0, d1, d2, d3, d4, d5, df⟩ := Disk6.facts hP
  obtain ⟨qb, q0, q1, q2, q3, q4, qf⟩ := Chg5.facts hQ
  obtain ⟨rb, r0, r1, r2, r3, r4, r5, rf⟩ := Disk6.facts hR
  have HM0 := Lib.hid hm0
  have HP := Lib.hid hP
  have HQ := Lib.hid hQ
  have HR := Lib.hid hR
  clear hm0 hP hQ hR
  cases h1 : nameOk name with
  | false =>
    clear hkz
    have hE : chErr G ⟨kd, name, tt, s, n⟩ = 30 := by unfold chErr; rw [if_pos (.inl h1)]
    rw [hE]
    rw [h1] at HN1
    clear hE he h1
    generalize rIs G name = is at *
    generalize (if is = true then rAt G name else []) = s0 at *
    go_enter Try.func111, Try.ntmps111
    go_wp2_with fail
    clear hW
    refine (HN.out _ HM0.out).mono ?_
    rintro e W1 ⟨v6, rfl, hf1, hm1⟩
    obtain ⟨a6, c6, rfl, _, _⟩ := hf1.cells
    have HG1 := Lib.hid (HGT.out _ _ hf1)
    have hP1 := (hm1.block _ db id).trans HP.out
    have hQ1 := (hm1.block _ qb id).trans HQ.out
    have hR1 := (hm1.block _ rb id).trans HR.out
    clear d0 d1 d2 d3 d4 d5 df q0 q1 q2 q3 q4 qf r0 r1 r2 r3 r4 r5 rf HN HGT
    obtain ⟨xb, x0, x1, x2, x3, x4, x5, xf⟩ := Disk6.facts hP1
    obtain ⟨yb, y0, y1, y2, y3, y4, yf⟩ := Chg5.facts hQ1
    obtain ⟨zb, z0, z1, z2, z3, z4, z5, zf⟩ := Disk6.facts hR1
    have HP1 := Lib.hid hP1
    have HQ1 := Lib.hid hQ1
    have HR1 := Lib.hid hR1
    have HM1 := Lib.hid (HM0.out.trans hm1 (fun _ _ h => h))
    have HFG := Lib.hid hf1
    clear hP1 hQ1 hR1 hm1 hf1
    go_wp2_with fail
    refine HG1.out.mono ?_
    rintro e W2 ⟨rfl, hm2⟩
    have hP2 := (hm2.block _ xb id).trans HP1.out
    have hQ2 := (hm2.block _ yb id).trans HQ1.out
    have hR2 := (hm2.block _ zb id).trans HR1.out
    clear x0 x1 x2 x3 x4 x5 xf y0 y1 y2 y3 y4 yf z0 z1 z2 z3 z4 z5 zf HG1 db qb rb
    have HP2 := Lib.hid hP2
    have HQ2 := Lib.hid hQ2
    have HR2 := Lib.hid hR2
    have HM2 := Lib.hid (HM1.out.trans hm2 (fun _ _ h => h))
    have HFG2 := Lib.hid (HFG.out.mod hm2)
    obtain ⟨xb', x0, x1, x2, x3, x4, x5, xf⟩ := Disk6.facts hP2
    obtain ⟨yb', y0, y1, y2, y3, y4, yf⟩ := Chg5.facts hQ2
    obtain ⟨zb', z0, z1, z2, z3, z4, z5, zf⟩ := Disk6.facts hR2
    clear hP2 hQ2 hR2 hm2 xb yb zb HP HQ HR HP1 HQ1 HR1 HM1 HFG HM0
    go_wp2_with (go_at_call 68; ((with_reducible refine (HN1.out _).mono ?_); rintro e w' ⟨rfl, rfl⟩))
    refine at_world (P := bodyPost _ _ _ _ _) (fun X => X.heap[w.heap.size + 2]? = some (.cells #[.slice a1 F.length c1, .slice a2 L.length c2, .int .i64 (-1), .slice none 0 0, .int .i64 ch, .bool false] 99 (0, 0)) ∧ Mod (fun k => k = w.heap.size + 2) W2 X) ?_ ?_
    · refine ⟨?_, ?_⟩
      · simp only [heap_setCell, if_true, HR2.out, Option.map_some, setAt_cells, List.setIfInBounds_toArray, List.set_cons_zero, List.set_cons_succ]
      · repeat (first | with_reducible exact Mod.refl _ _ | ((with_reducible refine Mod.setCell ?_ _ _ ?_); rotate_left; (intro _; simp)))
    · rintro X ⟨hRX, hMX⟩
      obtain ⟨zb, z0, z1, z2, z3, z4, z5, zf⟩ := Disk6.facts hRX
      exact bodyPost_ret (v := .tuple #[.agg #[.slice a1 F.length c1, .slice a2 L.length c2, .int .i64 (-1), .slice none 0 0, .int .i64 ch, .bool false], .int .i64 30]) (by simp [results, Try.f111, go_sem, z0, z1, z2, z3, z4, z5]) rfl ⟨rfl, HM2.out.trans hMX (fun q hq e => by omega)⟩
  | true =>
    rw [h1] at HN1
    by_cases hb : kd = 2 ∧ nameOk tt = false
    · obtain ⟨rfl, h2⟩ := hb
      obtain rfl : kz = 2 := hkz
      have hE : chErr G ⟨2, name, tt, s, n⟩ = 30 := by unfold chErr; rw [if_pos (.inr ⟨rfl, h2⟩)]
      rw [hE]
      rw [h2] at HN2
      clear hE he h1 h2
      generalize rIs G name = is at *
      generalize (if is = true then rAt G name else []) = s0 at *
      go_enter Try.func111, Try.ntmps111
      go_wp2_with fail
      clear hW
      refine (HN.out _ HM0.out).mono ?_
      rintro e W1 ⟨v6, rfl, hf1, hm1⟩
      obtain ⟨a6, c6, rfl, _, _⟩ := hf1.cells
      have HG1 := Lib.hid (HGT.out _ _ hf1)
      have hP1 := (hm1.block _ db id).trans HP.out
      have hQ1 := (hm1.block _ qb id).trans HQ.out
      have hR1 := (hm1.block _ rb id).trans HR.out
      clear d0 d1 d2 d3 d4 d5 df q0 q1 q2 q3 q4 qf r0 r1 r2 r3 r4 r5 rf HN HGT
      obtain ⟨xb, x0, x1, x2, x3, x4, x5, xf⟩ := Disk6.facts hP1
      obtain ⟨yb, y0, y1, y2, y3, y4, yf⟩ := Chg5.facts hQ1
      obtain ⟨zb, z0, z1, z2, z3, z4, z5, zf⟩ := Disk6.facts hR1
      have HP1 := Lib.hid hP1
      have HQ1 := Lib.hid hQ1
      have HR1 := Lib.hid hR1
      have HM1 := Lib.hid (HM0.out.trans hm1 (fun _ _ h => h))
      have HFG := Lib.hid hf1
      clear hP1 hQ1 hR1 hm1 hf1
      go_wp2_with fail
      refine HG1.out.mono ?_
      rintro e W2 ⟨rfl, hm2⟩
      have hP2 := (hm2.block _ xb id).trans HP1.out
      have hQ2 := (hm2.block _ yb id).trans HQ1.out
      have hR2 := (hm2.block _ zb id).trans HR1.out
      clear x0 x1 x2 x3 x4 x5 xf y0 y1 y2 y3 y4 yf z0 z1 z2 z3 z4 z5 zf HG1 db qb rb
      have HP2 := Lib.hid hP2
      have HQ2 := Lib.hid hQ2
      have HR2 := Lib.hid hR2
      have HM2 := Lib.hid (HM1.out.trans hm2 (fun _ _ h => h))
      have HFG2 := Lib.hid (HFG.out.mod hm2)
      obtain ⟨xb', x0, x1, x2, x3, x4, x5, xf⟩ := Disk6.facts hP2
      obtain ⟨yb', y0, y1, y2, y3, y4, yf⟩ := Chg5.facts hQ2
      obtain ⟨zb', z0, z1, z2, z3, z4, z5, zf⟩ := Disk6.facts hR2
      clear hP2 hQ2 hR2 hm2 xb yb zb HP HQ HR HP1 HQ1 HR1 HM1 HFG HM0
      go_wp2_with (first
        | (go_at_call 68; ((with_reducible refine (HN1.out _).mono ?_); rintro e w' ⟨rfl, rfl⟩))
        | (go_at_call 68; ((with_reducible refine (HN2.out _).mono ?_); rintro e w' ⟨rfl, rfl⟩)))
      refine at_world (P := bodyPost _ _ _ _ _) (fun X => X.heap[w.heap.size + 2]? = some (.cells #[.slice a1 F.length c1, .slice a2 L.length c2, .int .i64 (-1), .slice none 0 0, .int .i64 ch, .bool false] 99 (0, 0)) ∧ Mod (fun k => k = w.heap.size + 2) W2 X) ?_ ?_
      · refine ⟨?_, ?_⟩
        · simp only [heap_setCell, if_true, HR2.out, Option.map_some, setAt_cells, List.setIfInBounds_toArray, List.set_cons_zero, List.set_cons_succ]
        · repeat (first | with_reducible exact Mod.refl _ _ | ((with_reducible refine Mod.setCell ?_ _ _ ?_); rotate_left; (intro _; simp)))
      · rintro X ⟨hRX, hMX⟩
        obtain ⟨zb, z0, z1, z2, z3, z4, z5, zf⟩ := Disk6.facts hRX
        exact bodyPost_ret (v := .tuple #[.agg #[.slice a1 F.length c1, .slice a2 L.length c2, .int .i64 (-1), .slice none 0 0, .int .i64 ch, .bool false], .int .i64 30]) (by simp [results, Try.f111, go_sem, z0, z1, z2, z3, z4, z5]) rfl ⟨rfl, HM2.out.trans hMX (fun q hq e => by omega)⟩
    · have h2 : kd = 2 → nameOk tt = true := fun e => by
        cases h : nameOk tt with
        | true => rfl
        | false => exact absurd ⟨e, h⟩ hb
      have hne : ¬ (nameOk name = false ∨ kd = 2 ∧ nameOk tt = false) := fun h => by
        rcases h with h | h
        · rw [h1] at h; cases h
        · exact hb h
      by_cases hc : 1 < kd ∧ rIs G name = false
      · obtain ⟨hk1, hi⟩ := hc
        have hE : chErr G ⟨kd, name, tt, s, n⟩ = 2 := by unfold chErr; rw [if_neg hne, if_pos ⟨hk1, hi⟩]
        rw [hE]
        rw [hi] at HGT
        clear hE he hne hb h1 hi
        have hk1' : (1 : Int) < kz := by omega
        by_cases h22 : kd = 2
        · subst h22
          obtain rfl : kz = 2 := hkz
          rw [h2 rfl] at HN2
          clear h2
          go_enter Try.func111, Try.ntmps111
          go_wp2_with fail
          clear hW
          refine (HN.out _ HM0.out).mono ?_
          rintro e W1 ⟨v6, rfl, hf1, hm1⟩
          obtain ⟨a6, c6, rfl, _, _⟩ := hf1.cells
          have HG1 := Lib.hid (HGT.out _ _ hf1)
          have hP1 := (hm1.block _ db id).trans HP.out
          have hQ1 := (hm1.block _ qb id).trans HQ.out
          have hR1 := (hm1.block _ rb id).trans HR.out
          clear d0 d1 d2 d3 d4 d5 df q0 q1 q2 q3 q4 qf r0 r1 r2 r3 r4 r5 rf HN HGT
          obtain ⟨xb, x0, x1, x2, x3, x4, x5, xf⟩ := Disk6.facts hP1
          obtain ⟨yb, y0, y1, y2, y3, y4, yf⟩ := Chg5.facts hQ1
          obtain ⟨zb, z0, z1, z2, z3, z4, z5, zf⟩ := Disk6.facts hR1
          have HP1 := Lib.hid hP1
          have HQ1 := Lib.hid hQ1
          have HR1 := Lib.hid hR1
          have HM1 := Lib.hid (HM0.out.trans hm1 (fun _ _ h => h))
          have HFG := Lib.hid hf1
          clear hP1 hQ1 hR1 hm1 hf1
          go_wp2_with fail
          refine HG1.out.mono ?_
          rintro e W2 ⟨rfl, hm2⟩
          have hP2 := (hm2.block _ xb id).trans HP1.out
          have hQ2 := (hm2.block _ yb id).trans HQ1.out
          have hR2 := (hm2.block _ zb id).trans HR1.out
          clear x0 x1 x2 x3 x4 x5 xf y0 y1 y2 y3 y4 yf z0 z1 z2 z3 z4 z5 zf HG1 db qb rb
          have HP2 := Lib.hid hP2
          have HQ2 := Lib.hid hQ2
          have HR2 := Lib.hid hR2
          have HM2 := Lib.hid (HM1.out.trans hm2 (fun _ _ h => h))
          have HFG2 := Lib.hid (HFG.out.mod hm2)
          obtain ⟨xb', x0, x1, x2, x3, x4, x5, xf⟩ := Disk6.facts hP2
          obtain ⟨yb', y0, y1, y2, y3, y4, yf⟩ := Chg5.facts hQ2
          obtain ⟨zb', z0, z1, z2, z3, z4, z5, zf⟩ := Disk6.facts hR2
          clear hP2 hQ2 hR2 hm2 xb yb zb HP HQ HR HP1 HQ1 HR1 HM1 HFG HM0
          go_wp2_with (first
            | (go_at_call 68; ((with_reducible refine (HN1.out _).mono ?_); rintro e w' ⟨rfl, rfl⟩))
            | (go_at_call 68; ((with_reducible refine (HN2.out _).mono ?_); rintro e w' ⟨rfl, rfl⟩)))
          refine at_world (P := bodyPost _ _ _ _ _) (fun X => X.heap[w.heap.size + 2]? = some (.cells #[.slice a1 F.length c1, .slice a2 L.length c2, .int .i64 (-1), .slice none 0 0, .int .i64 ch, .bool false] 99 (0, 0)) ∧ Mod (fun k => k = w.heap.size + 2) W2 X) ?_ ?_
          · refine ⟨?_, ?_⟩
            · simp only [heap_setCell, if_true, HR2.out, Option.map_some, setAt_cells, List.setIfInBounds_toArray, List.set_cons_zero, List.set_cons_succ]
            · repeat (first | with_reducible exact Mod.refl _ _ | ((with_reducible refine Mod.setCell ?_ _ _ ?_); rotate_left; (intro _; simp)))
          · rintro X ⟨hRX, hMX⟩
            obtain ⟨zb, z0, z1, z2, z3, z4, z5, zf⟩ := Disk6.facts hRX
            exact bodyPost_ret (v := .tuple #[.agg #[.slice a1 F.length c1, .slice a2 L.length c2, .int .i64 (-1), .slice none 0 0, .int .i64 ch, .bool false], .int .i64 2]) (by simp [results, Try.f111, go_sem, z0, z1, z2, z3, z4, z5]) rfl ⟨rfl, HM2.out.trans hMX (fun q hq e => by omega)⟩
        · have h23 : (kz == 2) = false := by simp; omega
          clear h2 h22 hkz
          go_enter Try.func111, Try.ntmps111
          go_wp2_with fail
          clear hW
          refine (HN.out _ HM0.out).mono ?_
          rintro e W1 ⟨v6, rfl, hf1, hm1⟩
          obtain ⟨a6, c6, rfl, _, _⟩ := hf1.cells
          have HG1 := Lib.hid (HGT.out _ _ hf1)
          have hP1 := (hm1.block _ db id).trans HP.out
          have hQ1 := (hm1.block _ qb id).trans HQ.out
          have hR1 := (hm1.block _ rb id).trans HR.out
          clear d0 d1 d2 d3 d4 d5 df q0 q1 q2 q3 q4 qf r0 r1 r2 r3 r4 r5 rf HN HGT
          obtain ⟨xb, x0, x1, x2, x3, x4, x5, xf⟩ := Disk6.facts hP1
          obtain ⟨yb, y0, y1, y2, y3, y4, yf⟩ := Chg5.facts hQ1
          obtain ⟨zb, z0, z1, z2, z3, z4, z5, zf⟩ := Disk6.facts hR1
          have HP1 := Lib.hid hP1
          have HQ1 := Lib.hid hQ1
          have HR1 := Lib.hid hR1
          have HM1 := Lib.hid (HM0.out.trans hm1 (fun _ _ h => h))
          have HFG := Lib.hid hf1
          clear hP1 hQ1 hR1 hm1 hf1
          go_wp2_with fail
          refine HG1.out.mono ?_
          rintro e W2 ⟨rfl, hm2⟩
          have hP2 := (hm2.block _ xb id).trans HP1.out
          have hQ2 := (hm2.block _ yb id).trans HQ1.out
          have hR2 := (hm2.block _ zb id).trans HR1.out
          clear x0 x1 x2 x3 x4 x5 xf y0 y1 y2 y3 y4 yf z0 z1 z2 z3 z4 z5 zf HG1 db qb rb
          have HP2 := Lib.hid hP2
          have HQ2 := Lib.hid hQ2
          have HR2 := Lib.hid hR2
          have HM2 := Lib.hid (HM1.out.trans hm2 (fun _ _ h => h))
          have HFG2 := Lib.hid (HFG.out.mod hm2)
          obtain ⟨xb', x0, x1, x2, x3, x4, x5, xf⟩ := Disk6.facts hP2
          obtain ⟨yb', y0, y1, y2, y3, y4, yf⟩ := Chg5.facts hQ2
          obtain ⟨zb', z0, z1, z2, z3, z4, z5, zf⟩ := Disk6.facts hR2
          clear hP2 hQ2 hR2 hm2 xb yb zb HP HQ HR HP1 HQ1 HR1 HM1 HFG HM0
          go_wp2_with (go_at_call 68; ((with_reducible refine (HN1.out _).mono ?_); rintro e w' ⟨rfl, rfl⟩))
          refine at_world (P := bodyPost _ _ _ _ _) (fun X => X.heap[w.heap.size + 2]? = some (.cells #[.slice a1 F.length c1, .slice a2 L.length c2, .int .i64 (-1), .slice none 0 0, .int .i64 ch, .bool false] 99 (0, 0)) ∧ Mod (fun k => k = w.heap.size + 2) W2 X) ?_ ?_
          · refine ⟨?_, ?_⟩
            · simp only [heap_setCell, if_true, HR2.out, Option.map_some, setAt_cells, List.setIfInBounds_toArray, List.set_cons_zero, List.set_cons_succ]
            · repeat (first | with_reducible exact Mod.refl _ _ | ((with_reducible refine Mod.setCell ?_ _ _ ?_); rotate_left; (intro _; simp)))
          · rintro X ⟨hRX, hMX⟩
            obtain ⟨zb, z0, z1, z2, z3, z4, z5, zf⟩ := Disk6.facts hRX
            exact bodyPost_ret (v := .tuple #[.agg #[.slice a1 F.length c1, .slice a2 L.length c2, .int .i64 (-1), .slice none 0 0, .int .i64 ch, .bool false], .int .i64 2]) (by simp [results, Try.f111, go_sem, z0, z1, z2, z3, z4, z5]) rfl ⟨rfl, HM2.out.trans hMX (fun q hq e => by omega)⟩
      · have hd : (kd = 2 ∧ name = tt) ∨ (kd = 4 ∧ (n < 0 ∨ ((rAt G name).length : Int) < n)) := by
          apply Classical.byContradiction
          intro hd
          apply he
          unfold chErr
          rw [if_neg hne, if_neg hc, if_neg hd]
        have hE : chErr G ⟨kd, name, tt, s, n⟩ = 1 := by unfold chErr; rw [if_neg hne, if_neg hc, if_pos hd]
        rw [hE]
        have hi : rIs G name = true := by
          cases h : rIs G name with
          | true => rfl
          | false => exact absurd ⟨by omega, h⟩ hc
        rw [hi] at HGT
        simp only [if_true] at HGT
        clear hE he hne hb h1 hi hc
        rcases hd with ⟨rfl, rfl⟩ | ⟨rfl, hd | hd⟩
        · obtain rfl : kz = 2 := hkz
          rw [h2 rfl] at HN2
          clear h2
          generalize rAt G name = s0 at *
          go_enter Try.func111, Try.ntmps111
          go_wp2_with fail
          clear hW
          refine (HN.out _ HM0.out).mono ?_
          rintro e W1 ⟨v6, rfl, hf1, hm1⟩
          obtain ⟨a6, c6, rfl, _, _⟩ := hf1.cells
          have HG1 := Lib.hid (HGT.out _ _ hf1)
          have hP1 := (hm1.block _ db id).trans HP.out
          have hQ1 := (hm1.block _ qb id).trans HQ.out
          have hR1 := (hm1.block _ rb id).trans HR.out
          clear d0 d1 d2 d3 d4 d5 df q0 q1 q2 q3 q4 qf r0 r1 r2 r3 r4 r5 rf HN HGT
          obtain ⟨xb, x0, x1, x2, x3, x4, x5, xf⟩ := Disk6.facts hP1
          obtain ⟨yb, y0, y1, y2, y3, y4, yf⟩ := Chg5.facts hQ1
          obtain ⟨zb, z0, z1, z2, z3, z4, z5, zf⟩ := Disk6.facts hR1
          have HP1 := Lib.hid hP1
          have HQ1 := Lib.hid hQ1
          have HR1 := Lib.hid hR1
          have HM1 := Lib.hid (HM0.out.trans hm1 (fun _ _ h => h))
          have HFG := Lib.hid hf1
          clear hP1 hQ1 hR1 hm1 hf1
          go_wp2_with fail
          refine HG1.out.mono ?_
          rintro e W2 ⟨rfl, hm2⟩
          have hP2 := (hm2.block _ xb id).trans HP1.out
          have hQ2 := (hm2.block _ yb id).trans HQ1.out
          have hR2 := (hm2.block _ zb id).trans HR1.out
          clear x0 x1 x2 x3 x4 x5 xf y0 y1 y2 y3 y4 yf z0 z1 z2 z3 z4 z5 zf HG1 db qb rb
          have HP2 := Lib.hid hP2
          have HQ2 := Lib.hid hQ2
          have HR2 := Lib.hid hR2
          have HM2 := Lib.hid (HM1.out.trans hm2 (fun _ _ h => h))
          have HFG2 := Lib.hid (HFG.out.mod hm2)
          obtain ⟨xb', x0, x1, x2, x3, x4, x5, xf⟩ := Disk6.facts hP2
          obtain ⟨yb', y0, y1, y2, y3, y4, yf⟩ := Chg5.facts hQ2
          obtain ⟨zb', z0, z1, z2, z3, z4, z5, zf⟩ := Disk6.facts hR2
          clear hP2 hQ2 hR2 hm2 xb yb zb HP HQ HR HP1 HQ1 HR1 HM1 HFG HM0
          go_wp2_with (go_at_call 68; ((with_reducible refine (HN1.out _).mono ?_); rintro e w' ⟨rfl, rfl⟩))
          refine at_world (P := bodyPost _ _ _ _ _) (fun X => X.heap[w.heap.size + 2]? = some (.cells #[.slice a1 F.length c1, .slice a2 L.length c2, .int .i64 (-1), .slice none 0 0, .int .i64 ch, .bool false] 99 (0, 0)) ∧ Mod (fun k => k = w.heap.size + 2) W2 X) ?_ ?_
          · refine ⟨?_, ?_⟩
            · simp only [heap_setCell, if_true, HR2.out, Option.map_some, setAt_cells, List.setIfInBounds_toArray, List.set_cons_zero, List.set_cons_succ]
            · repeat (first | with_reducible exact Mod.refl _ _ | ((with_reducible refine Mod.setCell ?_ _ _ ?_); rotate_left; (intro _; simp)))
          · rintro X ⟨hRX, hMX⟩
            obtain ⟨zb, z0, z1, z2, z3, z4, z5, zf⟩ := Disk6.facts hRX
            exact bodyPost_ret (v := .tuple #[.agg #[.slice a1 F.length c1, .slice a2 L.length c2, .int .i64 (-1), .slice none 0 0, .int .i64 ch, .bool false], .int .i64 1]) (by simp [results, Try.f111, go_sem, z0, z1, z2, z3, z4, z5]) rfl ⟨rfl, HM2.out.trans hMX (fun q hq e => by omega)⟩
        · obtain rfl : kz = 4 := hkz
          clear h2
          generalize rAt G name = s0 at *
          go_enter Try.func111, Try.ntmps111
          go_wp2_with fail
          clear hW
          refine (HN.out _ HM0.out).mono ?_
          rintro e W1 ⟨v6, rfl, hf1, hm1⟩
          obtain ⟨a6, c6, rfl, _, _⟩ := hf1.cells
          have HG1 := Lib.hid (HGT.out _ _ hf1)
          have hP1 := (hm1.block _ db id).trans HP.out
          have hQ1 := (hm1.block _ qb id).trans HQ.out
          have hR1 := (hm1.block _ rb id).trans HR.out
          clear d0 d1 d2 d3 d4 d5 df q0 q1 q2 q3 q4 qf r0 r1 r2 r3 r4 r5 rf HN HGT
          obtain ⟨xb, x0, x1, x2, x3, x4, x5, xf⟩ := Disk6.facts hP1
          obtain ⟨yb, y0, y1, y2, y3, y4, yf⟩ := Chg5.facts hQ1
          obtain ⟨zb, z0, z1, z2, z3, z4, z5, zf⟩ := Disk6.facts hR1
          have HP1 := Lib.hid hP1
          have HQ1 := Lib.hid hQ1
          have HR1 := Lib.hid hR1
          have HM1 := Lib.hid (HM0.out.trans hm1 (fun _ _ h => h))
          have HFG := Lib.hid hf1
          clear hP1 hQ1 hR1 hm1 hf1
          go_wp2_with fail
          refine HG1.out.mono ?_
          rintro e W2 ⟨rfl, hm2⟩
          have hP2 := (hm2.block _ xb id).trans HP1.out
          have hQ2 := (hm2.block _ yb id).trans HQ1.out
          have hR2 := (hm2.block _ zb id).trans HR1.out
          clear x0 x1 x2 x3 x4 x5 xf y0 y1 y2 y3 y4 yf z0 z1 z2 z3 z4 z5 zf HG1 db qb rb
          have HP2 := Lib.hid hP2
          have HQ2 := Lib.hid hQ2
          have HR2 := Lib.hid hR2
          have HM2 := Lib.hid (HM1.out.trans hm2 (fun _ _ h => h))
          have HFG2 := Lib.hid (HFG.out.mod hm2)
          obtain ⟨xb', x0, x1, x2, x3, x4, x5, xf⟩ := Disk6.facts hP2
          obtain ⟨yb', y0, y1, y2, y3, y4, yf⟩ := Chg5.facts hQ2
          obtain ⟨zb', z0, z1, z2, z3, z4, z5, zf⟩ := Disk6.facts hR2
          clear hP2 hQ2 hR2 hm2 xb yb zb HP HQ HR HP1 HQ1 HR1 HM1 HFG HM0
          go_wp2_with (go_at_call 68; ((with_reducible refine (HN1.out _).mono ?_); rintro e w' ⟨rfl, rfl⟩))
          refine at_world (P := bodyPost _ _ _ _ _) (fun X => X.heap[w.heap.size + 2]? = some (.cells #[.slice a1 F.length c1, .slice a2 L.length c2, .int .i64 (-1), .slice none 0 0, .int .i64 ch, .bool false] 99 (0, 0)) ∧ Mod (fun k => k = w.heap.size + 2) W2 X) ?_ ?_
          · refine ⟨?_, ?_⟩
            · simp only [heap_setCell, if_true, HR2.out, Option.map_some, setAt_cells, List.setIfInBounds_toArray, List.set_cons_zero, List.set_cons_succ]
            · repeat (first | with_reducible exact Mod.refl _ _ | ((with_reducible refine Mod.setCell ?_ _ _ ?_); rotate_left; (intro _; simp)))
          · rintro X ⟨hRX, hMX⟩
            obtain ⟨zb, z0, z1, z2, z3, z4, z5, zf⟩ := Disk6.facts hRX
            exact bodyPost_ret (v := .tuple #[.agg #[.slice a1 F.length c1, .slice a2 L.length c2, .int .i64 (-1), .slice none 0 0, .int .i64 ch, .bool false], .int .i64 1]) (by simp [results, Try.f111, go_sem, z0, z1, z2, z3, z4, z5]) rfl ⟨rfl, HM2.out.trans hMX (fun q hq e => by omega)⟩
        · obtain rfl : kz = 4 := hkz
          clear h2
          generalize rAt G name = s0 at *
          have hn0 : ¬ n < 0 := by omega
          go_enter Try.func111, Try.ntmps111
          go_wp2_with fail
          clear hW
          refine (HN.out _ HM0.out).mono ?_
          rintro e W1 ⟨v6, rfl, hf1, hm1⟩
          obtain ⟨a6, c6, rfl, _, _⟩ := hf1.cells
          have HG1 := Lib.hid (HGT.out _ _ hf1)
          have hP1 := (hm1.block _ db id).trans HP.out
          have hQ1 := (hm1.block _ qb id).trans HQ.out
          have hR1 := (hm1.block _ rb id).trans HR.out
          clear d0 d1 d2 d3 d4 d5 df q0 q1 q2 q3 q4 qf r0 r1 r2 r3 r4 r5 rf HN HGT
          obtain ⟨xb, x0, x1, x2, x3, x4, x5, xf⟩ := Disk6.facts hP1
          obtain ⟨yb, y0, y1, y2, y3, y4, yf⟩ := Chg5.facts hQ1
          obtain ⟨zb, z0, z1, z2, z3, z4, z5, zf⟩ := Disk6.facts hR1
          have HP1 := Lib.hid hP1
          have HQ1 := Lib.hid hQ1
          have HR1 := Lib.hid hR1
          have HM1 := Lib.hid (HM0.out.trans hm1 (fun _ _ h => h))
          have HFG := Lib.hid hf1
          clear hP1 hQ1 hR1 hm1 hf1
          go_wp2_with fail
          refine HG1.out.mono ?_
          rintro e W2 ⟨rfl, hm2⟩
          have hP2 := (hm2.block _ xb id).trans HP1.out
          have hQ2 := (hm2.block _ yb id).trans HQ1.out
          have hR2 := (hm2.block _ zb id).trans HR1.out
          clear x0 x1 x2 x3 x4 x5 xf y0 y1 y2 y3 y4 yf z0 z1 z2 z3 z4 z5 zf HG1 db qb rb
          have HP2 := Lib.hid hP2
          have HQ2 := Lib.hid hQ2
          have HR2 := Lib.hid hR2
          have HM2 := Lib.hid (HM1.out.trans hm2 (fun _ _ h => h))
          have HFG2 := Lib.hid (HFG.out.mod hm2)
          obtain ⟨xb', x0, x1, x2, x3, x4, x5, xf⟩ := Disk6.facts hP2
          obtain ⟨yb', y0, y1, y2, y3, y4, yf⟩ := Chg5.facts hQ2
          obtain ⟨zb', z0, z1, z2, z3, z4, z5, zf⟩ := Disk6.facts hR2
          clear hP2 hQ2 hR2 hm2 xb yb zb HP HQ HR HP1 HQ1 HR1 HM1 HFG HM0
          go_wp2_with (go_at_call 68; ((with_reducible refine (HN1.out _).mono ?_); rintro e w' ⟨rfl, rfl⟩))
          refine at_world (P := bodyPost _ _ _ _ _) (fun X => X.heap[w.heap.size + 2]? = some (.cells #[.slice a1 F.length c1, .slice a2 L.length c2, .int .i64 (-1), .slice none 0 0, .int .i64 ch, .bool false] 99 (0, 0)) ∧ Mod (fun k => k = w.heap.size + 2) W2 X) ?_ ?_
          · refine ⟨?_, ?_⟩
            · simp only [heap_setCell, if_true, HR2.out, Option.map_some, setAt_cells, List.setIfInBounds_toArray, List.set_cons_zero, List.set_cons_succ]
            · repeat (first | with_reducible exact Mod.refl _ _ | ((with_reducible refine Mod.setCell ?_ _ _ ?_); rotate_left; (intro _; simp)))
          · rintro X ⟨hRX, hMX⟩
            obtain ⟨zb, z0, z1, z2, z3, z4, z5, zf⟩ := Disk6.facts hRX
            exact bodyPost_ret (v := .tuple #[.agg #[.slice a1 F.length c1, .slice a2 L.length c2, .int .i64 (-1), .slice none 0 0, .int .i64 ch, .bool false], .int .i64 1]) (by simp [results, Try.f111, go_sem, z0, z1, z2, z3, z4, z5]) rfl ⟨rfl, HM2.out.trans hMX (fun q hq e => by omega)⟩

end Go.Proofs.Ytgofngilfdnakaa
