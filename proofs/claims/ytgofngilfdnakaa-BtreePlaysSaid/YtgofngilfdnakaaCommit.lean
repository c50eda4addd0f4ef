/-
  This text proves what disk.commit does to a disk in memory: under bounds that the callers meet.
-/
import Derived.Test.YtgofngilfdnakaaDiskD
namespace Go.Proofs.Ytgofngilfdnakaa
open Go Go.RowKit
attribute [local go_sem] over_cell over_frozen lt_over le_over noB loudUpon ByteArray.mk_append_mk ByteArray.extract_mk

set_option maxRecDepth 100000 in
set_option maxHeartbeats 1600000 in
theorem commit_calls (p : Nat) (S : Nat → Prop) (d : Dk) (c : Chg) (N : Nat) (w : World) (h : Disk w p S d) (hN : d.le N) (hb : N ≤ 400000000) (hc : c.ok) :
    Calls Try.prog 89 #[.pointer (some ⟨p, 0, none⟩), .agg #[.int .i64 c.kind, .string ⟨c.name.toArray⟩, .string ⟨c.to.toArray⟩, .string ⟨c.s.toArray⟩, .int .i64 c.n]] w fun e w' => e = .returned (.int .i64 (d.commit c).1) ∧ Mod S w w' ∧ Disk w' p (Since S w w') (d.commit c).2 := by
  obtain ⟨m, rfl, hd, hS⟩ := h
  have hfl := hd.falls
  by_cases hA : ∃ f, d.falls = some f ∧ f.pos = d.changes
  · obtain ⟨f, ho, hpos⟩ := hA
    have hres : d.commit c = (7, ({ d with falls := none } : Dk).crash f.keep f.torn) := by
      unfold Dk.commit
      simp only [ho, hpos, if_true]
    rw [hres]
    clear hres
    have hfl2 := hd.falls
    rw [ho] at hfl2
    obtain ⟨g, cap, cs, hv, hc1, hcm, hg, hcs, q0, q1, q2⟩ := hfl2
    obtain ⟨hb1, c0, c1, c2, c3, c4, c5, c6, hf⟩ := hd.facts
    rw [hv] at c4
    have hgl := lt_heap hg
    have k0 := (cell_heap hg 0).trans q0
    have k1 := (cell_heap hg 1).trans q1
    have k2 := (cell_heap hg 2).trans q2
    have HH := Lib.hid hd
    have HS := Lib.hid hS
    have HN := Lib.hid hN
    have HO := Lib.hid ho
    have hpos' : (f.pos == (d.changes : Int)) = true := by simpa using hpos
    clear hd hS hN ho hc hpos hfl
    go_enter Try.func89, Try.ntmps89
    go_wp2
    obtain ⟨W1, hW1⟩ : ∃ W1, w.alloc (.cells #[.int .i64 c.kind, .string ⟨c.name.toArray⟩, .string ⟨c.to.toArray⟩, .string ⟨c.s.toArray⟩, .int .i64 c.n] 149) = W1 := ⟨_, rfl⟩
    rw [hW1]
    have hm1 : Mod NoB w W1 := by rw [← hW1]; exact (Mod.refl _ _).alloc _
    have HM1 := Lib.hid hm1
    have KK : Hid (w.cell? ⟨g, 0, none⟩ = some (.int .i64 f.pos) ∧ w.cell? ⟨g, 1, none⟩ = some (.int .i64 f.keep) ∧ w.cell? ⟨g, 2, none⟩ = some (.int .i64 f.torn)) := ⟨k0, k1, k2⟩
    clear hm1 hW1 c0 c1 c2 c3 c4 c5 c6 hf k0 k1 k2
    go_loopw [12] (fun i wr => i = .int .i64 0 ∧ Hid (Mod NoB W1 wr)) (fun _ _ => 0)
    case atStart => exact ⟨rfl, Mod.refl _ _⟩
    case round =>
      obtain ⟨rfl, HMW⟩ := hrel
      have hmw := HM1.out.trans HMW.out (fun _ _ h => h)
      obtain ⟨hb2, c0, c1, c2, c3, c4, c5, c6, hf⟩ := (HH.out.mod hmw (fun _ _ => id)).facts
      rw [hv] at c4
      have hgw := Nat.lt_of_lt_of_le hgl hmw.size
      have hgW := (hmw.block g hgl id).trans hg
      have hcw := (HH.out.mod hmw (fun _ _ => id)).cells
      obtain ⟨k0, k1, k2⟩ := KK.out
      rw [← World.cell?_of_block (w := w) (hmw.block g hgl id)] at k0 k1 k2
      have HMW2 := Lib.hid hmw
      have HCW := Lib.hid hcw
      have HGW := Lib.hid hgW
      clear hmw hcw hgW
      go_wp2
      refine wp_region_quiet_all (fun w' => ∃ x, w' = over _ (NoB) x) (by kernel_rfl) (by kernel_rfl) (Cls.drew _ _) ?_
      repeat (go_big_quiet_step (fail))
      refine wpQuiet_nil ?_
      rintro _ ⟨y, rfl⟩
      go_wp2_with fail
      have hX : Mod NoB wr (over (wr.alloc (.cells #[.int .i64 f.pos, .int .i64 f.keep, .int .i64 f.torn] 56)) NoB y) := ((Mod.refl _ _).alloc _).trans (over_mod _ _ _) (fun _ _ h => h)
      have hgX := (hX.block g hgw id).trans HGW.out
      refine (Delete_calls g cap cs _ hgX (by omega) hc1 hcm).mono ?_
      rintro e W ⟨rfl, hmd⟩
      have hgbd : g ≠ m.bd := fun e => HH.out.bd_ne.2.2.2 (by rw [HO.out]; rfl) (by rw [hv, e]; rfl)
      have hclX := (hX.block m.bd hb2 id).trans HCW.out
      have hclW := (hmd.block m.bd (lt_heap hclX) (fun e => hgbd e.symm)).trans hclX
      have hfb : (over (wr.alloc (.cells #[.int .i64 f.pos, .int .i64 f.keep, .int .i64 f.torn] 56)) NoB y).heap[wr.heap.size]? = some (.cells #[.int .i64 f.pos, .int .i64 f.keep, .int .i64 f.torn] 56) := by
        rw [over_heap (by rw [size_alloc]; omega) id]; exact heap_alloc_new _ _
      have hfW := (hmd.block _ (lt_heap hfb) (fun e => by omega)).trans hfb
      have hne : ¬ m.bd = wr.heap.size := by omega
      have hne2 : ¬ wr.heap.size = m.bd := by omega
      have z4 := cell_heap hclW 4
      have zf := frozen_heap hclW
      have zb := lt_heap hclW
      have y1 := cell_heap hfW 1
      have y2 := cell_heap hfW 2
      simp only [DM.cells, List.getElem?_toArray, List.getElem?_cons_zero, List.getElem?_cons_succ] at z4 y1 y2
      have hw3 : Mod (fun k => k = g ∨ k = m.bd) w (W.setCell ⟨m.bd, 4, none⟩ (.slice (some ⟨g, 0, none⟩) 0 cap)) :=
        Mod.setCell (((HMW2.out.trans hX (fun _ _ h => h)).mono (noB_sub (fun k => k = g ∨ k = m.bd) _)).trans hmd (fun _ _ h => .inl h)) _ _ (fun _ => .inr rfl)
      have hg1 : g ≠ m.bn ∧ g ≠ m.bs := by
        have := HH.out.vf_ne (by rw [HO.out]; rfl)
        rw [hv] at this
        exact ⟨fun e => this.1 (by rw [e]; rfl), fun e => this.2 (by rw [e]; rfl)⟩
      have hg2 : ∀ k, m.vl.ownBlock = some k → k ≠ g := fun k hk e => by
        have := HH.out.vl_ne.2.2 (by rw [HO.out]; rfl) k hk
        rw [hv] at this
        exact this (by rw [e]; rfl)
      have hd3 : Disk (W.setCell ⟨m.bd, 4, none⟩ (.slice (some ⟨g, 0, none⟩) 0 cap)) m.bd S { d with falls := none } := by
        refine ⟨{ m with vf := .slice (some ⟨g, 0, none⟩) 0 cap }, rfl, ⟨?_, ?_, ?_, ?_, ?_, HH.out.apart, HH.out.changesOk⟩, ?_⟩
        · simp only [heap_setCell_same, hclW, DM.cells, Option.map_some, setAt_cells, List.setIfInBounds_toArray, List.set_cons_zero, List.set_cons_succ]
        · exact HH.out.now.mod hw3 (fun e => by rcases e with e | e; exact hg1.1 e.symm; exact HH.out.bd_ne.1 e.symm)
        · exact HH.out.sure.mod hw3 (fun e => by rcases e with e | e; exact hg1.2 e.symm; exact HH.out.bd_ne.2.1 e.symm)
        · exact ownsRow_mod HH.out.loose hw3 (fun k hk e => by rcases e with e | e; exact hg2 k hk e; exact HH.out.bd_ne.2.2.1 (by rw [hk, e]))
        · refine ⟨_, cap, rfl, fun k hk => ?_⟩
          simp only [Value.ownBlock, Option.some.injEq] at hk
          exact Nat.lt_of_lt_of_le (by omega) hw3.size
        · intro k hk
          refine HS.out k ?_
          rcases hk with hk | hk | hk | hk | hk
          · exact .inl hk
          · exact .inr (.inl hk)
          · exact .inr (.inr (.inl hk))
          · exact .inr (.inr (.inr (.inl hk)))
          · exact .inr (.inr (.inr (.inr (by rw [hv]; exact hk))))
      have hN3 : ({ d with falls := none } : Dk).le N := ⟨HN.out.now_len, HN.out.now_size, HN.out.sure_len, HN.out.sure_size, HN.out.moves, HN.out.changes⟩
      have HCR := Lib.hid (Crash_calls m.bd S { d with falls := none } f.keep f.torn N _ hd3 hN3 (by omega))
      have HW3 := Lib.hid hw3
      have HGN : Hid (S g) := HS.out g (.inr (.inr (.inr (.inr (by rw [hv]; rfl)))))
      clear hgX hX hmd hclX hclW hfb hfW hw3 hg1 hg2 hd3 hN3 c0 c1 c2 c3 c4 c5 c6 hf k0 k1 k2
      go_wp2_with fail
      refine HCR.out.mono ?_
      rintro e w' ⟨rfl, hmc, hdc⟩
      go_wp2_with fail
      go_ret
      refine ⟨rfl, (HW3.out.mono (fun k _ h => by rcases h with rfl | rfl; exact HGN.out; exact HS.out _ (.inl rfl))).trans hmc (fun _ _ h => h), hdc.mono (fun k _ h => ?_)⟩
      rcases h with h | ⟨h1, h2⟩
      · exact .inl h
      · exact .inr ⟨Nat.le_trans HW3.out.size h1, h2⟩
  · have hres : d.commit c = (0, { d with changes := d.changes + 1, now := d.now.act c, loose := d.loose ++ [c] }) := by
      unfold Dk.commit
      cases ho : d.falls with
      | none => rfl
      | some f =>
        simp only
        rw [if_neg (fun hp => hA ⟨f, ho, hp⟩)]
    rw [hres]
    have hlist : ∃ a L cap, m.vf = .slice a L cap ∧ L ≤ 1 ∧ (1 ≤ L → ∃ g cs pos keep torn, a = some ⟨g, 0, none⟩ ∧ g < w.heap.size ∧ (pos == (d.changes : Int)) = false ∧ w.cell? ⟨g, 0, none⟩ = some (.int .i64 pos) ∧ w.cell? ⟨g, 1, none⟩ = some (.int .i64 keep) ∧ w.cell? ⟨g, 2, none⟩ = some (.int .i64 torn) ∧ w.heap[g]? = some (.cells cs 56 (0, 0))) := by
      cases ho : d.falls with
      | none =>
        rw [ho] at hfl
        obtain ⟨a, cap, hv, _⟩ := hfl
        exact ⟨a, 0, cap, hv, by omega, fun h => by omega⟩
      | some f =>
        rw [ho] at hfl
        obtain ⟨g, cap, cs, hv, _, _, hg, hcs, q0, q1, q2⟩ := hfl
        exact ⟨_, 1, cap, hv, by omega, fun _ => ⟨g, cs, f.pos, f.keep, f.torn, rfl, lt_heap hg, by simpa using fun hp => hA ⟨f, ho, hp⟩, (cell_heap hg 0).trans q0, (cell_heap hg 1).trans q1, (cell_heap hg 2).trans q2, hg⟩⟩
    obtain ⟨a, L, cap, hv, hL, hcell⟩ := hlist
    obtain ⟨hb1, c0, c1, c2, c3, c4, c5, c6, hf⟩ := hd.facts
    rw [hv] at c4
    have HH := Lib.hid hd
    have HS := Lib.hid hS
    have HC := Lib.hid hcell
    have HN := Lib.hid hN
    have HCO := Lib.hid hc
    have hch := hN.changes
    clear hd hS hcell hres hA hfl hN hc
    go_enter Try.func89, Try.ntmps89
    go_wp2
    obtain ⟨W1, hW1⟩ : ∃ W1, w.alloc (.cells #[.int .i64 c.kind, .string ⟨c.name.toArray⟩, .string ⟨c.to.toArray⟩, .string ⟨c.s.toArray⟩, .int .i64 c.n] 149) = W1 := ⟨_, rfl⟩
    rw [hW1]
    have hm1 : Mod NoB w W1 := by rw [← hW1]; exact (Mod.refl _ _).alloc _
    have hbox : W1.heap[w.heap.size]? = some (.cells #[.int .i64 c.kind, .string ⟨c.name.toArray⟩, .string ⟨c.to.toArray⟩, .string ⟨c.s.toArray⟩, .int .i64 c.n] 149) := by rw [← hW1]; exact heap_alloc_new _ _
    have HM1 := Lib.hid hm1
    have HBOX := Lib.hid hbox
    clear hm1 hbox hW1 c0 c1 c2 c3 c4 c5 c6 hf
    go_loopw [12] (fun i wr => ∃ (k : Nat), k ≤ L ∧ i = .int .i64 k ∧ Hid (Mod NoB W1 wr)) (fun i _ => L - (intOf i).toNat)
    case atStart => exact ⟨0, by omega, rfl, Mod.refl _ _⟩
    case round =>
      obtain ⟨k, hk, rfl, HMW⟩ := hrel
      have hmw := HM1.out.trans HMW.out (fun _ _ h => h)
      obtain ⟨hb2, c0, c1, c2, c3, c4, c5, c6, hf⟩ := (HH.out.mod hmw (fun _ _ => id)).facts
      by_cases hlt : k < L
      · obtain rfl : k = 0 := by omega
        obtain ⟨g, cs, pos, keep, torn, rfl, hg, hpos, k0, k1, k2, hgb⟩ := HC.out (by omega)
        have hgw := Nat.lt_of_lt_of_le hg hmw.size
        rw [← World.cell?_of_block (w := w) (hmw.block g hg id)] at k0 k1 k2
        clear HC hmw
        go_wp2
        refine wp_region_quiet_all (fun w' => ∃ x, w' = over _ (NoB) x) (by kernel_rfl) (by kernel_rfl) (Cls.drew _ _) ?_
        repeat (go_big_quiet_step (fail))
        refine wpQuiet_nil ?_
        rintro _ ⟨y, rfl⟩
        go_wp2
        go_roundw
        case rel =>
          refine ⟨1, by omega, by go_num, ?_⟩
          exact ((HMW.out.alloc _).trans (over_mod _ _ _) (fun _ _ h => h))
        case measure => simp [intOf]; omega
      · have hbw := (HMW.out.block w.heap.size (lt_heap HBOX.out) id).trans HBOX.out
        have bb := lt_heap hbw
        have b0 := cell_heap hbw 0
        have b1 := cell_heap hbw 1
        have b2 := cell_heap hbw 2
        have b3 := cell_heap hbw 3
        have b4 := cell_heap hbw 4
        simp only [List.getElem?_toArray, List.getElem?_cons_zero, List.getElem?_cons_succ] at b0 b1 b2 b3 b4
        have hne : ¬ m.bd = w.heap.size := by omega
        have hne2 : ¬ w.heap.size = m.bd := by omega
        have hcw := (HH.out.mod hmw (fun _ _ => id)).cells
        have hdo := fun y => do_calls m.bn d.now c (over (wr.setCell ⟨m.bd, 5, none⟩ (.int .i64 (d.changes + 1))) NoB y) ((HH.out.now.mod hmw id).mod (((Mod.setCell (Mod.refl (fun k => k = m.bd) wr) _ _ (fun _ => rfl))).trans (over_mod _ NoB y) (noB_sub _ _)) (fun e => HH.out.bd_ne.1 e.symm)) (by have := HN.out.now_len; omega) (by have := HN.out.now_size; omega) HCO.out
        have HMW2 := Lib.hid hmw
        have HCW := Lib.hid hcw
        have HBW := Lib.hid hbw
        have HDO := Lib.hid hdo
        clear HC hmw hbw hcw hdo
        go_wp2
        refine wp_region_quiet_tail 5 (fun w' => ∃ x, w' = over _ (NoB) x) (by kernel_rfl) (by kernel_rfl) (Cls.drew _ _) ?_
        simp only [List.take_succ_cons, List.take_zero, List.drop_succ_cons, List.drop_zero]
        repeat (go_big_quiet_step (fail))
        refine wpQuiet_nil ?_
        rintro _ ⟨y, rfl⟩
        go_wp2_with fail
        refine (HDO.out y).mono ?_
        rintro e W ⟨rfl, hmd, hnow⟩
        have hX : Mod (fun k => k = m.bd) wr (over (wr.setCell ⟨m.bd, 5, none⟩ (.int .i64 (d.changes + 1))) NoB y) := (Mod.setCell (Mod.refl (fun k => k = m.bd) wr) _ _ (fun _ => rfl)).trans (over_mod _ NoB y) (noB_sub _ _)
        have hclX : (over (wr.setCell ⟨m.bd, 5, none⟩ (.int .i64 (d.changes + 1))) NoB y).heap[m.bd]? = some (.cells (m.cells { d with changes := d.changes + 1 }) 136 (0, 0)) := by
          rw [over_heap (by rw [size_setCell]; exact hb2) id, heap_setCell_same, HCW.out]
          simp only [DM.cells, Option.map_some, setAt_cells, List.setIfInBounds_toArray, List.set_cons_zero, List.set_cons_succ]
          rfl
        have hclW := (hmd.block m.bd (lt_heap hclX) (fun e => HH.out.bd_ne.1 e)).trans hclX
        have hwW : Mod (fun k => k = m.bd ∨ k = m.bn) w W := ((HMW2.out.mono (noB_sub (fun k => k = m.bd ∨ k = m.bn) _)).trans hX (fun _ _ h => .inl h)).trans hmd (fun _ _ h => .inr h)
        have hbn := HH.out.now.lt
        have hboxW : W.heap[w.heap.size]? = some (.cells #[.int .i64 c.kind, .string ⟨c.name.toArray⟩, .string ⟨c.to.toArray⟩, .string ⟨c.s.toArray⟩, .int .i64 c.n] 149) := by
          rw [hmd.block _ (Nat.lt_of_lt_of_le bb hX.size) (fun e => by omega), hX.block _ bb hne2]
          exact HBW.out
        obtain ⟨x1, x2, x3⟩ := HH.out.vl_ne
        have how0 : (W.drew.alloc (.cells #[.int .i64 c.kind, .string ⟨c.name.toArray⟩, .string ⟨c.to.toArray⟩, .string ⟨c.s.toArray⟩, .int .i64 c.n] 149)).ownsRow 0 149 5 m.vl d.loose.length (d.loose.flatMap Chg.cells) :=
          ownsRow_mod HH.out.loose ((hwW.drew).alloc _) (fun k hk e => by rcases e with rfl | rfl; exact HH.out.bd_ne.2.2.1 hk; exact x1 hk)
        obtain ⟨i, z, hi, hz, h5, h64, hzs⟩ := infoChange
        obtain ⟨v', W2, hrun, how, hgr, _, hblk⟩ := run_append_own_at (P := Try.prog) (W.drew.alloc (.cells #[.int .i64 c.kind, .string ⟨c.name.toArray⟩, .string ⟨c.to.toArray⟩, .string ⟨c.s.toArray⟩, .int .i64 c.n] 149)) 0 134 134 149 i z 5 64 Try.underlying134 hi hz h5 h64 hzs (by omega) _ _ _ how0
          ⟨W.heap.size, 0, none⟩ 1 1 c.cells rfl (fun j u hj => by rw [Addr.add_mid, Nat.zero_add, cell_heap (show (W.drew.alloc (.cells #[.int .i64 c.kind, .string ⟨c.name.toArray⟩, .string ⟨c.to.toArray⟩, .string ⟨c.s.toArray⟩, .int .i64 c.n] 149)).heap[W.heap.size]? = _ from heap_alloc_new W.drew _)]; simpa [Chg.cells] using hj) (by simp [Value.oneCell', Chg.cells]) (by have := HN.out.sure_len; rw [maxLen_eq]; omega) (by have := HN.out.sure_len; omega) (Nat.zero_le _)
        obtain ⟨g', cap', rfl⟩ := ownsRow_succ how
        have HFIN : Hid _ := HH.out.grow hwW hclW hnow HCO.out how hgr (by rw [size_alloc] at hblk; exact hblk) HS.out
        have z0 := cell_heap hclW 0
        have z2 := cell_heap hclW 2
        have zf := frozen_heap hclW
        have zb := lt_heap hclW
        have hclW2 : W2.heap[m.bd]? = some (.cells (m.cells { d with changes := d.changes + 1 }) 136 (0, 0)) := by
          rw [hgr.block m.bd (by rw [size_alloc]; exact Nat.lt_of_lt_of_le zb (Nat.le_succ _)) (fun e => HH.out.bd_ne.2.2.1 e.symm), heap_alloc_lt _ _ _ (by rw [heap_drew]; exact zb), heap_drew]
          exact hclW
        have v2 := cell_heap hclW2 2
        have vf := frozen_heap hclW2
        have vb := lt_heap hclW2
        have y0 := cell_heap hboxW 0
        have y1 := cell_heap hboxW 1
        have y2 := cell_heap hboxW 2
        have y3 := cell_heap hboxW 3
        have y4 := cell_heap hboxW 4
        simp only [DM.cells, List.getElem?_toArray, List.getElem?_cons_zero, List.getElem?_cons_succ] at z0 z2 v2 y0 y1 y2 y3 y4
        clear hclX hclW hclW2 hwW hboxW how0 how hgr hblk hX hmd hnow b0 b1 b2 b3 b4 c0 c1 c2 c3 c4 c5 c6 hf hi hz h5 h64 hzs
        go_wp2_with fail
        refine wp_region_staged [⟨0, 2, false⟩, ⟨0, 2, false⟩, ⟨0, 2, false⟩, ⟨0, 2, false⟩, ⟨0, 1, false⟩, ⟨0, 0, false⟩, ⟨0, 0, true⟩, ⟨1, 1, true⟩, ⟨2, 3, false⟩, ⟨2, 2, false⟩, ⟨2, 2, true⟩] 3 (clsOf ((fun W : World => [fun w' => ∃ _ : Unit, w' = W.drew, fun w' => ∃ _ : Unit, w' = W.drew.alloc (.cells #[.int .i64 c.kind, .string ⟨c.name.toArray⟩, .string ⟨c.to.toArray⟩, .string ⟨c.s.toArray⟩, .int .i64 c.n] 149), fun w' => ∃ _ : Unit, w' = W2, fun w' => ∃ _ : Unit, w' = W2.setCell ⟨m.bd, 2, none⟩ (.slice (some ⟨g', 0, none⟩) (d.loose.length + 1) cap')]) _)) (by kernel_rfl) (by kernel_rfl) (by first | exact Cls.drew _ _ | exact ⟨(), rfl⟩) ?_
        refine wpSt_three rfl rfl rfl ⟨_, rfl, by simp⟩ ?_
        go_big_quiet_step (fail)
        refine wpQuiet_nil ?_
        go_big_quiet_step (fail)
        refine wpQuiet_nil ?_
        refine ⟨rfl, ?_⟩
        go_big_quiet_step (fail)
        refine wpQuiet_nil ?_
        refine ⟨rfl, ?_⟩
        refine wpSt_three rfl rfl rfl ⟨_, rfl, by simp⟩ ?_
        go_big_quiet_step (fail)
        refine wpQuiet_nil ?_
        go_big_quiet_step (fail)
        refine wpQuiet_nil ?_
        refine ⟨rfl, ?_⟩
        go_big_quiet_step (fail)
        refine wpQuiet_nil ?_
        refine ⟨rfl, ?_⟩
        refine wpSt_three rfl rfl rfl ⟨_, rfl, by simp⟩ ?_
        go_big_quiet_step (fail)
        refine wpQuiet_nil ?_
        go_big_quiet_step (fail)
        refine wpQuiet_nil ?_
        refine ⟨rfl, ?_⟩
        go_big_quiet_step (fail)
        refine wpQuiet_nil ?_
        refine ⟨rfl, ?_⟩
        refine wpSt_three rfl rfl rfl ⟨_, rfl, by simp⟩ ?_
        go_big_quiet_step (fail)
        refine wpQuiet_nil ?_
        go_big_quiet_step (fail)
        refine wpQuiet_nil ?_
        refine ⟨rfl, ?_⟩
        go_big_quiet_step (fail)
        refine wpQuiet_nil ?_
        refine ⟨rfl, ?_⟩
        refine wpSt_two rfl rfl ⟨_, rfl, by simp⟩ ?_
        go_big_quiet_step (fail)
        refine wpQuiet_nil ?_
        go_big_quiet_step (fail)
        refine wpQuiet_nil ?_
        refine ⟨rfl, ?_⟩
        refine wpSt_same rfl ?_
        go_big_quiet_step (fail)
        refine wpQuiet_nil ?_
        apply wpSt_loud _ rfl rfl rfl
        · (rintro _ ⟨x, rfl⟩; unfold loudAt; go_simp; first | done | rfl | exact ⟨rfl, rfl⟩ | exact ⟨rfl, ⟨(), rfl⟩⟩)
        simp only [Act.put, List.setIfInBounds_toArray, List.set_cons_succ, List.set_cons_zero]
        apply wpSt_loud _ rfl rfl rfl
        · (rintro _ ⟨x, rfl⟩; exact loudAt_append _ _ _ rfl rfl rfl (by assumption) (by first | exact ⟨(), rfl⟩ | rfl))
        simp only [Act.put, List.setIfInBounds_toArray, List.set_cons_succ, List.set_cons_zero]
        refine wpSt_two rfl rfl ⟨_, rfl, by simp⟩ ?_
        go_big_quiet_step (fail)
        refine wpQuiet_nil ?_
        go_big_quiet_step (fail)
        refine wpQuiet_nil ?_
        refine ⟨rfl, ?_⟩
        refine wpSt_same rfl ?_
        go_big_quiet_step (fail)
        refine wpQuiet_nil ?_
        refine wpSt_store rfl rfl rfl rfl ?_ ?_
        · (rintro _ ⟨x, rfl⟩; unfold loudAt; go_simp; first | done | exact ⟨_, rfl⟩)
        refine wpSt_nil ?_
        rintro _ ⟨_, rfl⟩
        go_wp2
        go_ret
        exact ⟨rfl, HFIN.out⟩

end Go.Proofs.Ytgofngilfdnakaa
