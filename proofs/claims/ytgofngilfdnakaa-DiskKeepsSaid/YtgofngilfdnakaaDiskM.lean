/-
  This text proves what Clone and Loose of a disk do: under bounds that the callers meet.
-/
import Derived.Test.YtgofngilfdnakaaApp
import Derived.Deep.Cut
import Derived.Deep.CutRange
import Derived.Deep.RegionWith
import Derived.Lib.Hide
namespace Go.Proofs.Ytgofngilfdnakaa
open Go Go.RowKit
attribute [local go_sem] over_cell over_frozen lt_over le_over noB loudUpon ByteArray.mk_append_mk ByteArray.extract_mk

theorem filesCloneM_calls (b : Nat) (F : Files) (w X : World) (h : FilesAt w b F) (hm : Mod NoB w X) :
    Calls Try.prog 90 #[.map (some b)] X fun e w' => ∃ n, e = .returned (.map (some n)) ∧ Mod NoB X w' ∧ X.heap.size ≤ n ∧ n < w'.heap.size ∧ FilesAt w' n F := by
  obtain ⟨es, cl, hb, hcl⟩ := (h.mod hm id).clone
  refine (mapClone_calls b es cl X hb).mono ?_
  rintro e w' ⟨rfl, rfl⟩
  exact ⟨_, rfl, (Mod.refl _ _).alloc _, Nat.le_refl _, by rw [size_alloc]; omega, hcl _ _ (heap_alloc_new _ _)⟩

theorem elemC : Elem Try.prog 134 149 5 64 := elem_of Try.underlying134 (z := .agg #[.int .i64 0, .string ⟨#[]⟩, .string ⟨#[]⟩, .string ⟨#[]⟩, .int .i64 0]) (by kernel_rfl) rfl (by decide)
theorem chg_one (l : List Chg) : ∀ u ∈ l.flatMap Chg.cells, u.oneCell' = true := fun u hu => by
  obtain ⟨c, _, hu⟩ := List.mem_flatMap.1 hu
  unfold Chg.cells at hu
  simp only [List.mem_cons, List.not_mem_nil, or_false] at hu
  rcases hu with rfl | rfl | rfl | rfl | rfl <;> rfl
set_option maxRecDepth 100000 in
set_option maxHeartbeats 800000 in
theorem changeCloneM_calls (v : Value) (base : Nat) (l : List Chg) (w : World) (h : w.ownsRow base 149 5 v l.length (l.flatMap Chg.cells)) (hl : l.length ≤ 100000) :
    Calls Try.prog 97 #[v] w fun e w' => ∃ v', e = .returned v' ∧ Mod NoB w w' ∧ w'.ownsRow w.heap.size 149 5 v' l.length (l.flatMap Chg.cells) := by
  rcases h.2 with ⟨hv, hn⟩ | ⟨g, cap, cur, hv, _, hg, _, hcm, hsz, _⟩
  · subst hv
    have hl0 : l = [] := List.eq_nil_of_length_eq_zero hn
    subst hl0
    have hq := fun w => Lib.run_eql_slice_nil (P := Try.prog) w 134 _ none 0 0 0 0 Try.underlying134
    clear h hn
    go_enter Try.func97, Try.ntmps97
    go_wp2
    go_ret
    exact ⟨_, rfl, Mod.refl _ _, rfl, .inl ⟨rfl, rfl⟩⟩
  · subst hv
    have hq := fun w => Lib.run_eql_slice_nil (P := Try.prog) w 134 _ (some ⟨g, 0, none⟩) l.length cap 0 0 Try.underlying134
    have m1 : Mod NoB w (w.alloc (.cells #[] 149)) := (Mod.refl _ _).alloc _
    obtain ⟨v', W', hrun, how, hgr, hblk⟩ := own_append (base := w.heap.size) 134 elemC (row_empty (heap_alloc_new _ _) (Nat.le_refl _)) (row_part (ownsRow_mod h m1 (fun _ _ => id))) (chg_one l) (by omega) (by decide) m1.size
    have M : Mod NoB w W' := m1.grown hgr (fun q hq hl => by simp only [Value.ownBlock, Option.some.injEq] at hq; omega)
    simp only [Nat.zero_add, List.nil_append] at how
    have HO := Lib.hid how
    have HM := Lib.hid M
    clear h hg hsz how M m1 hgr hblk
    go_enter Try.func97, Try.ntmps97
    go_wp2_with (at_builtin; refine wpList_append_run rfl _ _ _ rfl rfl rfl hrun ?_)
    go_ret
    exact ⟨_, rfl, HM.out, HO.out⟩

theorem ownsM_shape {w : World} {base e k n : Nat} {v : Value} {xs : List Value} (h : w.ownsRow base e k v n xs) : ∃ a l c, v = .slice a l c := by
  obtain ⟨_, ⟨e, _⟩ | ⟨g, cap, cur, e, _⟩⟩ := h
  · exact ⟨_, _, _, e⟩
  · exact ⟨_, _, _, e⟩

theorem DiskCellsM.facts {w : World} {D : Nat} {x0 x1 x2 x3 x4 x5 x6 : Value} (h : w.heap[D]? = some (.cells #[x0, x1, x2, x3, x4, x5, x6] 136 (0, 0))) : D < w.heap.size ∧ w.cell? ⟨D, 0, none⟩ = some x0 ∧ w.cell? ⟨D, 1, none⟩ = some x1 ∧ w.cell? ⟨D, 2, none⟩ = some x2 ∧ w.cell? ⟨D, 3, none⟩ = some x3 ∧
    w.cell? ⟨D, 4, none⟩ = some x4 ∧ w.cell? ⟨D, 5, none⟩ = some x5 ∧ w.cell? ⟨D, 6, none⟩ = some x6 ∧ ∀ i, w.frozen? ⟨D, i, none⟩ = false :=
  ⟨lt_heap h, (cell_heap h 0).trans rfl, (cell_heap h 1).trans rfl, (cell_heap h 2).trans rfl, (cell_heap h 3).trans rfl, (cell_heap h 4).trans rfl, (cell_heap h 5).trans rfl, (cell_heap h 6).trans rfl, frozen_heap h⟩

set_option maxRecDepth 100000 in
set_option maxHeartbeats 1600000 in
theorem CloneM_calls (p : Nat) (S : Nat → Prop) (d : Dk) (w : World) (h : Disk w p S d) (hl : d.loose.length ≤ 100000) :
    Calls Try.prog 34 #[.pointer (some ⟨p, 0, none⟩)] w fun e w' => ∃ q, e = .returned (.pointer (some ⟨q, 0, none⟩)) ∧ Mod NoB w w' ∧ Disk w' q (Since NoB w w') d := by
  obtain ⟨m, rfl, hd, hS⟩ := h
  obtain ⟨hb, c0, c1, c2, c3, c4, c5, c6, hf⟩ := hd.facts
  have hlo := hd.loose
  have hsl : ∃ a n c, m.vl = .slice a n c := by
    obtain ⟨_, ⟨e, _⟩ | ⟨g, cap, cur, e, _⟩⟩ := hlo
    · exact ⟨_, _, _, e⟩
    · exact ⟨_, _, _, e⟩
  obtain ⟨al, nl, cl, hvl⟩ := hsl
  obtain ⟨af, nf, cf, hvf⟩ := hd.falls.shape
  rw [hvl] at c2
  rw [hvf] at c4
  have HN := Lib.hid (fun X (hm : Mod NoB w X) => filesCloneM_calls m.bn d.now w X hd.now hm)
  have HS := Lib.hid (fun X (hm : Mod NoB w X) => filesCloneM_calls m.bs d.sure w X hd.sure hm)
  have HL : Hid (∀ X, Mod NoB w X → Calls Try.prog 97 #[.slice al nl cl] X fun e w' => ∃ v', e = .returned v' ∧ Mod NoB X w' ∧ w'.ownsRow X.heap.size 149 5 v' d.loose.length (d.loose.flatMap Chg.cells)) := fun X hm => by
    rw [← hvl]
    exact changeCloneM_calls _ 0 d.loose X (ownsRow_mod hlo hm (fun _ _ => id)) hl
  have HF : Hid (∀ X, Mod NoB w X → Calls Try.prog 98 #[.slice af nf cf] X fun e w' => ∃ v', e = .returned v' ∧ Mod NoB X w' ∧ FallsAt w' v' d.falls ∧ ∀ k, v'.ownBlock = some k → X.heap.size ≤ k) := fun X hm => by
    rw [← hvf]
    exact fallClone_calls _ _ X (hd.falls.mod hm (fun _ _ _ => id))
  have HAP := Lib.hid hd.apart
  have HOK := Lib.hid hd.changesOk
  have hbn := hd.now.lt
  have hbs := hd.sure.lt
  clear hlo hd hS hvl hvf
  go_enter Try.func34, Try.ntmps34
  go_upto_region 4 with fail
  have hc1 := heap_alloc_new w (.cells #[.map (some m.bn), .map (some m.bs), .slice al nl cl, .int .i64 d.room, .slice af nf cf, .int .i64 d.changes, .bool d.down] 136)
  have hm1 : Mod NoB w (w.alloc (.cells #[.map (some m.bn), .map (some m.bs), .slice al nl cl, .int .i64 d.room, .slice af nf cf, .int .i64 d.changes, .bool d.down] 136)) := (Mod.refl _ _).alloc _
  have hz1 := lt_heap hc1
  generalize hq : w.heap.size = q at *
  have hq' : w.heap.size ≤ q := by omega
  have hbw : m.bd < w.heap.size := by omega
  clear hq
  generalize w.alloc (.cells #[.map (some m.bn), .map (some m.bs), .slice al nl cl, .int .i64 d.room, .slice af nf cf, .int .i64 d.changes, .bool d.down] 136) = W1 at *
  have hb' : ¬ m.bd = q := by omega
  have hb'' : ¬ q = m.bd := by omega
  have HC1 := Lib.hid hc1
  have HM1 := Lib.hid hm1
  clear hc1 hm1
  go_cut [] from 9 to 32 (fun wx => ∃ n1 n2, Hid (Mod NoB w wx ∧ wx.heap[q]? = some (.cells #[.map (some n1), .map (some n2), .slice al nl cl, .int .i64 d.room, .slice af nf cf, .int .i64 d.changes, .bool d.down] 136 (0, 0)) ∧ FilesAt wx n1 d.now ∧ FilesAt wx n2 d.sure ∧ n1 ≠ n2 ∧ q < n1 ∧ q < n2))
  case first =>
    have k0 := (World.cell?_of_block (w := w) (HM1.out.block m.bd hbw id)).trans c0
    have k1 := (World.cell?_of_block (w := w) (HM1.out.block m.bd hbw id)).trans c1
    have kb := Nat.lt_of_lt_of_le hbw HM1.out.size
    go_region_with (first
      | (go_at_call_of 90 m.bn; refine (HN.out _ ?_).mono ?_; exact HM1.out.drew; rintro e w5 ⟨n1, rfl, hm5, hn5, hl5, hF5⟩; have hm5' : Mod NoB w w5 := HM1.out.drew.trans hm5 (fun _ _ h => h); have s1 := (World.cell?_of_block (w := w) (hm5'.block m.bd hbw id)).trans c1; have sb := Nat.lt_of_lt_of_le hbw hm5'.size; have hc5 := (hm5.block q hz1 id).trans HC1.out; have hz5 := lt_heap hc5)
      | (go_at_call_of 90 m.bs; refine (HS.out _ ?_).mono ?_; exact hm5'; rintro e w6 ⟨n2, rfl, hm6, hn6, hl6, hF6⟩; have hm6' : Mod NoB w w6 := hm5'.trans hm6 (fun _ _ h => h); have hc6 := (hm6.block q hz5 id).trans hc5; obtain ⟨zb, z0, z1, z2, z3, z4, z5, z6, zf⟩ := DiskCellsM.facts hc6; have t1 := (World.cell?_of_block (w := w) (hm6'.block m.bd hbw id)).trans c1; have tb := Nat.lt_of_lt_of_le hbw hm6'.size))
    all_goals (
      have hy : Mod (fun k => k = q) w6 ((w6.setCell ⟨q, 0, none⟩ (.map (some n1))).setCell ⟨q, 1, none⟩ (.map (some n2))) := Mod.setCell (Mod.setCell (Mod.refl (fun k => k = q) w6) _ _ (fun _ => rfl)) _ _ (fun _ => rfl)
      have hn5' : q < n1 := by simp only [heap_drew] at hn5; omega
      have hy0 : Mod NoB w ((w6.setCell ⟨q, 0, none⟩ (.map (some n1))).setCell ⟨q, 1, none⟩ (.map (some n2))) := Mod.setCell (Mod.setCell hm6' _ _ (fun (h : q < w.heap.size) => absurd h (by omega))) _ _ (fun (h : q < w.heap.size) => absurd h (by omega))
      have HY : Hid (Mod NoB w ((w6.setCell ⟨q, 0, none⟩ (.map (some n1))).setCell ⟨q, 1, none⟩ (.map (some n2))) ∧ ((w6.setCell ⟨q, 0, none⟩ (.map (some n1))).setCell ⟨q, 1, none⟩ (.map (some n2))).heap[q]? = some (.cells #[.map (some n1), .map (some n2), .slice al nl cl, .int .i64 d.room, .slice af nf cf, .int .i64 d.changes, .bool d.down] 136 (0, 0)) ∧ FilesAt ((w6.setCell ⟨q, 0, none⟩ (.map (some n1))).setCell ⟨q, 1, none⟩ (.map (some n2))) n1 d.now ∧ FilesAt ((w6.setCell ⟨q, 0, none⟩ (.map (some n1))).setCell ⟨q, 1, none⟩ (.map (some n2))) n2 d.sure ∧ n1 ≠ n2 ∧ q < n1 ∧ q < n2) :=
        ⟨hy0, by simp only [heap_setCell_same, hc6, Option.map_some, setAt_cells, List.setIfInBounds_toArray, List.set_cons_zero, List.set_cons_succ], (hF5.mod hm6 id).mod hy (fun (e : n1 = q) => by omega), hF6.mod hy (fun (e : n2 = q) => by omega), by omega, hn5', by omega⟩
      clear hy hy0 hF5 hF6 hm6 hm5 hm5' hm6'
      go_wp2_with fail
      go_meet
      exact ⟨n1, n2, HY.out⟩)
  case rest =>
    obtain ⟨n1, n2, HY⟩ := hcut
    obtain ⟨hm2, hc2, hF1, hF2, hne, hq1, hq2⟩ := HY.out
    have HM2 := Lib.hid hm2
    have HC2 := Lib.hid hc2
    have HF1 := Lib.hid hF1
    have HF2 := Lib.hid hF2
    have hz2 := lt_heap hc2
    have k2 := (World.cell?_of_block (w := w) (hm2.block m.bd hbw id)).trans c2
    have k4 := (World.cell?_of_block (w := w) (hm2.block m.bd hbw id)).trans c4
    have kb := Nat.lt_of_lt_of_le hbw hm2.size
    clear hm2 hc2 hF1 hF2 HY
    go_upto_region 5 with fail
    go_cut [] from 9 to 32 (fun wx => Hid (Mod NoB w wx ∧ Disk wx q (Since NoB w wx) d))
    case first =>
      go_region_with (first
        | (go_at_call 97; refine (HL.out _ ?_).mono ?_; exact HM2.out.drew; rintro e w5 ⟨v5, rfl, hm5, hr5⟩; have hm5' : Mod NoB w w5 := HM2.out.drew.trans hm5 (fun _ _ h => h); have s4 := (World.cell?_of_block (w := w) (hm5'.block m.bd hbw id)).trans c4; have sb := Nat.lt_of_lt_of_le hbw hm5'.size; have hc5 := (hm5.block q hz2 id).trans HC2.out; have hz5 := lt_heap hc5; obtain ⟨a5, l5, p5, hv5⟩ := ownsM_shape hr5; subst hv5)
        | (go_at_call 98; refine (HF.out _ ?_).mono ?_; exact hm5'; rintro e w6 ⟨v6, rfl, hm6, hf6, hk6⟩; have hm6' : Mod NoB w w6 := hm5'.trans hm6 (fun _ _ h => h); have hc6 := (hm6.block q hz5 id).trans hc5; obtain ⟨zb, z0, z1, z2, z3, z4, z5, z6, zf⟩ := DiskCellsM.facts hc6; have t4 := (World.cell?_of_block (w := w) (hm6'.block m.bd hbw id)).trans c4; have tb := Nat.lt_of_lt_of_le hbw hm6'.size; obtain ⟨a6, l6, p6, hv6⟩ := hf6.shape; subst hv6))
      all_goals (
        have hy : Mod (fun k => k = q) w6 ((w6.setCell ⟨q, 2, none⟩ (.slice a5 l5 p5)).setCell ⟨q, 4, none⟩ (.slice a6 l6 p6)) := Mod.setCell (Mod.setCell (Mod.refl (fun k => k = q) w6) _ _ (fun _ => rfl)) _ _ (fun _ => rfl)
        have hy0 : Mod NoB w ((w6.setCell ⟨q, 2, none⟩ (.slice a5 l5 p5)).setCell ⟨q, 4, none⟩ (.slice a6 l6 p6)) := Mod.setCell (Mod.setCell hm6' _ _ (fun (h : q < w.heap.size) => absurd h (by omega))) _ _ (fun (h : q < w.heap.size) => absurd h (by omega))
        have hs5 := hm5.size
        have hz6 := hm6.size
        simp only [heap_drew] at hs5 hr5
        have hr5' : w6.ownsRow wc.heap.size 149 5 (.slice a5 l5 p5) d.loose.length (d.loose.flatMap Chg.cells) := ownsRow_mod hr5 hm6 (fun _ _ => id)
        have hDK : DiskAt ((w6.setCell ⟨q, 2, none⟩ (.slice a5 l5 p5)).setCell ⟨q, 4, none⟩ (.slice a6 l6 p6)) ⟨q, n1, n2, .slice a5 l5 p5, .slice a6 l6 p6⟩ d :=
          ⟨by simp only [heap_setCell_same, hc6, Option.map_some, setAt_cells, List.setIfInBounds_toArray, List.set_cons_zero, List.set_cons_succ]; rfl,
            ((HF1.out.mod ((Mod.refl _ _).drew.trans hm5 (fun _ _ h => h)) id).mod hm6 id).mod hy (fun (e : n1 = q) => by omega), ((HF2.out.mod ((Mod.refl _ _).drew.trans hm5 (fun _ _ h => h)) id).mod hm6 id).mod hy (fun (e : n2 = q) => by omega),
            row_base (ownsRow_mod hr5' hy (fun k hk (e : k = q) => by have := (hr5'.lt k hk).1; omega)) (Nat.zero_le _), hf6.mod hy (fun _ k hk (e : k = q) => by have := hk6 k hk; omega), hne, HOK.out⟩
        have HY : Hid (Mod NoB w ((w6.setCell ⟨q, 2, none⟩ (.slice a5 l5 p5)).setCell ⟨q, 4, none⟩ (.slice a6 l6 p6)) ∧ Disk ((w6.setCell ⟨q, 2, none⟩ (.slice a5 l5 p5)).setCell ⟨q, 4, none⟩ (.slice a6 l6 p6)) q (Since NoB w ((w6.setCell ⟨q, 2, none⟩ (.slice a5 l5 p5)).setCell ⟨q, 4, none⟩ (.slice a6 l6 p6))) d) :=
          ⟨hy0, _, rfl, hDK, fun k hk => by
            refine .inr ⟨?_, hDK.foot_lt hk⟩
            rcases hk with rfl | rfl | rfl | hk | hk
            · exact hq'
            · omega
            · omega
            · have := (hr5'.lt k hk).1; have := HM2.out.size; omega
            · have := hk6 k hk; have := hm5'.size; omega⟩
        clear hy hy0 hr5 hr5' hf6 hDK
        go_wp2_with fail
        go_meet
        exact HY)
    case rest =>
      have HY := hcut
      go_wp2_with fail
      go_ret
      exact ⟨q, rfl, HY.out⟩

set_option maxHeartbeats 400000 in
theorem Loose_calls (p : Nat) (S : Nat → Prop) (d : Dk) (w : World) (h : Disk w p S d) :
    Calls Try.prog 71 #[.pointer (some ⟨p, 0, none⟩)] w fun e w' => e = .returned (.int .i64 d.loose.length) ∧ w = w' := by
  obtain ⟨m, rfl, hd, hS⟩ := h
  obtain ⟨hb, c0, c1, c2, c3, c4, c5, c6, hf⟩ := hd.facts
  obtain ⟨a, c, hv, _⟩ := row_shape hd.loose
  rw [hv] at c2
  clear hd hS hv
  go_enter Try.func71, Try.ntmps71
  go_wp2
  go_ret
  exact ⟨rfl, rfl⟩

end Go.Proofs.Ytgofngilfdnakaa
