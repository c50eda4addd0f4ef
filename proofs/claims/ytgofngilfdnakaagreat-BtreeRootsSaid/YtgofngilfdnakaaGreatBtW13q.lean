/-
  This text proves what the package btree's put does at a leaf that does not have the key; under bounds on lengths.
-/
import Derived.Test.YtgofngilfdnakaaGreatBtW12q
import Derived.Test.YtgofngilfdnakaaGreatFront

namespace Go.Proofs.YtgofngilfdnakaaGreat
open Go Go.RowKit
set_option linter.unusedSimpArgs false
attribute [local go_sem] over_cell over_frozen lt_over le_over noB loudUpon ByteArray.mk_append_mk ByteArray.extract_mk

/-- What an Insert leaves, as a value and a world. -/
def InsU (base e : Nat) (v : Value) (n : Nat) (zs : List Value) (w : World) (u : Value) (w' : World) : Prop :=
  ∃ a c, u = .slice a (n + 1) c ∧ w'.ownsRow base e 1 (.slice a (n + 1) c) (n + 1) zs ∧ Mod (fun k => v.ownBlock = some k) w w' ∧ Anew w v (.slice a (n + 1) c)
theorem InsPost.fn {base e n : Nat} {v : Value} {zs : List Value} {w : World} {en : Ending} {w' : World} (h : InsPost base e v n zs w en w') : ∃ u, en = .returned u ∧ InsU base e v n zs w u w' := by
  obtain ⟨a, c, h1, h2, h3, h4⟩ := h
  exact ⟨_, h1, a, c, rfl, h2, h3, h4⟩
theorem insL_length {α : Type} (l : List α) (i : Nat) (x : α) : (insL l i x).length = l.length + 1 := by
  unfold insL
  simp only [List.length_append, List.length_cons, List.length_take, List.length_drop]
  omega

theorem calls_at {P : Program} {f : FuncId} {vs : Array Value} {R : Ending → World → Prop} {w : World} (I : World → Prop) (h : I w) (k : ∀ X, I X → Calls P f vs X R) : Calls P f vs w R := k w h

set_option maxRecDepth 100000 in
set_option maxHeartbeats 12800000 in
theorem put_new (t l p k m : Nat) (g : Lg) (root : Int) (q : Pg) (key v : Str) (lo : Str) (hi : Option Str) (M : Files) (w : World) (h : TL w t l p g root) (hq : rdG g k q) (hr : RepP (rdG g) 0 q lo hi M) (h1 : 1 ≤ q.keys.length) (h8 : q.keys.length ≤ 8) (hm4 : m ≤ 4) (hm : m ≤ q.keys.length)
    (hk : keyOk key) (hv : v.length ≤ 8192) (ha : above lo key) (hb : below hi key) (hs : Small g 1) (his : kIs q.keys key = false) :
    Calls Tryz.prog 105 #[.pointer (some ⟨t, 0, none⟩), .int .i64 k, .string ⟨key.toArray⟩, .string ⟨v.toArray⟩] w (Kept w t l p root g 140200 m 0 lo hi (M.put key v)) := by
  have hs0 : Small g 0 := by unfold Small at *; omega
  have hput := putLeaf_rep (v := v) hr hk hv ha hb
  have hpl : q.putLeaf key v = { q with keys := insL q.keys (kFind q.keys key) key, vals := insL q.vals (kFind q.keys key) v } := by unfold Pg.putLeaf; rw [if_neg (by rw [his]; decide)]
  rw [hpl] at hput
  have hfl := kFind_le q.keys key
  have hlf : q.leaf = true := hr.1
  have hvl : q.vals.length = q.keys.length := by rw [hr.2.2.1, hr.2.2.2.1]; simp
  have hpg := hq.1
  obtain ⟨W1, hW1⟩ : ∃ W1, w.alloc (.cells #[.int .i64 0, .int .i64 0, .string ⟨#[]⟩, .bool false] 175) = W1 := ⟨_, rfl⟩
  have hm1 : Mod NoB w W1 := by rw [← hW1]; exact (Mod.refl _ _).alloc _
  have hR1 : W1.heap[w.heap.size]? = some (.cells #[.int .i64 0, .int .i64 0, .string ⟨#[]⟩, .bool false] 175 (0, 0)) := by rw [← hW1]; exact heap_alloc_new _ _
  have HTL : Hid (t < w.heap.size) := lt_heap h.tree
  have HLL : Hid (l < w.heap.size) := lt_heap h.log
  have HT := Lib.hid (fun X (hX : Mod NoB w X) => h.mod hX)
  have HLD := Lib.hid (load_calls t l p g root k q W1 (h.mod hm1) hq hs0)
  have HKP := Lib.hid (fun X kv vv cv base (hT : TL X t l p g root) (ho : PgOwn X base kv vv cv (insL q.keys (kFind q.keys key) key) (insL q.vals (kFind q.keys key) v) q.kids) => keep_calls t l p g root { q with keys := insL q.keys (kFind q.keys key) key, vals := insL q.vals (kFind q.keys key) v } kv vv cv m 0 base lo hi (M.put key v) X hT ho hput.1 (by simp only [insL_length]; omega) (by simp only [insL_length]; omega) hm4 (by simp only [insL_length]; omega) hs)
  have HM1 := Lib.hid hm1
  have HR1 := Lib.hid hR1
  have HPG := Lib.hid hpg
  unfold pageV at HLD HKP
  simp only at HKP
  rw [hlf] at HLD HKP
  generalize hfi : kFind q.keys key = i at *
  have HFI := Lib.hid hfi
  have HIS := Lib.hid his
  have HQ := Lib.hid hlf
  have hfv : i ≤ q.vals.length := by omega
  have hv9 : q.vals.length ≤ 8 := by omega
  clear hvl
  clear hput hpl hq hr h hm1 hR1 hpg hfi his hlf hs hs0
  go_enter Tryz.func105, Tryz.ntmps105
  go_wp2_with fail
  clear hW1
  refine HLD.out.mono ?_
  rintro e W2 ⟨kv, vv, cv, rfl, ho2, hm2⟩
  obtain ⟨⟨a1, c1, rfl⟩, ⟨a2, c2, rfl⟩, a3, c3, rfl⟩ := ho2.shapes
  have hM2 := HM1.out.trans hm2 (fun _ _ h => h)
  have hR2 := (hm2.block _ (lt_heap HR1.out) id).trans HR1.out
  obtain ⟨W3, hW3⟩ : ∃ W3, W2.alloc (.cells #[.bool true, .slice a1 q.keys.length c1, .slice a2 q.vals.length c2, .slice a3 q.kids.length c3] 130) = W3 := ⟨_, rfl⟩
  have hm3 : Mod NoB W2 W3 := by rw [← hW3]; exact (Mod.refl _ _).alloc _
  have hP3 : W3.heap[W2.heap.size]? = some (.cells #[.bool true, .slice a1 q.keys.length c1, .slice a2 q.vals.length c2, .slice a3 q.kids.length c3] 130 (0, 0)) := by rw [← hW3]; exact heap_alloc_new _ _
  have hR3 := (hm3.block _ (lt_heap hR2) id).trans hR2
  have HM3 := Lib.hid (hM2.trans hm3 (fun _ _ h => h))
  have HO3 := Lib.hid (ho2.mod hm3)
  have hfc := Find_calls q _ _ _ key W3 HO3.out.in1 HPG.out
  unfold pageV at hfc
  rw [HQ.out, HIS.out, HFI.out] at hfc
  have HFC := Lib.hid hfc
  obtain ⟨pb, p0, p1, p2, p3, pf⟩ := Page4.facts hP3
  have HP3 := Lib.hid hP3
  have HR3 := Lib.hid hR3
  have hsz1 := hm2.size
  have hrw := lt_heap HR1.out
  clear hm2 ho2 hM2 hR2 hm3 hP3 hR3 hfc HLD HM1 HR1
  go_wp2_with fail
  clear hW3
  refine HFC.out.mono ?_
  rintro e W4 ⟨rfl, hm4'⟩
  have hP4 := (hm4'.block _ pb id).trans HP3.out
  have HR4 := Lib.hid ((hm4'.block _ (lt_heap HR3.out) id).trans HR3.out)
  have HM4 := Lib.hid (HM3.out.trans hm4' (fun _ _ h => h))
  have HO4 := Lib.hid (HO3.out.mod hm4')
  clear hm4' HFC HP3 HR3 HM3 HO3 p0 p1 p2 p3 pf pb
  obtain ⟨pb, p0, p1, p2, p3, pf⟩ := Page4.facts hP4
  have HP4 := Lib.hid hP4
  clear hP4
  generalize W2.heap.size = P at *
  have hb14 := HM4.out.size
  have hbW4 : W1.heap.size ≤ W4.heap.size := by have := lt_heap HR4.out; omega
  have HKB : Hid (∀ j, (Value.slice a1 q.keys.length c1).ownBlock = some j → j < W4.heap.size ∧ j ≠ P ∧ W1.heap.size ≤ j) := fun j hj => ⟨(HO4.out.k.lt j hj).2, fun e => absurd (own_type HO4.out.k hj (e ▸ HP4.out)) (by decide), (HO4.out.k.lt j hj).1⟩
  have HI1 : Hid (∀ X vb, Mod NoB W4 X → X.heap[vb]? = some (.cells #[txt key] 9 (0, 0)) → W4.heap.size ≤ vb → Calls Tryz.prog 142 #[.slice a1 q.keys.length c1, .int .i64 i, .slice (some ⟨vb, 0, none⟩) 1 1] X fun e w' => ∃ u, e = .returned u ∧ InsU W1.heap.size 9 (.slice a1 q.keys.length c1) q.keys.length ((insL q.keys i key).map txt) X u w') := fun X vb hX hx hvb =>
    (InsertS_calls key (own_of_mod HO4.out.k hX (fun _ _ => id)) hfl (by omega) (Nat.le_trans hbW4 hX.size) hx (fun e => by have := (HKB.out vb e).1; omega)).mono fun e w' h => h.fn
  have HI2 : Hid (∀ X vb, Mod (fun j => (Value.slice a1 q.keys.length c1).ownBlock = some j) W4 X → X.heap[vb]? = some (.cells #[txt v] 9 (0, 0)) → W4.heap.size ≤ vb → Calls Tryz.prog 142 #[.slice a2 q.vals.length c2, .int .i64 i, .slice (some ⟨vb, 0, none⟩) 1 1] X fun e w' => ∃ u, e = .returned u ∧ InsU W1.heap.size 9 (.slice a2 q.vals.length c2) q.vals.length ((insL q.vals i v).map txt) X u w') := fun X vb hX hx hvb =>
    (InsertS_calls v (own_of_mod HO4.out.v hX (fun j hj e => HO4.out.apart j e hj)) hfv (by omega) (Nat.le_trans hbW4 hX.size) hx (fun e => by have := (HO4.out.v.lt vb e).2; omega)).mono fun e w' h => h.fn
  go_wp2_with fail
  go_upto_region 8 with fail
  refine wp_region_front (fun w' => w'.cell? ⟨P, 1, none⟩ = some (.slice a1 q.keys.length c1) ∧ w'.cell? ⟨P, 2, none⟩ = some (.slice a2 q.vals.length c2)) (notIn [13, 15]) (by kernel_rfl) ?_ (fun hHeld => ?_)
  · go_keep
  refine tkT 0 (v := ?_) ?_ hHeld ?_
  rotate_left
  · (intro _; simp only [ga, gz]; go_simp; try with_reducible rfl)
  simp only [Act.put, ga, gz, sb, sz, ss]
  refine tkL 1 (v := ?_) ?_ hHeld ?_
  rotate_left
  · (intro _ h; (try dsimp only at h); simp only [ga, gs, gz]; go_simp; try with_reducible rfl)
  simp only [Act.put, ga, gs, gz, sb, sz, ss]
  refine tkT 2 (v := ?_) ?_ hHeld ?_
  rotate_left
  · (intro _; simp only [ga, gs, gz]; go_simp; try with_reducible rfl)
  simp only [Act.put, ga, gs, gz, sb, sz, ss]
  refine tkT 3 (v := ?_) ?_ hHeld ?_
  rotate_left
  · (intro _; simp only [ga, gs, gz]; go_simp; try with_reducible rfl)
  simp only [Act.put, ga, gs, gz, sb, sz, ss]
  refine tkT 6 (v := ?_) ?_ hHeld ?_
  rotate_left
  · (intro _; simp only [ga, gs, gz]; go_simp; try with_reducible rfl)
  simp only [Act.put, ga, gs, gz, sb, sz, ss]
  refine tkL 7 (v := ?_) ?_ hHeld ?_
  rotate_left
  · (intro _ h; (try dsimp only at h); simp only [ga, gs, gz]; go_simp; try with_reducible rfl)
  simp only [Act.put, ga, gs, gz, sb, sz, ss]
  refine tkT 8 (v := ?_) ?_ hHeld ?_
  rotate_left
  · (intro _; simp only [ga, gs, gz]; go_simp; try with_reducible rfl)
  simp only [Act.put, ga, gs, gz, sb, sz, ss]
  refine tkT 9 (v := ?_) ?_ hHeld ?_
  rotate_left
  · (intro _; simp only [ga, gs, gz]; go_simp; try with_reducible rfl)
  simp only [Act.put, ga, gs, gz, sb, sz, ss]
  refine allF [4, 10] (mc (stF ?_) (mc (stF ?_) mn))
  · intro K hK
    dsimp only [ga, gs, gz]
    go_simp
    refine hK _ _ (show_held ?_ (fun hHeld => ?_))
    · go_keep
    clear hK K
    refine allF [5, 10] (mc (stF ?_) (mc (stF ?_) mn))
    · intro K hK
      dsimp only [ga, gs, gz]
      rw [if_pos (by rfl)]
      refine wp_fn 142 (fun _ _ => by kernel_rfl) #[.tmp 41, .tmp 42, .tmp 44] #[77, 3, 77] rfl (vs := #[.slice a1 q.keys.length c1, .int .i64 i, .slice (some ⟨_, 0, none⟩) 1 1]) rfl (HI1.out _ _ QM.out (by first | exact hat0 | exact hat1) (by (first | omega | (simp only [size_alloc, heap_drew]; omega)))) ?_
      rintro u X5 ⟨a5, c5, rfl, ho5, hm5, hb5⟩
      have hM5 : Mod (fun j => (Value.slice a1 q.keys.length c1).ownBlock = some j) W4 X5 := ((show Mod NoB W4 _ from QM.out).mono (noB_sub _ _)).trans hm5 (fun _ _ h => h)
      have hP5 := (hM5.block P pb (fun e => (HKB.out P e).2.1 rfl)).trans HP4.out
      obtain ⟨qb, q0, q1, q2, q3, qf⟩ := Page4.facts hP5
      have HO5 := Lib.hid ((HO4.out.mod (show Mod NoB W4 _ from QM.out)).addK (kv' := .slice a5 (q.keys.length + 1) c5) (ks' := insL q.keys i key) (by rw [insL_length]; exact ho5) hm5 hb5)
      have HMM5 := Lib.hid (HM4.out.trans hM5 (fun j hj e => by have := (HKB.out j e).2.2; omega))
      have HR5 := Lib.hid ((hM5.block _ (lt_heap HR4.out) (fun e => by have := (HKB.out _ e).2.2; omega)).trans HR4.out)
      have hsz5 := hm5.size
      simp only [size_alloc, heap_drew] at hsz5
      refine hK _ _ (show_held ?_ (fun hHeld => ?_))
      · go_keep
      clear hK K
      simp only [Act.put, List.setIfInBounds_toArray, List.set_cons_zero, List.set_cons_succ]
      refine tkT 12 (v := ?_) ?_ hHeld ?_
      rotate_left
      · (intro _; simp only [ga, gs, gz]; go_simp; try with_reducible rfl)
      simp only [Act.put, ga, gs, gz, sb, sz, ss]
      refine allF [10] (mc (stF ?_) mn)
      intro K hK
      dsimp only [ga, gs, gz]
      go_simp
      refine hK _ _ (show_held ?_ (fun hHeld => ?_))
      · go_keep
      clear hK K
      refine allF [11] (mc (stF ?_) mn)
      intro K hK
      dsimp only [ga, gs, gz]
      rw [if_pos (by rfl)]
      refine wp_fn 142 (fun _ _ => by kernel_rfl) #[.tmp 47, .tmp 48, .tmp 50] #[77, 3, 77] rfl (vs := #[.slice a2 q.vals.length c2, .int .i64 i, .slice (some ⟨_, 0, none⟩) 1 1]) rfl (HI2.out _ _ (hM5.trans (show Mod NoB X5 _ from QM.out) (fun _ _ h => h.elim)) (by first | exact (by first | exact hat0 | exact hat1) | exact (hm5.block _ (by (first | omega | (simp only [size_alloc, heap_drew]; omega))) (fun e => by have := (HKB.out _ e).1; omega)).trans (by first | exact hat0 | exact hat1)) (by (first | omega | (simp only [size_alloc, heap_drew]; omega)))) ?_
      rintro u X6 ⟨a6, c6, rfl, ho6, hm6, hb6⟩
      have hM6 : Mod (fun j => (Value.slice a2 q.vals.length c2).ownBlock = some j) X5 X6 := ((show Mod NoB X5 _ from QM.out).mono (noB_sub _ _)).trans hm6 (fun _ _ h => h)
      have hP6 := (hM6.block P qb (fun e => absurd (own_type HO4.out.v e HP4.out) (by decide))).trans hP5
      obtain ⟨tb, t0, t1, t2, t3, tf⟩ := Page4.facts hP6
      have HO6 := Lib.hid ((HO5.out.mod (show Mod NoB X5 _ from QM.out)).addV (vv' := .slice a6 (q.vals.length + 1) c6) (vs' := insL q.vals i v) (by rw [insL_length]; exact ho6) hm6 hb6)
      have HMM6 := Lib.hid (HMM5.out.trans hM6 (fun j hj e => by have := (HO5.out.v.lt j e).1; omega))
      have HR6 := Lib.hid ((hM6.block _ (lt_heap HR5.out) (fun e => by have := (HO5.out.v.lt _ e).1; omega)).trans HR5.out)
      have HP6 := Lib.hid hP6
      clear ho5 ho6 hm5 hm6 hb5 hb6 hP5 hP6 hM5 hM6 HI1 HI2 HO5 HMM5 HR5 HO4 HM4 HR4 HP4 HKB
      refine hK _ _ (show_held ?_ (fun hHeld => ?_))
      · go_keep
      clear hK K
      simp only [Act.put, List.setIfInBounds_toArray, List.set_cons_zero, List.set_cons_succ]
      refine allF [13] (mc (stN ?_) mn)
      intro K hK
      dsimp only [ga, gs, gz]
      go_simp
      refine hK _ _ ?_
      clear hK K
      refine tkN 14 (v := ?_) ?_ ?_
      rotate_left
      · (intro _; simp only [ga, gs, gz]; go_simp; try with_reducible rfl)
      simp only [Act.put, ga, gs, gz, sb, sz, ss]
      refine allN [15] (mc (stK ?_) mn)
      intro K hK
      dsimp only [ga, gs, gz]
      go_simp
      refine hK _ _ ?_
      clear hK K
      refine wpAny_done (by kernel_rfl) ?_ _
      go_wp2_with fail
      refine calls_at (fun X => Mod (fun j => j = P) X6 X) (by (repeat (first | with_reducible exact Mod.refl _ _ | with_reducible refine Mod.drew ?_ | ((with_reducible refine Mod.setCell ?_ _ _ ?_); rotate_left; (intro _; rfl))))) ?_
      intro Y hmY
      have HOY := Lib.hid (HO6.out.keep hmY (fun q' _ e _ => ⟨_, _, _, e ▸ HP6.out, by decide, by decide⟩))
      have HRY := Lib.hid ((hmY.block _ (lt_heap HR6.out) (fun e => by omega)).trans HR6.out)
      have hmmY := HMM6.out.trans hmY (fun j hj e => by omega)
      have HMY : Hid (Mod (fun k => k = l) w Y) := hmmY.mono (noB_sub _ _)
      have HTY := Lib.hid (HT.out _ hmmY)
      clear hmY hmmY HO6 HR6 HMM6 HP6 p0 p1 p2 p3 pf pb q0 q1 q2 q3 qf qb t0 t1 t2 t3 tf tb
      have hkp := HKP.out Y (.slice a5 (q.keys.length + 1) c5) (.slice a6 (q.vals.length + 1) c6) (.slice a3 q.kids.length c3) _ HTY.out HOY.out
      refine hkp.mono ?_
      clear hkp
      rintro e W6 ⟨a', b', kk, two, g', rfl, hm6, ht6, hg6, hn6, hs6⟩
      have hR6 := (hm6.block _ (lt_heap HRY.out) (by have := HLL.out; omega)).trans HRY.out
      obtain ⟨rb, r0, r1, r2, r3, rf⟩ := Split4.facts hR6
      have HR6 := Lib.hid hR6
      have HM6 := Lib.hid hm6
      have HT6 := Lib.hid ht6
      have HG6 := Lib.hid hg6
      have HN6 := Lib.hid hn6
      have HS6 := Lib.hid hs6
      have HMY6 := Lib.hid HMY.out
      clear hR6 hm6 ht6 hg6 hn6 hs6
      go_wp2_with fail
      refine at_world6 (P := bodyPost _ _ _ _ _) (fun X => X.heap[w.heap.size]? = some (.cells #[.int .i64 a', .int .i64 b', .string ⟨kk.toArray⟩, .bool two] 175 (0, 0)) ∧ Mod (fun k => k = w.heap.size) W6 X) ?_ ?_
      · refine ⟨?_, ?_⟩
        · simp only [heap_setCell, if_true, HR6.out, Option.map_some, setAt_cells, List.setIfInBounds_toArray, List.set_cons_zero, List.set_cons_succ]
        · repeat (first | with_reducible exact Mod.refl _ _ | ((with_reducible refine Mod.setCell ?_ _ _ ?_); rotate_left; (intro _; rfl)))
      · rintro X ⟨hDX, hMX⟩
        obtain ⟨xb, x0, x1, x2, x3, xf⟩ := Split4.facts hDX
        refine bodyPost_ret (v := .tuple #[splitV a' b' kk two, .int .i64 0]) (by simp [results, Tryz.f105, go_sem, x0, x1, x2, x3]) rfl ?_
        exact Kept.shut HMY6.out HM6.out HT6.out (Nat.le_refl _) HTL.out HLL.out hMX HG6.out HN6.out HS6.out
    · intro K hK
      dsimp only [ga, gs, gz]
      go_simp
      refine hK _ _ (show_held ?_ (fun hHeld => ?_))
      · go_keep
      clear hK K
      refine allF [5] (mc (stF ?_) mn)
      intro K hK
      dsimp only [ga, gs, gz]
      rw [if_pos (by rfl)]
      refine wp_fn 142 (fun _ _ => by kernel_rfl) #[.tmp 41, .tmp 42, .tmp 44] #[77, 3, 77] rfl (vs := #[.slice a1 q.keys.length c1, .int .i64 i, .slice (some ⟨_, 0, none⟩) 1 1]) rfl (HI1.out _ _ QM.out (by first | exact hat0 | exact hat1) (by (first | omega | (simp only [size_alloc, heap_drew]; omega)))) ?_
      rintro u X5 ⟨a5, c5, rfl, ho5, hm5, hb5⟩
      have hM5 : Mod (fun j => (Value.slice a1 q.keys.length c1).ownBlock = some j) W4 X5 := ((show Mod NoB W4 _ from QM.out).mono (noB_sub _ _)).trans hm5 (fun _ _ h => h)
      have hP5 := (hM5.block P pb (fun e => (HKB.out P e).2.1 rfl)).trans HP4.out
      obtain ⟨qb, q0, q1, q2, q3, qf⟩ := Page4.facts hP5
      have HO5 := Lib.hid ((HO4.out.mod (show Mod NoB W4 _ from QM.out)).addK (kv' := .slice a5 (q.keys.length + 1) c5) (ks' := insL q.keys i key) (by rw [insL_length]; exact ho5) hm5 hb5)
      have HMM5 := Lib.hid (HM4.out.trans hM5 (fun j hj e => by have := (HKB.out j e).2.2; omega))
      have HR5 := Lib.hid ((hM5.block _ (lt_heap HR4.out) (fun e => by have := (HKB.out _ e).2.2; omega)).trans HR4.out)
      have hsz5 := hm5.size
      simp only [size_alloc, heap_drew] at hsz5
      refine hK _ _ (show_held ?_ (fun hHeld => ?_))
      · go_keep
      clear hK K
      simp only [Act.put, List.setIfInBounds_toArray, List.set_cons_zero, List.set_cons_succ]
      refine tkT 12 (v := ?_) ?_ hHeld ?_
      rotate_left
      · (intro _; simp only [ga, gs, gz]; go_simp; try with_reducible rfl)
      simp only [Act.put, ga, gs, gz, sb, sz, ss]
      refine allF [11] (mc (stF ?_) mn)
      intro K hK
      dsimp only [ga, gs, gz]
      rw [if_pos (by rfl)]
      refine wp_fn 142 (fun _ _ => by kernel_rfl) #[.tmp 47, .tmp 48, .tmp 50] #[77, 3, 77] rfl (vs := #[.slice a2 q.vals.length c2, .int .i64 i, .slice (some ⟨_, 0, none⟩) 1 1]) rfl (HI2.out _ _ (hM5.trans (show Mod NoB X5 _ from QM.out) (fun _ _ h => h.elim)) (by first | exact (by first | exact hat0 | exact hat1) | exact (hm5.block _ (by (first | omega | (simp only [size_alloc, heap_drew]; omega))) (fun e => by have := (HKB.out _ e).1; omega)).trans (by first | exact hat0 | exact hat1)) (by (first | omega | (simp only [size_alloc, heap_drew]; omega)))) ?_
      rintro u X6 ⟨a6, c6, rfl, ho6, hm6, hb6⟩
      have hM6 : Mod (fun j => (Value.slice a2 q.vals.length c2).ownBlock = some j) X5 X6 := ((show Mod NoB X5 _ from QM.out).mono (noB_sub _ _)).trans hm6 (fun _ _ h => h)
      have hP6 := (hM6.block P qb (fun e => absurd (own_type HO4.out.v e HP4.out) (by decide))).trans hP5
      obtain ⟨tb, t0, t1, t2, t3, tf⟩ := Page4.facts hP6
      have HO6 := Lib.hid ((HO5.out.mod (show Mod NoB X5 _ from QM.out)).addV (vv' := .slice a6 (q.vals.length + 1) c6) (vs' := insL q.vals i v) (by rw [insL_length]; exact ho6) hm6 hb6)
      have HMM6 := Lib.hid (HMM5.out.trans hM6 (fun j hj e => by have := (HO5.out.v.lt j e).1; omega))
      have HR6 := Lib.hid ((hM6.block _ (lt_heap HR5.out) (fun e => by have := (HO5.out.v.lt _ e).1; omega)).trans HR5.out)
      have HP6 := Lib.hid hP6
      clear ho5 ho6 hm5 hm6 hb5 hb6 hP5 hP6 hM5 hM6 HI1 HI2 HO5 HMM5 HR5 HO4 HM4 HR4 HP4 HKB
      refine hK _ _ (show_held ?_ (fun hHeld => ?_))
      · go_keep
      clear hK K
      simp only [Act.put, List.setIfInBounds_toArray, List.set_cons_zero, List.set_cons_succ]
      refine allF [13] (mc (stN ?_) mn)
      intro K hK
      dsimp only [ga, gs, gz]
      go_simp
      refine hK _ _ ?_
      clear hK K
      refine tkN 14 (v := ?_) ?_ ?_
      rotate_left
      · (intro _; simp only [ga, gs, gz]; go_simp; try with_reducible rfl)
      simp only [Act.put, ga, gs, gz, sb, sz, ss]
      refine allN [15] (mc (stK ?_) mn)
      intro K hK
      dsimp only [ga, gs, gz]
      go_simp
      refine hK _ _ ?_
      clear hK K
      refine wpAny_done (by kernel_rfl) ?_ _
      go_wp2_with fail
      refine calls_at (fun X => Mod (fun j => j = P) X6 X) (by (repeat (first | with_reducible exact Mod.refl _ _ | with_reducible refine Mod.drew ?_ | ((with_reducible refine Mod.setCell ?_ _ _ ?_); rotate_left; (intro _; rfl))))) ?_
      intro Y hmY
      have HOY := Lib.hid (HO6.out.keep hmY (fun q' _ e _ => ⟨_, _, _, e ▸ HP6.out, by decide, by decide⟩))
      have HRY := Lib.hid ((hmY.block _ (lt_heap HR6.out) (fun e => by omega)).trans HR6.out)
      have hmmY := HMM6.out.trans hmY (fun j hj e => by omega)
      have HMY : Hid (Mod (fun k => k = l) w Y) := hmmY.mono (noB_sub _ _)
      have HTY := Lib.hid (HT.out _ hmmY)
      clear hmY hmmY HO6 HR6 HMM6 HP6 p0 p1 p2 p3 pf pb q0 q1 q2 q3 qf qb t0 t1 t2 t3 tf tb
      have hkp := HKP.out Y (.slice a5 (q.keys.length + 1) c5) (.slice a6 (q.vals.length + 1) c6) (.slice a3 q.kids.length c3) _ HTY.out HOY.out
      refine hkp.mono ?_
      clear hkp
      rintro e W6 ⟨a', b', kk, two, g', rfl, hm6, ht6, hg6, hn6, hs6⟩
      have hR6 := (hm6.block _ (lt_heap HRY.out) (by have := HLL.out; omega)).trans HRY.out
      obtain ⟨rb, r0, r1, r2, r3, rf⟩ := Split4.facts hR6
      have HR6 := Lib.hid hR6
      have HM6 := Lib.hid hm6
      have HT6 := Lib.hid ht6
      have HG6 := Lib.hid hg6
      have HN6 := Lib.hid hn6
      have HS6 := Lib.hid hs6
      have HMY6 := Lib.hid HMY.out
      clear hR6 hm6 ht6 hg6 hn6 hs6
      go_wp2_with fail
      refine at_world6 (P := bodyPost _ _ _ _ _) (fun X => X.heap[w.heap.size]? = some (.cells #[.int .i64 a', .int .i64 b', .string ⟨kk.toArray⟩, .bool two] 175 (0, 0)) ∧ Mod (fun k => k = w.heap.size) W6 X) ?_ ?_
      · refine ⟨?_, ?_⟩
        · simp only [heap_setCell, if_true, HR6.out, Option.map_some, setAt_cells, List.setIfInBounds_toArray, List.set_cons_zero, List.set_cons_succ]
        · repeat (first | with_reducible exact Mod.refl _ _ | ((with_reducible refine Mod.setCell ?_ _ _ ?_); rotate_left; (intro _; rfl)))
      · rintro X ⟨hDX, hMX⟩
        obtain ⟨xb, x0, x1, x2, x3, xf⟩ := Split4.facts hDX
        refine bodyPost_ret (v := .tuple #[splitV a' b' kk two, .int .i64 0]) (by simp [results, Tryz.f105, go_sem, x0, x1, x2, x3]) rfl ?_
        exact Kept.shut HMY6.out HM6.out HT6.out (Nat.le_refl _) HTL.out HLL.out hMX HG6.out HN6.out HS6.out
  · intro K hK
    dsimp only [ga, gs, gz]
    go_simp
    refine hK _ _ (show_held ?_ (fun hHeld => ?_))
    · go_keep
    clear hK K
    refine allF [4] (mc (stF ?_) mn)
    intro K hK
    dsimp only [ga, gs, gz]
    go_simp
    refine hK _ _ (show_held ?_ (fun hHeld => ?_))
    · go_keep
    clear hK K
    refine allF [5] (mc (stF ?_) mn)
    intro K hK
    dsimp only [ga, gs, gz]
    rw [if_pos (by rfl)]
    refine wp_fn 142 (fun _ _ => by kernel_rfl) #[.tmp 41, .tmp 42, .tmp 44] #[77, 3, 77] rfl (vs := #[.slice a1 q.keys.length c1, .int .i64 i, .slice (some ⟨_, 0, none⟩) 1 1]) rfl (HI1.out _ _ QM.out (by first | exact hat0 | exact hat1) (by (first | omega | (simp only [size_alloc, heap_drew]; omega)))) ?_
    rintro u X5 ⟨a5, c5, rfl, ho5, hm5, hb5⟩
    have hM5 : Mod (fun j => (Value.slice a1 q.keys.length c1).ownBlock = some j) W4 X5 := ((show Mod NoB W4 _ from QM.out).mono (noB_sub _ _)).trans hm5 (fun _ _ h => h)
    have hP5 := (hM5.block P pb (fun e => (HKB.out P e).2.1 rfl)).trans HP4.out
    obtain ⟨qb, q0, q1, q2, q3, qf⟩ := Page4.facts hP5
    have HO5 := Lib.hid ((HO4.out.mod (show Mod NoB W4 _ from QM.out)).addK (kv' := .slice a5 (q.keys.length + 1) c5) (ks' := insL q.keys i key) (by rw [insL_length]; exact ho5) hm5 hb5)
    have HMM5 := Lib.hid (HM4.out.trans hM5 (fun j hj e => by have := (HKB.out j e).2.2; omega))
    have HR5 := Lib.hid ((hM5.block _ (lt_heap HR4.out) (fun e => by have := (HKB.out _ e).2.2; omega)).trans HR4.out)
    have hsz5 := hm5.size
    simp only [size_alloc, heap_drew] at hsz5
    refine hK _ _ (show_held ?_ (fun hHeld => ?_))
    · go_keep
    clear hK K
    simp only [Act.put, List.setIfInBounds_toArray, List.set_cons_zero, List.set_cons_succ]
    refine tkT 12 (v := ?_) ?_ hHeld ?_
    rotate_left
    · (intro _; simp only [ga, gs, gz]; go_simp; try with_reducible rfl)
    simp only [Act.put, ga, gs, gz, sb, sz, ss]
    refine allF [11] (mc (stF ?_) mn)
    intro K hK
    dsimp only [ga, gs, gz]
    rw [if_pos (by rfl)]
    refine wp_fn 142 (fun _ _ => by kernel_rfl) #[.tmp 47, .tmp 48, .tmp 50] #[77, 3, 77] rfl (vs := #[.slice a2 q.vals.length c2, .int .i64 i, .slice (some ⟨_, 0, none⟩) 1 1]) rfl (HI2.out _ _ (hM5.trans (show Mod NoB X5 _ from QM.out) (fun _ _ h => h.elim)) (by first | exact (by first | exact hat0 | exact hat1) | exact (hm5.block _ (by (first | omega | (simp only [size_alloc, heap_drew]; omega))) (fun e => by have := (HKB.out _ e).1; omega)).trans (by first | exact hat0 | exact hat1)) (by (first | omega | (simp only [size_alloc, heap_drew]; omega)))) ?_
    rintro u X6 ⟨a6, c6, rfl, ho6, hm6, hb6⟩
    have hM6 : Mod (fun j => (Value.slice a2 q.vals.length c2).ownBlock = some j) X5 X6 := ((show Mod NoB X5 _ from QM.out).mono (noB_sub _ _)).trans hm6 (fun _ _ h => h)
    have hP6 := (hM6.block P qb (fun e => absurd (own_type HO4.out.v e HP4.out) (by decide))).trans hP5
    obtain ⟨tb, t0, t1, t2, t3, tf⟩ := Page4.facts hP6
    have HO6 := Lib.hid ((HO5.out.mod (show Mod NoB X5 _ from QM.out)).addV (vv' := .slice a6 (q.vals.length + 1) c6) (vs' := insL q.vals i v) (by rw [insL_length]; exact ho6) hm6 hb6)
    have HMM6 := Lib.hid (HMM5.out.trans hM6 (fun j hj e => by have := (HO5.out.v.lt j e).1; omega))
    have HR6 := Lib.hid ((hM6.block _ (lt_heap HR5.out) (fun e => by have := (HO5.out.v.lt _ e).1; omega)).trans HR5.out)
    have HP6 := Lib.hid hP6
    clear ho5 ho6 hm5 hm6 hb5 hb6 hP5 hP6 hM5 hM6 HI1 HI2 HO5 HMM5 HR5 HO4 HM4 HR4 HP4 HKB
    refine hK _ _ (show_held ?_ (fun hHeld => ?_))
    · go_keep
    clear hK K
    simp only [Act.put, List.setIfInBounds_toArray, List.set_cons_zero, List.set_cons_succ]
    refine allF [13] (mc (stN ?_) mn)
    intro K hK
    dsimp only [ga, gs, gz]
    go_simp
    refine hK _ _ ?_
    clear hK K
    refine tkN 14 (v := ?_) ?_ ?_
    rotate_left
    · (intro _; simp only [ga, gs, gz]; go_simp; try with_reducible rfl)
    simp only [Act.put, ga, gs, gz, sb, sz, ss]
    refine allN [15] (mc (stK ?_) mn)
    intro K hK
    dsimp only [ga, gs, gz]
    go_simp
    refine hK _ _ ?_
    clear hK K
    refine wpAny_done (by kernel_rfl) ?_ _
    go_wp2_with fail
    refine calls_at (fun X => Mod (fun j => j = P) X6 X) (by (repeat (first | with_reducible exact Mod.refl _ _ | with_reducible refine Mod.drew ?_ | ((with_reducible refine Mod.setCell ?_ _ _ ?_); rotate_left; (intro _; rfl))))) ?_
    intro Y hmY
    have HOY := Lib.hid (HO6.out.keep hmY (fun q' _ e _ => ⟨_, _, _, e ▸ HP6.out, by decide, by decide⟩))
    have HRY := Lib.hid ((hmY.block _ (lt_heap HR6.out) (fun e => by omega)).trans HR6.out)
    have hmmY := HMM6.out.trans hmY (fun j hj e => by omega)
    have HMY : Hid (Mod (fun k => k = l) w Y) := hmmY.mono (noB_sub _ _)
    have HTY := Lib.hid (HT.out _ hmmY)
    clear hmY hmmY HO6 HR6 HMM6 HP6 p0 p1 p2 p3 pf pb q0 q1 q2 q3 qf qb t0 t1 t2 t3 tf tb
    have hkp := HKP.out Y (.slice a5 (q.keys.length + 1) c5) (.slice a6 (q.vals.length + 1) c6) (.slice a3 q.kids.length c3) _ HTY.out HOY.out
    refine hkp.mono ?_
    clear hkp
    rintro e W6 ⟨a', b', kk, two, g', rfl, hm6, ht6, hg6, hn6, hs6⟩
    have hR6 := (hm6.block _ (lt_heap HRY.out) (by have := HLL.out; omega)).trans HRY.out
    obtain ⟨rb, r0, r1, r2, r3, rf⟩ := Split4.facts hR6
    have HR6 := Lib.hid hR6
    have HM6 := Lib.hid hm6
    have HT6 := Lib.hid ht6
    have HG6 := Lib.hid hg6
    have HN6 := Lib.hid hn6
    have HS6 := Lib.hid hs6
    have HMY6 := Lib.hid HMY.out
    clear hR6 hm6 ht6 hg6 hn6 hs6
    go_wp2_with fail
    refine at_world6 (P := bodyPost _ _ _ _ _) (fun X => X.heap[w.heap.size]? = some (.cells #[.int .i64 a', .int .i64 b', .string ⟨kk.toArray⟩, .bool two] 175 (0, 0)) ∧ Mod (fun k => k = w.heap.size) W6 X) ?_ ?_
    · refine ⟨?_, ?_⟩
      · simp only [heap_setCell, if_true, HR6.out, Option.map_some, setAt_cells, List.setIfInBounds_toArray, List.set_cons_zero, List.set_cons_succ]
      · repeat (first | with_reducible exact Mod.refl _ _ | ((with_reducible refine Mod.setCell ?_ _ _ ?_); rotate_left; (intro _; rfl)))
    · rintro X ⟨hDX, hMX⟩
      obtain ⟨xb, x0, x1, x2, x3, xf⟩ := Split4.facts hDX
      refine bodyPost_ret (v := .tuple #[splitV a' b' kk two, .int .i64 0]) (by simp [results, Tryz.f105, go_sem, x0, x1, x2, x3]) rfl ?_
      exact Kept.shut HMY6.out HM6.out HT6.out (Nat.le_refl _) HTL.out HLL.out hMX HG6.out HN6.out HS6.out

end Go.Proofs.YtgofngilfdnakaaGreat
