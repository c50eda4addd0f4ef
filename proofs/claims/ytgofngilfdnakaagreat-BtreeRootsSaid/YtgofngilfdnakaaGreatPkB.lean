/-
  This text proves what the package btree's del does at a leaf; under bounds on lengths.
  This text proves what the package btree's del does at a leaf that has the key; under bounds on lengths.
  This text proves what the library's Concat does with rows of texts and of numbers: under bounds on lengths.
  This text proves slices.Concat's contracts for two and three rows, and says what the package btree's mend leaves; under bounds on lengths.
  This text is general facts for the package btree's mend: rows of a joined page, and what mend leaves.
-/
import Derived.Test.YtgofngilfdnakaaGreatBtW15q
import Derived.Test.YtgofngilfdnakaaGreatBtW4
import Derived.Lib.MinMax
import Derived.Test.YtgofngilfdnakaaGreatBtP6

namespace Go.Proofs.YtgofngilfdnakaaGreat
open Go Go.RowKit
set_option linter.unusedSimpArgs false
attribute [local go_sem] over_cell over_frozen lt_over le_over noB loudUpon ByteArray.mk_append_mk ByteArray.extract_mk

abbrev pageO : Value := .agg #[.bool false, .slice none 0 0, .slice none 0 0, .slice none 0 0]
/-- What del leaves: a page that is not laid yet. -/
def Deled (w : World) (t l p : Nat) (root : Int) (g : Lg) (n m d : Nat) (lo : Str) (hi : Option Str) (M : Files) (e : Ending) (w' : World) : Prop :=
  ∃ q kv vv cv g', e = .returned (.tuple #[pageV q kv vv cv, .int .i64 0]) ∧ Mod (fun k => k = l) w w' ∧ TL w' t l p g' root ∧ Grew g g' ∧ g'.wait.length ≤ g.wait.length + n ∧ PgOwn w' w.heap.size kv vv cv q.keys q.vals q.kids ∧
    RepP (rdG g') d q lo hi M ∧ m ≤ q.keys.length + 1 ∧ q.keys.length ≤ 8
def DelNot (w : World) (e : Ending) (w' : World) : Prop := e = .returned (.tuple #[pageO, .int .i64 2]) ∧ Mod NoB w w'
/-- What a Delete leaves, as a value and a world. -/
def DelU (base e : Nat) (v : Value) (n : Nat) (zs : List Value) (w : World) (u : Value) (w' : World) : Prop :=
  ∃ a c, v = .slice a n c ∧ u = .slice a (n - 1) c ∧ w'.ownsRow base e 1 (.slice a (n - 1) c) (n - 1) zs ∧ Mod (fun k => v.ownBlock = some k) w w'
theorem DelPost.fn {base e n : Nat} {v : Value} {zs : List Value} {w : World} {en : Ending} {w' : World} (h : DelPost base e v n zs w en w') : ∃ u, en = .returned u ∧ DelU base e v n zs w u w' := by
  obtain ⟨a, c, h1, h2, h3, h4⟩ := h
  exact ⟨_, h2, a, c, h1, rfl, h3, h4⟩
theorem PgOwn.base {w : World} {b b' : Nat} {kv vv cv : Value} {ks vs : List Str} {cs : List Nat} (h : PgOwn w b kv vv cv ks vs cs) (hb : b' ≤ b) : PgOwn w b' kv vv cv ks vs cs := ⟨row_base h.k hb, row_base h.v hb, row_base h.c hb, h.apart⟩
theorem own_same {a : Option Addr} {n c n' c' : Nat} : (Value.slice a n c).ownBlock = (Value.slice a n' c').ownBlock := by
  cases a <;> rfl

set_option maxRecDepth 100000 in
set_option maxHeartbeats 6400000 in
theorem delL_none (t l p k : Nat) (g : Lg) (root : Int) (q : Pg) (key : Str) (w : World) (h : TL w t l p g root) (hq : rdG g k q) (hlf : q.leaf = true) (hs : Small g 0) (his : kIs q.keys key = false) :
    Calls Tryz.prog 108 #[.pointer (some ⟨t, 0, none⟩), .int .i64 k, .string ⟨key.toArray⟩] w (DelNot w) := by
  have hpg := hq.1
  obtain ⟨W1, hW1⟩ : ∃ W1, w.alloc (.cells #[.bool false, .slice none 0 0, .slice none 0 0, .slice none 0 0] 130) = W1 := ⟨_, rfl⟩
  have hm1 : Mod NoB w W1 := by rw [← hW1]; exact (Mod.refl _ _).alloc _
  have hR1 : W1.heap[w.heap.size]? = some (.cells #[.bool false, .slice none 0 0, .slice none 0 0, .slice none 0 0] 130 (0, 0)) := by rw [← hW1]; exact heap_alloc_new _ _
  have HLD := Lib.hid (load_calls t l p g root k q W1 (h.mod hm1) hq hs)
  have HM1 := Lib.hid hm1
  have HR1 := Lib.hid hR1
  have HPG := Lib.hid hpg
  unfold pageV at HLD
  rw [hlf] at HLD
  generalize hfi : kFind q.keys key = i at *
  have HFI := Lib.hid hfi
  have HIS := Lib.hid his
  have HQ := Lib.hid hlf
  clear hq h hm1 hR1 hpg hfi his hlf hs
  go_enter Tryz.func108, Tryz.ntmps108
  go_wp2_with fail
  clear hW1
  refine HLD.out.mono ?_
  rintro e W2 ⟨kv, vv, cv, rfl, ho2, hm2⟩
  obtain ⟨⟨a1, c1, rfl⟩, ⟨a2, c2, rfl⟩, a3, c3, rfl⟩ := ho2.shapes
  have hM2 := HM1.out.trans hm2 (fun _ _ h => h)
  have hR2 := (hm2.block _ (lt_heap HR1.out) id).trans HR1.out
  obtain ⟨W3, hW3⟩ : ∃ W3, W2.alloc (.cells #[.bool true, .slice a1 q.keys.length c1, .slice a2 q.vals.length c2, .slice a3 q.kids.length c3] 130) = W3 := ⟨_, rfl⟩
  have hm3 : Mod NoB W2 W3 := by rw [← hW3]; exact (Mod.refl _ _).alloc _
  have hP3 : W3.heap[W2.heap.size]? = some (.cells #[.bool true, .slice a1 q.keys.length c1, .slice a2 q.vals.length c2, .slice a3 q.kids.length c3] 130 (0, 0)) := by rw [← hW3]; exact heap_alloc_new _ _
  have hR3 := (hm3.block _ (lt_heap hR2) id).trans hR2
  have HM3 := Lib.hid (hM2.trans hm3 (fun _ _ h => h))
  have hfc := Find_calls q _ _ _ key W3 (ho2.mod hm3).in1 HPG.out
  unfold pageV at hfc
  rw [HQ.out, HIS.out, HFI.out] at hfc
  have HFC := Lib.hid hfc
  obtain ⟨pb, p0, p1, p2, p3, pf⟩ := Page4.facts hP3
  have HR3 := Lib.hid hR3
  clear hm2 ho2 hM2 hR2 hm3 hP3 hR3 hfc HLD HM1 HR1
  go_wp2_with fail
  clear hW3
  refine HFC.out.mono ?_
  rintro e W4 ⟨rfl, hm4'⟩
  have hR4 := (hm4'.block _ (lt_heap HR3.out) id).trans HR3.out
  have HM4 := Lib.hid (HM3.out.trans hm4' (fun _ _ h => h))
  clear hm4' HFC HR3 HM3 p0 p1 p2 p3 pf pb
  obtain ⟨rb, r0, r1, r2, r3, rf⟩ := Page4.facts hR4
  have HR4 := Lib.hid hR4
  clear hR4
  go_wp2_with fail
  refine at_world6 (P := bodyPost _ _ _ _ _) (fun X => X.heap[w.heap.size]? = some (.cells #[.bool false, .slice none 0 0, .slice none 0 0, .slice none 0 0] 130 (0, 0)) ∧ Mod (fun k => k = w.heap.size) W4 X) ?_ ?_
  · refine ⟨?_, ?_⟩
    · simp only [heap_setCell, if_true, HR4.out, Option.map_some, setAt_cells, List.setIfInBounds_toArray, List.set_cons_zero, List.set_cons_succ]
    · repeat (first | with_reducible exact Mod.refl _ _ | ((with_reducible refine Mod.setCell ?_ _ _ ?_); rotate_left; (intro _; rfl)))
  · rintro X ⟨hDX, hMX⟩
    obtain ⟨xb, x0, x1, x2, x3, xf⟩ := Page4.facts hDX
    refine bodyPost_ret (v := .tuple #[pageO, .int .i64 2]) (by simp [results, Tryz.f108, go_sem, x0, x1, x2, x3]) rfl ?_
    exact ⟨rfl, HM4.out.trans hMX (fun j hj e => by omega)⟩

end Go.Proofs.YtgofngilfdnakaaGreat

namespace Go.Proofs.YtgofngilfdnakaaGreat
open Go Go.RowKit
set_option linter.unusedSimpArgs false
attribute [local go_sem] over_cell over_frozen lt_over le_over noB loudUpon ByteArray.mk_append_mk ByteArray.extract_mk

set_option maxRecDepth 100000 in
set_option maxHeartbeats 12800000 in
theorem delL_there (t l p k m : Nat) (g : Lg) (root : Int) (q : Pg) (key : Str) (lo : Str) (hi : Option Str) (M : Files) (w : World) (h : TL w t l p g root) (hq : rdG g k q) (hr : RepP (rdG g) 0 q lo hi M) (h8 : q.keys.length ≤ 8) (hm : m ≤ q.keys.length)
    (hs : Small g 0) (his : kIs q.keys key = true) :
    Calls Tryz.prog 108 #[.pointer (some ⟨t, 0, none⟩), .int .i64 k, .string ⟨key.toArray⟩] w (Deled w t l p root g 0 m 0 lo hi (M.del key)) := by
  have hdel := delLeaf_rep hr his
  unfold Pg.delLeaf at hdel
  have hlf : q.leaf = true := hr.1
  have hpg := hq.1
  have hil := kIs_lt his
  have hvl : q.vals.length = q.keys.length := by rw [hr.2.2.1, hr.2.2.2.1]; simp
  have HMQ : Hid (m ≤ (q.keys.eraseIdx (kFind q.keys key)).length + 1) := by rw [List.length_eraseIdx_of_lt hil]; exact (by omega : m ≤ q.keys.length - 1 + 1)
  have HQ8 : Hid ((q.keys.eraseIdx (kFind q.keys key)).length ≤ 8) := by rw [List.length_eraseIdx_of_lt hil]; exact (by omega : q.keys.length - 1 ≤ 8)
  rw [hlf] at hdel
  have HRQ := Lib.hid hdel.1
  obtain ⟨W1, hW1⟩ : ∃ W1, w.alloc (.cells #[.bool false, .slice none 0 0, .slice none 0 0, .slice none 0 0] 130) = W1 := ⟨_, rfl⟩
  have hm1 : Mod NoB w W1 := by rw [← hW1]; exact (Mod.refl _ _).alloc _
  have hR1 : W1.heap[w.heap.size]? = some (.cells #[.bool false, .slice none 0 0, .slice none 0 0, .slice none 0 0] 130 (0, 0)) := by rw [← hW1]; exact heap_alloc_new _ _
  have HTL : Hid (t < w.heap.size) := lt_heap h.tree
  have HLL : Hid (l < w.heap.size) := lt_heap h.log
  have HT := Lib.hid (fun X (hX : Mod NoB w X) => h.mod hX)
  have HLD := Lib.hid (load_calls t l p g root k q W1 (h.mod hm1) hq hs)
  have HM1 := Lib.hid hm1
  have HR1 := Lib.hid hR1
  have HPG := Lib.hid hpg
  unfold pageV at HLD
  rw [hlf] at HLD
  generalize hfi : kFind q.keys key = i at *
  have HFI := Lib.hid hfi
  have HIS := Lib.hid his
  have HQ := Lib.hid hlf
  have hfv : i < q.vals.length := by omega
  have hv9 : q.vals.length ≤ 8 := by omega
  clear hvl hdel hm
  clear hq hr h hm1 hR1 hpg hfi his hlf hs
  go_enter Tryz.func108, Tryz.ntmps108
  go_wp2_with fail
  clear hW1
  refine HLD.out.mono ?_
  rintro e W2 ⟨kv, vv, cv, rfl, ho2, hm2⟩
  obtain ⟨⟨a1, c1, rfl⟩, ⟨a2, c2, rfl⟩, a3, c3, rfl⟩ := ho2.shapes
  have hM2 := HM1.out.trans hm2 (fun _ _ h => h)
  have hR2 := (hm2.block _ (lt_heap HR1.out) id).trans HR1.out
  obtain ⟨W3, hW3⟩ : ∃ W3, W2.alloc (.cells #[.bool true, .slice a1 q.keys.length c1, .slice a2 q.vals.length c2, .slice a3 q.kids.length c3] 130) = W3 := ⟨_, rfl⟩
  have hm3 : Mod NoB W2 W3 := by rw [← hW3]; exact (Mod.refl _ _).alloc _
  have hP3 : W3.heap[W2.heap.size]? = some (.cells #[.bool true, .slice a1 q.keys.length c1, .slice a2 q.vals.length c2, .slice a3 q.kids.length c3] 130 (0, 0)) := by rw [← hW3]; exact heap_alloc_new _ _
  have hR3 := (hm3.block _ (lt_heap hR2) id).trans hR2
  have HM3 := Lib.hid (hM2.trans hm3 (fun _ _ h => h))
  have HO3 := Lib.hid (ho2.mod hm3)
  have hfc := Find_calls q _ _ _ key W3 HO3.out.in1 HPG.out
  unfold pageV at hfc
  rw [HQ.out, HIS.out, HFI.out] at hfc
  have HFC := Lib.hid hfc
  obtain ⟨pb, p0, p1, p2, p3, pf⟩ := Page4.facts hP3
  have HP3 := Lib.hid hP3
  have HR3 := Lib.hid hR3
  have hsz1 := hm2.size
  have hrw := lt_heap HR1.out
  clear hm2 ho2 hM2 hR2 hm3 hP3 hR3 hfc HLD HM1 HR1
  go_wp2_with fail
  clear hW3
  refine HFC.out.mono ?_
  rintro e W4 ⟨rfl, hm4'⟩
  have hP4 := (hm4'.block _ pb id).trans HP3.out
  have HR4 := Lib.hid ((hm4'.block _ (lt_heap HR3.out) id).trans HR3.out)
  have HM4 := Lib.hid (HM3.out.trans hm4' (fun _ _ h => h))
  have HO4 := Lib.hid (HO3.out.mod hm4')
  clear hm4' HFC HP3 HR3 HM3 HO3 p0 p1 p2 p3 pf pb
  obtain ⟨pb, p0, p1, p2, p3, pf⟩ := Page4.facts hP4
  have HP4 := Lib.hid hP4
  clear hP4
  generalize W2.heap.size = P at *
  have hwr : IntKind.i64.wrap ((i : Int) + 1) = (i : Int) + 1 := IntWalk.i64_in _ (by omega)
  have HKB : Hid (∀ j, (Value.slice a1 q.keys.length c1).ownBlock = some j → j < W4.heap.size ∧ j ≠ P ∧ W1.heap.size ≤ j) := fun j hj => ⟨(HO4.out.k.lt j hj).2, fun e => absurd (own_type HO4.out.k hj (e ▸ HP4.out)) (by decide), (HO4.out.k.lt j hj).1⟩
  have HI1 : Hid (∀ X, Mod NoB W4 X → Calls Tryz.prog 146 #[.slice a1 q.keys.length c1, .int .i64 i, .int .i64 (IntKind.i64.wrap ((i : Int) + 1))] X fun e w' => ∃ u, e = .returned u ∧ DelU W1.heap.size 9 (.slice a1 q.keys.length c1) q.keys.length ((q.keys.eraseIdx i).map txt) X u w') := fun X hX => by
    rw [hwr]
    exact (DeleteS_calls (own_of_mod HO4.out.k hX (fun _ _ => id)) hil (by omega)).mono fun e w' h => h.fn
  have HI2 : Hid (∀ X, Mod (fun j => (Value.slice a1 q.keys.length c1).ownBlock = some j) W4 X → Calls Tryz.prog 146 #[.slice a2 q.vals.length c2, .int .i64 i, .int .i64 (IntKind.i64.wrap ((i : Int) + 1))] X fun e w' => ∃ u, e = .returned u ∧ DelU W1.heap.size 9 (.slice a2 q.vals.length c2) q.vals.length ((q.vals.eraseIdx i).map txt) X u w') := fun X hX => by
    rw [hwr]
    exact (DeleteS_calls (own_of_mod HO4.out.v hX (fun j hj e => HO4.out.apart j e hj)) hfv (by omega)).mono fun e w' h => h.fn
  clear hwr
  go_wp2_with fail
  go_upto_region 8 with fail
  refine wp_region_front (fun w' => w'.cell? ⟨P, 1, none⟩ = some (.slice a1 q.keys.length c1) ∧ w'.cell? ⟨P, 2, none⟩ = some (.slice a2 q.vals.length c2)) (notIn [13, 15]) (by kernel_rfl) ?_ (fun hHeld => ?_)
  · go_keep
  refine tkT 0 (v := ?_) ?_ hHeld ?_
  rotate_left
  · (intro _; simp only [ga, gz]; go_simp; try with_reducible rfl)
  simp only [Act.put, ga, gz, sb, sz, ss]
  refine tkL 1 (v := ?_) ?_ hHeld ?_
  rotate_left
  · (intro _ h; (try dsimp only at h); simp only [ga, gs, gz]; go_simp; try with_reducible rfl)
  simp only [Act.put, ga, gs, gz, sb, sz, ss]
  refine tkT 2 (v := ?_) ?_ hHeld ?_
  rotate_left
  · (intro _; simp only [ga, gs, gz]; go_simp; try with_reducible rfl)
  simp only [Act.put, ga, gs, gz, sb, sz, ss]
  refine tkT 3 (v := ?_) ?_ hHeld ?_
  rotate_left
  · (intro _; simp only [ga, gs, gz]; go_simp; try with_reducible rfl)
  simp only [Act.put, ga, gs, gz, sb, sz, ss]
  refine tkT 4 (v := ?_) ?_ hHeld ?_
  rotate_left
  · (intro _; simp only [ga, gs, gz]; go_simp; try with_reducible rfl)
  simp only [Act.put, ga, gs, gz, sb, sz, ss]
  refine tkT 6 (v := ?_) ?_ hHeld ?_
  rotate_left
  · (intro _; simp only [ga, gs, gz]; go_simp; try with_reducible rfl)
  simp only [Act.put, ga, gs, gz, sb, sz, ss]
  refine tkL 7 (v := ?_) ?_ hHeld ?_
  rotate_left
  · (intro _ h; (try dsimp only at h); simp only [ga, gs, gz]; go_simp; try with_reducible rfl)
  simp only [Act.put, ga, gs, gz, sb, sz, ss]
  refine tkT 8 (v := ?_) ?_ hHeld ?_
  rotate_left
  · (intro _; simp only [ga, gs, gz]; go_simp; try with_reducible rfl)
  simp only [Act.put, ga, gs, gz, sb, sz, ss]
  refine tkT 9 (v := ?_) ?_ hHeld ?_
  rotate_left
  · (intro _; simp only [ga, gs, gz]; go_simp; try with_reducible rfl)
  simp only [Act.put, ga, gs, gz, sb, sz, ss]
  refine tkT 10 (v := ?_) ?_ hHeld ?_
  rotate_left
  · (intro _; simp only [ga, gs, gz]; go_simp; try with_reducible rfl)
  simp only [Act.put, ga, gs, gz, sb, sz, ss]
  refine allF [5] (mc (stF ?_) mn)
  intro K hK
  dsimp only [ga, gs, gz]
  rw [if_pos (by rfl)]
  refine wp_fn 146 (fun _ _ => by kernel_rfl) #[.tmp 36, .tmp 37, .tmp 39] #[77, 3, 3] rfl (vs := #[.slice a1 q.keys.length c1, .int .i64 i, .int .i64 (IntKind.i64.wrap ((i : Int) + 1))]) rfl (HI1.out _ QM.out) ?_
  rintro u X5 ⟨a5, c5, e5, rfl, ho5, hm5⟩
  cases e5
  have hM5 : Mod (fun j => (Value.slice a1 q.keys.length c1).ownBlock = some j) W4 X5 := ((show Mod NoB W4 _ from QM.out).mono (noB_sub _ _)).trans hm5 (fun _ _ h => h)
  have hP5 := (hM5.block P pb (fun e => (HKB.out P e).2.1 rfl)).trans HP4.out
  obtain ⟨qb, q0, q1, q2, q3, qf⟩ := Page4.facts hP5
  have HO5 := Lib.hid ((HO4.out.mod (show Mod NoB W4 _ from QM.out)).addK (kv' := .slice a1 (q.keys.length - 1) c1) (ks' := q.keys.eraseIdx i) (by rw [List.length_eraseIdx_of_lt hil]; exact ho5) hm5 (.inl own_same))
  have HMM5 := Lib.hid (HM4.out.trans hM5 (fun j hj e => by have := (HKB.out j e).2.2; omega))
  have HR5 := Lib.hid ((hM5.block _ (lt_heap HR4.out) (fun e => by have := (HKB.out _ e).2.2; omega)).trans HR4.out)
  refine hK _ _ (show_held ?_ (fun hHeld => ?_))
  · go_keep
  clear hK K
  simp only [Act.put, List.setIfInBounds_toArray, List.set_cons_zero, List.set_cons_succ]
  refine tkT 12 (v := ?_) ?_ hHeld ?_
  rotate_left
  · (intro _; simp only [ga, gs, gz]; go_simp; try with_reducible rfl)
  simp only [Act.put, ga, gs, gz, sb, sz, ss]
  refine allF [11] (mc (stF ?_) mn)
  intro K hK
  dsimp only [ga, gs, gz]
  rw [if_pos (by rfl)]
  refine wp_fn 146 (fun _ _ => by kernel_rfl) #[.tmp 42, .tmp 43, .tmp 45] #[77, 3, 3] rfl (vs := #[.slice a2 q.vals.length c2, .int .i64 i, .int .i64 (IntKind.i64.wrap ((i : Int) + 1))]) rfl (HI2.out _ (hM5.trans (show Mod NoB X5 _ from QM.out) (fun _ _ h => h.elim))) ?_
  rintro u X6 ⟨a6, c6, e6, rfl, ho6, hm6⟩
  cases e6
  have hM6 : Mod (fun j => (Value.slice a2 q.vals.length c2).ownBlock = some j) X5 X6 := ((show Mod NoB X5 _ from QM.out).mono (noB_sub _ _)).trans hm6 (fun _ _ h => h)
  have hP6 := (hM6.block P qb (fun e => absurd (own_type HO5.out.v e hP5) (by decide))).trans hP5
  obtain ⟨tb, t0, t1, t2, t3, tf⟩ := Page4.facts hP6
  have HO6 := Lib.hid ((HO5.out.mod (show Mod NoB X5 _ from QM.out)).addV (vv' := .slice a2 (q.vals.length - 1) c2) (vs' := q.vals.eraseIdx i) (by rw [List.length_eraseIdx_of_lt hfv]; exact ho6) hm6 (.inl own_same))
  have HMM6 := Lib.hid (HMM5.out.trans hM6 (fun j hj e => by have := (HO5.out.v.lt j e).1; omega))
  have HR6 := Lib.hid ((hM6.block _ (lt_heap HR5.out) (fun e => by have := (HO5.out.v.lt _ e).1; omega)).trans HR5.out)
  have HP6 := Lib.hid hP6
  clear ho5 ho6 hm5 hm6 hP5 hP6 hM5 hM6 HI1 HI2 HO5 HMM5 HR5 HO4 HM4 HR4 HP4 HKB
  refine hK _ _ (show_held ?_ (fun hHeld => ?_))
  · go_keep
  clear hK K
  simp only [Act.put, List.setIfInBounds_toArray, List.set_cons_zero, List.set_cons_succ]
  refine allF [13] (mc (stN ?_) mn)
  intro K hK
  dsimp only [ga, gs, gz]
  go_simp
  refine hK _ _ ?_
  clear hK K
  refine tkN 14 (v := ?_) ?_ ?_
  rotate_left
  · (intro _; simp only [ga, gs, gz]; go_simp; try with_reducible rfl)
  simp only [Act.put, ga, gs, gz, sb, sz, ss]
  refine allN [15] (mc (stK ?_) mn)
  intro K hK
  dsimp only [ga, gs, gz]
  go_simp
  refine hK _ _ ?_
  clear hK K
  refine wpAny_done (by kernel_rfl) ?_ _
  refine at_world6 (P := Exit.then _ _ _ _) (fun X => Mod (fun j => j = P) X6 X ∧ X.heap[P]? = some (.cells #[.bool true, .slice a1 (q.keys.length - 1) c1, .slice a2 (q.vals.length - 1) c2, .slice a3 q.kids.length c3] 130 (0, 0))) ⟨(by (repeat (first | with_reducible exact Mod.refl _ _ | with_reducible refine Mod.drew ?_ | ((with_reducible refine Mod.setCell ?_ _ _ ?_); rotate_left; (intro _; rfl))))), ?_⟩ ?_
  · simp only [heap_setCell, if_true, HP6.out, Option.map_some, setAt_cells, List.setIfInBounds_toArray, List.set_cons_zero, List.set_cons_succ]
  rintro Y ⟨hmY, hPY⟩
  have HOY := Lib.hid (HO6.out.keep hmY (fun q' _ e _ => ⟨_, _, _, e ▸ HP6.out, by decide, by decide⟩))
  have hRY := (hmY.block _ (lt_heap HR6.out) (fun e => by omega)).trans HR6.out
  have HMY := Lib.hid (HMM6.out.trans hmY (fun j hj e => by omega))
  clear hmY HO6 HR6 HMM6 HP6 p0 p1 p2 p3 pf pb q0 q1 q2 q3 qf qb t0 t1 t2 t3 tf tb
  obtain ⟨pb, p0, p1, p2, p3, pf⟩ := Page4.facts hPY
  obtain ⟨rb, r0, r1, r2, r3, rf⟩ := Page4.facts hRY
  have HRY := Lib.hid hRY
  clear hPY hRY
  go_wp2_with fail
  refine at_world6 (P := bodyPost _ _ _ _ _) (fun X => X.heap[w.heap.size]? = some (.cells #[.bool true, .slice a1 (q.keys.length - 1) c1, .slice a2 (q.vals.length - 1) c2, .slice a3 q.kids.length c3] 130 (0, 0)) ∧ Mod (fun k => k = w.heap.size) Y X) ?_ ?_
  · refine ⟨?_, ?_⟩
    · simp only [heap_setCell, if_true, HRY.out, Option.map_some, setAt_cells, List.setIfInBounds_toArray, List.set_cons_zero, List.set_cons_succ]
    · repeat (first | with_reducible exact Mod.refl _ _ | ((with_reducible refine Mod.setCell ?_ _ _ ?_); rotate_left; (intro _; rfl)))
  · rintro X ⟨hDX, hMX⟩
    obtain ⟨xb, x0, x1, x2, x3, xf⟩ := Page4.facts hDX
    refine bodyPost_ret (v := .tuple #[.agg #[.bool true, .slice a1 (q.keys.length - 1) c1, .slice a2 (q.vals.length - 1) c2, .slice a3 q.kids.length c3], .int .i64 0]) (by simp [results, Tryz.f108, go_sem, x0, x1, x2, x3]) rfl ?_
    exact ⟨⟨true, q.keys.eraseIdx i, q.vals.eraseIdx i, q.kids⟩, _, _, _, g, rfl, (HMY.out.mono (noB_sub (fun k => k = l) _)).trans hMX (fun j hj e => by omega), HT.out X (HMY.out.trans hMX (fun j hj e => by omega)), Grew.refl g, Nat.le_refl _, (HOY.out.keep hMX (fun q' _ e _ => ⟨_, _, _, e ▸ HRY.out, by decide, by decide⟩)).base (by omega), HRQ.out, HMQ.out, HQ8.out⟩

end Go.Proofs.YtgofngilfdnakaaGreat

namespace Go.Proofs.YtgofngilfdnakaaGreat
open Go Go.RowKit
attribute [local go_sem] over_cell over_frozen lt_over le_over noB loudUpon ByteArray.mk_append_mk ByteArray.extract_mk
set_option maxRecDepth 100000 in
set_option maxHeartbeats 1600000 in
theorem ConcatS_calls (g : Nat) (vs : List Value) (xss : List (List Value)) (w : World) (h : Rows1 w g 77 vs xss) (hl : xss.length ≤ 10) (hn : (flat1 xss).length ≤ 10000) :
    Calls Tryz.prog 170 #[.slice (some ⟨g, 0, none⟩) vs.length vs.length] w fun e w' => ∃ a c, e = .returned (.slice a (flat1 xss).length c) ∧ w'.ownsRow w.heap.size 9 1 (.slice a (flat1 xss).length c) (flat1 xss).length (flat1 xss) ∧ Mod NoB w w' := by
  obtain ⟨i0, hi0, hz0, h10, hb0⟩ := infoS1
  have hlen := h.len
  have HG := Lib.hid (GrowS_calls (flat1 xss).length w (by omega))
  have hg := lt_heap h.at_
  have HC : Hid (∀ k, (hk : k < vs.length) → w.cell? ⟨g, k, none⟩ = some vs[k]) := fun k hk => by
    rw [cell_heap h.at_, List.getElem?_toArray, List.getElem?_eq_getElem hk]
  have HE : Hid (∀ k, (hk : k < vs.length) → (hk' : k < xss.length) → ∃ a c, vs[k] = .slice a xss[k].length c ∧ In1 w (.slice a xss[k].length c) xss[k]) := fun k hk hk' => by
    obtain ⟨a, c, e, _⟩ := h.each k hk hk'
    exact ⟨a, c, e, e ▸ h.each k hk hk'⟩
  have HT : Hid (∀ k, (flat1 (xss.take k)).length ≤ (flat1 xss).length) := flat_len_take xss
  have HONE := Lib.hid h.one
  clear h
  go_enter Tryz.func170, Tryz.ntmps170
  go_wp2_with fail
  go_loop [3, 5, 11] (fun z _ i => ∃ k : Nat, k ≤ vs.length ∧ i = .int .i64 k ∧ z = .int .i64 ((flat1 (xss.take k)).length : Nat)) (fun _ _ i => vs.length - (intOf i).toNat)
  case atStart => exact ⟨0, by omega, rfl, rfl⟩
  case round =>
    obtain ⟨k, hk, rfl, rfl⟩ := hrel
    by_cases hlt : k < vs.length
    · have hc0 := HC.out k hlt
      obtain ⟨a, c, e, _⟩ := HE.out k hlt (by omega)
      rw [e] at hc0
      have hs := flat_succ xss k (by omega)
      have ht1 := HT.out k
      have ht2 := HT.out (k + 1)
      rw [hs, List.length_append] at ht2
      have hs2 := congrArg List.length hs
      rw [List.length_append] at hs2
      have HS2 := Lib.hid hs2
      clear hs hs2 e
      generalize (flat1 (xss.take k)).length = z at *
      generalize xss[k].length = y at *
      go_wp2
      go_round
      case rel => exact ⟨k + 1, by omega, by go_num, by rw [HS2.out]; go_num⟩
      case measure => simp [intOf]; omega
    · have hk' : k = vs.length := by omega
      subst hk'
      rw [hlen, List.take_length]
      go_wp2_with fail
      refine HG.out.mono ?_
      rintro e W1 ⟨a1, c1, rfl, ho1, hm1⟩
      have H0 : Hid (∃ a c, Value.slice a1 0 c1 = .slice a (flat1 (xss.take 0)).length c ∧ W1.ownsRow w.heap.size 9 1 (.slice a (flat1 (xss.take 0)).length c) (flat1 (xss.take 0)).length (flat1 (xss.take 0)) ∧ Mod NoB w W1) := ⟨a1, c1, rfl, ho1, hm1⟩
      clear ho1 hm1 hlt hk
      go_wp2_with fail
      go_loopw [6, 8, 27] (fun r _ i wr => ∃ k : Nat, k ≤ vs.length ∧ i = .int .i64 k ∧ Hid (∃ a c, r = .slice a (flat1 (xss.take k)).length c ∧ wr.ownsRow w.heap.size 9 1 (.slice a (flat1 (xss.take k)).length c) (flat1 (xss.take k)).length (flat1 (xss.take k)) ∧ Mod NoB w wr)) (fun _ _ i _ => vs.length - (intOf i).toNat)
      case atStart => exact ⟨0, by omega, rfl, H0⟩
      case round =>
        obtain ⟨k, hk, rfl, HR⟩ := hrel
        obtain ⟨a2, c2, rfl, ho2, hm2⟩ := HR.out
        have HO2 := Lib.hid ho2
        have HM2 := Lib.hid hm2
        by_cases hlt : k < vs.length
        · have hc0 := HC.out k hlt
          obtain ⟨a, c, e, hin⟩ := HE.out k hlt (by omega)
          rw [e, ← World.cell?_of_block (w := w) (hm2.block g hg id)] at hc0
          have hsrc := src_in (P := Tryz.prog) (t := 77) (hin.mod hm2) (HONE.out _ (List.getElem_mem (by omega))) Tryz.underlying77
          have hs := flat_succ xss k (by omega)
          have ht2 := HT.out (k + 1)
          rw [hs, List.length_append] at ht2
          have HS := Lib.hid hs
          have HSRC := Lib.hid hsrc
          have hgr := Nat.lt_of_lt_of_le hg hm2.size
          have hsz := hm2.size
          clear hs ho2 hm2 e hin HR hsrc
          go_wp2_with (at_builtin; refine wpList_append_row rfl _ _ _ _ rfl rfl rfl Tryz.underlying77 hi0 hz0 h10 hb0 rfl HO2.out HSRC.out (by omega) (by omega) hsz ?_)
          intro a3 c3 w3 ho3 hm3 hbl
          have HN : Hid (∃ a c, Value.slice a3 ((flat1 (xss.take k)).length + xss[k].length) c3 = .slice a (flat1 (xss.take (k + 1))).length c ∧ w3.ownsRow w.heap.size 9 1 (.slice a (flat1 (xss.take (k + 1))).length c) (flat1 (xss.take (k + 1))).length (flat1 (xss.take (k + 1))) ∧ Mod NoB w w3) := by
            rw [HS.out, List.length_append]
            exact ⟨a3, c3, rfl, ho3, HM2.out.trans hm3 (fun q hq e => by have := (HO2.out.lt q e).1; omega)⟩
          clear ho3 hm3 hbl HO2 HSRC HS
          go_wp2
          go_roundw
          case rel => exact ⟨k + 1, by omega, by go_num, HN⟩
          case measure => simp [intOf]; omega
        · have hk' : k = vs.length := by omega
          subst hk'
          have hfin : (flat1 (xss.take vs.length)) = (flat1 xss) := by rw [hlen, List.take_length]
          have HF := Lib.hid hfin
          clear ho2 hm2 hfin HR
          go_wp2_with fail
          go_ret
          rw [← HF.out]
          exact ⟨_, _, rfl, HO2.out, HM2.out⟩
set_option maxRecDepth 100000 in
set_option maxHeartbeats 1600000 in
theorem ConcatI_calls (g : Nat) (vs : List Value) (xss : List (List Value)) (w : World) (h : Rows1 w g 38 vs xss) (hl : xss.length ≤ 10) (hn : (flat1 xss).length ≤ 10000) :
    Calls Tryz.prog 171 #[.slice (some ⟨g, 0, none⟩) vs.length vs.length] w fun e w' => ∃ a c, e = .returned (.slice a (flat1 xss).length c) ∧ w'.ownsRow w.heap.size 3 1 (.slice a (flat1 xss).length c) (flat1 xss).length (flat1 xss) ∧ Mod NoB w w' := by
  obtain ⟨i0, hi0, hz0, h10, hb0⟩ := infoI1
  have hlen := h.len
  have HG := Lib.hid (GrowI_calls (flat1 xss).length w (by omega))
  have hg := lt_heap h.at_
  have HC : Hid (∀ k, (hk : k < vs.length) → w.cell? ⟨g, k, none⟩ = some vs[k]) := fun k hk => by
    rw [cell_heap h.at_, List.getElem?_toArray, List.getElem?_eq_getElem hk]
  have HE : Hid (∀ k, (hk : k < vs.length) → (hk' : k < xss.length) → ∃ a c, vs[k] = .slice a xss[k].length c ∧ In1 w (.slice a xss[k].length c) xss[k]) := fun k hk hk' => by
    obtain ⟨a, c, e, _⟩ := h.each k hk hk'
    exact ⟨a, c, e, e ▸ h.each k hk hk'⟩
  have HT : Hid (∀ k, (flat1 (xss.take k)).length ≤ (flat1 xss).length) := flat_len_take xss
  have HONE := Lib.hid h.one
  clear h
  go_enter Tryz.func171, Tryz.ntmps171
  go_wp2_with fail
  go_loop [3, 5, 11] (fun z _ i => ∃ k : Nat, k ≤ vs.length ∧ i = .int .i64 k ∧ z = .int .i64 ((flat1 (xss.take k)).length : Nat)) (fun _ _ i => vs.length - (intOf i).toNat)
  case atStart => exact ⟨0, by omega, rfl, rfl⟩
  case round =>
    obtain ⟨k, hk, rfl, rfl⟩ := hrel
    by_cases hlt : k < vs.length
    · have hc0 := HC.out k hlt
      obtain ⟨a, c, e, _⟩ := HE.out k hlt (by omega)
      rw [e] at hc0
      have hs := flat_succ xss k (by omega)
      have ht1 := HT.out k
      have ht2 := HT.out (k + 1)
      rw [hs, List.length_append] at ht2
      have hs2 := congrArg List.length hs
      rw [List.length_append] at hs2
      have HS2 := Lib.hid hs2
      clear hs hs2 e
      generalize (flat1 (xss.take k)).length = z at *
      generalize xss[k].length = y at *
      go_wp2
      go_round
      case rel => exact ⟨k + 1, by omega, by go_num, by rw [HS2.out]; go_num⟩
      case measure => simp [intOf]; omega
    · have hk' : k = vs.length := by omega
      subst hk'
      rw [hlen, List.take_length]
      go_wp2_with fail
      refine HG.out.mono ?_
      rintro e W1 ⟨a1, c1, rfl, ho1, hm1⟩
      have H0 : Hid (∃ a c, Value.slice a1 0 c1 = .slice a (flat1 (xss.take 0)).length c ∧ W1.ownsRow w.heap.size 3 1 (.slice a (flat1 (xss.take 0)).length c) (flat1 (xss.take 0)).length (flat1 (xss.take 0)) ∧ Mod NoB w W1) := ⟨a1, c1, rfl, ho1, hm1⟩
      clear ho1 hm1 hlt hk
      go_wp2_with fail
      go_loopw [6, 8, 27] (fun r _ i wr => ∃ k : Nat, k ≤ vs.length ∧ i = .int .i64 k ∧ Hid (∃ a c, r = .slice a (flat1 (xss.take k)).length c ∧ wr.ownsRow w.heap.size 3 1 (.slice a (flat1 (xss.take k)).length c) (flat1 (xss.take k)).length (flat1 (xss.take k)) ∧ Mod NoB w wr)) (fun _ _ i _ => vs.length - (intOf i).toNat)
      case atStart => exact ⟨0, by omega, rfl, H0⟩
      case round =>
        obtain ⟨k, hk, rfl, HR⟩ := hrel
        obtain ⟨a2, c2, rfl, ho2, hm2⟩ := HR.out
        have HO2 := Lib.hid ho2
        have HM2 := Lib.hid hm2
        by_cases hlt : k < vs.length
        · have hc0 := HC.out k hlt
          obtain ⟨a, c, e, hin⟩ := HE.out k hlt (by omega)
          rw [e, ← World.cell?_of_block (w := w) (hm2.block g hg id)] at hc0
          have hsrc := src_in (P := Tryz.prog) (t := 38) (hin.mod hm2) (HONE.out _ (List.getElem_mem (by omega))) Tryz.underlying38
          have hs := flat_succ xss k (by omega)
          have ht2 := HT.out (k + 1)
          rw [hs, List.length_append] at ht2
          have HS := Lib.hid hs
          have HSRC := Lib.hid hsrc
          have hgr := Nat.lt_of_lt_of_le hg hm2.size
          have hsz := hm2.size
          clear hs ho2 hm2 e hin HR hsrc
          go_wp2_with (at_builtin; refine wpList_append_row rfl _ _ _ _ rfl rfl rfl Tryz.underlying38 hi0 hz0 h10 hb0 rfl HO2.out HSRC.out (by omega) (by omega) hsz ?_)
          intro a3 c3 w3 ho3 hm3 hbl
          have HN : Hid (∃ a c, Value.slice a3 ((flat1 (xss.take k)).length + xss[k].length) c3 = .slice a (flat1 (xss.take (k + 1))).length c ∧ w3.ownsRow w.heap.size 3 1 (.slice a (flat1 (xss.take (k + 1))).length c) (flat1 (xss.take (k + 1))).length (flat1 (xss.take (k + 1))) ∧ Mod NoB w w3) := by
            rw [HS.out, List.length_append]
            exact ⟨a3, c3, rfl, ho3, HM2.out.trans hm3 (fun q hq e => by have := (HO2.out.lt q e).1; omega)⟩
          clear ho3 hm3 hbl HO2 HSRC HS
          go_wp2
          go_roundw
          case rel => exact ⟨k + 1, by omega, by go_num, HN⟩
          case measure => simp [intOf]; omega
        · have hk' : k = vs.length := by omega
          subst hk'
          have hfin : (flat1 (xss.take vs.length)) = (flat1 xss) := by rw [hlen, List.take_length]
          have HF := Lib.hid hfin
          clear ho2 hm2 hfin HR
          go_wp2_with fail
          go_ret
          rw [← HF.out]
          exact ⟨_, _, rfl, HO2.out, HM2.out⟩

end Go.Proofs.YtgofngilfdnakaaGreat

namespace Go.Proofs.YtgofngilfdnakaaGreat
open Go Go.RowKit
set_option linter.unusedSimpArgs false
attribute [local go_sem] over_cell over_frozen lt_over le_over noB loudUpon ByteArray.mk_append_mk ByteArray.extract_mk

/-- What mend leaves: a page that is not laid yet. -/
def Mended (w : World) (t l p i base : Nat) (root : Int) (g : Lg) (P : Pg) (d : Nat) (lo : Str) (hi : Option Str) (N : Files) (e : Ending) (w' : World) : Prop :=
  ∃ a b key two kv vv cv g', e = .returned (.tuple #[pageV (P.mendKid i a b key two) kv vv cv, .int .i64 0]) ∧ Mod (fun j => j = l ∨ base ≤ j) w w' ∧ TL w' t l p g' root ∧ Grew g g' ∧ g'.wait.length ≤ g.wait.length + 140200 ∧
    PgOwn w' base kv vv cv (P.mendKid i a b key two).keys (P.mendKid i a b key two).vals (P.mendKid i a b key two).kids ∧ SplitR (rdG g') 4 d lo hi N a b key two

/-- What a Concat leaves, as a value and a world. -/
def CatU (base e n : Nat) (zs : List Value) (w : World) (u : Value) (w' : World) : Prop := ∃ a c, u = .slice a n c ∧ w'.ownsRow base e 1 (.slice a n c) n zs ∧ Mod NoB w w'
theorem flat_two {α : Type} (f : α → Value) (a b : List α) : flat1 [a.map f, b.map f] = (a ++ b).map f := by simp [flat1]
theorem flat_three {α : Type} (f : α → Value) (a b c : List α) : flat1 [a.map f, b.map f, c.map f] = (a ++ (b ++ c)).map f := by simp [flat1]
theorem Concat2S {w : World} {g base : Nat} {va vb : Value} {a b : List Str} (hbs : base ≤ w.heap.size) (h : w.heap[g]? = some (.cells #[va, vb] 77 (0, 0))) (ha : In1 w va (a.map txt)) (hb : In1 w vb (b.map txt)) (la : a.length ≤ 100) (lb : b.length ≤ 100) :
    Calls Tryz.prog 170 #[.slice (some ⟨g, 0, none⟩) 2 2] w fun e w' => ∃ u, e = .returned u ∧ CatU base 9 (a ++ b).length ((a ++ b).map txt) w u w' := by
  have := ConcatS_calls g [va, vb] [a.map txt, b.map txt] w ⟨h, rfl, fun i hi h' => by
    match i, hi with
    | 0, _ => exact ha
    | 1, _ => exact hb, fun xs hx u hu => by
    simp only [List.mem_cons, List.not_mem_nil, or_false] at hx
    rcases hx with rfl | rfl
    · exact one_txt _ u hu
    · exact one_txt _ u hu⟩ (by simp) (by rw [flat_two]; simp only [List.length_map, List.length_append]; omega)
  rw [flat_two, List.length_map] at this
  exact this.mono fun e w' ⟨a', c, h1, h2, h3⟩ => ⟨_, h1, a', c, rfl, row_base h2 hbs, h3⟩
theorem Concat3S {w : World} {g base : Nat} {va vb vc : Value} {a b c : List Str} (hbs : base ≤ w.heap.size) (h : w.heap[g]? = some (.cells #[va, vb, vc] 77 (0, 0))) (ha : In1 w va (a.map txt)) (hb : In1 w vb (b.map txt)) (hc : In1 w vc (c.map txt)) (la : a.length ≤ 100) (lb : b.length ≤ 100) (lc : c.length ≤ 100) :
    Calls Tryz.prog 170 #[.slice (some ⟨g, 0, none⟩) 3 3] w fun e w' => ∃ u, e = .returned u ∧ CatU base 9 (a ++ (b ++ c)).length ((a ++ (b ++ c)).map txt) w u w' := by
  have := ConcatS_calls g [va, vb, vc] [a.map txt, b.map txt, c.map txt] w ⟨h, rfl, fun i hi h' => by
    match i, hi with
    | 0, _ => exact ha
    | 1, _ => exact hb
    | 2, _ => exact hc, fun xs hx u hu => by
    simp only [List.mem_cons, List.not_mem_nil, or_false] at hx
    rcases hx with rfl | rfl | rfl
    · exact one_txt _ u hu
    · exact one_txt _ u hu
    · exact one_txt _ u hu⟩ (by simp) (by rw [flat_three]; simp only [List.length_map, List.length_append]; omega)
  rw [flat_three, List.length_map] at this
  exact this.mono fun e w' ⟨a', c, h1, h2, h3⟩ => ⟨_, h1, a', c, rfl, row_base h2 hbs, h3⟩
theorem Concat2I {w : World} {g base : Nat} {va vb : Value} {a b : List Nat} (hbs : base ≤ w.heap.size) (h : w.heap[g]? = some (.cells #[va, vb] 38 (0, 0))) (ha : In1 w va (a.map numV)) (hb : In1 w vb (b.map numV)) (la : a.length ≤ 100) (lb : b.length ≤ 100) :
    Calls Tryz.prog 171 #[.slice (some ⟨g, 0, none⟩) 2 2] w fun e w' => ∃ u, e = .returned u ∧ CatU base 3 (a ++ b).length ((a ++ b).map numV) w u w' := by
  have := ConcatI_calls g [va, vb] [a.map numV, b.map numV] w ⟨h, rfl, fun i hi h' => by
    match i, hi with
    | 0, _ => exact ha
    | 1, _ => exact hb, fun xs hx u hu => by
    simp only [List.mem_cons, List.not_mem_nil, or_false] at hx
    rcases hx with rfl | rfl
    · exact one_num _ u hu
    · exact one_num _ u hu⟩ (by simp) (by rw [flat_two]; simp only [List.length_map, List.length_append]; omega)
  rw [flat_two, List.length_map] at this
  exact this.mono fun e w' ⟨a', c, h1, h2, h3⟩ => ⟨_, h1, a', c, rfl, row_base h2 hbs, h3⟩
theorem vals_le {q : Pg} (h : pgOk q) : q.vals.length ≤ 8 := by
  obtain ⟨_, _, h8, h1, h2⟩ := h
  cases hl : q.leaf with
  | true => have := (h1 hl).2.1; omega
  | false => rw [(h2 hl).1]; exact Nat.zero_le _
theorem kids_le {q : Pg} (h : pgOk q) : q.kids.length ≤ 9 := by
  obtain ⟨_, _, h8, h1, h2⟩ := h
  cases hl : q.leaf with
  | true => rw [(h1 hl).1]; exact Nat.zero_le _
  | false => have := (h2 hl).2.2.1; omega
theorem heap_three (w : World) (x y z : Obj) : (((w.alloc x).alloc y).alloc z).heap[w.heap.size]? = some x ∧ (((w.alloc x).alloc y).alloc z).heap[w.heap.size + 1]? = some y ∧ (((w.alloc x).alloc y).alloc z).heap[w.heap.size + 1 + 1]? = some z := by
  refine ⟨heap_alloc_old' _ _ _ ?_ (heap_alloc_old' _ _ _ ?_ (heap_alloc_at' _ _ _ rfl)), heap_alloc_old' _ _ _ ?_ (heap_alloc_at' _ _ _ ?_), heap_alloc_at' _ _ _ ?_⟩ <;> simp only [size_alloc] <;> omega

end Go.Proofs.YtgofngilfdnakaaGreat

namespace Go.Proofs.YtgofngilfdnakaaGreat
open Go Go.RowKit
set_option linter.unusedSimpArgs false

theorem keep_cell {X W : World} {b o : Nat} {v : Value} (hm : Mod NoB X W) (hb : b < X.heap.size) (h : X.cell? ⟨b, o, none⟩ = some v) : W.cell? ⟨b, o, none⟩ = some v := by
  rw [World.cell?_of_block (w := X) (hm.block b hb id)]
  exact h
theorem row_atS {w : World} {base g c n i : Nat} {x : Str} {l : List Str} (h : w.ownsRow base 9 1 (.slice (some ⟨g, 0, none⟩) n c) n (l.map txt)) (hi : l[i]? = some x) (_ : l.length = n) : w.cell? ⟨g, i, none⟩ = some (txt x) ∧ (∀ j, w.frozen? ⟨g, j, none⟩ = false) ∧ g < w.heap.size := by
  obtain ⟨_, cur, hcur, hcs, hnc, _, htk, _⟩ := own_open h
  obtain ⟨hi1, hi2⟩ := List.getElem?_eq_some_iff.1 hi
  have h1 : cur.toList[i]? = some (txt x) := by
    have h2 : (cur.toList.take n)[i]? = some (txt x) := by rw [htk, List.getElem?_map, hi]; rfl
    rw [List.getElem?_take] at h2
    split at h2
    · exact h2
    · cases h2
  refine ⟨?_, frozen_heap hcur, lt_heap hcur⟩
  rw [cell_heap hcur]
  simpa using h1
theorem joinL_keys {L R : Pg} {s : Str} (h : L.leaf = true) : (L.join s R).keys = L.keys ++ R.keys := by
  unfold Pg.join
  simp only
  rw [if_pos h]
theorem joinN_keys {L R : Pg} {s : Str} (h : L.leaf = false) : (L.join s R).keys = L.keys ++ ([s] ++ R.keys) := by
  unfold Pg.join
  simp only
  rw [h]
  rfl
/-- The one key between two kids. -/
theorem key_in {w : World} {g n c i : Nat} {ks : List Str} {s : Str} (h : In1 w (.slice (some ⟨g, 0, none⟩) n c) (ks.map txt)) (hn : n = ks.length) (hi : ks[i]? = some s) : In1 w (.slice (some ⟨g, i, none⟩) 1 (c - i)) ([s].map txt) := by
  subst hn
  obtain ⟨h1, h2⟩ := List.getElem?_eq_some_iff.1 hi
  have h3 := (h.drop i (by omega)).take 1 (by omega)
  rw [Nat.zero_add] at h3
  have e : ((ks.map txt).drop i).take 1 = [s].map txt := by
    rw [← List.map_drop, ← List.map_take]
    congr 1
    rw [List.drop_eq_getElem_cons h1, h2]
    rfl
  rw [e] at h3
  exact h3
/-- A joined page's rows behind its keys were laid. -/
theorem joined_own {Y Z : World} {C base n : Nat} {cs : Array Value} {kv vv cv : Value} {ks vs : List Str} {ns : List Nat} (hC : Z.heap[C]? = some (.cells cs 130 (0, 0))) (hm : Mod NoB Y Z) (hb : base ≤ Y.heap.size)
    (hk : Z.ownsRow Y.heap.size 9 1 kv ks.length (ks.map txt)) (hv : Y.ownsRow base 9 1 vv vs.length (vs.map txt)) (hc : Y.ownsRow base 3 1 cv ns.length (ns.map numV)) : PgOwn (Z.setCell ⟨C, n, none⟩ kv) base kv vv cv ks vs ns := by
  have hs : Mod (fun j => j = C) Z (Z.setCell ⟨C, n, none⟩ kv) := (Mod.refl _ _).setCell _ _ (fun _ => rfl)
  have hz : PgOwn Z base kv vv cv ks vs ns := ⟨row_base hk hb, own_of_mod hv hm (fun _ _ => id), own_of_mod hc hm (fun _ _ => id), fun q h1 h2 => by
    have := (hk.lt q h1).1
    have := (hv.lt q h2).2
    omega⟩
  exact hz.keep hs (fun q _ e _ => ⟨_, _, _, e ▸ hC, by decide, by decide⟩)
/-- A key and a kid are laid anew. -/
theorem set_both {Y : World} {base kg cg i j n m c1 c3 : Nat} {vv : Value} {ks vs : List Str} {cs : List Nat} (h : PgOwn Y base (.slice (some ⟨kg, 0, none⟩) n c1) vv (.slice (some ⟨cg, 0, none⟩) m c3) ks vs cs) (hn : ks.length = n) (hm : cs.length = m) (kk : Str) (b : Nat) :
    PgOwn ((Y.setCell ⟨kg, i, none⟩ (.string ⟨kk.toArray⟩)).setCell ⟨cg, j, none⟩ (.int .i64 b)) base (.slice (some ⟨kg, 0, none⟩) n c1) vv (.slice (some ⟨cg, 0, none⟩) m c3) (ks.set i kk) vs (cs.set j b) ∧ Mod (fun q => q = kg ∨ q = cg) Y ((Y.setCell ⟨kg, i, none⟩ (.string ⟨kk.toArray⟩)).setCell ⟨cg, j, none⟩ (.int .i64 b)) := by
  subst hn hm
  have h1 : PgOwn (Y.setCell ⟨kg, i, none⟩ (.string ⟨kk.toArray⟩)) base (.slice (some ⟨kg, 0, none⟩) ks.length c1) vv (.slice (some ⟨cg, 0, none⟩) cs.length c3) (ks.set i kk) vs cs :=
    h.addK (by rw [List.length_set]; exact own_set_txt kk h.k) ((Mod.refl _ _).setCell _ _ (fun _ => rfl)) (.inl rfl)
  exact ⟨h1.addC (by rw [List.length_set]; exact own_set_num b h1.c) ((Mod.refl _ _).setCell _ _ (fun _ => rfl)), ((Mod.refl _ _).setCell _ _ (fun _ => .inl rfl)).setCell _ _ (fun _ => .inr rfl)⟩
/-- Mend's end where the joined page stays one. -/
theorem mended_one {w w' : World} {t l p i base d a b : Nat} {root : Int} {g g' : Lg} {P : Pg} {lo : Str} {hi : Option Str} {N : Files} {key : Str} {kv vv cv : Value} (hP : P.leaf = false) (hm : Mod (fun j => j = l ∨ base ≤ j) w w') (ht : TL w' t l p g' root) (hg : Grew g g') (hn : g'.wait.length ≤ g.wait.length + 140200)
    (ho : PgOwn w' base kv vv cv (P.keys.eraseIdx i) P.vals ((P.kids.set i a).eraseIdx (i + 1))) (hs : SplitR (rdG g') 4 d lo hi N a b key false) : Mended w t l p i base root g P d lo hi N (.returned (.tuple #[.agg #[.bool false, kv, vv, cv], .int .i64 0])) w' := by
  refine ⟨a, b, key, false, kv, vv, cv, g', ?_, hm, ht, hg, hn, ho, hs⟩
  unfold pageV
  rw [show (P.mendKid i a b key false).leaf = false from hP]
/-- Mend's end where the joined page was cut anew. -/
theorem mended_two {w w' : World} {t l p i base d a b : Nat} {root : Int} {g g' : Lg} {P : Pg} {lo : Str} {hi : Option Str} {N : Files} {key : Str} {kv vv cv : Value} (hP : P.leaf = false) (hm : Mod (fun j => j = l ∨ base ≤ j) w w') (ht : TL w' t l p g' root) (hg : Grew g g') (hn : g'.wait.length ≤ g.wait.length + 140200)
    (ho : PgOwn w' base kv vv cv (P.keys.set i key) P.vals ((P.kids.set i a).set (i + 1) b)) (hs : SplitR (rdG g') 4 d lo hi N a b key true) : Mended w t l p i base root g P d lo hi N (.returned (.tuple #[.agg #[.bool false, kv, vv, cv], .int .i64 0])) w' := by
  refine ⟨a, b, key, true, kv, vv, cv, g', ?_, hm, ht, hg, hn, ho, hs⟩
  unfold pageV
  rw [show (P.mendKid i a b key true).leaf = false from hP]

end Go.Proofs.YtgofngilfdnakaaGreat
