/-
  This text proves what the package btree's put does at a node, if it does so below; under bounds on lengths.
-/
import Derived.Test.YtgofngilfdnakaaGreatBtW13q

namespace Go.Proofs.YtgofngilfdnakaaGreat
open Go Go.RowKit
set_option linter.unusedSimpArgs false
attribute [local go_sem] over_cell over_frozen lt_over le_over noB loudUpon ByteArray.mk_append_mk ByteArray.extract_mk

theorem row_at {w : World} {base g c n i x : Nat} {l : List Nat} (h : w.ownsRow base 3 1 (.slice (some ⟨g, 0, none⟩) n c) n (l.map numV)) (hi : l[i]? = some x) (_ : l.length = n) : w.cell? ⟨g, i, none⟩ = some (numV x) ∧ (∀ j, w.frozen? ⟨g, j, none⟩ = false) ∧ g < w.heap.size := by
  obtain ⟨_, cur, hcur, hcs, hnc, _, htk, _⟩ := own_open h
  obtain ⟨hi1, hi2⟩ := List.getElem?_eq_some_iff.1 hi
  have h1 : cur.toList[i]? = some (numV x) := by
    have h2 : (cur.toList.take n)[i]? = some (numV x) := by rw [htk, List.getElem?_map, hi]; rfl
    rw [List.getElem?_take] at h2
    split at h2
    · exact h2
    · cases h2
  refine ⟨?_, frozen_heap hcur, lt_heap hcur⟩
  rw [cell_heap hcur]
  simpa using h1

theorem sum5 {a b c e n m : Nat} (h : c + a + (e + n) ≤ m) (hn : b ≤ a + e) : c + b + n ≤ m := by omega
theorem sum3 {a b c e n : Nat} (h : b ≤ a + e) (hn : c ≤ b + n) : c ≤ a + (e + n) := by omega
theorem grown_n {a b c d : Nat} (h : b ≤ a + 140200 * (d + 1)) (hn : c ≤ b + 140200) : c ≤ a + 140200 * (d + 2) := by
  rw [show d + 2 = (d + 1) + 1 from rfl, Nat.mul_add, Nat.mul_one]
  exact sum3 h hn
theorem Small.grown {g g' : Lg} {d : Nat} (h : Small g (d + 2)) (hg : Grew g g') (hn : g'.wait.length ≤ g.wait.length + 140200 * (d + 1)) : Small g' 1 := by
  obtain ⟨x, rfl⟩ := hg.ex
  unfold Small at *
  rw [show d + 2 = (d + 1) + 1 from rfl, Nat.mul_add, Nat.mul_one] at h
  rw [Nat.mul_one]
  exact sum5 h hn
theorem Small.zero {g : Lg} {d : Nat} (h : Small g d) : Small g 0 := by
  unfold Small at *
  rw [Nat.mul_zero]
  exact Nat.le_trans (Nat.le_add_right _ _) h

set_option maxRecDepth 100000 in
set_option maxHeartbeats 12800000 in
theorem put_node (t l p k m d : Nat) (g : Lg) (root : Int) (q : Pg) (key v : Str) (lo : Str) (hi : Option Str) (M : Files) (w : World) (h : TL w t l p g root) (hq : rdG g k q) (hr : RepP (rdG g) (d + 1) q lo hi M) (h1 : 1 ≤ q.keys.length) (h8 : q.keys.length ≤ 8) (hm4 : m ≤ 4) (hm : m ≤ q.keys.length)
    (ha : above lo key) (hb : below hi key) (hs : Small g (d + 2))
    (HI : ∀ (X : World) x lo' hi' M2, TL X t l p g root → Rep (rdG g) 4 d x lo' hi' M2 → above lo' key → below hi' key →
      Calls Tryz.prog 105 #[.pointer (some ⟨t, 0, none⟩), .int .i64 x, .string ⟨key.toArray⟩, .string ⟨v.toArray⟩] X (Kept X t l p root g (140200 * (d + 1)) 4 d lo' hi' (M2.put key v))) :
    Calls Tryz.prog 105 #[.pointer (some ⟨t, 0, none⟩), .int .i64 k, .string ⟨key.toArray⟩, .string ⟨v.toArray⟩] w (Kept w t l p root g (140200 * (d + 2)) m (d + 1) lo hi (M.put key v)) := by
  have hs0 : Small g 0 := hs.zero
  obtain ⟨x, lo', hi', M2, hlt, hx, hrep, _, ha', hb', hfin⟩ := node_put v hr ha hb
  have hlf : q.leaf = false := hr.1
  have hpg := hq.1
  have hkl := kKid_le q.keys key
  have hkn : q.kids.length = q.keys.length + 1 := kr_length hr.2.2.2
  obtain ⟨W1, hW1⟩ : ∃ W1, w.alloc (.cells #[.int .i64 0, .int .i64 0, .string ⟨#[]⟩, .bool false] 175) = W1 := ⟨_, rfl⟩
  have hm1 : Mod NoB w W1 := by rw [← hW1]; exact (Mod.refl _ _).alloc _
  have hR1 : W1.heap[w.heap.size]? = some (.cells #[.int .i64 0, .int .i64 0, .string ⟨#[]⟩, .bool false] 175 (0, 0)) := by rw [← hW1]; exact heap_alloc_new _ _
  have HTL : Hid (t < w.heap.size) := lt_heap h.tree
  have HLL : Hid (l < w.heap.size) := lt_heap h.log
  have HT := Lib.hid (fun X (hX : Mod NoB w X) => h.mod hX)
  have HLD := Lib.hid (load_calls t l p g root k q W1 (h.mod hm1) hq hs0)
  have HIX := Lib.hid (fun X hT => HI X x lo' hi' M2 hT hrep ha' hb')
  have HM1 := Lib.hid hm1
  have HR1 := Lib.hid hR1
  have HPG := Lib.hid hpg
  unfold pageV at HLD
  rw [hlf] at HLD
  generalize hfi : kKid q.keys key = i at *
  have HFI := Lib.hid hfi
  have HQ := Lib.hid hlf
  have HX := Lib.hid hx
  have HF := Lib.hid hfin
  have HS := Lib.hid hs
  have HKN := Lib.hid hkn
  clear hkn
  have hkd9 : q.kids.length ≤ 9 := by have := HKN.out; omega
  clear hx hrep hfin hq hr h hm1 hR1 hpg hfi hlf hs hs0 ha hb ha' hb' HI
  go_enter Tryz.func105, Tryz.ntmps105
  go_wp2_with fail
  clear hW1
  refine HLD.out.mono ?_
  rintro e W2 ⟨kv, vv, cv, rfl, ho2, hm2⟩
  obtain ⟨⟨a1, c1, rfl⟩, ⟨a2, c2, rfl⟩, a3, c3, rfl⟩ := ho2.shapes
  obtain ⟨_, _, e2, _, _, _, hg⟩ := own_shape ho2.c
  cases e2
  obtain ⟨cg, rfl⟩ := hg (by omega)
  clear hg
  have hM2 := HM1.out.trans hm2 (fun _ _ h => h)
  have hR2 := (hm2.block _ (lt_heap HR1.out) id).trans HR1.out
  obtain ⟨W3, hW3⟩ : ∃ W3, W2.alloc (.cells #[.bool false, .slice a1 q.keys.length c1, .slice a2 q.vals.length c2, .slice (some ⟨cg, 0, none⟩) q.kids.length c3] 130) = W3 := ⟨_, rfl⟩
  have hm3 : Mod NoB W2 W3 := by rw [← hW3]; exact (Mod.refl _ _).alloc _
  have hP3 : W3.heap[W2.heap.size]? = some (.cells #[.bool false, .slice a1 q.keys.length c1, .slice a2 q.vals.length c2, .slice (some ⟨cg, 0, none⟩) q.kids.length c3] 130 (0, 0)) := by rw [← hW3]; exact heap_alloc_new _ _
  have hR3 := (hm3.block _ (lt_heap hR2) id).trans hR2
  have HM3 := Lib.hid (hM2.trans hm3 (fun _ _ h => h))
  have HO3 := Lib.hid (ho2.mod hm3)
  have hfc := Kid_calls q _ _ _ key W3 HO3.out.in1 HPG.out
  unfold pageV at hfc
  rw [HQ.out, HFI.out] at hfc
  have HFC := Lib.hid hfc
  obtain ⟨pb, p0, p1, p2, p3, pf⟩ := Page4.facts hP3
  have HP3 := Lib.hid hP3
  have HR3 := Lib.hid hR3
  have hsz1 := hm2.size
  have hrw := lt_heap HR1.out
  clear hm2 ho2 hM2 hR2 hm3 hP3 hR3 hfc HLD HM1 HR1
  go_wp2_with fail
  clear hW3
  refine HFC.out.mono ?_
  rintro e W4 ⟨rfl, hm4'⟩
  have hP4 := (hm4'.block _ pb id).trans HP3.out
  have HR4 := Lib.hid ((hm4'.block _ (lt_heap HR3.out) id).trans HR3.out)
  have HM4 := Lib.hid (HM3.out.trans hm4' (fun _ _ h => h))
  have HO4 := Lib.hid (HO3.out.mod hm4')
  clear hm4' HFC HP3 HR3 HM3 HO3 p0 p1 p2 p3 pf pb
  obtain ⟨pb, p0, p1, p2, p3, pf⟩ := Page4.facts hP4
  have HP4 := Lib.hid hP4
  clear hP4
  generalize W2.heap.size = P at *
  obtain ⟨c0, cf, cb⟩ := row_at HO4.out.c HX.out rfl
  go_wp2_with fail
  refine (HIX.out W4 (HT.out _ HM4.out)).mono ?_
  clear HIX c0 cf cb p0 p1 p2 p3 pf pb
  rintro e W5 ⟨a', b', kk, two', g1, rfl, hm5, hT5, hg5, hn5, hs5⟩
  have HSM := Lib.hid (HS.out.grown hg5 hn5)
  have HN5 := Lib.hid hn5
  clear hn5
  have hlw := HLL.out
  have hP5 := (hm5.block _ (lt_heap HP4.out) (by omega)).trans HP4.out
  have hR5 := (hm5.block _ (lt_heap HR4.out) (by have := lt_heap HP4.out; omega)).trans HR4.out
  have hO5 := HO4.out.keep hm5 (fun q' _ e hb => absurd hb (by omega))
  have hM5 := (HM4.out.mono (noB_sub (fun k => k = l) _)).trans hm5 (fun _ _ h => h)
  obtain ⟨W6, hW6⟩ : ∃ W6, W5.alloc (.cells #[.int .i64 a', .int .i64 b', .string ⟨kk.toArray⟩, .bool two'] 175) = W6 := ⟨_, rfl⟩
  have hm6 : Mod NoB W5 W6 := by rw [← hW6]; exact (Mod.refl _ _).alloc _
  have hS6 : W6.heap[W5.heap.size]? = some (.cells #[.int .i64 a', .int .i64 b', .string ⟨kk.toArray⟩, .bool two'] 175 (0, 0)) := by rw [← hW6]; exact heap_alloc_new _ _
  have HP6 := Lib.hid ((hm6.block _ (lt_heap hP5) id).trans hP5)
  have HR6 := Lib.hid ((hm6.block _ (lt_heap hR5) id).trans hR5)
  have HO6 := Lib.hid (hO5.mod hm6)
  have HM6 := Lib.hid (hM5.trans hm6 (fun _ _ h => h.elim))
  have HT6 := Lib.hid (hT5.mod hm6)
  have HG5 := Lib.hid hg5
  have HRP := Lib.hid (HF.out (rdG g1) a' b' kk two' hg5.rd hs5)
  have HPL := Lib.hid (putKid_len q i a' b' kk two' hkl)
  have hPS : P < W5.heap.size := lt_heap hP5
  have hcP : cg ≠ P := fun e => absurd (own_type HO6.out.c (q := P) (by rw [← e]; rfl) HP6.out) (by decide)
  have hcS : cg ≠ W5.heap.size := fun e => absurd (own_type HO6.out.c (q := W5.heap.size) (by rw [← e]; rfl) hS6) (by decide)
  have hcb := (HO6.out.c.lt cg rfl).1
  obtain ⟨c0, cf, cb⟩ := row_at HO6.out.c HX.out rfl
  obtain ⟨pb, p0, p1, p2, p3, pf⟩ := Page4.facts HP6.out
  obtain ⟨sb, s0, s1, s2, s3, sf⟩ := Split4.facts hS6
  have HS6 := Lib.hid hS6
  clear hm6 hS6 hm5 hT5 hg5 hs5 hO5 hM5 hP5 hR5 HF HO4 HM4 HP4 HR4 HT HS HPG HFI
  generalize hR2 : W5.heap.size = R at *
  cases two'
  · have HKP := Lib.hid (fun X kv vv cv base (hT : TL X t l p g1 root) (ho : PgOwn X base kv vv cv q.keys q.vals (q.kids.set i a')) => keep_calls t l p g1 root { q with kids := q.kids.set i a' } kv vv cv m (d + 1) base lo hi (M.put key v) X hT ho HRP.out h1 (by simp only; omega) hm4 hm HSM.out)
    unfold pageV at HKP
    simp only at HKP
    rw [HQ.out] at HKP
    go_wp2_with fail
    refine calls_at (fun X => ∃ Z, Mod (fun j => j = R) W6 Z ∧ X = Z.setCell ⟨cg, i, none⟩ (.int .i64 a')) ⟨_, (by (repeat (first | with_reducible exact Mod.refl _ _ | with_reducible refine Mod.drew ?_ | ((with_reducible refine Mod.setCell ?_ _ _ ?_); rotate_left; (intro _; rfl))))), rfl⟩ ?_
    rintro _ ⟨Z, hmZ, rfl⟩
    have hOZ := HO6.out.keep hmZ (fun q' _ e _ => ⟨_, _, _, e ▸ HS6.out, by decide, by decide⟩)
    have hmS : Mod (fun j => j = cg) Z (Z.setCell ⟨cg, i, none⟩ (.int .i64 a')) := (Mod.refl _ _).setCell _ _ (fun _ => rfl)
    have HOY := Lib.hid (hOZ.addC (cv' := .slice (some ⟨cg, 0, none⟩) q.kids.length c3) (cs' := q.kids.set i a') (by rw [List.length_set]; exact own_set_num a' hOZ.c) (hmS.mono (fun j _ e => by rw [e]; rfl)))
    have hwR := lt_heap HR6.out
    have HRY := Lib.hid ((hmS.block _ (by have := hmZ.size; omega) (fun e => by omega)).trans ((hmZ.block _ hwR (fun e => by omega)).trans HR6.out))
    have HTY := Lib.hid ((HT6.out.upd hmZ (fun e => by have := HTL.out; omega) (fun e => by omega)).upd hmS (fun e => by have := HTL.out; omega) (fun e => by omega))
    have HMY := Lib.hid ((HM6.out.trans hmZ (fun j hj e => by omega)).trans hmS (fun j hj e => by omega))
    clear hmZ hmS hOZ HO6 HR6 HM6 HP6 HS6 HT6 s0 s1 s2 s3 sb sf p0 p1 p2 p3 pf pb c0 cf cb
    generalize Z.setCell ⟨cg, i, none⟩ (.int .i64 a') = Y at *
    refine (HKP.out _ _ _ _ _ HTY.out HOY.out).mono ?_
    rintro e W6 ⟨a', b', kk, two, g', rfl, hm6, ht6, hg6, hn6, hs6⟩
    have hR6 := (hm6.block _ (lt_heap HRY.out) (by have := HLL.out; omega)).trans HRY.out
    obtain ⟨rb, r0, r1, r2, r3, rf⟩ := Split4.facts hR6
    have HR6 := Lib.hid hR6
    have HM6 := Lib.hid hm6
    have HT6 := Lib.hid ht6
    have HG6 := Lib.hid hg6
    have HN6 := Lib.hid hn6
    have HS6 := Lib.hid hs6
    have HMY6 := Lib.hid HMY.out
    clear hR6 hm6 ht6 hg6 hn6 hs6
    go_wp2_with fail
    refine at_world6 (P := bodyPost _ _ _ _ _) (fun X => X.heap[w.heap.size]? = some (.cells #[.int .i64 a', .int .i64 b', .string ⟨kk.toArray⟩, .bool two] 175 (0, 0)) ∧ Mod (fun k => k = w.heap.size) W6 X) ?_ ?_
    · refine ⟨?_, ?_⟩
      · simp only [heap_setCell, if_true, HR6.out, Option.map_some, setAt_cells, List.setIfInBounds_toArray, List.set_cons_zero, List.set_cons_succ]
      · repeat (first | with_reducible exact Mod.refl _ _ | ((with_reducible refine Mod.setCell ?_ _ _ ?_); rotate_left; (intro _; rfl)))
    · rintro X ⟨hDX, hMX⟩
      obtain ⟨xb, x0, x1, x2, x3, xf⟩ := Split4.facts hDX
      refine bodyPost_ret (v := .tuple #[splitV a' b' kk two, .int .i64 0]) (by simp [results, Tryz.f105, go_sem, x0, x1, x2, x3]) rfl ?_
      exact Kept.shut HMY6.out HM6.out HT6.out (Nat.le_refl _) HTL.out HLL.out hMX (HG5.out.trans HG6.out) (grown_n HN5.out HN6.out) HS6.out
  · have HKP := Lib.hid (fun X kv vv cv base (hT : TL X t l p g1 root) (ho : PgOwn X base kv vv cv (insL q.keys i kk) q.vals (insL (q.kids.set i a') (i + 1) b')) => keep_calls t l p g1 root { q with keys := insL q.keys i kk, kids := insL (q.kids.set i a') (i + 1) b' } kv vv cv m (d + 1) base lo hi (M.put key v) X hT ho HRP.out (by simp only [insL_length]; omega) (by simp only [insL_length]; omega) hm4 (by simp only [insL_length]; omega) HSM.out)
    unfold pageV at HKP
    simp only at HKP
    rw [HQ.out] at HKP
    go_wp2_with fail
    go_upto_region 16 with fail
    have hmS : Mod (fun j => j = cg) W6 (W6.setCell ⟨cg, i, none⟩ (.int .i64 a')) := (Mod.refl _ _).setCell _ _ (fun _ => rfl)
    have HOY := Lib.hid (HO6.out.addC (cv' := .slice (some ⟨cg, 0, none⟩) q.kids.length c3) (cs' := q.kids.set i a') (by rw [List.length_set]; exact own_set_num a' HO6.out.c) (hmS.mono (fun j _ e => by rw [e]; rfl)))
    have hwR := lt_heap HR6.out
    have HRY := Lib.hid ((hmS.block _ hwR (fun e => by omega)).trans HR6.out)
    have hPY := (hmS.block _ pb (fun e => hcP e.symm)).trans HP6.out
    have hSY := (hmS.block _ sb (fun e => hcS e.symm)).trans HS6.out
    have HTY := Lib.hid (HT6.out.upd hmS (fun e => by have := HTL.out; omega) (fun e => by omega))
    have HMY := Lib.hid (HM6.out.trans hmS (fun j hj e => by omega))
    clear hmS HO6 HR6 HM6 HP6 HS6 HT6 s0 s1 s2 s3 sb sf p0 p1 p2 p3 pf pb c0 cf cb hW6
    generalize W6.setCell ⟨cg, i, none⟩ (.int .i64 a') = Y at *
    obtain ⟨pb, p0, p1, p2, p3, pf⟩ := Page4.facts hPY
    obtain ⟨sb, s0, s1, s2, s3, sf⟩ := Split4.facts hSY
    have HPY := Lib.hid hPY
    have HSY := Lib.hid hSY
    have hbY : W1.heap.size ≤ Y.heap.size := by omega
    clear hPY hSY
    have HKB : Hid (∀ j, (Value.slice a1 q.keys.length c1).ownBlock = some j → j < Y.heap.size ∧ j ≠ P ∧ j ≠ R ∧ W1.heap.size ≤ j) := fun j hj => ⟨(HOY.out.k.lt j hj).2, fun e => absurd (own_type HOY.out.k hj (e ▸ HPY.out)) (by decide), fun e => absurd (own_type HOY.out.k hj (e ▸ HSY.out)) (by decide), (HOY.out.k.lt j hj).1⟩
    have HI1 : Hid (∀ X vb, Mod NoB Y X → X.heap[vb]? = some (.cells #[txt kk] 9 (0, 0)) → Y.heap.size ≤ vb → Calls Tryz.prog 142 #[.slice a1 q.keys.length c1, .int .i64 i, .slice (some ⟨vb, 0, none⟩) 1 1] X fun e w' => ∃ u, e = .returned u ∧ InsU W1.heap.size 9 (.slice a1 q.keys.length c1) q.keys.length ((insL q.keys i kk).map txt) X u w') := fun X vb hX hx hvb =>
      (InsertS_calls kk (own_of_mod HOY.out.k hX (fun _ _ => id)) hkl (by omega) (Nat.le_trans hbY hX.size) hx (fun e => by have := (HKB.out vb e).1; omega)).mono fun e w' h => h.fn
    have HI2 : Hid (∀ X vb, Mod (fun j => (Value.slice a1 q.keys.length c1).ownBlock = some j) Y X → X.heap[vb]? = some (.cells #[numV b'] 3 (0, 0)) → Y.heap.size ≤ vb → Calls Tryz.prog 144 #[.slice (some ⟨cg, 0, none⟩) q.kids.length c3, .int .i64 (i + 1 : Nat), .slice (some ⟨vb, 0, none⟩) 1 1] X fun e w' => ∃ u, e = .returned u ∧ InsU W1.heap.size 3 (.slice (some ⟨cg, 0, none⟩) q.kids.length c3) (q.kids.set i a').length ((insL (q.kids.set i a') (i + 1) b').map numV) X u w') := fun X vb hX hx hvb =>
      (InsertI_calls b' (own_of_mod HOY.out.c hX (fun j hj e => own_apart HOY.out.k HOY.out.c (by decide) j e hj)) (by rw [List.length_set]; omega) (by rw [List.length_set]; omega) (Nat.le_trans hbY hX.size) hx (fun e => by have := (HOY.out.c.lt vb e).2; omega)).mono fun e w' h => h.fn
    rw [List.length_set] at HI2
    rw [show ((i + 1 : Nat) : Int) = IntKind.i64.wrap ((i : Int) + 1) from (IntWalk.i64_in _ (by omega)).symm] at HI2
    refine wp_region_front (fun w' => w'.cell? ⟨P, 1, none⟩ = some (.slice a1 q.keys.length c1) ∧ w'.cell? ⟨P, 3, none⟩ = some (.slice (some ⟨cg, 0, none⟩) q.kids.length c3) ∧ w'.cell? ⟨R, 1, none⟩ = some (.int .i64 b') ∧ w'.cell? ⟨R, 2, none⟩ = some (.string ⟨kk.toArray⟩)) (notIn [16, 18]) (by kernel_rfl) ?_ (fun hHeld => ?_)
    · go_keep
    refine tkT 0 (v := ?_) ?_ hHeld ?_
    rotate_left
    · (intro _; simp only [ga, gz]; go_simp; try with_reducible rfl)
    simp only [Act.put, ga, gz, sb, sz, ss]
    refine tkL 1 (v := ?_) ?_ hHeld ?_
    rotate_left
    · (intro _ h; (try dsimp only at h); simp only [ga, gs, gz]; go_simp; try with_reducible rfl)
    simp only [Act.put, ga, gs, gz, sb, sz, ss]
    refine tkT 2 (v := ?_) ?_ hHeld ?_
    rotate_left
    · (intro _; simp only [ga, gs, gz]; go_simp; try with_reducible rfl)
    simp only [Act.put, ga, gs, gz, sb, sz, ss]
    refine tkT 3 (v := ?_) ?_ hHeld ?_
    rotate_left
    · (intro _; simp only [ga, gs, gz]; go_simp; try with_reducible rfl)
    simp only [Act.put, ga, gs, gz, sb, sz, ss]
    refine tkL 4 (v := ?_) ?_ hHeld ?_
    rotate_left
    · (intro _ h; (try dsimp only at h); simp only [ga, gs, gz]; go_simp; try with_reducible rfl)
    simp only [Act.put, ga, gs, gz, sb, sz, ss]
    refine tkT 7 (v := ?_) ?_ hHeld ?_
    rotate_left
    · (intro _; simp only [ga, gs, gz]; go_simp; try with_reducible rfl)
    simp only [Act.put, ga, gs, gz, sb, sz, ss]
    refine tkL 8 (v := ?_) ?_ hHeld ?_
    rotate_left
    · (intro _ h; (try dsimp only at h); simp only [ga, gs, gz]; go_simp; try with_reducible rfl)
    simp only [Act.put, ga, gs, gz, sb, sz, ss]
    refine tkT 9 (v := ?_) ?_ hHeld ?_
    rotate_left
    · (intro _; simp only [ga, gs, gz]; go_simp; try with_reducible rfl)
    simp only [Act.put, ga, gs, gz, sb, sz, ss]
    refine tkT 10 (v := ?_) ?_ hHeld ?_
    rotate_left
    · (intro _; simp only [ga, gs, gz]; go_simp; try with_reducible rfl)
    simp only [Act.put, ga, gs, gz, sb, sz, ss]
    refine tkT 11 (v := ?_) ?_ hHeld ?_
    rotate_left
    · (intro _; simp only [ga, gs, gz]; go_simp; try with_reducible rfl)
    simp only [Act.put, ga, gs, gz, sb, sz, ss]
    refine allF [5, 12] (mc (stF ?_) (mc (stF ?_) mn))
    · intro K hK
      dsimp only [ga, gs, gz]
      go_simp
      refine hK _ _ (show_held ?_ (fun hHeld => ?_))
      · go_keep
      clear hK K
      refine allF [6, 12] (mc (stF ?_) (mc (stF ?_) mn))
      · intro K hK
        dsimp only [ga, gs, gz]
        rw [if_pos (by rfl)]
        refine wp_fn 142 (fun _ _ => by kernel_rfl) #[.tmp 87, .tmp 88, .tmp 91] #[77, 3, 77] rfl (vs := #[.slice a1 q.keys.length c1, .int .i64 i, .slice (some ⟨_, 0, none⟩) 1 1]) rfl (HI1.out _ _ QM.out (by first | exact hat0 | exact hat1) (by (first | omega | (simp only [size_alloc, heap_drew]; omega)))) ?_
        rintro u X7 ⟨a7, c7, rfl, ho7, hm7, hb7⟩
        have hM7 : Mod (fun j => (Value.slice a1 q.keys.length c1).ownBlock = some j) Y X7 := ((show Mod NoB Y _ from QM.out).mono (noB_sub _ _)).trans hm7 (fun _ _ h => h)
        have hP7 := (hM7.block P pb (fun e => (HKB.out P e).2.1 rfl)).trans HPY.out
        have hS7 := (hM7.block R sb (fun e => (HKB.out R e).2.2.1 rfl)).trans HSY.out
        obtain ⟨qb, q0, q1, q2, q3, qf⟩ := Page4.facts hP7
        obtain ⟨ub, u0, u1, u2, u3, uf⟩ := Split4.facts hS7
        have HO7 := Lib.hid ((HOY.out.mod (show Mod NoB Y _ from QM.out)).addK (kv' := .slice a7 (q.keys.length + 1) c7) (ks' := insL q.keys i kk) (by rw [insL_length]; exact ho7) hm7 hb7)
        have HMM7 := Lib.hid (HMY.out.trans hM7 (fun j hj e => by have := (HKB.out j e).2.2.2; omega))
        have HR7 := Lib.hid ((hM7.block _ (lt_heap HRY.out) (fun e => by have := (HKB.out _ e).2.2.2; omega)).trans HRY.out)
        have HT7 := Lib.hid (HTY.out.upd hM7 (fun e => by have := (HKB.out _ e).2.2.2; have := HTL.out; omega) (fun e => by have := (HKB.out _ e).2.2.2; omega))
        have hsz7 := hm7.size
        simp only [size_alloc, heap_drew] at hsz7
        refine hK _ _ (show_held ?_ (fun hHeld => ?_))
        · go_keep
        clear hK K
        simp only [Act.put, List.setIfInBounds_toArray, List.set_cons_zero, List.set_cons_succ]
        refine tkT 15 (v := ?_) ?_ hHeld ?_
        rotate_left
        · (intro _; simp only [ga, gs, gz]; go_simp; try with_reducible rfl)
        simp only [Act.put, ga, gs, gz, sb, sz, ss]
        refine allF [12] (mc (stF ?_) mn)
        intro K hK
        dsimp only [ga, gs, gz]
        go_simp
        refine hK _ _ (show_held ?_ (fun hHeld => ?_))
        · go_keep
        clear hK K
        refine allF [13] (mc (stF ?_) mn)
        intro K hK
        dsimp only [ga, gs, gz]
        go_simp
        refine hK _ _ (show_held ?_ (fun hHeld => ?_))
        · go_keep
        clear hK K
        refine allF [14] (mc (stF ?_) mn)
        intro K hK
        dsimp only [ga, gs, gz]
        rw [if_pos (by rfl)]
        refine wp_fn 144 (fun _ _ => by kernel_rfl) #[.tmp 94, .tmp 96, .tmp 99] #[38, 3, 38] rfl (vs := #[.slice (some ⟨cg, 0, none⟩) q.kids.length c3, .int .i64 (IntKind.i64.wrap ((i : Int) + 1)), .slice (some ⟨_, 0, none⟩) 1 1]) rfl (HI2.out _ _ (hM7.trans (show Mod NoB X7 _ from QM.out) (fun _ _ h => h.elim)) (by first | exact (by first | exact hat0 | exact hat1) | exact (hm7.block _ (by (first | omega | (simp only [size_alloc, heap_drew]; omega))) (fun e => by have := (HKB.out _ e).1; omega)).trans (by first | exact hat0 | exact hat1)) (by (first | omega | (simp only [size_alloc, heap_drew]; omega)))) ?_
        rintro u X8 ⟨a8, c8, rfl, ho8, hm8, hb8⟩
        have hM8 : Mod (fun j => j = cg) X7 X8 := ((show Mod NoB X7 _ from QM.out).mono (noB_sub _ _)).trans hm8 (fun j _ h => by cases h; rfl)
        have hP8 := (hM8.block P qb (fun e => hcP e.symm)).trans hP7
        obtain ⟨tb, t0, t1, t2, t3, tf⟩ := Page4.facts hP8
        obtain ⟨yb, y0, y1, y2, y3, yf⟩ := Split4.facts ((hM8.block R ub (fun e => hcS e.symm)).trans hS7)
        have HO8 := Lib.hid ((HO7.out.mod (show Mod NoB X7 _ from QM.out)).addC (cv' := .slice a8 (q.kids.length + 1) c8) (cs' := insL (q.kids.set i a') (i + 1) b') (by rw [insL_length, List.length_set]; exact ho8) hm8)
        have HMM8 := Lib.hid (HMM7.out.trans hM8 (fun j hj e => by omega))
        have HR8 := Lib.hid ((hM8.block _ (lt_heap HR7.out) (fun e => by omega)).trans HR7.out)
        have HT8 := Lib.hid (HT7.out.upd hM8 (fun e => by have := HTL.out; omega) (fun e => by omega))
        have HP8 := Lib.hid hP8
        clear ho7 ho8 hm7 hm8 hb7 hb8 hP7 hP8 hM7 hM8 HI1 HI2 HO7 HMM7 HR7 HOY HMY HRY HPY HSY HKB HT7 HTY hS7
        refine hK _ _ (show_held ?_ (fun hHeld => ?_))
        · go_keep
        clear hK K
        simp only [Act.put, List.setIfInBounds_toArray, List.set_cons_zero, List.set_cons_succ]
        refine allF [16] (mc (stN ?_) mn)
        intro K hK
        dsimp only [ga, gs, gz]
        go_simp
        refine hK _ _ ?_
        clear hK K
        refine tkN 17 (v := ?_) ?_ ?_
        rotate_left
        · (intro _; simp only [ga, gs, gz]; go_simp; try with_reducible rfl)
        simp only [Act.put, ga, gs, gz, sb, sz, ss]
        refine allN [18] (mc (stK ?_) mn)
        intro K hK
        dsimp only [ga, gs, gz]
        go_simp
        refine hK _ _ ?_
        clear hK K
        refine wpAny_done (by kernel_rfl) ?_ _
        go_wp2_with fail
        refine calls_at (fun X => Mod (fun j => j = P) X8 X) (by (repeat (first | with_reducible exact Mod.refl _ _ | with_reducible refine Mod.drew ?_ | ((with_reducible refine Mod.setCell ?_ _ _ ?_); rotate_left; (intro _; rfl))))) ?_
        intro Y9 hmY
        have hwr8 := lt_heap HR8.out
        have HOY := Lib.hid (HO8.out.keep hmY (fun q' _ e _ => ⟨_, _, _, e ▸ HP8.out, by decide, by decide⟩))
        have HRY := Lib.hid ((hmY.block _ hwr8 (fun e => by omega)).trans HR8.out)
        have HMY := Lib.hid (HMM8.out.trans hmY (fun j hj e => by omega))
        have HTY := Lib.hid (HT8.out.upd hmY (fun e => by have := HTL.out; omega) (fun e => by omega))
        clear hmY HO8 HR8 HMM8 HP8 HT8 p0 p1 p2 p3 pf pb q0 q1 q2 q3 qf qb t0 t1 t2 t3 tf tb s0 s1 s2 s3 sf sb u0 u1 u2 u3 uf ub y0 y1 y2 y3 yf yb
        have hkp := HKP.out Y9 (.slice a7 (q.keys.length + 1) c7) (.slice a2 q.vals.length c2) (.slice a8 (q.kids.length + 1) c8) _ HTY.out HOY.out
        refine hkp.mono ?_
        clear hkp
        rintro e W6 ⟨a', b', kk, two, g', rfl, hm6, ht6, hg6, hn6, hs6⟩
        have hR6 := (hm6.block _ (lt_heap HRY.out) (by have := HLL.out; omega)).trans HRY.out
        obtain ⟨rb, r0, r1, r2, r3, rf⟩ := Split4.facts hR6
        have HR6 := Lib.hid hR6
        have HM6 := Lib.hid hm6
        have HT6 := Lib.hid ht6
        have HG6 := Lib.hid hg6
        have HN6 := Lib.hid hn6
        have HS6 := Lib.hid hs6
        have HMY6 := Lib.hid HMY.out
        clear hR6 hm6 ht6 hg6 hn6 hs6
        go_wp2_with fail
        refine at_world6 (P := bodyPost _ _ _ _ _) (fun X => X.heap[w.heap.size]? = some (.cells #[.int .i64 a', .int .i64 b', .string ⟨kk.toArray⟩, .bool two] 175 (0, 0)) ∧ Mod (fun k => k = w.heap.size) W6 X) ?_ ?_
        · refine ⟨?_, ?_⟩
          · simp only [heap_setCell, if_true, HR6.out, Option.map_some, setAt_cells, List.setIfInBounds_toArray, List.set_cons_zero, List.set_cons_succ]
          · repeat (first | with_reducible exact Mod.refl _ _ | ((with_reducible refine Mod.setCell ?_ _ _ ?_); rotate_left; (intro _; rfl)))
        · rintro X ⟨hDX, hMX⟩
          obtain ⟨xb, x0, x1, x2, x3, xf⟩ := Split4.facts hDX
          refine bodyPost_ret (v := .tuple #[splitV a' b' kk two, .int .i64 0]) (by simp [results, Tryz.f105, go_sem, x0, x1, x2, x3]) rfl ?_
          exact Kept.shut HMY6.out HM6.out HT6.out (Nat.le_refl _) HTL.out HLL.out hMX (HG5.out.trans HG6.out) (grown_n HN5.out HN6.out) HS6.out
      · intro K hK
        dsimp only [ga, gs, gz]
        go_simp
        refine hK _ _ (show_held ?_ (fun hHeld => ?_))
        · go_keep
        clear hK K
        refine allF [6, 13] (mc (stF ?_) (mc (stF ?_) mn))
        · intro K hK
          dsimp only [ga, gs, gz]
          rw [if_pos (by rfl)]
          refine wp_fn 142 (fun _ _ => by kernel_rfl) #[.tmp 87, .tmp 88, .tmp 91] #[77, 3, 77] rfl (vs := #[.slice a1 q.keys.length c1, .int .i64 i, .slice (some ⟨_, 0, none⟩) 1 1]) rfl (HI1.out _ _ QM.out (by first | exact hat0 | exact hat1) (by (first | omega | (simp only [size_alloc, heap_drew]; omega)))) ?_
          rintro u X7 ⟨a7, c7, rfl, ho7, hm7, hb7⟩
          have hM7 : Mod (fun j => (Value.slice a1 q.keys.length c1).ownBlock = some j) Y X7 := ((show Mod NoB Y _ from QM.out).mono (noB_sub _ _)).trans hm7 (fun _ _ h => h)
          have hP7 := (hM7.block P pb (fun e => (HKB.out P e).2.1 rfl)).trans HPY.out
          have hS7 := (hM7.block R sb (fun e => (HKB.out R e).2.2.1 rfl)).trans HSY.out
          obtain ⟨qb, q0, q1, q2, q3, qf⟩ := Page4.facts hP7
          obtain ⟨ub, u0, u1, u2, u3, uf⟩ := Split4.facts hS7
          have HO7 := Lib.hid ((HOY.out.mod (show Mod NoB Y _ from QM.out)).addK (kv' := .slice a7 (q.keys.length + 1) c7) (ks' := insL q.keys i kk) (by rw [insL_length]; exact ho7) hm7 hb7)
          have HMM7 := Lib.hid (HMY.out.trans hM7 (fun j hj e => by have := (HKB.out j e).2.2.2; omega))
          have HR7 := Lib.hid ((hM7.block _ (lt_heap HRY.out) (fun e => by have := (HKB.out _ e).2.2.2; omega)).trans HRY.out)
          have HT7 := Lib.hid (HTY.out.upd hM7 (fun e => by have := (HKB.out _ e).2.2.2; have := HTL.out; omega) (fun e => by have := (HKB.out _ e).2.2.2; omega))
          have hsz7 := hm7.size
          simp only [size_alloc, heap_drew] at hsz7
          refine hK _ _ (show_held ?_ (fun hHeld => ?_))
          · go_keep
          clear hK K
          simp only [Act.put, List.setIfInBounds_toArray, List.set_cons_zero, List.set_cons_succ]
          refine tkT 15 (v := ?_) ?_ hHeld ?_
          rotate_left
          · (intro _; simp only [ga, gs, gz]; go_simp; try with_reducible rfl)
          simp only [Act.put, ga, gs, gz, sb, sz, ss]
          refine allF [13] (mc (stF ?_) mn)
          intro K hK
          dsimp only [ga, gs, gz]
          go_simp
          refine hK _ _ (show_held ?_ (fun hHeld => ?_))
          · go_keep
          clear hK K
          refine allF [14] (mc (stF ?_) mn)
          intro K hK
          dsimp only [ga, gs, gz]
          rw [if_pos (by rfl)]
          refine wp_fn 144 (fun _ _ => by kernel_rfl) #[.tmp 94, .tmp 96, .tmp 99] #[38, 3, 38] rfl (vs := #[.slice (some ⟨cg, 0, none⟩) q.kids.length c3, .int .i64 (IntKind.i64.wrap ((i : Int) + 1)), .slice (some ⟨_, 0, none⟩) 1 1]) rfl (HI2.out _ _ (hM7.trans (show Mod NoB X7 _ from QM.out) (fun _ _ h => h.elim)) (by first | exact (by first | exact hat0 | exact hat1) | exact (hm7.block _ (by (first | omega | (simp only [size_alloc, heap_drew]; omega))) (fun e => by have := (HKB.out _ e).1; omega)).trans (by first | exact hat0 | exact hat1)) (by (first | omega | (simp only [size_alloc, heap_drew]; omega)))) ?_
          rintro u X8 ⟨a8, c8, rfl, ho8, hm8, hb8⟩
          have hM8 : Mod (fun j => j = cg) X7 X8 := ((show Mod NoB X7 _ from QM.out).mono (noB_sub _ _)).trans hm8 (fun j _ h => by cases h; rfl)
          have hP8 := (hM8.block P qb (fun e => hcP e.symm)).trans hP7
          obtain ⟨tb, t0, t1, t2, t3, tf⟩ := Page4.facts hP8
          obtain ⟨yb, y0, y1, y2, y3, yf⟩ := Split4.facts ((hM8.block R ub (fun e => hcS e.symm)).trans hS7)
          have HO8 := Lib.hid ((HO7.out.mod (show Mod NoB X7 _ from QM.out)).addC (cv' := .slice a8 (q.kids.length + 1) c8) (cs' := insL (q.kids.set i a') (i + 1) b') (by rw [insL_length, List.length_set]; exact ho8) hm8)
          have HMM8 := Lib.hid (HMM7.out.trans hM8 (fun j hj e => by omega))
          have HR8 := Lib.hid ((hM8.block _ (lt_heap HR7.out) (fun e => by omega)).trans HR7.out)
          have HT8 := Lib.hid (HT7.out.upd hM8 (fun e => by have := HTL.out; omega) (fun e => by omega))
          have HP8 := Lib.hid hP8
          clear ho7 ho8 hm7 hm8 hb7 hb8 hP7 hP8 hM7 hM8 HI1 HI2 HO7 HMM7 HR7 HOY HMY HRY HPY HSY HKB HT7 HTY hS7
          refine hK _ _ (show_held ?_ (fun hHeld => ?_))
          · go_keep
          clear hK K
          simp only [Act.put, List.setIfInBounds_toArray, List.set_cons_zero, List.set_cons_succ]
          refine allF [16] (mc (stN ?_) mn)
          intro K hK
          dsimp only [ga, gs, gz]
          go_simp
          refine hK _ _ ?_
          clear hK K
          refine tkN 17 (v := ?_) ?_ ?_
          rotate_left
          · (intro _; simp only [ga, gs, gz]; go_simp; try with_reducible rfl)
          simp only [Act.put, ga, gs, gz, sb, sz, ss]
          refine allN [18] (mc (stK ?_) mn)
          intro K hK
          dsimp only [ga, gs, gz]
          go_simp
          refine hK _ _ ?_
          clear hK K
          refine wpAny_done (by kernel_rfl) ?_ _
          go_wp2_with fail
          refine calls_at (fun X => Mod (fun j => j = P) X8 X) (by (repeat (first | with_reducible exact Mod.refl _ _ | with_reducible refine Mod.drew ?_ | ((with_reducible refine Mod.setCell ?_ _ _ ?_); rotate_left; (intro _; rfl))))) ?_
          intro Y9 hmY
          have hwr8 := lt_heap HR8.out
          have HOY := Lib.hid (HO8.out.keep hmY (fun q' _ e _ => ⟨_, _, _, e ▸ HP8.out, by decide, by decide⟩))
          have HRY := Lib.hid ((hmY.block _ hwr8 (fun e => by omega)).trans HR8.out)
          have HMY := Lib.hid (HMM8.out.trans hmY (fun j hj e => by omega))
          have HTY := Lib.hid (HT8.out.upd hmY (fun e => by have := HTL.out; omega) (fun e => by omega))
          clear hmY HO8 HR8 HMM8 HP8 HT8 p0 p1 p2 p3 pf pb q0 q1 q2 q3 qf qb t0 t1 t2 t3 tf tb s0 s1 s2 s3 sf sb u0 u1 u2 u3 uf ub y0 y1 y2 y3 yf yb
          have hkp := HKP.out Y9 (.slice a7 (q.keys.length + 1) c7) (.slice a2 q.vals.length c2) (.slice a8 (q.kids.length + 1) c8) _ HTY.out HOY.out
          refine hkp.mono ?_
          clear hkp
          rintro e W6 ⟨a', b', kk, two, g', rfl, hm6, ht6, hg6, hn6, hs6⟩
          have hR6 := (hm6.block _ (lt_heap HRY.out) (by have := HLL.out; omega)).trans HRY.out
          obtain ⟨rb, r0, r1, r2, r3, rf⟩ := Split4.facts hR6
          have HR6 := Lib.hid hR6
          have HM6 := Lib.hid hm6
          have HT6 := Lib.hid ht6
          have HG6 := Lib.hid hg6
          have HN6 := Lib.hid hn6
          have HS6 := Lib.hid hs6
          have HMY6 := Lib.hid HMY.out
          clear hR6 hm6 ht6 hg6 hn6 hs6
          go_wp2_with fail
          refine at_world6 (P := bodyPost _ _ _ _ _) (fun X => X.heap[w.heap.size]? = some (.cells #[.int .i64 a', .int .i64 b', .string ⟨kk.toArray⟩, .bool two] 175 (0, 0)) ∧ Mod (fun k => k = w.heap.size) W6 X) ?_ ?_
          · refine ⟨?_, ?_⟩
            · simp only [heap_setCell, if_true, HR6.out, Option.map_some, setAt_cells, List.setIfInBounds_toArray, List.set_cons_zero, List.set_cons_succ]
            · repeat (first | with_reducible exact Mod.refl _ _ | ((with_reducible refine Mod.setCell ?_ _ _ ?_); rotate_left; (intro _; rfl)))
          · rintro X ⟨hDX, hMX⟩
            obtain ⟨xb, x0, x1, x2, x3, xf⟩ := Split4.facts hDX
            refine bodyPost_ret (v := .tuple #[splitV a' b' kk two, .int .i64 0]) (by simp [results, Tryz.f105, go_sem, x0, x1, x2, x3]) rfl ?_
            exact Kept.shut HMY6.out HM6.out HT6.out (Nat.le_refl _) HTL.out HLL.out hMX (HG5.out.trans HG6.out) (grown_n HN5.out HN6.out) HS6.out
        · intro K hK
          dsimp only [ga, gs, gz]
          go_simp
          refine hK _ _ (show_held ?_ (fun hHeld => ?_))
          · go_keep
          clear hK K
          refine allF [6] (mc (stF ?_) mn)
          intro K hK
          dsimp only [ga, gs, gz]
          rw [if_pos (by rfl)]
          refine wp_fn 142 (fun _ _ => by kernel_rfl) #[.tmp 87, .tmp 88, .tmp 91] #[77, 3, 77] rfl (vs := #[.slice a1 q.keys.length c1, .int .i64 i, .slice (some ⟨_, 0, none⟩) 1 1]) rfl (HI1.out _ _ QM.out (by first | exact hat0 | exact hat1) (by (first | omega | (simp only [size_alloc, heap_drew]; omega)))) ?_
          rintro u X7 ⟨a7, c7, rfl, ho7, hm7, hb7⟩
          have hM7 : Mod (fun j => (Value.slice a1 q.keys.length c1).ownBlock = some j) Y X7 := ((show Mod NoB Y _ from QM.out).mono (noB_sub _ _)).trans hm7 (fun _ _ h => h)
          have hP7 := (hM7.block P pb (fun e => (HKB.out P e).2.1 rfl)).trans HPY.out
          have hS7 := (hM7.block R sb (fun e => (HKB.out R e).2.2.1 rfl)).trans HSY.out
          obtain ⟨qb, q0, q1, q2, q3, qf⟩ := Page4.facts hP7
          obtain ⟨ub, u0, u1, u2, u3, uf⟩ := Split4.facts hS7
          have HO7 := Lib.hid ((HOY.out.mod (show Mod NoB Y _ from QM.out)).addK (kv' := .slice a7 (q.keys.length + 1) c7) (ks' := insL q.keys i kk) (by rw [insL_length]; exact ho7) hm7 hb7)
          have HMM7 := Lib.hid (HMY.out.trans hM7 (fun j hj e => by have := (HKB.out j e).2.2.2; omega))
          have HR7 := Lib.hid ((hM7.block _ (lt_heap HRY.out) (fun e => by have := (HKB.out _ e).2.2.2; omega)).trans HRY.out)
          have HT7 := Lib.hid (HTY.out.upd hM7 (fun e => by have := (HKB.out _ e).2.2.2; have := HTL.out; omega) (fun e => by have := (HKB.out _ e).2.2.2; omega))
          have hsz7 := hm7.size
          simp only [size_alloc, heap_drew] at hsz7
          refine hK _ _ (show_held ?_ (fun hHeld => ?_))
          · go_keep
          clear hK K
          simp only [Act.put, List.setIfInBounds_toArray, List.set_cons_zero, List.set_cons_succ]
          refine tkT 15 (v := ?_) ?_ hHeld ?_
          rotate_left
          · (intro _; simp only [ga, gs, gz]; go_simp; try with_reducible rfl)
          simp only [Act.put, ga, gs, gz, sb, sz, ss]
          refine allF [14] (mc (stF ?_) mn)
          intro K hK
          dsimp only [ga, gs, gz]
          rw [if_pos (by rfl)]
          refine wp_fn 144 (fun _ _ => by kernel_rfl) #[.tmp 94, .tmp 96, .tmp 99] #[38, 3, 38] rfl (vs := #[.slice (some ⟨cg, 0, none⟩) q.kids.length c3, .int .i64 (IntKind.i64.wrap ((i : Int) + 1)), .slice (some ⟨_, 0, none⟩) 1 1]) rfl (HI2.out _ _ (hM7.trans (show Mod NoB X7 _ from QM.out) (fun _ _ h => h.elim)) (by first | exact (by first | exact hat0 | exact hat1) | exact (hm7.block _ (by (first | omega | (simp only [size_alloc, heap_drew]; omega))) (fun e => by have := (HKB.out _ e).1; omega)).trans (by first | exact hat0 | exact hat1)) (by (first | omega | (simp only [size_alloc, heap_drew]; omega)))) ?_
          rintro u X8 ⟨a8, c8, rfl, ho8, hm8, hb8⟩
          have hM8 : Mod (fun j => j = cg) X7 X8 := ((show Mod NoB X7 _ from QM.out).mono (noB_sub _ _)).trans hm8 (fun j _ h => by cases h; rfl)
          have hP8 := (hM8.block P qb (fun e => hcP e.symm)).trans hP7
          obtain ⟨tb, t0, t1, t2, t3, tf⟩ := Page4.facts hP8
          obtain ⟨yb, y0, y1, y2, y3, yf⟩ := Split4.facts ((hM8.block R ub (fun e => hcS e.symm)).trans hS7)
          have HO8 := Lib.hid ((HO7.out.mod (show Mod NoB X7 _ from QM.out)).addC (cv' := .slice a8 (q.kids.length + 1) c8) (cs' := insL (q.kids.set i a') (i + 1) b') (by rw [insL_length, List.length_set]; exact ho8) hm8)
          have HMM8 := Lib.hid (HMM7.out.trans hM8 (fun j hj e => by omega))
          have HR8 := Lib.hid ((hM8.block _ (lt_heap HR7.out) (fun e => by omega)).trans HR7.out)
          have HT8 := Lib.hid (HT7.out.upd hM8 (fun e => by have := HTL.out; omega) (fun e => by omega))
          have HP8 := Lib.hid hP8
          clear ho7 ho8 hm7 hm8 hb7 hb8 hP7 hP8 hM7 hM8 HI1 HI2 HO7 HMM7 HR7 HOY HMY HRY HPY HSY HKB HT7 HTY hS7
          refine hK _ _ (show_held ?_ (fun hHeld => ?_))
          · go_keep
          clear hK K
          simp only [Act.put, List.setIfInBounds_toArray, List.set_cons_zero, List.set_cons_succ]
          refine allF [16] (mc (stN ?_) mn)
          intro K hK
          dsimp only [ga, gs, gz]
          go_simp
          refine hK _ _ ?_
          clear hK K
          refine tkN 17 (v := ?_) ?_ ?_
          rotate_left
          · (intro _; simp only [ga, gs, gz]; go_simp; try with_reducible rfl)
          simp only [Act.put, ga, gs, gz, sb, sz, ss]
          refine allN [18] (mc (stK ?_) mn)
          intro K hK
          dsimp only [ga, gs, gz]
          go_simp
          refine hK _ _ ?_
          clear hK K
          refine wpAny_done (by kernel_rfl) ?_ _
          go_wp2_with fail
          refine calls_at (fun X => Mod (fun j => j = P) X8 X) (by (repeat (first | with_reducible exact Mod.refl _ _ | with_reducible refine Mod.drew ?_ | ((with_reducible refine Mod.setCell ?_ _ _ ?_); rotate_left; (intro _; rfl))))) ?_
          intro Y9 hmY
          have hwr8 := lt_heap HR8.out
          have HOY := Lib.hid (HO8.out.keep hmY (fun q' _ e _ => ⟨_, _, _, e ▸ HP8.out, by decide, by decide⟩))
          have HRY := Lib.hid ((hmY.block _ hwr8 (fun e => by omega)).trans HR8.out)
          have HMY := Lib.hid (HMM8.out.trans hmY (fun j hj e => by omega))
          have HTY := Lib.hid (HT8.out.upd hmY (fun e => by have := HTL.out; omega) (fun e => by omega))
          clear hmY HO8 HR8 HMM8 HP8 HT8 p0 p1 p2 p3 pf pb q0 q1 q2 q3 qf qb t0 t1 t2 t3 tf tb s0 s1 s2 s3 sf sb u0 u1 u2 u3 uf ub y0 y1 y2 y3 yf yb
          have hkp := HKP.out Y9 (.slice a7 (q.keys.length + 1) c7) (.slice a2 q.vals.length c2) (.slice a8 (q.kids.length + 1) c8) _ HTY.out HOY.out
          refine hkp.mono ?_
          clear hkp
          rintro e W6 ⟨a', b', kk, two, g', rfl, hm6, ht6, hg6, hn6, hs6⟩
          have hR6 := (hm6.block _ (lt_heap HRY.out) (by have := HLL.out; omega)).trans HRY.out
          obtain ⟨rb, r0, r1, r2, r3, rf⟩ := Split4.facts hR6
          have HR6 := Lib.hid hR6
          have HM6 := Lib.hid hm6
          have HT6 := Lib.hid ht6
          have HG6 := Lib.hid hg6
          have HN6 := Lib.hid hn6
          have HS6 := Lib.hid hs6
          have HMY6 := Lib.hid HMY.out
          clear hR6 hm6 ht6 hg6 hn6 hs6
          go_wp2_with fail
          refine at_world6 (P := bodyPost _ _ _ _ _) (fun X => X.heap[w.heap.size]? = some (.cells #[.int .i64 a', .int .i64 b', .string ⟨kk.toArray⟩, .bool two] 175 (0, 0)) ∧ Mod (fun k => k = w.heap.size) W6 X) ?_ ?_
          · refine ⟨?_, ?_⟩
            · simp only [heap_setCell, if_true, HR6.out, Option.map_some, setAt_cells, List.setIfInBounds_toArray, List.set_cons_zero, List.set_cons_succ]
            · repeat (first | with_reducible exact Mod.refl _ _ | ((with_reducible refine Mod.setCell ?_ _ _ ?_); rotate_left; (intro _; rfl)))
          · rintro X ⟨hDX, hMX⟩
            obtain ⟨xb, x0, x1, x2, x3, xf⟩ := Split4.facts hDX
            refine bodyPost_ret (v := .tuple #[splitV a' b' kk two, .int .i64 0]) (by simp [results, Tryz.f105, go_sem, x0, x1, x2, x3]) rfl ?_
            exact Kept.shut HMY6.out HM6.out HT6.out (Nat.le_refl _) HTL.out HLL.out hMX (HG5.out.trans HG6.out) (grown_n HN5.out HN6.out) HS6.out
    · intro K hK
      dsimp only [ga, gs, gz]
      go_simp
      refine hK _ _ (show_held ?_ (fun hHeld => ?_))
      · go_keep
      clear hK K
      refine allF [5, 13] (mc (stF ?_) (mc (stF ?_) mn))
      · intro K hK
        dsimp only [ga, gs, gz]
        go_simp
        refine hK _ _ (show_held ?_ (fun hHeld => ?_))
        · go_keep
        clear hK K
        refine allF [6, 13] (mc (stF ?_) (mc (stF ?_) mn))
        · intro K hK
          dsimp only [ga, gs, gz]
          rw [if_pos (by rfl)]
          refine wp_fn 142 (fun _ _ => by kernel_rfl) #[.tmp 87, .tmp 88, .tmp 91] #[77, 3, 77] rfl (vs := #[.slice a1 q.keys.length c1, .int .i64 i, .slice (some ⟨_, 0, none⟩) 1 1]) rfl (HI1.out _ _ QM.out (by first | exact hat0 | exact hat1) (by (first | omega | (simp only [size_alloc, heap_drew]; omega)))) ?_
          rintro u X7 ⟨a7, c7, rfl, ho7, hm7, hb7⟩
          have hM7 : Mod (fun j => (Value.slice a1 q.keys.length c1).ownBlock = some j) Y X7 := ((show Mod NoB Y _ from QM.out).mono (noB_sub _ _)).trans hm7 (fun _ _ h => h)
          have hP7 := (hM7.block P pb (fun e => (HKB.out P e).2.1 rfl)).trans HPY.out
          have hS7 := (hM7.block R sb (fun e => (HKB.out R e).2.2.1 rfl)).trans HSY.out
          obtain ⟨qb, q0, q1, q2, q3, qf⟩ := Page4.facts hP7
          obtain ⟨ub, u0, u1, u2, u3, uf⟩ := Split4.facts hS7
          have HO7 := Lib.hid ((HOY.out.mod (show Mod NoB Y _ from QM.out)).addK (kv' := .slice a7 (q.keys.length + 1) c7) (ks' := insL q.keys i kk) (by rw [insL_length]; exact ho7) hm7 hb7)
          have HMM7 := Lib.hid (HMY.out.trans hM7 (fun j hj e => by have := (HKB.out j e).2.2.2; omega))
          have HR7 := Lib.hid ((hM7.block _ (lt_heap HRY.out) (fun e => by have := (HKB.out _ e).2.2.2; omega)).trans HRY.out)
          have HT7 := Lib.hid (HTY.out.upd hM7 (fun e => by have := (HKB.out _ e).2.2.2; have := HTL.out; omega) (fun e => by have := (HKB.out _ e).2.2.2; omega))
          have hsz7 := hm7.size
          simp only [size_alloc, heap_drew] at hsz7
          refine hK _ _ (show_held ?_ (fun hHeld => ?_))
          · go_keep
          clear hK K
          simp only [Act.put, List.setIfInBounds_toArray, List.set_cons_zero, List.set_cons_succ]
          refine tkT 15 (v := ?_) ?_ hHeld ?_
          rotate_left
          · (intro _; simp only [ga, gs, gz]; go_simp; try with_reducible rfl)
          simp only [Act.put, ga, gs, gz, sb, sz, ss]
          refine allF [13] (mc (stF ?_) mn)
          intro K hK
          dsimp only [ga, gs, gz]
          go_simp
          refine hK _ _ (show_held ?_ (fun hHeld => ?_))
          · go_keep
          clear hK K
          refine allF [14] (mc (stF ?_) mn)
          intro K hK
          dsimp only [ga, gs, gz]
          rw [if_pos (by rfl)]
          refine wp_fn 144 (fun _ _ => by kernel_rfl) #[.tmp 94, .tmp 96, .tmp 99] #[38, 3, 38] rfl (vs := #[.slice (some ⟨cg, 0, none⟩) q.kids.length c3, .int .i64 (IntKind.i64.wrap ((i : Int) + 1)), .slice (some ⟨_, 0, none⟩) 1 1]) rfl (HI2.out _ _ (hM7.trans (show Mod NoB X7 _ from QM.out) (fun _ _ h => h.elim)) (by first | exact (by first | exact hat0 | exact hat1) | exact (hm7.block _ (by (first | omega | (simp only [size_alloc, heap_drew]; omega))) (fun e => by have := (HKB.out _ e).1; omega)).trans (by first | exact hat0 | exact hat1)) (by (first | omega | (simp only [size_alloc, heap_drew]; omega)))) ?_
          rintro u X8 ⟨a8, c8, rfl, ho8, hm8, hb8⟩
          have hM8 : Mod (fun j => j = cg) X7 X8 := ((show Mod NoB X7 _ from QM.out).mono (noB_sub _ _)).trans hm8 (fun j _ h => by cases h; rfl)
          have hP8 := (hM8.block P qb (fun e => hcP e.symm)).trans hP7
          obtain ⟨tb, t0, t1, t2, t3, tf⟩ := Page4.facts hP8
          obtain ⟨yb, y0, y1, y2, y3, yf⟩ := Split4.facts ((hM8.block R ub (fun e => hcS e.symm)).trans hS7)
          have HO8 := Lib.hid ((HO7.out.mod (show Mod NoB X7 _ from QM.out)).addC (cv' := .slice a8 (q.kids.length + 1) c8) (cs' := insL (q.kids.set i a') (i + 1) b') (by rw [insL_length, List.length_set]; exact ho8) hm8)
          have HMM8 := Lib.hid (HMM7.out.trans hM8 (fun j hj e => by omega))
          have HR8 := Lib.hid ((hM8.block _ (lt_heap HR7.out) (fun e => by omega)).trans HR7.out)
          have HT8 := Lib.hid (HT7.out.upd hM8 (fun e => by have := HTL.out; omega) (fun e => by omega))
          have HP8 := Lib.hid hP8
          clear ho7 ho8 hm7 hm8 hb7 hb8 hP7 hP8 hM7 hM8 HI1 HI2 HO7 HMM7 HR7 HOY HMY HRY HPY HSY HKB HT7 HTY hS7
          refine hK _ _ (show_held ?_ (fun hHeld => ?_))
          · go_keep
          clear hK K
          simp only [Act.put, List.setIfInBounds_toArray, List.set_cons_zero, List.set_cons_succ]
          refine allF [16] (mc (stN ?_) mn)
          intro K hK
          dsimp only [ga, gs, gz]
          go_simp
          refine hK _ _ ?_
          clear hK K
          refine tkN 17 (v := ?_) ?_ ?_
          rotate_left
          · (intro _; simp only [ga, gs, gz]; go_simp; try with_reducible rfl)
          simp only [Act.put, ga, gs, gz, sb, sz, ss]
          refine allN [18] (mc (stK ?_) mn)
          intro K hK
          dsimp only [ga, gs, gz]
          go_simp
          refine hK _ _ ?_
          clear hK K
          refine wpAny_done (by kernel_rfl) ?_ _
          go_wp2_with fail
          refine calls_at (fun X => Mod (fun j => j = P) X8 X) (by (repeat (first | with_reducible exact Mod.refl _ _ | with_reducible refine Mod.drew ?_ | ((with_reducible refine Mod.setCell ?_ _ _ ?_); rotate_left; (intro _; rfl))))) ?_
          intro Y9 hmY
          have hwr8 := lt_heap HR8.out
          have HOY := Lib.hid (HO8.out.keep hmY (fun q' _ e _ => ⟨_, _, _, e ▸ HP8.out, by decide, by decide⟩))
          have HRY := Lib.hid ((hmY.block _ hwr8 (fun e => by omega)).trans HR8.out)
          have HMY := Lib.hid (HMM8.out.trans hmY (fun j hj e => by omega))
          have HTY := Lib.hid (HT8.out.upd hmY (fun e => by have := HTL.out; omega) (fun e => by omega))
          clear hmY HO8 HR8 HMM8 HP8 HT8 p0 p1 p2 p3 pf pb q0 q1 q2 q3 qf qb t0 t1 t2 t3 tf tb s0 s1 s2 s3 sf sb u0 u1 u2 u3 uf ub y0 y1 y2 y3 yf yb
          have hkp := HKP.out Y9 (.slice a7 (q.keys.length + 1) c7) (.slice a2 q.vals.length c2) (.slice a8 (q.kids.length + 1) c8) _ HTY.out HOY.out
          refine hkp.mono ?_
          clear hkp
          rintro e W6 ⟨a', b', kk, two, g', rfl, hm6, ht6, hg6, hn6, hs6⟩
          have hR6 := (hm6.block _ (lt_heap HRY.out) (by have := HLL.out; omega)).trans HRY.out
          obtain ⟨rb, r0, r1, r2, r3, rf⟩ := Split4.facts hR6
          have HR6 := Lib.hid hR6
          have HM6 := Lib.hid hm6
          have HT6 := Lib.hid ht6
          have HG6 := Lib.hid hg6
          have HN6 := Lib.hid hn6
          have HS6 := Lib.hid hs6
          have HMY6 := Lib.hid HMY.out
          clear hR6 hm6 ht6 hg6 hn6 hs6
          go_wp2_with fail
          refine at_world6 (P := bodyPost _ _ _ _ _) (fun X => X.heap[w.heap.size]? = some (.cells #[.int .i64 a', .int .i64 b', .string ⟨kk.toArray⟩, .bool two] 175 (0, 0)) ∧ Mod (fun k => k = w.heap.size) W6 X) ?_ ?_
          · refine ⟨?_, ?_⟩
            · simp only [heap_setCell, if_true, HR6.out, Option.map_some, setAt_cells, List.setIfInBounds_toArray, List.set_cons_zero, List.set_cons_succ]
            · repeat (first | with_reducible exact Mod.refl _ _ | ((with_reducible refine Mod.setCell ?_ _ _ ?_); rotate_left; (intro _; rfl)))
          · rintro X ⟨hDX, hMX⟩
            obtain ⟨xb, x0, x1, x2, x3, xf⟩ := Split4.facts hDX
            refine bodyPost_ret (v := .tuple #[splitV a' b' kk two, .int .i64 0]) (by simp [results, Tryz.f105, go_sem, x0, x1, x2, x3]) rfl ?_
            exact Kept.shut HMY6.out HM6.out HT6.out (Nat.le_refl _) HTL.out HLL.out hMX (HG5.out.trans HG6.out) (grown_n HN5.out HN6.out) HS6.out
        · intro K hK
          dsimp only [ga, gs, gz]
          go_simp
          refine hK _ _ (show_held ?_ (fun hHeld => ?_))
          · go_keep
          clear hK K
          refine allF [6] (mc (stF ?_) mn)
          intro K hK
          dsimp only [ga, gs, gz]
          rw [if_pos (by rfl)]
          refine wp_fn 142 (fun _ _ => by kernel_rfl) #[.tmp 87, .tmp 88, .tmp 91] #[77, 3, 77] rfl (vs := #[.slice a1 q.keys.length c1, .int .i64 i, .slice (some ⟨_, 0, none⟩) 1 1]) rfl (HI1.out _ _ QM.out (by first | exact hat0 | exact hat1) (by (first | omega | (simp only [size_alloc, heap_drew]; omega)))) ?_
          rintro u X7 ⟨a7, c7, rfl, ho7, hm7, hb7⟩
          have hM7 : Mod (fun j => (Value.slice a1 q.keys.length c1).ownBlock = some j) Y X7 := ((show Mod NoB Y _ from QM.out).mono (noB_sub _ _)).trans hm7 (fun _ _ h => h)
          have hP7 := (hM7.block P pb (fun e => (HKB.out P e).2.1 rfl)).trans HPY.out
          have hS7 := (hM7.block R sb (fun e => (HKB.out R e).2.2.1 rfl)).trans HSY.out
          obtain ⟨qb, q0, q1, q2, q3, qf⟩ := Page4.facts hP7
          obtain ⟨ub, u0, u1, u2, u3, uf⟩ := Split4.facts hS7
          have HO7 := Lib.hid ((HOY.out.mod (show Mod NoB Y _ from QM.out)).addK (kv' := .slice a7 (q.keys.length + 1) c7) (ks' := insL q.keys i kk) (by rw [insL_length]; exact ho7) hm7 hb7)
          have HMM7 := Lib.hid (HMY.out.trans hM7 (fun j hj e => by have := (HKB.out j e).2.2.2; omega))
          have HR7 := Lib.hid ((hM7.block _ (lt_heap HRY.out) (fun e => by have := (HKB.out _ e).2.2.2; omega)).trans HRY.out)
          have HT7 := Lib.hid (HTY.out.upd hM7 (fun e => by have := (HKB.out _ e).2.2.2; have := HTL.out; omega) (fun e => by have := (HKB.out _ e).2.2.2; omega))
          have hsz7 := hm7.size
          simp only [size_alloc, heap_drew] at hsz7
          refine hK _ _ (show_held ?_ (fun hHeld => ?_))
          · go_keep
          clear hK K
          simp only [Act.put, List.setIfInBounds_toArray, List.set_cons_zero, List.set_cons_succ]
          refine tkT 15 (v := ?_) ?_ hHeld ?_
          rotate_left
          · (intro _; simp only [ga, gs, gz]; go_simp; try with_reducible rfl)
          simp only [Act.put, ga, gs, gz, sb, sz, ss]
          refine allF [14] (mc (stF ?_) mn)
          intro K hK
          dsimp only [ga, gs, gz]
          rw [if_pos (by rfl)]
          refine wp_fn 144 (fun _ _ => by kernel_rfl) #[.tmp 94, .tmp 96, .tmp 99] #[38, 3, 38] rfl (vs := #[.slice (some ⟨cg, 0, none⟩) q.kids.length c3, .int .i64 (IntKind.i64.wrap ((i : Int) + 1)), .slice (some ⟨_, 0, none⟩) 1 1]) rfl (HI2.out _ _ (hM7.trans (show Mod NoB X7 _ from QM.out) (fun _ _ h => h.elim)) (by first | exact (by first | exact hat0 | exact hat1) | exact (hm7.block _ (by (first | omega | (simp only [size_alloc, heap_drew]; omega))) (fun e => by have := (HKB.out _ e).1; omega)).trans (by first | exact hat0 | exact hat1)) (by (first | omega | (simp only [size_alloc, heap_drew]; omega)))) ?_
          rintro u X8 ⟨a8, c8, rfl, ho8, hm8, hb8⟩
          have hM8 : Mod (fun j => j = cg) X7 X8 := ((show Mod NoB X7 _ from QM.out).mono (noB_sub _ _)).trans hm8 (fun j _ h => by cases h; rfl)
          have hP8 := (hM8.block P qb (fun e => hcP e.symm)).trans hP7
          obtain ⟨tb, t0, t1, t2, t3, tf⟩ := Page4.facts hP8
          obtain ⟨yb, y0, y1, y2, y3, yf⟩ := Split4.facts ((hM8.block R ub (fun e => hcS e.symm)).trans hS7)
          have HO8 := Lib.hid ((HO7.out.mod (show Mod NoB X7 _ from QM.out)).addC (cv' := .slice a8 (q.kids.length + 1) c8) (cs' := insL (q.kids.set i a') (i + 1) b') (by rw [insL_length, List.length_set]; exact ho8) hm8)
          have HMM8 := Lib.hid (HMM7.out.trans hM8 (fun j hj e => by omega))
          have HR8 := Lib.hid ((hM8.block _ (lt_heap HR7.out) (fun e => by omega)).trans HR7.out)
          have HT8 := Lib.hid (HT7.out.upd hM8 (fun e => by have := HTL.out; omega) (fun e => by omega))
          have HP8 := Lib.hid hP8
          clear ho7 ho8 hm7 hm8 hb7 hb8 hP7 hP8 hM7 hM8 HI1 HI2 HO7 HMM7 HR7 HOY HMY HRY HPY HSY HKB HT7 HTY hS7
          refine hK _ _ (show_held ?_ (fun hHeld => ?_))
          · go_keep
          clear hK K
          simp only [Act.put, List.setIfInBounds_toArray, List.set_cons_zero, List.set_cons_succ]
          refine allF [16] (mc (stN ?_) mn)
          intro K hK
          dsimp only [ga, gs, gz]
          go_simp
          refine hK _ _ ?_
          clear hK K
          refine tkN 17 (v := ?_) ?_ ?_
          rotate_left
          · (intro _; simp only [ga, gs, gz]; go_simp; try with_reducible rfl)
          simp only [Act.put, ga, gs, gz, sb, sz, ss]
          refine allN [18] (mc (stK ?_) mn)
          intro K hK
          dsimp only [ga, gs, gz]
          go_simp
          refine hK _ _ ?_
          clear hK K
          refine wpAny_done (by kernel_rfl) ?_ _
          go_wp2_with fail
          refine calls_at (fun X => Mod (fun j => j = P) X8 X) (by (repeat (first | with_reducible exact Mod.refl _ _ | with_reducible refine Mod.drew ?_ | ((with_reducible refine Mod.setCell ?_ _ _ ?_); rotate_left; (intro _; rfl))))) ?_
          intro Y9 hmY
          have hwr8 := lt_heap HR8.out
          have HOY := Lib.hid (HO8.out.keep hmY (fun q' _ e _ => ⟨_, _, _, e ▸ HP8.out, by decide, by decide⟩))
          have HRY := Lib.hid ((hmY.block _ hwr8 (fun e => by omega)).trans HR8.out)
          have HMY := Lib.hid (HMM8.out.trans hmY (fun j hj e => by omega))
          have HTY := Lib.hid (HT8.out.upd hmY (fun e => by have := HTL.out; omega) (fun e => by omega))
          clear hmY HO8 HR8 HMM8 HP8 HT8 p0 p1 p2 p3 pf pb q0 q1 q2 q3 qf qb t0 t1 t2 t3 tf tb s0 s1 s2 s3 sf sb u0 u1 u2 u3 uf ub y0 y1 y2 y3 yf yb
          have hkp := HKP.out Y9 (.slice a7 (q.keys.length + 1) c7) (.slice a2 q.vals.length c2) (.slice a8 (q.kids.length + 1) c8) _ HTY.out HOY.out
          refine hkp.mono ?_
          clear hkp
          rintro e W6 ⟨a', b', kk, two, g', rfl, hm6, ht6, hg6, hn6, hs6⟩
          have hR6 := (hm6.block _ (lt_heap HRY.out) (by have := HLL.out; omega)).trans HRY.out
          obtain ⟨rb, r0, r1, r2, r3, rf⟩ := Split4.facts hR6
          have HR6 := Lib.hid hR6
          have HM6 := Lib.hid hm6
          have HT6 := Lib.hid ht6
          have HG6 := Lib.hid hg6
          have HN6 := Lib.hid hn6
          have HS6 := Lib.hid hs6
          have HMY6 := Lib.hid HMY.out
          clear hR6 hm6 ht6 hg6 hn6 hs6
          go_wp2_with fail
          refine at_world6 (P := bodyPost _ _ _ _ _) (fun X => X.heap[w.heap.size]? = some (.cells #[.int .i64 a', .int .i64 b', .string ⟨kk.toArray⟩, .bool two] 175 (0, 0)) ∧ Mod (fun k => k = w.heap.size) W6 X) ?_ ?_
          · refine ⟨?_, ?_⟩
            · simp only [heap_setCell, if_true, HR6.out, Option.map_some, setAt_cells, List.setIfInBounds_toArray, List.set_cons_zero, List.set_cons_succ]
            · repeat (first | with_reducible exact Mod.refl _ _ | ((with_reducible refine Mod.setCell ?_ _ _ ?_); rotate_left; (intro _; rfl)))
          · rintro X ⟨hDX, hMX⟩
            obtain ⟨xb, x0, x1, x2, x3, xf⟩ := Split4.facts hDX
            refine bodyPost_ret (v := .tuple #[splitV a' b' kk two, .int .i64 0]) (by simp [results, Tryz.f105, go_sem, x0, x1, x2, x3]) rfl ?_
            exact Kept.shut HMY6.out HM6.out HT6.out (Nat.le_refl _) HTL.out HLL.out hMX (HG5.out.trans HG6.out) (grown_n HN5.out HN6.out) HS6.out
      · intro K hK
        dsimp only [ga, gs, gz]
        go_simp
        refine hK _ _ (show_held ?_ (fun hHeld => ?_))
        · go_keep
        clear hK K
        refine allF [5] (mc (stF ?_) mn)
        intro K hK
        dsimp only [ga, gs, gz]
        go_simp
        refine hK _ _ (show_held ?_ (fun hHeld => ?_))
        · go_keep
        clear hK K
        refine allF [6] (mc (stF ?_) mn)
        intro K hK
        dsimp only [ga, gs, gz]
        rw [if_pos (by rfl)]
        refine wp_fn 142 (fun _ _ => by kernel_rfl) #[.tmp 87, .tmp 88, .tmp 91] #[77, 3, 77] rfl (vs := #[.slice a1 q.keys.length c1, .int .i64 i, .slice (some ⟨_, 0, none⟩) 1 1]) rfl (HI1.out _ _ QM.out (by first | exact hat0 | exact hat1) (by (first | omega | (simp only [size_alloc, heap_drew]; omega)))) ?_
        rintro u X7 ⟨a7, c7, rfl, ho7, hm7, hb7⟩
        have hM7 : Mod (fun j => (Value.slice a1 q.keys.length c1).ownBlock = some j) Y X7 := ((show Mod NoB Y _ from QM.out).mono (noB_sub _ _)).trans hm7 (fun _ _ h => h)
        have hP7 := (hM7.block P pb (fun e => (HKB.out P e).2.1 rfl)).trans HPY.out
        have hS7 := (hM7.block R sb (fun e => (HKB.out R e).2.2.1 rfl)).trans HSY.out
        obtain ⟨qb, q0, q1, q2, q3, qf⟩ := Page4.facts hP7
        obtain ⟨ub, u0, u1, u2, u3, uf⟩ := Split4.facts hS7
        have HO7 := Lib.hid ((HOY.out.mod (show Mod NoB Y _ from QM.out)).addK (kv' := .slice a7 (q.keys.length + 1) c7) (ks' := insL q.keys i kk) (by rw [insL_length]; exact ho7) hm7 hb7)
        have HMM7 := Lib.hid (HMY.out.trans hM7 (fun j hj e => by have := (HKB.out j e).2.2.2; omega))
        have HR7 := Lib.hid ((hM7.block _ (lt_heap HRY.out) (fun e => by have := (HKB.out _ e).2.2.2; omega)).trans HRY.out)
        have HT7 := Lib.hid (HTY.out.upd hM7 (fun e => by have := (HKB.out _ e).2.2.2; have := HTL.out; omega) (fun e => by have := (HKB.out _ e).2.2.2; omega))
        have hsz7 := hm7.size
        simp only [size_alloc, heap_drew] at hsz7
        refine hK _ _ (show_held ?_ (fun hHeld => ?_))
        · go_keep
        clear hK K
        simp only [Act.put, List.setIfInBounds_toArray, List.set_cons_zero, List.set_cons_succ]
        refine tkT 15 (v := ?_) ?_ hHeld ?_
        rotate_left
        · (intro _; simp only [ga, gs, gz]; go_simp; try with_reducible rfl)
        simp only [Act.put, ga, gs, gz, sb, sz, ss]
        refine allF [14] (mc (stF ?_) mn)
        intro K hK
        dsimp only [ga, gs, gz]
        rw [if_pos (by rfl)]
        refine wp_fn 144 (fun _ _ => by kernel_rfl) #[.tmp 94, .tmp 96, .tmp 99] #[38, 3, 38] rfl (vs := #[.slice (some ⟨cg, 0, none⟩) q.kids.length c3, .int .i64 (IntKind.i64.wrap ((i : Int) + 1)), .slice (some ⟨_, 0, none⟩) 1 1]) rfl (HI2.out _ _ (hM7.trans (show Mod NoB X7 _ from QM.out) (fun _ _ h => h.elim)) (by first | exact (by first | exact hat0 | exact hat1) | exact (hm7.block _ (by (first | omega | (simp only [size_alloc, heap_drew]; omega))) (fun e => by have := (HKB.out _ e).1; omega)).trans (by first | exact hat0 | exact hat1)) (by (first | omega | (simp only [size_alloc, heap_drew]; omega)))) ?_
        rintro u X8 ⟨a8, c8, rfl, ho8, hm8, hb8⟩
        have hM8 : Mod (fun j => j = cg) X7 X8 := ((show Mod NoB X7 _ from QM.out).mono (noB_sub _ _)).trans hm8 (fun j _ h => by cases h; rfl)
        have hP8 := (hM8.block P qb (fun e => hcP e.symm)).trans hP7
        obtain ⟨tb, t0, t1, t2, t3, tf⟩ := Page4.facts hP8
        obtain ⟨yb, y0, y1, y2, y3, yf⟩ := Split4.facts ((hM8.block R ub (fun e => hcS e.symm)).trans hS7)
        have HO8 := Lib.hid ((HO7.out.mod (show Mod NoB X7 _ from QM.out)).addC (cv' := .slice a8 (q.kids.length + 1) c8) (cs' := insL (q.kids.set i a') (i + 1) b') (by rw [insL_length, List.length_set]; exact ho8) hm8)
        have HMM8 := Lib.hid (HMM7.out.trans hM8 (fun j hj e => by omega))
        have HR8 := Lib.hid ((hM8.block _ (lt_heap HR7.out) (fun e => by omega)).trans HR7.out)
        have HT8 := Lib.hid (HT7.out.upd hM8 (fun e => by have := HTL.out; omega) (fun e => by omega))
        have HP8 := Lib.hid hP8
        clear ho7 ho8 hm7 hm8 hb7 hb8 hP7 hP8 hM7 hM8 HI1 HI2 HO7 HMM7 HR7 HOY HMY HRY HPY HSY HKB HT7 HTY hS7
        refine hK _ _ (show_held ?_ (fun hHeld => ?_))
        · go_keep
        clear hK K
        simp only [Act.put, List.setIfInBounds_toArray, List.set_cons_zero, List.set_cons_succ]
        refine allF [16] (mc (stN ?_) mn)
        intro K hK
        dsimp only [ga, gs, gz]
        go_simp
        refine hK _ _ ?_
        clear hK K
        refine tkN 17 (v := ?_) ?_ ?_
        rotate_left
        · (intro _; simp only [ga, gs, gz]; go_simp; try with_reducible rfl)
        simp only [Act.put, ga, gs, gz, sb, sz, ss]
        refine allN [18] (mc (stK ?_) mn)
        intro K hK
        dsimp only [ga, gs, gz]
        go_simp
        refine hK _ _ ?_
        clear hK K
        refine wpAny_done (by kernel_rfl) ?_ _
        go_wp2_with fail
        refine calls_at (fun X => Mod (fun j => j = P) X8 X) (by (repeat (first | with_reducible exact Mod.refl _ _ | with_reducible refine Mod.drew ?_ | ((with_reducible refine Mod.setCell ?_ _ _ ?_); rotate_left; (intro _; rfl))))) ?_
        intro Y9 hmY
        have hwr8 := lt_heap HR8.out
        have HOY := Lib.hid (HO8.out.keep hmY (fun q' _ e _ => ⟨_, _, _, e ▸ HP8.out, by decide, by decide⟩))
        have HRY := Lib.hid ((hmY.block _ hwr8 (fun e => by omega)).trans HR8.out)
        have HMY := Lib.hid (HMM8.out.trans hmY (fun j hj e => by omega))
        have HTY := Lib.hid (HT8.out.upd hmY (fun e => by have := HTL.out; omega) (fun e => by omega))
        clear hmY HO8 HR8 HMM8 HP8 HT8 p0 p1 p2 p3 pf pb q0 q1 q2 q3 qf qb t0 t1 t2 t3 tf tb s0 s1 s2 s3 sf sb u0 u1 u2 u3 uf ub y0 y1 y2 y3 yf yb
        have hkp := HKP.out Y9 (.slice a7 (q.keys.length + 1) c7) (.slice a2 q.vals.length c2) (.slice a8 (q.kids.length + 1) c8) _ HTY.out HOY.out
        refine hkp.mono ?_
        clear hkp
        rintro e W6 ⟨a', b', kk, two, g', rfl, hm6, ht6, hg6, hn6, hs6⟩
        have hR6 := (hm6.block _ (lt_heap HRY.out) (by have := HLL.out; omega)).trans HRY.out
        obtain ⟨rb, r0, r1, r2, r3, rf⟩ := Split4.facts hR6
        have HR6 := Lib.hid hR6
        have HM6 := Lib.hid hm6
        have HT6 := Lib.hid ht6
        have HG6 := Lib.hid hg6
        have HN6 := Lib.hid hn6
        have HS6 := Lib.hid hs6
        have HMY6 := Lib.hid HMY.out
        clear hR6 hm6 ht6 hg6 hn6 hs6
        go_wp2_with fail
        refine at_world6 (P := bodyPost _ _ _ _ _) (fun X => X.heap[w.heap.size]? = some (.cells #[.int .i64 a', .int .i64 b', .string ⟨kk.toArray⟩, .bool two] 175 (0, 0)) ∧ Mod (fun k => k = w.heap.size) W6 X) ?_ ?_
        · refine ⟨?_, ?_⟩
          · simp only [heap_setCell, if_true, HR6.out, Option.map_some, setAt_cells, List.setIfInBounds_toArray, List.set_cons_zero, List.set_cons_succ]
          · repeat (first | with_reducible exact Mod.refl _ _ | ((with_reducible refine Mod.setCell ?_ _ _ ?_); rotate_left; (intro _; rfl)))
        · rintro X ⟨hDX, hMX⟩
          obtain ⟨xb, x0, x1, x2, x3, xf⟩ := Split4.facts hDX
          refine bodyPost_ret (v := .tuple #[splitV a' b' kk two, .int .i64 0]) (by simp [results, Tryz.f105, go_sem, x0, x1, x2, x3]) rfl ?_
          exact Kept.shut HMY6.out HM6.out HT6.out (Nat.le_refl _) HTL.out HLL.out hMX (HG5.out.trans HG6.out) (grown_n HN5.out HN6.out) HS6.out

end Go.Proofs.YtgofngilfdnakaaGreat
