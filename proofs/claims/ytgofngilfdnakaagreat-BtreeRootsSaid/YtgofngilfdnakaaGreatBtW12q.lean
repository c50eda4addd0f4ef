/-
  This text proves what the package btree's put does at a leaf; under bounds on lengths.
-/
import Derived.Test.YtgofngilfdnakaaGreatBtW11q

namespace Go.Proofs.YtgofngilfdnakaaGreat
open Go Go.RowKit
attribute [local go_sem] over_cell over_frozen lt_over le_over noB loudUpon ByteArray.mk_append_mk ByteArray.extract_mk

/-- How the function ends behind keep. -/
theorem Kept.shut {w w5 w6 X : World} {t l p R : Nat} {root : Int} {g : Lg} {n m d : Nat} {lo : Str} {hi : Option Str} {M : Files} {a b : Nat} {key : Str} {two : Bool} {g' : Lg} (hw : Mod (fun k => k = l) w w5) (h6 : Mod (fun k => k = l) w5 w6) (hT : TL w6 t l p g' root) (hR : w.heap.size ≤ R) (ht : t < w.heap.size) (hl : l < w.heap.size)
    (hX : Mod (fun k => k = R) w6 X) (hG : Grew g g') (hn : g'.wait.length ≤ g.wait.length + n) (hS : SplitR (rdG g') m d lo hi M a b key two) : Kept w t l p root g n m d lo hi M (.returned (.tuple #[splitV a b key two, .int .i64 0])) X :=
  ⟨_, _, _, _, _, rfl, (hw.trans h6 (fun _ _ h => h)).trans hX (fun k hk e => by omega), hT.upd hX (by omega) (by omega), hG, hn, hS⟩
theorem own_set_txt {w : World} {base g n c i : Nat} {l : List Str} (v : Str) (h : w.ownsRow base 9 1 (.slice (some ⟨g, 0, none⟩) n c) n (l.map txt)) : (w.setCell ⟨g, i, none⟩ (txt v)).ownsRow base 9 1 (.slice (some ⟨g, 0, none⟩) n c) n ((l.set i v).map txt) := by
  rw [List.map_set]
  exact own_set _ h
theorem own_set_num {w : World} {base g n c i : Nat} {l : List Nat} (v : Nat) (h : w.ownsRow base 3 1 (.slice (some ⟨g, 0, none⟩) n c) n (l.map numV)) : (w.setCell ⟨g, i, none⟩ (numV v)).ownsRow base 3 1 (.slice (some ⟨g, 0, none⟩) n c) n ((l.set i v).map numV) := by
  rw [List.map_set]
  exact own_set _ h

set_option maxRecDepth 100000 in
set_option maxHeartbeats 6400000 in
theorem put_there (t l p k m : Nat) (g : Lg) (root : Int) (q : Pg) (key v : Str) (lo : Str) (hi : Option Str) (M : Files) (w : World) (h : TL w t l p g root) (hq : rdG g k q) (hr : RepP (rdG g) 0 q lo hi M) (h1 : 1 ≤ q.keys.length) (h8 : q.keys.length ≤ 8) (hm4 : m ≤ 4) (hm : m ≤ q.keys.length)
    (hk : keyOk key) (hv : v.length ≤ 8192) (ha : above lo key) (hb : below hi key) (hs : Small g 1) (his : kIs q.keys key = true) :
    Calls Tryz.prog 105 #[.pointer (some ⟨t, 0, none⟩), .int .i64 k, .string ⟨key.toArray⟩, .string ⟨v.toArray⟩] w (Kept w t l p root g 140200 m 0 lo hi (M.put key v)) := by
  have hs0 : Small g 0 := by unfold Small at *; omega
  have hput := putLeaf_rep (v := v) hr hk hv ha hb
  have hpl : q.putLeaf key v = { q with vals := q.vals.set (kFind q.keys key) v } := by unfold Pg.putLeaf; rw [if_pos his]
  rw [hpl] at hput
  have hfl := kIs_lt his
  have hlf : q.leaf = true := hr.1
  have hvl : q.vals.length = q.keys.length := by rw [hr.2.2.1, hr.2.2.2.1]; simp
  have hpg := hq.1
  obtain ⟨W1, hW1⟩ : ∃ W1, w.alloc (.cells #[.int .i64 0, .int .i64 0, .string ⟨#[]⟩, .bool false] 175) = W1 := ⟨_, rfl⟩
  have hm1 : Mod NoB w W1 := by rw [← hW1]; exact (Mod.refl _ _).alloc _
  have hR1 : W1.heap[w.heap.size]? = some (.cells #[.int .i64 0, .int .i64 0, .string ⟨#[]⟩, .bool false] 175 (0, 0)) := by rw [← hW1]; exact heap_alloc_new _ _
  have HTL : Hid (t < w.heap.size) := lt_heap h.tree
  have HLL : Hid (l < w.heap.size) := lt_heap h.log
  have HT := Lib.hid (fun X (hX : Mod NoB w X) => h.mod hX)
  have HLD := Lib.hid (load_calls t l p g root k q W1 (h.mod hm1) hq hs0)
  have HKP := Lib.hid (fun X kv vv cv base (hT : TL X t l p g root) (ho : PgOwn X base kv vv cv q.keys (q.vals.set (kFind q.keys key) v) q.kids) => keep_calls t l p g root { q with vals := q.vals.set (kFind q.keys key) v } kv vv cv m 0 base lo hi (M.put key v) X hT ho hput.1 h1 (by simp only; omega) hm4 hm hs)
  have HM1 := Lib.hid hm1
  have HR1 := Lib.hid hR1
  have HPG := Lib.hid hpg
  unfold pageV at HLD HKP
  simp only at HKP
  rw [hlf] at HLD HKP
  generalize hfi : kFind q.keys key = i at *
  have HFI := Lib.hid hfi
  have HIS := Lib.hid his
  have HQ := Lib.hid hlf
  have hfv : i < q.vals.length := by omega
  clear hvl
  clear hput hpl hq hr h hm1 hR1 hpg hfi his hlf hs hs0
  go_enter Tryz.func105, Tryz.ntmps105
  go_wp2_with fail
  clear hW1
  refine HLD.out.mono ?_
  rintro e W2 ⟨kv, vv, cv, rfl, ho2, hm2⟩
  obtain ⟨⟨a1, c1, rfl⟩, ⟨a2, c2, rfl⟩, a3, c3, rfl⟩ := ho2.shapes
  have hM2 := HM1.out.trans hm2 (fun _ _ h => h)
  have hR2 := (hm2.block _ (lt_heap HR1.out) id).trans HR1.out
  obtain ⟨W3, hW3⟩ : ∃ W3, W2.alloc (.cells #[.bool true, .slice a1 q.keys.length c1, .slice a2 q.vals.length c2, .slice a3 q.kids.length c3] 130) = W3 := ⟨_, rfl⟩
  have hm3 : Mod NoB W2 W3 := by rw [← hW3]; exact (Mod.refl _ _).alloc _
  have hP3 : W3.heap[W2.heap.size]? = some (.cells #[.bool true, .slice a1 q.keys.length c1, .slice a2 q.vals.length c2, .slice a3 q.kids.length c3] 130 (0, 0)) := by rw [← hW3]; exact heap_alloc_new _ _
  have hR3 := (hm3.block _ (lt_heap hR2) id).trans hR2
  have HM3 := Lib.hid (hM2.trans hm3 (fun _ _ h => h))
  have HO3 := Lib.hid (ho2.mod hm3)
  have hfc := Find_calls q _ _ _ key W3 HO3.out.in1 HPG.out
  unfold pageV at hfc
  rw [HQ.out, HIS.out, HFI.out] at hfc
  have HFC := Lib.hid hfc
  obtain ⟨pb, p0, p1, p2, p3, pf⟩ := Page4.facts hP3
  have HP3 := Lib.hid hP3
  have HR3 := Lib.hid hR3
  have hsz1 := hm2.size
  have hrw := lt_heap HR1.out
  clear hm2 ho2 hM2 hR2 hm3 hP3 hR3 hfc HLD HM1 HR1
  go_wp2_with fail
  clear hW3
  refine HFC.out.mono ?_
  rintro e W4 ⟨rfl, hm4'⟩
  have hP4 := (hm4'.block _ pb id).trans HP3.out
  have HR4 := Lib.hid ((hm4'.block _ (lt_heap HR3.out) id).trans HR3.out)
  have HM4 := Lib.hid (HM3.out.trans hm4' (fun _ _ h => h))
  have HO4 := Lib.hid (HO3.out.mod hm4')
  clear hm4' HFC HP3 HR3 HM3 HO3 p0 p1 p2 p3 pf pb
  obtain ⟨pb, p0, p1, p2, p3, pf⟩ := Page4.facts hP4
  have HP4 := Lib.hid hP4
  clear hP4
  generalize W2.heap.size = P at *
  obtain ⟨_, _, e2, _, _, _, hg⟩ := own_shape HO4.out.v
  cases e2
  obtain ⟨vg, rfl⟩ := hg (by omega)
  have hvo := own_open HO4.out.v
  obtain ⟨hvb, cur, hcur, hcs, hnc, _, htk, _⟩ := hvo
  have hvc : W4.cell? ⟨vg, i, none⟩ = some cur[i]! := by rw [cell_heap hcur]; simp [show i < cur.size by omega]
  have hvf := frozen_heap hcur
  have hvlt := lt_heap hcur
  have hvP : vg ≠ P := fun e => by
    subst e
    have := HP4.out
    rw [hcur] at this
    cases this
  have HV := Lib.hid hcur
  clear hcur hcs hnc htk
  go_wp2_with fail
  have hmS : Mod (fun j => j = vg) W4 (W4.setCell ⟨vg, i, none⟩ (.string ⟨v.toArray⟩)) := (Mod.refl _ _).setCell _ _ (fun _ => rfl)
  have hoY := HO4.out.addV (vv' := .slice (some ⟨vg, 0, none⟩) q.vals.length c2) (vs' := q.vals.set i v) (by rw [List.length_set]; exact own_set_txt v HO4.out.v) (hmS.mono (fun j _ e => by rw [e]; rfl)) (.inl rfl)
  have hbs := (HO4.out.v.lt vg rfl).1
  have hmY : Mod NoB w (W4.setCell ⟨vg, i, none⟩ (.string ⟨v.toArray⟩)) := HM4.out.trans hmS (fun j hj e => by omega)
  have hRY := (hmS.block _ (lt_heap HR4.out) (fun e => by omega)).trans HR4.out
  have HOY := Lib.hid hoY
  have HRY := Lib.hid hRY
  have HMY : Hid (Mod (fun k => k = l) w (W4.setCell ⟨vg, i, none⟩ (.string ⟨v.toArray⟩))) := hmY.mono (noB_sub _ _)
  have HTY := Lib.hid (HT.out _ hmY)
  clear hmS hoY hmY hRY p0 p1 p2 p3 pf pb HP4 HV hvc hvf HO4 HM4 HR4
  generalize W4.setCell ⟨vg, i, none⟩ (.string ⟨v.toArray⟩) = Y at *
  refine (HKP.out _ _ _ _ _ HTY.out HOY.out).mono ?_
  rintro e W6 ⟨a', b', kk, two, g', rfl, hm6, ht6, hg6, hn6, hs6⟩
  have hR6 := (hm6.block _ (lt_heap HRY.out) (by have := HLL.out; omega)).trans HRY.out
  obtain ⟨rb, r0, r1, r2, r3, rf⟩ := Split4.facts hR6
  have HR6 := Lib.hid hR6
  have HM6 := Lib.hid hm6
  have HT6 := Lib.hid ht6
  have HG6 := Lib.hid hg6
  have HN6 := Lib.hid hn6
  have HS6 := Lib.hid hs6
  have HMY6 := Lib.hid HMY.out
  clear hR6 hm6 ht6 hg6 hn6 hs6
  go_wp2_with fail
  refine at_world6 (P := bodyPost _ _ _ _ _) (fun X => X.heap[w.heap.size]? = some (.cells #[.int .i64 a', .int .i64 b', .string ⟨kk.toArray⟩, .bool two] 175 (0, 0)) ∧ Mod (fun k => k = w.heap.size) W6 X) ?_ ?_
  · refine ⟨?_, ?_⟩
    · simp only [heap_setCell, if_true, HR6.out, Option.map_some, setAt_cells, List.setIfInBounds_toArray, List.set_cons_zero, List.set_cons_succ]
    · repeat (first | with_reducible exact Mod.refl _ _ | ((with_reducible refine Mod.setCell ?_ _ _ ?_); rotate_left; (intro _; rfl)))
  · rintro X ⟨hDX, hMX⟩
    obtain ⟨xb, x0, x1, x2, x3, xf⟩ := Split4.facts hDX
    refine bodyPost_ret (v := .tuple #[splitV a' b' kk two, .int .i64 0]) (by simp [results, Tryz.f105, go_sem, x0, x1, x2, x3]) rfl ?_
    exact Kept.shut HMY6.out HM6.out HT6.out (Nat.le_refl _) HTL.out HLL.out hMX HG6.out HN6.out HS6.out

end Go.Proofs.YtgofngilfdnakaaGreat
