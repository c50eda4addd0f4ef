/-
  This text proves what the package btree's keep does over a log: a page above others laid as two; under bounds on lengths.
-/
import Derived.Test.YtgofngilfdnakaaGreatBtW9q
import Derived.IntWalk
import Derived.Deep.Cut
import Derived.Deep.CutRange
import Derived.Deep.CutBlock
import Derived.Deep.RegionWith

namespace Go.Proofs.YtgofngilfdnakaaGreat
open Go Go.RowKit
attribute [local go_sem] over_cell over_frozen lt_over le_over noB loudUpon ByteArray.mk_append_mk ByteArray.extract_mk

set_option maxRecDepth 100000 in
set_option maxHeartbeats 6400000 in
theorem keep_node (t l p m : Nat) (g : Lg) (root : Int) (q : Pg) (s : Str) (kv vv cv : Value) (w : World) (h : TL w t l p g root) (hi : PgIn w kv vv cv q) (hl : q.leaf = false) (h9 : 9 ≤ q.keys.length) (h12 : q.keys.length ≤ 12) (hcl : q.kids.length = q.keys.length + 1)
    (hm : q.keys.length / 2 = m) (hsk : q.keys[m]? = some s) (ha : pgOk (q.lower m)) (hb : pgOk (q.upper m)) (hs : Small g 1) (hk1 : OffB l kv) (hc1 : OffB l cv) :
    Calls Tryz.prog 143 #[.pointer (some ⟨t, 0, none⟩), pageV q kv vv cv] w (KeepPost w t l p root g.top' (g.lay (q.lower m)).top' s true ((g.lay (q.lower m)).lay (q.upper m))) := by
  have HTL : Hid (t < w.heap.size) := lt_heap h.tree
  have HLL : Hid (l < w.heap.size) := lt_heap h.log
  have ela : q.lower m = ⟨false, q.keys.take m, [], q.kids.take (m + 1)⟩ := by unfold Pg.lower; rw [hl]; rfl
  have elb : q.upper m = ⟨false, q.keys.drop (m + 1), [], q.kids.drop (m + 1)⟩ := by unfold Pg.upper; rw [hl]; rfl
  obtain ⟨kb, ko, kc, rfl, hkc, hkm, hkb⟩ := hi.k.at (by rw [List.length_map]; omega)
  obtain ⟨nb, no, nc, rfl, hnc, hnm, hnb⟩ := hi.c.at (by rw [List.length_map]; omega)
  obtain ⟨va, vc, rfl, -⟩ := hi.v
  simp only [List.length_map] at *
  have hmk : m ≤ q.keys.length := by omega
  have hmv : m + 1 ≤ q.kids.length := by omega
  have hmk1 : m + 1 ≤ q.keys.length := by omega
  have hksk : In1 w (.slice (some ⟨kb, ko, none⟩) q.keys.length kc) (q.keys.map txt) := hi.k
  have hnsk : In1 w (.slice (some ⟨nb, no, none⟩) q.kids.length nc) (q.kids.map numV) := hi.c
  have hcell := (hksk.cell m (by rw [List.length_map]; omega)).2
  have hkey : (q.keys.map txt)[m]'(by rw [List.length_map]; omega) = txt s := by
    obtain ⟨h1, h2⟩ := List.getElem?_eq_some_iff.1 hsk
    rw [List.getElem_map, h2]
  rw [hkey] at hcell
  have HIA : Hid (PgIn w (.slice (some ⟨kb, ko, none⟩) m kc) (.slice none 0 0) (.slice (some ⟨nb, no, none⟩) (m + 1) nc) (q.lower m)) := by
    rw [ela]
    exact ⟨by rw [List.map_take]; exact hksk.take m hmk, In1.nil w, by rw [List.map_take]; exact hnsk.take (m + 1) hmv⟩
  have HIB : Hid (PgIn w (.slice (some ⟨kb, ko + (m + 1), none⟩) (q.keys.length - (m + 1)) (kc - (m + 1))) (.slice none 0 0) (.slice (some ⟨nb, no + (m + 1), none⟩) (q.kids.length - (m + 1)) (nc - (m + 1))) (q.upper m)) := by
    rw [elb]
    exact ⟨by rw [List.map_drop]; exact hksk.drop (m + 1) hmk1, In1.nil w, by rw [List.map_drop]; exact hnsk.drop (m + 1) hmv⟩
  have HSA := Lib.hid (fun X (hX : Mod NoB w X) => save_calls t l p g root (q.lower m) _ _ _ X (h.mod hX) (HIA.out.mod hX) ha (by unfold Small at *; omega))
  have hsb : Small (g.lay (q.lower m)) 0 := by
    have := lay_size (g := g) ha
    unfold Small at *
    unfold Lg.lay at *
    simp only at *
    omega
  have hkb2 : OffB l (.slice (some ⟨kb, ko + (m + 1), none⟩) (q.keys.length - (m + 1)) (kc - (m + 1))) := fun a n c e => by cases e; exact hk1 ⟨kb, ko, none⟩ _ _ rfl
  have hnb2 : OffB l (.slice (some ⟨nb, no + (m + 1), none⟩) (q.kids.length - (m + 1)) (nc - (m + 1))) := fun a n c e => by cases e; exact hc1 ⟨nb, no, none⟩ _ _ rfl
  have HSB := Lib.hid (fun X (hX : Mod (fun k => k = l) w X) (hT : TL X t l p (g.lay (q.lower m)) root) => save_calls t l p (g.lay (q.lower m)) root (q.upper m) _ (.slice none 0 0) _ X hT ⟨HIB.out.k.off hX hkb2, by rw [elb]; exact In1.nil X, HIB.out.c.off hX hnb2⟩ hb hsb)
  have HLB : Hid ((q.upper m).leaf = false) := by show _ = _; rw [elb]
  have HLA : Hid ((q.lower m).leaf = false) := by show _ = _; rw [ela]
  unfold pageV at *
  rw [HLA.out] at HSA
  rw [HLB.out] at HSB
  rw [hl]
  have hdiv : ((q.keys.length : Nat) : Int) / 2 = (m : Int) := by omega
  have hI1 : (0 : Int) ≤ (m : Int) := by omega
  have hI2 : (m : Int) ≤ (q.keys.length : Int) := by omega
  have hI3 : (q.keys.length : Int) ≤ (kc : Int) := by omega
  have hI4 : (m : Int) ≤ (kc : Int) := by omega
  have hI5 : (q.kids.length : Int) ≤ (nc : Int) := by omega
  have hI6 : (m : Int) + 1 ≤ (nc : Int) := by omega
  have hI7 : (m : Int) + 1 ≤ (q.kids.length : Int) := by omega
  have hI8 : (0 : Int) ≤ (m : Int) + 1 := by omega
  have hI9 : (m : Int) + 1 ≤ (q.keys.length : Int) := by omega
  have hI10 : (m : Int) + 1 ≤ (kc : Int) := by omega
  have hkm2 : m < kc := by omega
  have hnm2 : m + 1 < nc := by omega
  have hkm3 : m + 1 < kc := by omega
  clear h hi hl hcl hsk ha hb hs hksk hnsk hkey ela elb hsb hm hkb2 hnb2 hk1 hc1 HIA HIB HLA HLB
  generalize q.kids.length = N at *
  generalize q.vals.length = vn at *
  generalize q.keys.length = n at *
  have hm0 : Mod NoB w ((w.alloc (.cells #[.bool false, .slice (some ⟨kb, ko, none⟩) n kc, .slice va vn vc, .slice (some ⟨nb, no, none⟩) N nc] 130)).alloc (.cells #[.int .i64 0, .int .i64 0, .string ⟨#[]⟩, .bool false] 175)) := ((Mod.refl _ _).alloc _).alloc _
  obtain ⟨W1, hW1⟩ : ∃ W1, (w.alloc (.cells #[.bool false, .slice (some ⟨kb, ko, none⟩) n kc, .slice va vn vc, .slice (some ⟨nb, no, none⟩) N nc] 130)).alloc (.cells #[.int .i64 0, .int .i64 0, .string ⟨#[]⟩, .bool false] 175) = W1 := ⟨_, rfl⟩
  have hB : W1.heap[w.heap.size]? = some (.cells #[.bool false, .slice (some ⟨kb, ko, none⟩) n kc, .slice va vn vc, .slice (some ⟨nb, no, none⟩) N nc] 130 (0, 0)) := by
    rw [← hW1, heap_alloc_lt _ _ _ (by rw [size_alloc]; omega)]
    exact heap_alloc_new _ _
  have hR : W1.heap[w.heap.size + 1]? = some (.cells #[.int .i64 0, .int .i64 0, .string ⟨#[]⟩, .bool false] 175 (0, 0)) := by
    rw [← hW1, ← size_alloc w (.cells #[.bool false, .slice (some ⟨kb, ko, none⟩) n kc, .slice va vn vc, .slice (some ⟨nb, no, none⟩) N nc] 130)]
    exact heap_alloc_new _ _
  rw [hW1] at hm0
  obtain ⟨bb, b0, b1, b2, b3, bf⟩ := Page4.facts hB
  have HM0 := Lib.hid hm0
  have HB := Lib.hid hB
  have HR := Lib.hid hR
  rw [← World.cell?_of_block (w := w) (hm0.block kb hkb id)] at hcell
  have hkb1 := Nat.lt_of_lt_of_le hkb hm0.size
  clear hB hR hm0
  go_enter Tryz.func143, Tryz.ntmps143
  go_wp2_with fail
  clear hW1
  go_upto_region 5 with fail
  go_cut [9, 10] from 11 (fun v9 v10 wx => ∃ A B, v9 = .pointer (some ⟨A, 0, none⟩) ∧ v10 = .pointer (some ⟨B, 0, none⟩) ∧ A ≠ B ∧ W1.heap.size ≤ A ∧ W1.heap.size ≤ B ∧ Hid (wx.heap[A]? = some (.cells #[.bool false, .slice (some ⟨kb, ko, none⟩) m kc, .slice none 0 0, .slice none 0 0] 130 (0, 0)) ∧ wx.heap[B]? = some (.cells #[.bool false, .slice (some ⟨kb, ko + m, none⟩) (n - m) (kc - m), .slice none 0 0, .slice none 0 0] 130 (0, 0)) ∧ Mod NoB W1 wx))
  case first =>
    go_region_held3 (fun w' => w'.cell? ⟨w.heap.size, 0, none⟩ = some (.bool false) ∧ w'.cell? ⟨w.heap.size, 1, none⟩ = some (.slice (some ⟨kb, ko, none⟩) n kc)) (go_keep) (fail)
    all_goals (go_wp2_with fail)
    all_goals
      go_meet
      refine ⟨_, _, rfl, rfl, by omega, by omega, by omega, ?_, ?_, ?_⟩
      · exact (by first | exact heap_alloc_at' _ _ _ rfl | exact heap_alloc_at' _ _ _ (by simp) | exact heap_alloc_old' _ _ _ (by (first | omega | (simp only [size_alloc]; omega) | (simp only [size_alloc, heap_drew]; omega))) (heap_alloc_at' _ _ _ (by first | rfl | simp)))
      · exact (by first | exact heap_alloc_at' _ _ _ rfl | exact heap_alloc_at' _ _ _ (by simp) | exact heap_alloc_old' _ _ _ (by (first | omega | (simp only [size_alloc]; omega) | (simp only [size_alloc, heap_drew]; omega))) (heap_alloc_at' _ _ _ (by first | rfl | simp)))
      · exact (by (repeat (first | with_reducible exact Mod.refl _ _ | with_reducible refine Mod.drew ?_ | with_reducible refine Mod.alloc ?_ _)))
  case rest =>
    obtain ⟨A, B, rfl, rfl, hAB, hA0, hB0, HX⟩ := hcut
    obtain ⟨hA, hB, hmX⟩ := HX.out
    generalize wc = X at *
    have hPX := (hmX.block _ (lt_heap HB.out) id).trans HB.out
    rw [← World.cell?_of_block (w := W1) (hmX.block kb hkb1 id)] at hcell
    have hkb2 := Nat.lt_of_lt_of_le hkb1 hmX.size
    have HMX := Lib.hid hmX
    have hw1 := HM0.out.size
    have hr1 := lt_heap HR.out
    clear b0 b1 b2 b3 bf bb HX hmX
    obtain ⟨bb, b0, b1, b2, b3, bf⟩ := Page4.facts hPX
    obtain ⟨ab, a0, a1, a2, a3, af⟩ := Page4.facts hA
    obtain ⟨cb, c0, c1, c2, c3, cf⟩ := Page4.facts hB
    have HA := Lib.hid hA
    have HBB := Lib.hid hB
    clear hA hB hPX
    go_wp2_with fail
    have n1 : ¬ (w.heap.size = A) := by omega
    have n2 : ¬ (w.heap.size = B) := by omega
    have n3 : ¬ (A = w.heap.size) := by omega
    have n4 : ¬ (B = w.heap.size) := by omega
    have hwr : IntKind.i64.wrap ((m : Int) + 1) = (m : Int) + 1 := IntWalk.i64_in _ (by omega)
    have htn : ((m : Int) + 1).toNat = m + 1 := by omega
    go_region_held3 (fun w' => w'.cell? ⟨w.heap.size, 3, none⟩ = some (.slice (some ⟨nb, no, none⟩) N nc)) (go_keep) (fail)
    all_goals go_wp2_with fail
    refine at_world6 (P := fun Z => Calls _ _ _ Z _) (fun Z => Z.heap[A]? = some (.cells #[.bool false, .slice (some ⟨kb, ko, none⟩) m kc, (.slice none 0 0), (.slice (some ⟨nb, no, none⟩) (m + 1) nc)] 130 (0, 0)) ∧ Z.heap[B]? = some (.cells #[.bool false, (.slice (some ⟨kb, ko + (m + 1), none⟩) (n - (m + 1)) (kc - (m + 1))), (.slice none 0 0), (.slice (some ⟨nb, no + (m + 1), none⟩) (N - (m + 1)) (nc - (m + 1)))] 130 (0, 0)) ∧ Mod (fun k => k = A ∨ k = B) X Z) ?_ ?_
    · refine ⟨?_, ?_, ?_⟩
      · simp only [heap_drew, heap_setCell, if_true, hAB, if_false, HA.out, Option.map_some, setAt_cells, List.setIfInBounds_toArray, List.set_cons_zero, List.set_cons_succ]
      · simp only [heap_drew, heap_setCell, if_true, hAB.symm, if_false, HBB.out, Option.map_some, setAt_cells, List.setIfInBounds_toArray, List.set_cons_zero, List.set_cons_succ]
      · repeat (first | with_reducible exact Mod.refl _ _ | with_reducible refine Mod.drew ?_ | ((with_reducible refine Mod.setCell ?_ _ _ ?_); rotate_left; (intro _; simp)))
    · rintro Z ⟨hAZ, hBZ, hmZ⟩
      have hmwZ : Mod NoB w Z := (HM0.out.trans HMX.out (fun _ _ h => h)).trans hmZ (fun k hk e => by omega)
      have hRZ := (hmZ.block (w.heap.size + 1) (by have := HMX.out.size; omega) (fun e => by omega)).trans ((HMX.out.block _ hr1 id).trans HR.out)
      have HBZ := Lib.hid hBZ
      have HRZ := Lib.hid hRZ
      have HMZ := Lib.hid hmwZ
      have hnl := HLL.out
      clear hAZ hBZ hRZ hmZ hmwZ a0 a1 a2 a3 af ab c0 c1 c2 c3 cf cb b0 b1 b2 b3 bf bb HA HBB HB hcell HR HM0
      refine (HSA.out _ HMZ.out).mono ?_
      rintro e W2 ⟨rfl, hm2, ht2⟩
      have hB2 := (hm2.block B (lt_heap HBZ.out) (by omega)).trans HBZ.out
      have HR2 := Lib.hid ((hm2.block _ (lt_heap HRZ.out) (by omega)).trans HRZ.out)
      have HM2 := Lib.hid ((HMZ.out.mono (noB_sub (fun k => k = l) _)).trans hm2 (fun _ _ h => h))
      have HS2 := Lib.hid (HSB.out _ HM2.out ht2)
      obtain ⟨cb, c0, c1, c2, c3, cf⟩ := Page4.facts hB2
      clear hm2 ht2 hB2 HSA HSB HBZ HRZ HMZ HMX
      go_wp2_with fail
      refine HS2.out.mono ?_
      rintro e W3 ⟨rfl, hm3, ht3⟩
      have hR3 := (hm3.block _ (lt_heap HR2.out) (by omega)).trans HR2.out
      have HM3 := Lib.hid (HM2.out.trans hm3 (fun _ _ h => h))
      have HT3 := Lib.hid ht3
      obtain ⟨rb, r0, r1, r2, r3, rf⟩ := Split4.facts hR3
      have HR3 := Lib.hid hR3
      clear hm3 ht3 hR3 HS2 HM2 HR2 c0 c1 c2 c3 cf cb
      go_wp2_with fail
      refine at_world6 (P := bodyPost _ _ _ _ _) (fun X => X.heap[w.heap.size + 1]? = some (.cells #[.int .i64 g.top', .int .i64 (g.lay (q.lower m)).top', .string ⟨s.toArray⟩, .bool true] 175 (0, 0)) ∧ Mod (fun k => k = w.heap.size + 1) W3 X) ?_ ?_
      · refine ⟨?_, ?_⟩
        · simp only [heap_setCell, if_true, HR3.out, Option.map_some, setAt_cells, List.setIfInBounds_toArray, List.set_cons_zero, List.set_cons_succ]
        · repeat (first | with_reducible exact Mod.refl _ _ | ((with_reducible refine Mod.setCell ?_ _ _ ?_); rotate_left; (intro _; rfl)))
      · rintro X ⟨hDX, hMX⟩
        obtain ⟨xb, x0, x1, x2, x3, xf⟩ := Split4.facts hDX
        refine bodyPost_ret (v := .tuple #[splitV g.top' (g.lay (q.lower m)).top' s true, .int .i64 0]) (by simp [results, Tryz.f143, go_sem, x0, x1, x2, x3]) rfl ⟨rfl, ?_, ?_⟩
        · exact HM3.out.trans hMX (fun j hj e => by omega)
        · exact HT3.out.upd hMX (by have := HTL.out; omega) (by have := HLL.out; omega)

end Go.Proofs.YtgofngilfdnakaaGreat
