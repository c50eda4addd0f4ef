/-
  This text proves what the package btree's mend does; under bounds on lengths.
-/
import Derived.Test.YtgofngilfdnakaaGreatPkB

namespace Go.Proofs.YtgofngilfdnakaaGreat
open Go Go.RowKit
set_option linter.unusedSimpArgs false
attribute [local go_sem] over_cell over_frozen lt_over le_over noB loudUpon ByteArray.mk_append_mk ByteArray.extract_mk

set_option maxRecDepth 100000 in
set_option maxHeartbeats 12800000 in
theorem mend_other (t l p i z d base : Nat) (g : Lg) (root : Int) (P o q : Pg) (s : Str) (kv vv cv ok ov oc : Value) (lo : Str) (hi : Option Str) (N : Files) (w : World) (h : TL w t l p g root)
    (hop : PgOwn w base kv vv cv P.keys P.vals P.kids) (hoi : PgIn w ok ov oc o) (hok : pgOk o) (hlb : l < base) (htb : t < base) (hbw : base ≤ w.heap.size) (hz : P.kids[i]? = some z) (hq : rdG g z q) (his : P.keys[i]? = some s)
    (hkl : P.kids.length = P.keys.length + 1) (h8 : P.keys.length ≤ 8) (hPl : P.leaf = false) (hlf : o.leaf = q.leaf) (hJ : RepP (rdG g) d (q.join s o) lo hi N) (h4 : 4 ≤ (q.join s o).keys.length) (h12 : (q.join s o).keys.length ≤ 12) (hs : Small g 1) :
    Calls Tryz.prog 147 #[.pointer (some ⟨t, 0, none⟩), pageV P kv vv cv, .int .i64 (i + 1 : Nat), pageV o ok ov oc] w (Mended w t l p i base root g P d lo hi N) := by
  obtain ⟨⟨a1, c1, rfl⟩, ⟨a2, c2, rfl⟩, a3, c3, rfl⟩ := hop.shapes
  have hil : i < P.keys.length := (List.getElem?_eq_some_iff.1 his).1
  obtain ⟨_, _, e2, _, _, _, hg⟩ := own_shape hop.c
  cases e2
  obtain ⟨cg, rfl⟩ := hg (by omega)
  clear hg
  have hwr : IntKind.i64.wrap (((i + 1 : Nat) : Int) - 1) = (i : Int) := (IntWalk.i64_in _ (by omega)).trans (by omega)
  have hmx : max (i : Int) 0 = (i : Int) := by omega
  obtain ⟨b1, e1, rfl, _, _, _⟩ := hoi.k
  obtain ⟨b2, e2, rfl, _, _, _⟩ := hoi.v
  obtain ⟨b3, e3, rfl, _, _, _⟩ := hoi.c
  simp only [List.length_map] at hoi
  rw [List.length_map, List.length_map, List.length_map]
  unfold pageV
  rw [hPl, hlf]
  generalize hql : q.leaf = lf at *
  have hm0 : Mod NoB w (((w.alloc (.cells #[.bool false, .slice a1 P.keys.length c1, .slice a2 P.vals.length c2, .slice (some ⟨cg, 0, none⟩) P.kids.length c3] 130)).alloc (.cells #[.bool lf, .slice b1 o.keys.length e1, .slice b2 o.vals.length e2, .slice b3 o.kids.length e3] 130)).alloc (.cells #[.bool false, .slice none 0 0, .slice none 0 0, .slice none 0 0] 130)) := (((Mod.refl _ _).alloc _).alloc _).alloc _
  obtain ⟨W0, hW0⟩ : ∃ W0, ((w.alloc (.cells #[.bool false, .slice a1 P.keys.length c1, .slice a2 P.vals.length c2, .slice (some ⟨cg, 0, none⟩) P.kids.length c3] 130)).alloc (.cells #[.bool lf, .slice b1 o.keys.length e1, .slice b2 o.vals.length e2, .slice b3 o.kids.length e3] 130)).alloc (.cells #[.bool false, .slice none 0 0, .slice none 0 0, .slice none 0 0] 130) = W0 := ⟨_, rfl⟩
  rw [hW0] at hm0
  obtain ⟨h5, h7, h8'⟩ := heap_three w (.cells #[.bool false, .slice a1 P.keys.length c1, .slice a2 P.vals.length c2, .slice (some ⟨cg, 0, none⟩) P.kids.length c3] 130) (.cells #[.bool lf, .slice b1 o.keys.length e1, .slice b2 o.vals.length e2, .slice b3 o.kids.length e3] 130) (.cells #[.bool false, .slice none 0 0, .slice none 0 0, .slice none 0 0] 130)
  rw [hW0] at h5 h7 h8'
  have HLD := Lib.hid (load_calls t l p g root z q W0 (h.mod hm0) hq hs.zero)
  unfold pageV at HLD
  rw [hql] at HLD
  have HT := Lib.hid (fun X (hX : Mod NoB w X) => h.mod hX)
  have HM0 := Lib.hid hm0
  have H8 := Lib.hid h8'
  obtain ⟨c0, cf, cb⟩ := row_at (own_of_mod hop.c hm0 (fun _ _ => id)) hz rfl
  obtain ⟨pb, p0, p1, p2, p3, pf⟩ := Page4.facts h5
  have H5 := Lib.hid h5
  have H7 := Lib.hid h7
  have HOP := Lib.hid (hop.mod hm0)
  have HOI := Lib.hid (hoi.mod hm0)
  have HJ := Lib.hid hJ
  have HQ := Lib.hid hq
  have HS := Lib.hid hs
  have HKL := Lib.hid hkl
  have HQL := Lib.hid hql
  have HOL := Lib.hid hlf
  have HIS := Lib.hid his
  have HOK := Lib.hid hok
  have HPL := Lib.hid hPl
  have HJ4 := Lib.hid h4
  have HJ12 := Lib.hid h12
  have hkd9 : P.kids.length ≤ 9 := by omega
  have hlk : i < P.kids.length := by omega
  clear h hm0 hop hoi hok hz hq his hkl hPl hlf hql hJ hs h5 h7 h8' h4 h12
  go_enter Tryz.func147, Tryz.ntmps147
  go_wp2_with fail
  clear hW0
  refine HLD.out.mono ?_
  clear HLD hwr hmx c0 cf cb p0 p1 p2 p3 pf pb
  rintro e W2 ⟨qk, qv, qc, rfl, ho2, hm2⟩
  obtain ⟨⟨d1, f1, rfl⟩, ⟨d2, f2, rfl⟩, d3, f3, rfl⟩ := ho2.shapes
  obtain ⟨W3, hW3⟩ : ∃ W3, W2.alloc (.cells #[.bool lf, .slice d1 q.keys.length f1, .slice d2 q.vals.length f2, .slice d3 q.kids.length f3] 130) = W3 := ⟨_, rfl⟩
  have hm3 : Mod NoB W2 W3 := by rw [← hW3]; exact (Mod.refl _ _).alloc _
  have hQ3 : W3.heap[W2.heap.size]? = some (.cells #[.bool lf, .slice d1 q.keys.length f1, .slice d2 q.vals.length f2, .slice d3 q.kids.length f3] 130 (0, 0)) := by rw [← hW3]; exact heap_alloc_new _ _
  have hm23 := hm2.trans hm3 (fun _ _ h => h)
  have hz8 := lt_heap H8.out
  have hz2 := hm2.size
  have H53 := Lib.hid ((hm23.block _ (lt_heap H5.out) id).trans H5.out)
  have h73 := (hm23.block _ (lt_heap H7.out) id).trans H7.out
  have H83 := Lib.hid ((hm23.block _ hz8 id).trans H8.out)
  have HOP3 := Lib.hid (HOP.out.mod hm23)
  have HOI3 := Lib.hid (HOI.out.mod hm23)
  have HQI3 := Lib.hid ((ho2.mod hm3).in1 (p := q))
  have HM3 := Lib.hid (HM0.out.trans hm23 (fun _ _ h => h))
  obtain ⟨sb, s0, s1, s2, s3, sf⟩ := Page4.facts h73
  obtain ⟨qb, q0, q1, q2, q3, qf⟩ := Page4.facts hQ3
  have H73 := Lib.hid h73
  have HQ3 := Lib.hid hQ3
  clear hm3 hm2 hm23 ho2 h73 hQ3 H5 H7 H8 HOP HOI HM0
  have hq1 : w.heap.size + 1 ≠ W2.heap.size := by omega
  go_wp2_with fail
  clear hW3
  go_upto_region 8 with fail
  generalize W2.heap.size = Q at *
  go_cut [14, 15] from 18 (fun v14 v15 wx => ∃ A B, v14 = .pointer (some ⟨A, 0, none⟩) ∧ v15 = .pointer (some ⟨B, 0, none⟩) ∧ A ≠ B ∧ W3.heap.size ≤ A ∧ W3.heap.size ≤ B ∧ Hid (wx.heap[A]? = some (.cells #[.bool lf, .slice d1 q.keys.length f1, .slice d2 q.vals.length f2, .slice d3 q.kids.length f3] 130 (0, 0)) ∧ wx.heap[B]? = some (.cells #[.bool lf, .slice b1 o.keys.length e1, .slice b2 o.vals.length e2, .slice b3 o.kids.length e3] 130 (0, 0)) ∧ Mod NoB W3 wx))
  case first =>
    go_region_held3 (fun w' => (w'.cell? ⟨Q, 0, none⟩ = some (.bool lf) ∧ w'.cell? ⟨Q, 1, none⟩ = some (.slice d1 q.keys.length f1) ∧ w'.cell? ⟨Q, 2, none⟩ = some (.slice d2 q.vals.length f2) ∧ w'.cell? ⟨Q, 3, none⟩ = some (.slice d3 q.kids.length f3)) ∧ w'.cell? ⟨w.heap.size + 1, 0, none⟩ = some (.bool lf) ∧ w'.cell? ⟨w.heap.size + 1, 1, none⟩ = some (.slice b1 o.keys.length e1) ∧ w'.cell? ⟨w.heap.size + 1, 2, none⟩ = some (.slice b2 o.vals.length e2) ∧ w'.cell? ⟨w.heap.size + 1, 3, none⟩ = some (.slice b3 o.kids.length e3)) (go_keep) (fail)
    all_goals (go_wp2_with fail)
    all_goals
      go_meet
      refine ⟨_, _, rfl, rfl, by omega, by omega, by omega, ?_, ?_, ?_⟩
      · exact (by first | exact hat0 | exact hat1)
      · exact (by first | exact hat0 | exact hat1)
      · exact QM.out
  case rest =>
    obtain ⟨A, B, rfl, rfl, hAB, hA0, hB0, HX⟩ := hcut
    obtain ⟨hA, hB, hmX⟩ := HX.out
    generalize wc = X at *
    have hz3 := HM3.out.size
    have hz33 := lt_heap H83.out
    have H5X := Lib.hid ((hmX.block _ (lt_heap H53.out) id).trans H53.out)
    have H8X := Lib.hid ((hmX.block _ hz33 id).trans H83.out)
    have HOPX := Lib.hid (HOP3.out.mod hmX)
    have HOIX := Lib.hid (HOI3.out.mod hmX)
    have HQIX := Lib.hid (HQI3.out.mod hmX)
    have HMX := Lib.hid (HM3.out.trans hmX (fun _ _ h => h))
    clear s0 s1 s2 s3 sf sb q0 q1 q2 q3 qf qb HX hmX H53 H73 H83 HQ3 HOP3 HOI3 HQI3 HM3
    obtain ⟨ab, g0, g1, g2, g3, gf⟩ := Page4.facts hA
    obtain ⟨nb, n0, n1, n2, n3, nf⟩ := Page4.facts hB
    have HA := Lib.hid hA
    have HB := Lib.hid hB
    clear hA hB
    have hq8 := HQ.out.1.2.2.1
    have ho8 := HOK.out.2.2.1
    have HCS : Hid (∀ Y b, Mod NoB X Y → Y.heap[b]? = some (.cells #[.slice d2 q.vals.length f2, .slice b2 o.vals.length e2] 77 (0, 0)) → Calls Tryz.prog 170 #[.slice (some ⟨b, 0, none⟩) 2 2] Y fun e w' => ∃ u, e = .returned u ∧ CatU X.heap.size 9 (q.vals ++ o.vals).length ((q.vals ++ o.vals).map txt) Y u w') := fun Y b hY hb => Concat2S hY.size hb (HQIX.out.v.mod hY) (HOIX.out.v.mod hY) (by have := vals_le HQ.out.1; omega) (by have := vals_le HOK.out; omega)
    have HCI : Hid (∀ Y b, Mod NoB X Y → Y.heap[b]? = some (.cells #[.slice d3 q.kids.length f3, .slice b3 o.kids.length e3] 38 (0, 0)) → Calls Tryz.prog 171 #[.slice (some ⟨b, 0, none⟩) 2 2] Y fun e w' => ∃ u, e = .returned u ∧ CatU X.heap.size 3 (q.kids ++ o.kids).length ((q.kids ++ o.kids).map numV) Y u w') := fun Y b hY hb => Concat2I hY.size hb (HQIX.out.c.mod hY) (HOIX.out.c.mod hY) (by have := kids_le HQ.out.1; omega) (by have := kids_le HOK.out; omega)
    go_wp2_with fail
    go_upto_region 11 with fail
    go_cut [16] from 18 (fun v16 wx => ∃ C x2 y2 x3 y3, v16 = .pointer (some ⟨C, 0, none⟩) ∧ X.heap.size ≤ C ∧ Hid (wx.heap[C]? = some (.cells #[.bool lf, .slice none 0 0, .slice x2 (q.vals ++ o.vals).length y2, .slice x3 (q.kids ++ o.kids).length y3] 130 (0, 0)) ∧ wx.ownsRow X.heap.size 9 1 (.slice x2 (q.vals ++ o.vals).length y2) (q.vals ++ o.vals).length ((q.vals ++ o.vals).map txt) ∧ wx.ownsRow X.heap.size 3 1 (.slice x3 (q.kids ++ o.kids).length y3) (q.kids ++ o.kids).length ((q.kids ++ o.kids).map numV) ∧ Mod NoB X wx))
    case first =>
      refine wp_region_front (fun w' => w'.cell? ⟨A, 0, none⟩ = some (.bool lf) ∧ w'.cell? ⟨A, 2, none⟩ = some (.slice d2 q.vals.length f2) ∧ w'.cell? ⟨A, 3, none⟩ = some (.slice d3 q.kids.length f3) ∧ w'.cell? ⟨B, 2, none⟩ = some (.slice b2 o.vals.length e2) ∧ w'.cell? ⟨B, 3, none⟩ = some (.slice b3 o.kids.length e3)) (notIn [16]) (by kernel_rfl) ?_ (fun hHeld => ?_)
      · (first | (go_keep; done) | exact ⟨keep_cell (show Mod NoB X _ from QM.out) ab g0, keep_cell (show Mod NoB X _ from QM.out) ab g2, keep_cell (show Mod NoB X _ from QM.out) ab g3, keep_cell (show Mod NoB X _ from QM.out) nb n2, keep_cell (show Mod NoB X _ from QM.out) nb n3⟩)
      refine tkT 0 (v := ?_) ?_ hHeld ?_
      rotate_left
      · (intro _; simp only [ga, gz]; go_simp; try with_reducible rfl)
      simp only [Act.put, ga, gz, sb, sz, ss]
      refine tkL 1 (v := ?_) ?_ hHeld ?_
      rotate_left
      · (intro _ h; (try dsimp only at h); simp only [ga, gs, gz]; go_simp; try with_reducible rfl)
      simp only [Act.put, ga, gs, gz, sb, sz, ss]
      refine tkT 2 (v := ?_) ?_ hHeld ?_
      rotate_left
      · (intro _; simp only [ga, gs, gz]; go_simp; try with_reducible rfl)
      simp only [Act.put, ga, gs, gz, sb, sz, ss]
      refine tkL 3 (v := ?_) ?_ hHeld ?_
      rotate_left
      · (intro _ h; (try dsimp only at h); simp only [ga, gs, gz]; go_simp; try with_reducible rfl)
      simp only [Act.put, ga, gs, gz, sb, sz, ss]
      refine tkT 4 (v := ?_) ?_ hHeld ?_
      rotate_left
      · (intro _; simp only [ga, gs, gz]; go_simp; try with_reducible rfl)
      simp only [Act.put, ga, gs, gz, sb, sz, ss]
      refine tkL 5 (v := ?_) ?_ hHeld ?_
      rotate_left
      · (intro _ h; (try dsimp only at h); simp only [ga, gs, gz]; go_simp; try with_reducible rfl)
      simp only [Act.put, ga, gs, gz, sb, sz, ss]
      refine tkT 8 (v := ?_) ?_ hHeld ?_
      rotate_left
      · (intro _; simp only [ga, gs, gz]; go_simp; try with_reducible rfl)
      simp only [Act.put, ga, gs, gz, sb, sz, ss]
      refine tkL 9 (v := ?_) ?_ hHeld ?_
      rotate_left
      · (intro _ h; (try dsimp only at h); simp only [ga, gs, gz]; go_simp; try with_reducible rfl)
      simp only [Act.put, ga, gs, gz, sb, sz, ss]
      refine tkT 10 (v := ?_) ?_ hHeld ?_
      rotate_left
      · (intro _; simp only [ga, gs, gz]; go_simp; try with_reducible rfl)
      simp only [Act.put, ga, gs, gz, sb, sz, ss]
      refine tkL 11 (v := ?_) ?_ hHeld ?_
      rotate_left
      · (intro _ h; (try dsimp only at h); simp only [ga, gs, gz]; go_simp; try with_reducible rfl)
      simp only [Act.put, ga, gs, gz, sb, sz, ss]
      refine allF [6, 12, 15] (mc (stF ?_) (mc (stF ?_) (mc (stF ?_) mn)))
      · intro K hK
        dsimp only [ga, gs, gz]
        go_simp
        refine hK _ _ (show_held ?_ (fun hHeld => ?_))
        · (first | (go_keep; done) | exact ⟨keep_cell (show Mod NoB X _ from QM.out) ab g0, keep_cell (show Mod NoB X _ from QM.out) ab g2, keep_cell (show Mod NoB X _ from QM.out) ab g3, keep_cell (show Mod NoB X _ from QM.out) nb n2, keep_cell (show Mod NoB X _ from QM.out) nb n3⟩)
        clear hK K
        refine allF [7, 12, 15] (mc (stF ?_) (mc (stF ?_) (mc (stF ?_) mn)))
        · intro K hK
          dsimp only [ga, gs, gz]
          rw [if_pos (by rfl)]
          refine wp_fn 170 (fun _ _ => by kernel_rfl) #[.tmp 51] #[249] rfl (vs := #[.slice (some ⟨_, 0, none⟩) 2 2]) rfl (HCS.out _ _ QM.out (by first | exact hat0 | exact hat1 | exact hat2)) ?_
          rintro u X7 ⟨x2, y2, rfl, ho7, hm7⟩
          have hM7 : Mod NoB X X7 := (show Mod NoB X _ from QM.out).trans hm7 (fun _ _ h => h)
          obtain ⟨ab, g0, g1, g2, g3, gf⟩ := Page4.facts ((hM7.block A (lt_heap HA.out) id).trans HA.out)
          obtain ⟨nb, n0, n1, n2, n3, nf⟩ := Page4.facts ((hM7.block B (lt_heap HB.out) id).trans HB.out)
          have hsz7 := hm7.size
          (try simp only [size_alloc, heap_drew] at hsz7)
          refine hK _ _ (show_held ?_ (fun hHeld => ?_))
          · (first | (go_keep; done) | exact ⟨keep_cell (show Mod NoB X _ from QM.out) ab g0, keep_cell (show Mod NoB X _ from QM.out) ab g2, keep_cell (show Mod NoB X _ from QM.out) ab g3, keep_cell (show Mod NoB X _ from QM.out) nb n2, keep_cell (show Mod NoB X _ from QM.out) nb n3⟩)
          clear hK K
          simp only [Act.put, List.setIfInBounds_toArray, List.set_cons_zero, List.set_cons_succ]
          refine allF [12, 15] (mc (stF ?_) (mc (stF ?_) mn))
          · intro K hK
            dsimp only [ga, gs, gz]
            go_simp
            refine hK _ _ (show_held ?_ (fun hHeld => ?_))
            · (first | (go_keep; done) | exact ⟨keep_cell (show Mod NoB X _ from QM.out) ab g0, keep_cell (show Mod NoB X _ from QM.out) ab g2, keep_cell (show Mod NoB X _ from QM.out) ab g3, keep_cell (show Mod NoB X _ from QM.out) nb n2, keep_cell (show Mod NoB X _ from QM.out) nb n3⟩)
            clear hK K
            refine allF [13, 15] (mc (stF ?_) (mc (stF ?_) mn))
            · intro K hK
              dsimp only [ga, gs, gz]
              rw [if_pos (by rfl)]
              refine wp_fn 171 (fun _ _ => by kernel_rfl) #[.tmp 57] #[251] rfl (vs := #[.slice (some ⟨_, 0, none⟩) 2 2]) rfl (HCI.out _ _ (hM7.trans (show Mod NoB X7 _ from QM.out) (fun _ _ h => h)) (by ((try simp only [heap_drew]); first | exact hat0 | exact hat1 | exact hat2 | (refine (Mod.block hm7 _ ?_ id).trans ?_ <;> (first | omega | (simp only [size_alloc, heap_drew]; omega) | ((try simp only [heap_drew]); first | exact hat0 | exact hat1 | exact hat2))) | (refine heap_alloc_old' _ _ _ ?_ ((Mod.block hm7 _ ?_ id).trans ?_) <;> (first | omega | (simp only [size_alloc, heap_drew]; omega) | ((try simp only [heap_drew]); first | exact hat0 | exact hat1 | exact hat2))) | (refine heap_alloc_old' _ _ _ ?_ (heap_alloc_old' _ _ _ ?_ ((Mod.block hm7 _ ?_ id).trans ?_)) <;> (first | omega | (simp only [size_alloc, heap_drew]; omega) | ((try simp only [heap_drew]); first | exact hat0 | exact hat1 | exact hat2)))))) ?_
              rintro u X8 ⟨x3, y3, rfl, ho8, hm8⟩
              have hM8 : Mod NoB X7 X8 := (show Mod NoB X7 _ from QM.out).trans hm8 (fun _ _ h => h)
              obtain ⟨ab, g0, g1, g2, g3, gf⟩ := Page4.facts ((hM8.block A ab id).trans ((hM7.block A (lt_heap HA.out) id).trans HA.out))
              obtain ⟨nb, n0, n1, n2, n3, nf⟩ := Page4.facts ((hM8.block B nb id).trans ((hM7.block B (lt_heap HB.out) id).trans HB.out))
              have hsz8 := hm8.size
              (try simp only [size_alloc, heap_drew] at hsz8)
              have HO8 := Lib.hid (own_of_mod ho7 hM8 (fun _ _ => id))
              have HO9 := Lib.hid ho8
              have HM8 := Lib.hid (hM7.trans hM8 (fun _ _ h => h))
              clear ho7 ho8
              refine hK _ _ (show_held ?_ (fun hHeld => ?_))
              · (first | (go_keep; done) | exact ⟨keep_cell (show Mod NoB X _ from QM.out) ab g0, keep_cell (show Mod NoB X _ from QM.out) ab g2, keep_cell (show Mod NoB X _ from QM.out) ab g3, keep_cell (show Mod NoB X _ from QM.out) nb n2, keep_cell (show Mod NoB X _ from QM.out) nb n3⟩)
              clear hK K
              simp only [Act.put, List.setIfInBounds_toArray, List.set_cons_zero, List.set_cons_succ]
              refine tkT 14 (v := ?_) ?_ hHeld ?_
              rotate_left
              · (intro _; simp only [ga, gs, gz]; go_simp; try with_reducible rfl)
              simp only [Act.put, ga, gs, gz, sb, sz, ss]
              refine allF [15] (mc (stF ?_) mn)
              intro K hK
              dsimp only [ga, gs, gz]
              go_simp
              refine hK _ _ (show_held ?_ (fun hHeld => ?_))
              · (first | (go_keep; done) | exact ⟨keep_cell (show Mod NoB X _ from QM.out) ab g0, keep_cell (show Mod NoB X _ from QM.out) ab g2, keep_cell (show Mod NoB X _ from QM.out) ab g3, keep_cell (show Mod NoB X _ from QM.out) nb n2, keep_cell (show Mod NoB X _ from QM.out) nb n3⟩)
              clear hK K
              refine allF [16] (mc (stN ?_) mn)
              intro K hK
              dsimp only [ga, gs, gz]
              go_simp
              refine hK _ _ ?_
              clear hK K
              refine wpAny_done (by kernel_rfl) ?_ _
              go_wp2_with fail
              go_meet
              refine ⟨_, x2, y2, x3, y3, rfl, by omega, ?_, ?_, ?_, ?_⟩
              · (simp only [List.length_append]; exact heap_alloc_at' _ _ _ rfl)
              · exact own_of_mod HO8.out (show Mod NoB X8 _ from QM.out) (fun _ _ => id)
              · exact own_of_mod HO9.out (show Mod NoB X8 _ from QM.out) (fun _ _ => id)
              · exact HM8.out.trans (show Mod NoB X8 _ from QM.out) (fun _ _ h => h)
            · intro K hK
              dsimp only [ga, gs, gz]
              go_simp
              refine hK _ _ (show_held ?_ (fun hHeld => ?_))
              · (first | (go_keep; done) | exact ⟨keep_cell (show Mod NoB X _ from QM.out) ab g0, keep_cell (show Mod NoB X _ from QM.out) ab g2, keep_cell (show Mod NoB X _ from QM.out) ab g3, keep_cell (show Mod NoB X _ from QM.out) nb n2, keep_cell (show Mod NoB X _ from QM.out) nb n3⟩)
              clear hK K
              refine allF [13] (mc (stF ?_) mn)
              intro K hK
              dsimp only [ga, gs, gz]
              rw [if_pos (by rfl)]
              refine wp_fn 171 (fun _ _ => by kernel_rfl) #[.tmp 57] #[251] rfl (vs := #[.slice (some ⟨_, 0, none⟩) 2 2]) rfl (HCI.out _ _ (hM7.trans (show Mod NoB X7 _ from QM.out) (fun _ _ h => h)) (by ((try simp only [heap_drew]); first | exact hat0 | exact hat1 | exact hat2 | (refine (Mod.block hm7 _ ?_ id).trans ?_ <;> (first | omega | (simp only [size_alloc, heap_drew]; omega) | ((try simp only [heap_drew]); first | exact hat0 | exact hat1 | exact hat2))) | (refine heap_alloc_old' _ _ _ ?_ ((Mod.block hm7 _ ?_ id).trans ?_) <;> (first | omega | (simp only [size_alloc, heap_drew]; omega) | ((try simp only [heap_drew]); first | exact hat0 | exact hat1 | exact hat2))) | (refine heap_alloc_old' _ _ _ ?_ (heap_alloc_old' _ _ _ ?_ ((Mod.block hm7 _ ?_ id).trans ?_)) <;> (first | omega | (simp only [size_alloc, heap_drew]; omega) | ((try simp only [heap_drew]); first | exact hat0 | exact hat1 | exact hat2)))))) ?_
              rintro u X8 ⟨x3, y3, rfl, ho8, hm8⟩
              have hM8 : Mod NoB X7 X8 := (show Mod NoB X7 _ from QM.out).trans hm8 (fun _ _ h => h)
              obtain ⟨ab, g0, g1, g2, g3, gf⟩ := Page4.facts ((hM8.block A ab id).trans ((hM7.block A (lt_heap HA.out) id).trans HA.out))
              obtain ⟨nb, n0, n1, n2, n3, nf⟩ := Page4.facts ((hM8.block B nb id).trans ((hM7.block B (lt_heap HB.out) id).trans HB.out))
              have hsz8 := hm8.size
              (try simp only [size_alloc, heap_drew] at hsz8)
              have hD : X8.heap[X7.heap.size + 1]? = some (.cells #[.bool false, .slice none 0 0, .slice none 0 0, .slice none 0 0] 130 (0, 0)) := by ((try simp only [heap_drew]); first | exact hat0 | exact hat1 | exact hat2 | (refine (Mod.block hm8 _ ?_ id).trans ?_ <;> (first | omega | (simp only [size_alloc, heap_drew]; omega) | ((try simp only [heap_drew]); first | exact hat0 | exact hat1 | exact hat2))) | (refine heap_alloc_old' _ _ _ ?_ ((Mod.block hm8 _ ?_ id).trans ?_) <;> (first | omega | (simp only [size_alloc, heap_drew]; omega) | ((try simp only [heap_drew]); first | exact hat0 | exact hat1 | exact hat2))) | (refine heap_alloc_old' _ _ _ ?_ (heap_alloc_old' _ _ _ ?_ ((Mod.block hm8 _ ?_ id).trans ?_)) <;> (first | omega | (simp only [size_alloc, heap_drew]; omega) | ((try simp only [heap_drew]); first | exact hat0 | exact hat1 | exact hat2))))
              obtain ⟨yyb, yy0, yy1, yy2, yy3, yyf⟩ := Page4.facts hD
              have HO8 := Lib.hid (own_of_mod ho7 hM8 (fun _ _ => id))
              have HO9 := Lib.hid ho8
              have HM8 := Lib.hid (hM7.trans hM8 (fun _ _ h => h))
              clear ho7 ho8
              refine hK _ _ (show_held ?_ (fun hHeld => ?_))
              · (first | (go_keep; done) | exact ⟨keep_cell (show Mod NoB X _ from QM.out) ab g0, keep_cell (show Mod NoB X _ from QM.out) ab g2, keep_cell (show Mod NoB X _ from QM.out) ab g3, keep_cell (show Mod NoB X _ from QM.out) nb n2, keep_cell (show Mod NoB X _ from QM.out) nb n3⟩)
              clear hK K
              simp only [Act.put, List.setIfInBounds_toArray, List.set_cons_zero, List.set_cons_succ]
              refine tkT 14 (v := ?_) ?_ hHeld ?_
              rotate_left
              · (intro _; simp only [ga, gs, gz]; go_simp; try with_reducible rfl)
              simp only [Act.put, ga, gs, gz, sb, sz, ss]
              refine allF [16] (mc (stN ?_) mn)
              intro K hK
              dsimp only [ga, gs, gz]
              go_simp
              refine hK _ _ ?_
              clear hK K
              refine wpAny_done (by kernel_rfl) ?_ _
              go_wp2_with fail
              go_meet
              refine ⟨_, x2, y2, x3, y3, rfl, by omega, ?_, ?_, ?_, ?_⟩
              · simp only [heap_setCell, if_true, hD, Option.map_some, setAt_cells, List.setIfInBounds_toArray, List.set_cons_zero, List.set_cons_succ, List.length_append]
              · exact own_of_mod HO8.out (show Mod (fun k => k = X7.heap.size + 1) X8 _ from (by (repeat (first | with_reducible exact Mod.refl _ _ | with_reducible refine Mod.drew ?_ | ((with_reducible refine Mod.setCell ?_ _ _ ?_); rotate_left; (intro _; rfl)))))) (fun k hk e => absurd (own_type HO8.out hk (e ▸ hD)) (by decide))
              · exact own_of_mod HO9.out (show Mod (fun k => k = X7.heap.size + 1) X8 _ from (by (repeat (first | with_reducible exact Mod.refl _ _ | with_reducible refine Mod.drew ?_ | ((with_reducible refine Mod.setCell ?_ _ _ ?_); rotate_left; (intro _; rfl)))))) (fun k hk e => absurd (own_type HO9.out hk (e ▸ hD)) (by decide))
              · exact HM8.out.trans (show Mod (fun k => k = X7.heap.size + 1) X8 _ from (by (repeat (first | with_reducible exact Mod.refl _ _ | with_reducible refine Mod.drew ?_ | ((with_reducible refine Mod.setCell ?_ _ _ ?_); rotate_left; (intro _; rfl)))))) (fun k hk e => by omega)
          · intro K hK
            dsimp only [ga, gs, gz]
            go_simp
            refine hK _ _ (show_held ?_ (fun hHeld => ?_))
            · (first | (go_keep; done) | exact ⟨keep_cell (show Mod NoB X _ from QM.out) ab g0, keep_cell (show Mod NoB X _ from QM.out) ab g2, keep_cell (show Mod NoB X _ from QM.out) ab g3, keep_cell (show Mod NoB X _ from QM.out) nb n2, keep_cell (show Mod NoB X _ from QM.out) nb n3⟩)
            clear hK K
            refine allF [12] (mc (stF ?_) mn)
            intro K hK
            dsimp only [ga, gs, gz]
            go_simp
            refine hK _ _ (show_held ?_ (fun hHeld => ?_))
            · (first | (go_keep; done) | exact ⟨keep_cell (show Mod NoB X _ from QM.out) ab g0, keep_cell (show Mod NoB X _ from QM.out) ab g2, keep_cell (show Mod NoB X _ from QM.out) ab g3, keep_cell (show Mod NoB X _ from QM.out) nb n2, keep_cell (show Mod NoB X _ from QM.out) nb n3⟩)
            clear hK K
            refine allF [13] (mc (stF ?_) mn)
            intro K hK
            dsimp only [ga, gs, gz]
            rw [if_pos (by rfl)]
            refine wp_fn 171 (fun _ _ => by kernel_rfl) #[.tmp 57] #[251] rfl (vs := #[.slice (some ⟨_, 0, none⟩) 2 2]) rfl (HCI.out _ _ (hM7.trans (show Mod NoB X7 _ from QM.out) (fun _ _ h => h)) (by ((try simp only [heap_drew]); first | exact hat0 | exact hat1 | exact hat2 | (refine (Mod.block hm7 _ ?_ id).trans ?_ <;> (first | omega | (simp only [size_alloc, heap_drew]; omega) | ((try simp only [heap_drew]); first | exact hat0 | exact hat1 | exact hat2))) | (refine heap_alloc_old' _ _ _ ?_ ((Mod.block hm7 _ ?_ id).trans ?_) <;> (first | omega | (simp only [size_alloc, heap_drew]; omega) | ((try simp only [heap_drew]); first | exact hat0 | exact hat1 | exact hat2))) | (refine heap_alloc_old' _ _ _ ?_ (heap_alloc_old' _ _ _ ?_ ((Mod.block hm7 _ ?_ id).trans ?_)) <;> (first | omega | (simp only [size_alloc, heap_drew]; omega) | ((try simp only [heap_drew]); first | exact hat0 | exact hat1 | exact hat2)))))) ?_
            rintro u X8 ⟨x3, y3, rfl, ho8, hm8⟩
            have hM8 : Mod NoB X7 X8 := (show Mod NoB X7 _ from QM.out).trans hm8 (fun _ _ h => h)
            obtain ⟨ab, g0, g1, g2, g3, gf⟩ := Page4.facts ((hM8.block A ab id).trans ((hM7.block A (lt_heap HA.out) id).trans HA.out))
            obtain ⟨nb, n0, n1, n2, n3, nf⟩ := Page4.facts ((hM8.block B nb id).trans ((hM7.block B (lt_heap HB.out) id).trans HB.out))
            have hsz8 := hm8.size
            (try simp only [size_alloc, heap_drew] at hsz8)
            have hD : X8.heap[X7.heap.size]? = some (.cells #[.bool false, .slice none 0 0, .slice none 0 0, .slice none 0 0] 130 (0, 0)) := by ((try simp only [heap_drew]); first | exact hat0 | exact hat1 | exact hat2 | (refine (Mod.block hm8 _ ?_ id).trans ?_ <;> (first | omega | (simp only [size_alloc, heap_drew]; omega) | ((try simp only [heap_drew]); first | exact hat0 | exact hat1 | exact hat2))) | (refine heap_alloc_old' _ _ _ ?_ ((Mod.block hm8 _ ?_ id).trans ?_) <;> (first | omega | (simp only [size_alloc, heap_drew]; omega) | ((try simp only [heap_drew]); first | exact hat0 | exact hat1 | exact hat2))) | (refine heap_alloc_old' _ _ _ ?_ (heap_alloc_old' _ _ _ ?_ ((Mod.block hm8 _ ?_ id).trans ?_)) <;> (first | omega | (simp only [size_alloc, heap_drew]; omega) | ((try simp only [heap_drew]); first | exact hat0 | exact hat1 | exact hat2))))
            obtain ⟨yyb, yy0, yy1, yy2, yy3, yyf⟩ := Page4.facts hD
            have HO8 := Lib.hid (own_of_mod ho7 hM8 (fun _ _ => id))
            have HO9 := Lib.hid ho8
            have HM8 := Lib.hid (hM7.trans hM8 (fun _ _ h => h))
            clear ho7 ho8
            refine hK _ _ (show_held ?_ (fun hHeld => ?_))
            · (first | (go_keep; done) | exact ⟨keep_cell (show Mod NoB X _ from QM.out) ab g0, keep_cell (show Mod NoB X _ from QM.out) ab g2, keep_cell (show Mod NoB X _ from QM.out) ab g3, keep_cell (show Mod NoB X _ from QM.out) nb n2, keep_cell (show Mod NoB X _ from QM.out) nb n3⟩)
            clear hK K
            simp only [Act.put, List.setIfInBounds_toArray, List.set_cons_zero, List.set_cons_succ]
            refine tkT 14 (v := ?_) ?_ hHeld ?_
            rotate_left
            · (intro _; simp only [ga, gs, gz]; go_simp; try with_reducible rfl)
            simp only [Act.put, ga, gs, gz, sb, sz, ss]
            refine allF [16] (mc (stN ?_) mn)
            intro K hK
            dsimp only [ga, gs, gz]
            go_simp
            refine hK _ _ ?_
            clear hK K
            refine wpAny_done (by kernel_rfl) ?_ _
            go_wp2_with fail
            go_meet
            refine ⟨_, x2, y2, x3, y3, rfl, by omega, ?_, ?_, ?_, ?_⟩
            · simp only [heap_setCell, if_true, hD, Option.map_some, setAt_cells, List.setIfInBounds_toArray, List.set_cons_zero, List.set_cons_succ, List.length_append]
            · exact own_of_mod HO8.out (show Mod (fun k => k = X7.heap.size) X8 _ from (by (repeat (first | with_reducible exact Mod.refl _ _ | with_reducible refine Mod.drew ?_ | ((with_reducible refine Mod.setCell ?_ _ _ ?_); rotate_left; (intro _; rfl)))))) (fun k hk e => absurd (own_type HO8.out hk (e ▸ hD)) (by decide))
            · exact own_of_mod HO9.out (show Mod (fun k => k = X7.heap.size) X8 _ from (by (repeat (first | with_reducible exact Mod.refl _ _ | with_reducible refine Mod.drew ?_ | ((with_reducible refine Mod.setCell ?_ _ _ ?_); rotate_left; (intro _; rfl)))))) (fun k hk e => absurd (own_type HO9.out hk (e ▸ hD)) (by decide))
            · exact HM8.out.trans (show Mod (fun k => k = X7.heap.size) X8 _ from (by (repeat (first | with_reducible exact Mod.refl _ _ | with_reducible refine Mod.drew ?_ | ((with_reducible refine Mod.setCell ?_ _ _ ?_); rotate_left; (intro _; rfl)))))) (fun k hk e => by omega)
        · intro K hK
          dsimp only [ga, gs, gz]
          go_simp
          refine hK _ _ (show_held ?_ (fun hHeld => ?_))
          · (first | (go_keep; done) | exact ⟨keep_cell (show Mod NoB X _ from QM.out) ab g0, keep_cell (show Mod NoB X _ from QM.out) ab g2, keep_cell (show Mod NoB X _ from QM.out) ab g3, keep_cell (show Mod NoB X _ from QM.out) nb n2, keep_cell (show Mod NoB X _ from QM.out) nb n3⟩)
          clear hK K
          refine allF [7, 15] (mc (stF ?_) (mc (stF ?_) mn))
          · intro K hK
            dsimp only [ga, gs, gz]
            rw [if_pos (by rfl)]
            refine wp_fn 170 (fun _ _ => by kernel_rfl) #[.tmp 51] #[249] rfl (vs := #[.slice (some ⟨_, 0, none⟩) 2 2]) rfl (HCS.out _ _ QM.out (by first | exact hat0 | exact hat1 | exact hat2)) ?_
            rintro u X7 ⟨x2, y2, rfl, ho7, hm7⟩
            have hM7 : Mod NoB X X7 := (show Mod NoB X _ from QM.out).trans hm7 (fun _ _ h => h)
            obtain ⟨ab, g0, g1, g2, g3, gf⟩ := Page4.facts ((hM7.block A (lt_heap HA.out) id).trans HA.out)
            obtain ⟨nb, n0, n1, n2, n3, nf⟩ := Page4.facts ((hM7.block B (lt_heap HB.out) id).trans HB.out)
            have hsz7 := hm7.size
            (try simp only [size_alloc, heap_drew] at hsz7)
            refine hK _ _ (show_held ?_ (fun hHeld => ?_))
            · (first | (go_keep; done) | exact ⟨keep_cell (show Mod NoB X _ from QM.out) ab g0, keep_cell (show Mod NoB X _ from QM.out) ab g2, keep_cell (show Mod NoB X _ from QM.out) ab g3, keep_cell (show Mod NoB X _ from QM.out) nb n2, keep_cell (show Mod NoB X _ from QM.out) nb n3⟩)
            clear hK K
            simp only [Act.put, List.setIfInBounds_toArray, List.set_cons_zero, List.set_cons_succ]
            refine allF [13, 15] (mc (stF ?_) (mc (stF ?_) mn))
            · intro K hK
              dsimp only [ga, gs, gz]
              rw [if_pos (by rfl)]
              refine wp_fn 171 (fun _ _ => by kernel_rfl) #[.tmp 57] #[251] rfl (vs := #[.slice (some ⟨_, 0, none⟩) 2 2]) rfl (HCI.out _ _ (hM7.trans (show Mod NoB X7 _ from QM.out) (fun _ _ h => h)) (by ((try simp only [heap_drew]); first | exact hat0 | exact hat1 | exact hat2 | (refine (Mod.block hm7 _ ?_ id).trans ?_ <;> (first | omega | (simp only [size_alloc, heap_drew]; omega) | ((try simp only [heap_drew]); first | exact hat0 | exact hat1 | exact hat2))) | (refine heap_alloc_old' _ _ _ ?_ ((Mod.block hm7 _ ?_ id).trans ?_) <;> (first | omega | (simp only [size_alloc, heap_drew]; omega) | ((try simp only [heap_drew]); first | exact hat0 | exact hat1 | exact hat2))) | (refine heap_alloc_old' _ _ _ ?_ (heap_alloc_old' _ _ _ ?_ ((Mod.block hm7 _ ?_ id).trans ?_)) <;> (first | omega | (simp only [size_alloc, heap_drew]; omega) | ((try simp only [heap_drew]); first | exact hat0 | exact hat1 | exact hat2)))))) ?_
              rintro u X8 ⟨x3, y3, rfl, ho8, hm8⟩
              have hM8 : Mod NoB X7 X8 := (show Mod NoB X7 _ from QM.out).trans hm8 (fun _ _ h => h)
              obtain ⟨ab, g0, g1, g2, g3, gf⟩ := Page4.facts ((hM8.block A ab id).trans ((hM7.block A (lt_heap HA.out) id).trans HA.out))
              obtain ⟨nb, n0, n1, n2, n3, nf⟩ := Page4.facts ((hM8.block B nb id).trans ((hM7.block B (lt_heap HB.out) id).trans HB.out))
              have hsz8 := hm8.size
              (try simp only [size_alloc, heap_drew] at hsz8)
              have HO8 := Lib.hid (own_of_mod ho7 hM8 (fun _ _ => id))
              have HO9 := Lib.hid ho8
              have HM8 := Lib.hid (hM7.trans hM8 (fun _ _ h => h))
              clear ho7 ho8
              refine hK _ _ (show_held ?_ (fun hHeld => ?_))
              · (first | (go_keep; done) | exact ⟨keep_cell (show Mod NoB X _ from QM.out) ab g0, keep_cell (show Mod NoB X _ from QM.out) ab g2, keep_cell (show Mod NoB X _ from QM.out) ab g3, keep_cell (show Mod NoB X _ from QM.out) nb n2, keep_cell (show Mod NoB X _ from QM.out) nb n3⟩)
              clear hK K
              simp only [Act.put, List.setIfInBounds_toArray, List.set_cons_zero, List.set_cons_succ]
              refine tkT 14 (v := ?_) ?_ hHeld ?_
              rotate_left
              · (intro _; simp only [ga, gs, gz]; go_simp; try with_reducible rfl)
              simp only [Act.put, ga, gs, gz, sb, sz, ss]
              refine allF [15] (mc (stF ?_) mn)
              intro K hK
              dsimp only [ga, gs, gz]
              go_simp
              refine hK _ _ (show_held ?_ (fun hHeld => ?_))
              · (first | (go_keep; done) | exact ⟨keep_cell (show Mod NoB X _ from QM.out) ab g0, keep_cell (show Mod NoB X _ from QM.out) ab g2, keep_cell (show Mod NoB X _ from QM.out) ab g3, keep_cell (show Mod NoB X _ from QM.out) nb n2, keep_cell (show Mod NoB X _ from QM.out) nb n3⟩)
              clear hK K
              refine allF [16] (mc (stN ?_) mn)
              intro K hK
              dsimp only [ga, gs, gz]
              go_simp
              refine hK _ _ ?_
              clear hK K
              refine wpAny_done (by kernel_rfl) ?_ _
              go_wp2_with fail
              go_meet
              refine ⟨_, x2, y2, x3, y3, rfl, by omega, ?_, ?_, ?_, ?_⟩
              · (simp only [List.length_append]; exact heap_alloc_at' _ _ _ rfl)
              · exact own_of_mod HO8.out (show Mod NoB X8 _ from QM.out) (fun _ _ => id)
              · exact own_of_mod HO9.out (show Mod NoB X8 _ from QM.out) (fun _ _ => id)
              · exact HM8.out.trans (show Mod NoB X8 _ from QM.out) (fun _ _ h => h)
            · intro K hK
              dsimp only [ga, gs, gz]
              go_simp
              refine hK _ _ (show_held ?_ (fun hHeld => ?_))
              · (first | (go_keep; done) | exact ⟨keep_cell (show Mod NoB X _ from QM.out) ab g0, keep_cell (show Mod NoB X _ from QM.out) ab g2, keep_cell (show Mod NoB X _ from QM.out) ab g3, keep_cell (show Mod NoB X _ from QM.out) nb n2, keep_cell (show Mod NoB X _ from QM.out) nb n3⟩)
              clear hK K
              refine allF [13] (mc (stF ?_) mn)
              intro K hK
              dsimp only [ga, gs, gz]
              rw [if_pos (by rfl)]
              refine wp_fn 171 (fun _ _ => by kernel_rfl) #[.tmp 57] #[251] rfl (vs := #[.slice (some ⟨_, 0, none⟩) 2 2]) rfl (HCI.out _ _ (hM7.trans (show Mod NoB X7 _ from QM.out) (fun _ _ h => h)) (by ((try simp only [heap_drew]); first | exact hat0 | exact hat1 | exact hat2 | (refine (Mod.block hm7 _ ?_ id).trans ?_ <;> (first | omega | (simp only [size_alloc, heap_drew]; omega) | ((try simp only [heap_drew]); first | exact hat0 | exact hat1 | exact hat2))) | (refine heap_alloc_old' _ _ _ ?_ ((Mod.block hm7 _ ?_ id).trans ?_) <;> (first | omega | (simp only [size_alloc, heap_drew]; omega) | ((try simp only [heap_drew]); first | exact hat0 | exact hat1 | exact hat2))) | (refine heap_alloc_old' _ _ _ ?_ (heap_alloc_old' _ _ _ ?_ ((Mod.block hm7 _ ?_ id).trans ?_)) <;> (first | omega | (simp only [size_alloc, heap_drew]; omega) | ((try simp only [heap_drew]); first | exact hat0 | exact hat1 | exact hat2)))))) ?_
              rintro u X8 ⟨x3, y3, rfl, ho8, hm8⟩
              have hM8 : Mod NoB X7 X8 := (show Mod NoB X7 _ from QM.out).trans hm8 (fun _ _ h => h)
              obtain ⟨ab, g0, g1, g2, g3, gf⟩ := Page4.facts ((hM8.block A ab id).trans ((hM7.block A (lt_heap HA.out) id).trans HA.out))
              obtain ⟨nb, n0, n1, n2, n3, nf⟩ := Page4.facts ((hM8.block B nb id).trans ((hM7.block B (lt_heap HB.out) id).trans HB.out))
              have hsz8 := hm8.size
              (try simp only [size_alloc, heap_drew] at hsz8)
              have hD : X8.heap[X7.heap.size]? = some (.cells #[.bool false, .slice none 0 0, .slice none 0 0, .slice none 0 0] 130 (0, 0)) := by ((try simp only [heap_drew]); first | exact hat0 | exact hat1 | exact hat2 | (refine (Mod.block hm8 _ ?_ id).trans ?_ <;> (first | omega | (simp only [size_alloc, heap_drew]; omega) | ((try simp only [heap_drew]); first | exact hat0 | exact hat1 | exact hat2))) | (refine heap_alloc_old' _ _ _ ?_ ((Mod.block hm8 _ ?_ id).trans ?_) <;> (first | omega | (simp only [size_alloc, heap_drew]; omega) | ((try simp only [heap_drew]); first | exact hat0 | exact hat1 | exact hat2))) | (refine heap_alloc_old' _ _ _ ?_ (heap_alloc_old' _ _ _ ?_ ((Mod.block hm8 _ ?_ id).trans ?_)) <;> (first | omega | (simp only [size_alloc, heap_drew]; omega) | ((try simp only [heap_drew]); first | exact hat0 | exact hat1 | exact hat2))))
              obtain ⟨yyb, yy0, yy1, yy2, yy3, yyf⟩ := Page4.facts hD
              have HO8 := Lib.hid (own_of_mod ho7 hM8 (fun _ _ => id))
              have HO9 := Lib.hid ho8
              have HM8 := Lib.hid (hM7.trans hM8 (fun _ _ h => h))
              clear ho7 ho8
              refine hK _ _ (show_held ?_ (fun hHeld => ?_))
              · (first | (go_keep; done) | exact ⟨keep_cell (show Mod NoB X _ from QM.out) ab g0, keep_cell (show Mod NoB X _ from QM.out) ab g2, keep_cell (show Mod NoB X _ from QM.out) ab g3, keep_cell (show Mod NoB X _ from QM.out) nb n2, keep_cell (show Mod NoB X _ from QM.out) nb n3⟩)
              clear hK K
              simp only [Act.put, List.setIfInBounds_toArray, List.set_cons_zero, List.set_cons_succ]
              refine tkT 14 (v := ?_) ?_ hHeld ?_
              rotate_left
              · (intro _; simp only [ga, gs, gz]; go_simp; try with_reducible rfl)
              simp only [Act.put, ga, gs, gz, sb, sz, ss]
              refine allF [16] (mc (stN ?_) mn)
              intro K hK
              dsimp only [ga, gs, gz]
              go_simp
              refine hK _ _ ?_
              clear hK K
              refine wpAny_done (by kernel_rfl) ?_ _
              go_wp2_with fail
              go_meet
              refine ⟨_, x2, y2, x3, y3, rfl, by omega, ?_, ?_, ?_, ?_⟩
              · simp only [heap_setCell, if_true, hD, Option.map_some, setAt_cells, List.setIfInBounds_toArray, List.set_cons_zero, List.set_cons_succ, List.length_append]
              · exact own_of_mod HO8.out (show Mod (fun k => k = X7.heap.size) X8 _ from (by (repeat (first | with_reducible exact Mod.refl _ _ | with_reducible refine Mod.drew ?_ | ((with_reducible refine Mod.setCell ?_ _ _ ?_); rotate_left; (intro _; rfl)))))) (fun k hk e => absurd (own_type HO8.out hk (e ▸ hD)) (by decide))
              · exact own_of_mod HO9.out (show Mod (fun k => k = X7.heap.size) X8 _ from (by (repeat (first | with_reducible exact Mod.refl _ _ | with_reducible refine Mod.drew ?_ | ((with_reducible refine Mod.setCell ?_ _ _ ?_); rotate_left; (intro _; rfl)))))) (fun k hk e => absurd (own_type HO9.out hk (e ▸ hD)) (by decide))
              · exact HM8.out.trans (show Mod (fun k => k = X7.heap.size) X8 _ from (by (repeat (first | with_reducible exact Mod.refl _ _ | with_reducible refine Mod.drew ?_ | ((with_reducible refine Mod.setCell ?_ _ _ ?_); rotate_left; (intro _; rfl)))))) (fun k hk e => by omega)
          · intro K hK
            dsimp only [ga, gs, gz]
            go_simp
            refine hK _ _ (show_held ?_ (fun hHeld => ?_))
            · (first | (go_keep; done) | exact ⟨keep_cell (show Mod NoB X _ from QM.out) ab g0, keep_cell (show Mod NoB X _ from QM.out) ab g2, keep_cell (show Mod NoB X _ from QM.out) ab g3, keep_cell (show Mod NoB X _ from QM.out) nb n2, keep_cell (show Mod NoB X _ from QM.out) nb n3⟩)
            clear hK K
            refine allF [7] (mc (stF ?_) mn)
            intro K hK
            dsimp only [ga, gs, gz]
            rw [if_pos (by rfl)]
            refine wp_fn 170 (fun _ _ => by kernel_rfl) #[.tmp 51] #[249] rfl (vs := #[.slice (some ⟨_, 0, none⟩) 2 2]) rfl (HCS.out _ _ QM.out (by first | exact hat0 | exact hat1 | exact hat2)) ?_
            rintro u X7 ⟨x2, y2, rfl, ho7, hm7⟩
            have hM7 : Mod NoB X X7 := (show Mod NoB X _ from QM.out).trans hm7 (fun _ _ h => h)
            obtain ⟨ab, g0, g1, g2, g3, gf⟩ := Page4.facts ((hM7.block A (lt_heap HA.out) id).trans HA.out)
            obtain ⟨nb, n0, n1, n2, n3, nf⟩ := Page4.facts ((hM7.block B (lt_heap HB.out) id).trans HB.out)
            have hsz7 := hm7.size
            (try simp only [size_alloc, heap_drew] at hsz7)
            have hC : X7.heap[X.heap.size + 1 + 1]? = some (.cells #[.bool false, .slice none 0 0, .slice none 0 0, .slice none 0 0] 130 (0, 0)) := by ((try simp only [heap_drew]); first | exact hat0 | exact hat1 | exact hat2 | (refine (Mod.block hm7 _ ?_ id).trans ?_ <;> (first | omega | (simp only [size_alloc, heap_drew]; omega) | ((try simp only [heap_drew]); first | exact hat0 | exact hat1 | exact hat2))) | (refine heap_alloc_old' _ _ _ ?_ ((Mod.block hm7 _ ?_ id).trans ?_) <;> (first | omega | (simp only [size_alloc, heap_drew]; omega) | ((try simp only [heap_drew]); first | exact hat0 | exact hat1 | exact hat2))) | (refine heap_alloc_old' _ _ _ ?_ (heap_alloc_old' _ _ _ ?_ ((Mod.block hm7 _ ?_ id).trans ?_)) <;> (first | omega | (simp only [size_alloc, heap_drew]; omega) | ((try simp only [heap_drew]); first | exact hat0 | exact hat1 | exact hat2))))
            obtain ⟨zzb, zz0, zz1, zz2, zz3, zzf⟩ := Page4.facts hC
            refine hK _ _ (show_held ?_ (fun hHeld => ?_))
            · (first | (go_keep; done) | exact ⟨keep_cell (show Mod NoB X _ from QM.out) ab g0, keep_cell (show Mod NoB X _ from QM.out) ab g2, keep_cell (show Mod NoB X _ from QM.out) ab g3, keep_cell (show Mod NoB X _ from QM.out) nb n2, keep_cell (show Mod NoB X _ from QM.out) nb n3⟩)
            clear hK K
            simp only [Act.put, List.setIfInBounds_toArray, List.set_cons_zero, List.set_cons_succ]
            refine allF [13] (mc (stF ?_) mn)
            intro K hK
            dsimp only [ga, gs, gz]
            rw [if_pos (by rfl)]
            refine wp_fn 171 (fun _ _ => by kernel_rfl) #[.tmp 57] #[251] rfl (vs := #[.slice (some ⟨_, 0, none⟩) 2 2]) rfl (HCI.out _ _ (hM7.trans (show Mod NoB X7 _ from QM.out) (fun _ _ h => h)) (by ((try simp only [heap_drew]); first | exact hat0 | exact hat1 | exact hat2 | (refine (Mod.block hm7 _ ?_ id).trans ?_ <;> (first | omega | (simp only [size_alloc, heap_drew]; omega) | ((try simp only [heap_drew]); first | exact hat0 | exact hat1 | exact hat2))) | (refine heap_alloc_old' _ _ _ ?_ ((Mod.block hm7 _ ?_ id).trans ?_) <;> (first | omega | (simp only [size_alloc, heap_drew]; omega) | ((try simp only [heap_drew]); first | exact hat0 | exact hat1 | exact hat2))) | (refine heap_alloc_old' _ _ _ ?_ (heap_alloc_old' _ _ _ ?_ ((Mod.block hm7 _ ?_ id).trans ?_)) <;> (first | omega | (simp only [size_alloc, heap_drew]; omega) | ((try simp only [heap_drew]); first | exact hat0 | exact hat1 | exact hat2)))))) ?_
            rintro u X8 ⟨x3, y3, rfl, ho8, hm8⟩
            have hM8 : Mod NoB X7 X8 := (show Mod NoB X7 _ from QM.out).trans hm8 (fun _ _ h => h)
            obtain ⟨ab, g0, g1, g2, g3, gf⟩ := Page4.facts ((hM8.block A ab id).trans ((hM7.block A (lt_heap HA.out) id).trans HA.out))
            obtain ⟨nb, n0, n1, n2, n3, nf⟩ := Page4.facts ((hM8.block B nb id).trans ((hM7.block B (lt_heap HB.out) id).trans HB.out))
            have hsz8 := hm8.size
            (try simp only [size_alloc, heap_drew] at hsz8)
            have hD := (hM8.block _ (lt_heap hC) id).trans hC
            obtain ⟨yyb, yy0, yy1, yy2, yy3, yyf⟩ := Page4.facts hD
            have HO8 := Lib.hid (own_of_mod ho7 hM8 (fun _ _ => id))
            have HO9 := Lib.hid ho8
            have HM8 := Lib.hid (hM7.trans hM8 (fun _ _ h => h))
            clear ho7 ho8
            refine hK _ _ (show_held ?_ (fun hHeld => ?_))
            · (first | (go_keep; done) | exact ⟨keep_cell (show Mod NoB X _ from QM.out) ab g0, keep_cell (show Mod NoB X _ from QM.out) ab g2, keep_cell (show Mod NoB X _ from QM.out) ab g3, keep_cell (show Mod NoB X _ from QM.out) nb n2, keep_cell (show Mod NoB X _ from QM.out) nb n3⟩)
            clear hK K
            simp only [Act.put, List.setIfInBounds_toArray, List.set_cons_zero, List.set_cons_succ]
            refine tkT 14 (v := ?_) ?_ hHeld ?_
            rotate_left
            · (intro _; simp only [ga, gs, gz]; go_simp; try with_reducible rfl)
            simp only [Act.put, ga, gs, gz, sb, sz, ss]
            refine allF [16] (mc (stN ?_) mn)
            intro K hK
            dsimp only [ga, gs, gz]
            go_simp
            refine hK _ _ ?_
            clear hK K
            refine wpAny_done (by kernel_rfl) ?_ _
            go_wp2_with fail
            go_meet
            refine ⟨_, x2, y2, x3, y3, rfl, by omega, ?_, ?_, ?_, ?_⟩
            · simp only [heap_setCell, if_true, hD, Option.map_some, setAt_cells, List.setIfInBounds_toArray, List.set_cons_zero, List.set_cons_succ, List.length_append]
            · exact own_of_mod HO8.out (show Mod (fun k => k = X.heap.size + 1 + 1) X8 _ from (by (repeat (first | with_reducible exact Mod.refl _ _ | with_reducible refine Mod.drew ?_ | ((with_reducible refine Mod.setCell ?_ _ _ ?_); rotate_left; (intro _; rfl)))))) (fun k hk e => absurd (own_type HO8.out hk (e ▸ hD)) (by decide))
            · exact own_of_mod HO9.out (show Mod (fun k => k = X.heap.size + 1 + 1) X8 _ from (by (repeat (first | with_reducible exact Mod.refl _ _ | with_reducible refine Mod.drew ?_ | ((with_reducible refine Mod.setCell ?_ _ _ ?_); rotate_left; (intro _; rfl)))))) (fun k hk e => absurd (own_type HO9.out hk (e ▸ hD)) (by decide))
            · exact HM8.out.trans (show Mod (fun k => k = X.heap.size + 1 + 1) X8 _ from (by (repeat (first | with_reducible exact Mod.refl _ _ | with_reducible refine Mod.drew ?_ | ((with_reducible refine Mod.setCell ?_ _ _ ?_); rotate_left; (intro _; rfl)))))) (fun k hk e => by omega)
        · intro K hK
          dsimp only [ga, gs, gz]
          go_simp
          refine hK _ _ (show_held ?_ (fun hHeld => ?_))
          · (first | (go_keep; done) | exact ⟨keep_cell (show Mod NoB X _ from QM.out) ab g0, keep_cell (show Mod NoB X _ from QM.out) ab g2, keep_cell (show Mod NoB X _ from QM.out) ab g3, keep_cell (show Mod NoB X _ from QM.out) nb n2, keep_cell (show Mod NoB X _ from QM.out) nb n3⟩)
          clear hK K
          refine allF [7, 12] (mc (stF ?_) (mc (stF ?_) mn))
          · intro K hK
            dsimp only [ga, gs, gz]
            rw [if_pos (by rfl)]
            refine wp_fn 170 (fun _ _ => by kernel_rfl) #[.tmp 51] #[249] rfl (vs := #[.slice (some ⟨_, 0, none⟩) 2 2]) rfl (HCS.out _ _ QM.out (by first | exact hat0 | exact hat1 | exact hat2)) ?_
            rintro u X7 ⟨x2, y2, rfl, ho7, hm7⟩
            have hM7 : Mod NoB X X7 := (show Mod NoB X _ from QM.out).trans hm7 (fun _ _ h => h)
            obtain ⟨ab, g0, g1, g2, g3, gf⟩ := Page4.facts ((hM7.block A (lt_heap HA.out) id).trans HA.out)
            obtain ⟨nb, n0, n1, n2, n3, nf⟩ := Page4.facts ((hM7.block B (lt_heap HB.out) id).trans HB.out)
            have hsz7 := hm7.size
            (try simp only [size_alloc, heap_drew] at hsz7)
            have hC : X7.heap[X.heap.size + 1]? = some (.cells #[.bool false, .slice none 0 0, .slice none 0 0, .slice none 0 0] 130 (0, 0)) := by ((try simp only [heap_drew]); first | exact hat0 | exact hat1 | exact hat2 | (refine (Mod.block hm7 _ ?_ id).trans ?_ <;> (first | omega | (simp only [size_alloc, heap_drew]; omega) | ((try simp only [heap_drew]); first | exact hat0 | exact hat1 | exact hat2))) | (refine heap_alloc_old' _ _ _ ?_ ((Mod.block hm7 _ ?_ id).trans ?_) <;> (first | omega | (simp only [size_alloc, heap_drew]; omega) | ((try simp only [heap_drew]); first | exact hat0 | exact hat1 | exact hat2))) | (refine heap_alloc_old' _ _ _ ?_ (heap_alloc_old' _ _ _ ?_ ((Mod.block hm7 _ ?_ id).trans ?_)) <;> (first | omega | (simp only [size_alloc, heap_drew]; omega) | ((try simp only [heap_drew]); first | exact hat0 | exact hat1 | exact hat2))))
            obtain ⟨zzb, zz0, zz1, zz2, zz3, zzf⟩ := Page4.facts hC
            refine hK _ _ (show_held ?_ (fun hHeld => ?_))
            · (first | (go_keep; done) | exact ⟨keep_cell (show Mod NoB X _ from QM.out) ab g0, keep_cell (show Mod NoB X _ from QM.out) ab g2, keep_cell (show Mod NoB X _ from QM.out) ab g3, keep_cell (show Mod NoB X _ from QM.out) nb n2, keep_cell (show Mod NoB X _ from QM.out) nb n3⟩)
            clear hK K
            simp only [Act.put, List.setIfInBounds_toArray, List.set_cons_zero, List.set_cons_succ]
            refine allF [12] (mc (stF ?_) mn)
            intro K hK
            dsimp only [ga, gs, gz]
            go_simp
            refine hK _ _ (show_held ?_ (fun hHeld => ?_))
            · (first | (go_keep; done) | exact ⟨keep_cell (show Mod NoB X _ from QM.out) ab g0, keep_cell (show Mod NoB X _ from QM.out) ab g2, keep_cell (show Mod NoB X _ from QM.out) ab g3, keep_cell (show Mod NoB X _ from QM.out) nb n2, keep_cell (show Mod NoB X _ from QM.out) nb n3⟩)
            clear hK K
            refine allF [13] (mc (stF ?_) mn)
            intro K hK
            dsimp only [ga, gs, gz]
            rw [if_pos (by rfl)]
            refine wp_fn 171 (fun _ _ => by kernel_rfl) #[.tmp 57] #[251] rfl (vs := #[.slice (some ⟨_, 0, none⟩) 2 2]) rfl (HCI.out _ _ (hM7.trans (show Mod NoB X7 _ from QM.out) (fun _ _ h => h)) (by ((try simp only [heap_drew]); first | exact hat0 | exact hat1 | exact hat2 | (refine (Mod.block hm7 _ ?_ id).trans ?_ <;> (first | omega | (simp only [size_alloc, heap_drew]; omega) | ((try simp only [heap_drew]); first | exact hat0 | exact hat1 | exact hat2))) | (refine heap_alloc_old' _ _ _ ?_ ((Mod.block hm7 _ ?_ id).trans ?_) <;> (first | omega | (simp only [size_alloc, heap_drew]; omega) | ((try simp only [heap_drew]); first | exact hat0 | exact hat1 | exact hat2))) | (refine heap_alloc_old' _ _ _ ?_ (heap_alloc_old' _ _ _ ?_ ((Mod.block hm7 _ ?_ id).trans ?_)) <;> (first | omega | (simp only [size_alloc, heap_drew]; omega) | ((try simp only [heap_drew]); first | exact hat0 | exact hat1 | exact hat2)))))) ?_
            rintro u X8 ⟨x3, y3, rfl, ho8, hm8⟩
            have hM8 : Mod NoB X7 X8 := (show Mod NoB X7 _ from QM.out).trans hm8 (fun _ _ h => h)
            obtain ⟨ab, g0, g1, g2, g3, gf⟩ := Page4.facts ((hM8.block A ab id).trans ((hM7.block A (lt_heap HA.out) id).trans HA.out))
            obtain ⟨nb, n0, n1, n2, n3, nf⟩ := Page4.facts ((hM8.block B nb id).trans ((hM7.block B (lt_heap HB.out) id).trans HB.out))
            have hsz8 := hm8.size
            (try simp only [size_alloc, heap_drew] at hsz8)
            have hD := (hM8.block _ (lt_heap hC) id).trans hC
            obtain ⟨yyb, yy0, yy1, yy2, yy3, yyf⟩ := Page4.facts hD
            have HO8 := Lib.hid (own_of_mod ho7 hM8 (fun _ _ => id))
            have HO9 := Lib.hid ho8
            have HM8 := Lib.hid (hM7.trans hM8 (fun _ _ h => h))
            clear ho7 ho8
            refine hK _ _ (show_held ?_ (fun hHeld => ?_))
            · (first | (go_keep; done) | exact ⟨keep_cell (show Mod NoB X _ from QM.out) ab g0, keep_cell (show Mod NoB X _ from QM.out) ab g2, keep_cell (show Mod NoB X _ from QM.out) ab g3, keep_cell (show Mod NoB X _ from QM.out) nb n2, keep_cell (show Mod NoB X _ from QM.out) nb n3⟩)
            clear hK K
            simp only [Act.put, List.setIfInBounds_toArray, List.set_cons_zero, List.set_cons_succ]
            refine tkT 14 (v := ?_) ?_ hHeld ?_
            rotate_left
            · (intro _; simp only [ga, gs, gz]; go_simp; try with_reducible rfl)
            simp only [Act.put, ga, gs, gz, sb, sz, ss]
            refine allF [16] (mc (stN ?_) mn)
            intro K hK
            dsimp only [ga, gs, gz]
            go_simp
            refine hK _ _ ?_
            clear hK K
            refine wpAny_done (by kernel_rfl) ?_ _
            go_wp2_with fail
            go_meet
            refine ⟨_, x2, y2, x3, y3, rfl, by omega, ?_, ?_, ?_, ?_⟩
            · simp only [heap_setCell, if_true, hD, Option.map_some, setAt_cells, List.setIfInBounds_toArray, List.set_cons_zero, List.set_cons_succ, List.length_append]
            · exact own_of_mod HO8.out (show Mod (fun k => k = X.heap.size + 1) X8 _ from (by (repeat (first | with_reducible exact Mod.refl _ _ | with_reducible refine Mod.drew ?_ | ((with_reducible refine Mod.setCell ?_ _ _ ?_); rotate_left; (intro _; rfl)))))) (fun k hk e => absurd (own_type HO8.out hk (e ▸ hD)) (by decide))
            · exact own_of_mod HO9.out (show Mod (fun k => k = X.heap.size + 1) X8 _ from (by (repeat (first | with_reducible exact Mod.refl _ _ | with_reducible refine Mod.drew ?_ | ((with_reducible refine Mod.setCell ?_ _ _ ?_); rotate_left; (intro _; rfl)))))) (fun k hk e => absurd (own_type HO9.out hk (e ▸ hD)) (by decide))
            · exact HM8.out.trans (show Mod (fun k => k = X.heap.size + 1) X8 _ from (by (repeat (first | with_reducible exact Mod.refl _ _ | with_reducible refine Mod.drew ?_ | ((with_reducible refine Mod.setCell ?_ _ _ ?_); rotate_left; (intro _; rfl)))))) (fun k hk e => by omega)
          · intro K hK
            dsimp only [ga, gs, gz]
            go_simp
            refine hK _ _ (show_held ?_ (fun hHeld => ?_))
            · (first | (go_keep; done) | exact ⟨keep_cell (show Mod NoB X _ from QM.out) ab g0, keep_cell (show Mod NoB X _ from QM.out) ab g2, keep_cell (show Mod NoB X _ from QM.out) ab g3, keep_cell (show Mod NoB X _ from QM.out) nb n2, keep_cell (show Mod NoB X _ from QM.out) nb n3⟩)
            clear hK K
            refine allF [7] (mc (stF ?_) mn)
            intro K hK
            dsimp only [ga, gs, gz]
            rw [if_pos (by rfl)]
            refine wp_fn 170 (fun _ _ => by kernel_rfl) #[.tmp 51] #[249] rfl (vs := #[.slice (some ⟨_, 0, none⟩) 2 2]) rfl (HCS.out _ _ QM.out (by first | exact hat0 | exact hat1 | exact hat2)) ?_
            rintro u X7 ⟨x2, y2, rfl, ho7, hm7⟩
            have hM7 : Mod NoB X X7 := (show Mod NoB X _ from QM.out).trans hm7 (fun _ _ h => h)
            obtain ⟨ab, g0, g1, g2, g3, gf⟩ := Page4.facts ((hM7.block A (lt_heap HA.out) id).trans HA.out)
            obtain ⟨nb, n0, n1, n2, n3, nf⟩ := Page4.facts ((hM7.block B (lt_heap HB.out) id).trans HB.out)
            have hsz7 := hm7.size
            (try simp only [size_alloc, heap_drew] at hsz7)
            have hC : X7.heap[X.heap.size + 1]? = some (.cells #[.bool false, .slice none 0 0, .slice none 0 0, .slice none 0 0] 130 (0, 0)) := by ((try simp only [heap_drew]); first | exact hat0 | exact hat1 | exact hat2 | (refine (Mod.block hm7 _ ?_ id).trans ?_ <;> (first | omega | (simp only [size_alloc, heap_drew]; omega) | ((try simp only [heap_drew]); first | exact hat0 | exact hat1 | exact hat2))) | (refine heap_alloc_old' _ _ _ ?_ ((Mod.block hm7 _ ?_ id).trans ?_) <;> (first | omega | (simp only [size_alloc, heap_drew]; omega) | ((try simp only [heap_drew]); first | exact hat0 | exact hat1 | exact hat2))) | (refine heap_alloc_old' _ _ _ ?_ (heap_alloc_old' _ _ _ ?_ ((Mod.block hm7 _ ?_ id).trans ?_)) <;> (first | omega | (simp only [size_alloc, heap_drew]; omega) | ((try simp only [heap_drew]); first | exact hat0 | exact hat1 | exact hat2))))
            obtain ⟨zzb, zz0, zz1, zz2, zz3, zzf⟩ := Page4.facts hC
            refine hK _ _ (show_held ?_ (fun hHeld => ?_))
            · (first | (go_keep; done) | exact ⟨keep_cell (show Mod NoB X _ from QM.out) ab g0, keep_cell (show Mod NoB X _ from QM.out) ab g2, keep_cell (show Mod NoB X _ from QM.out) ab g3, keep_cell (show Mod NoB X _ from QM.out) nb n2, keep_cell (show Mod NoB X _ from QM.out) nb n3⟩)
            clear hK K
            simp only [Act.put, List.setIfInBounds_toArray, List.set_cons_zero, List.set_cons_succ]
            refine allF [13] (mc (stF ?_) mn)
            intro K hK
            dsimp only [ga, gs, gz]
            rw [if_pos (by rfl)]
            refine wp_fn 171 (fun _ _ => by kernel_rfl) #[.tmp 57] #[251] rfl (vs := #[.slice (some ⟨_, 0, none⟩) 2 2]) rfl (HCI.out _ _ (hM7.trans (show Mod NoB X7 _ from QM.out) (fun _ _ h => h)) (by ((try simp only [heap_drew]); first | exact hat0 | exact hat1 | exact hat2 | (refine (Mod.block hm7 _ ?_ id).trans ?_ <;> (first | omega | (simp only [size_alloc, heap_drew]; omega) | ((try simp only [heap_drew]); first | exact hat0 | exact hat1 | exact hat2))) | (refine heap_alloc_old' _ _ _ ?_ ((Mod.block hm7 _ ?_ id).trans ?_) <;> (first | omega | (simp only [size_alloc, heap_drew]; omega) | ((try simp only [heap_drew]); first | exact hat0 | exact hat1 | exact hat2))) | (refine heap_alloc_old' _ _ _ ?_ (heap_alloc_old' _ _ _ ?_ ((Mod.block hm7 _ ?_ id).trans ?_)) <;> (first | omega | (simp only [size_alloc, heap_drew]; omega) | ((try simp only [heap_drew]); first | exact hat0 | exact hat1 | exact hat2)))))) ?_
            rintro u X8 ⟨x3, y3, rfl, ho8, hm8⟩
            have hM8 : Mod NoB X7 X8 := (show Mod NoB X7 _ from QM.out).trans hm8 (fun _ _ h => h)
            obtain ⟨ab, g0, g1, g2, g3, gf⟩ := Page4.facts ((hM8.block A ab id).trans ((hM7.block A (lt_heap HA.out) id).trans HA.out))
            obtain ⟨nb, n0, n1, n2, n3, nf⟩ := Page4.facts ((hM8.block B nb id).trans ((hM7.block B (lt_heap HB.out) id).trans HB.out))
            have hsz8 := hm8.size
            (try simp only [size_alloc, heap_drew] at hsz8)
            have hD := (hM8.block _ (lt_heap hC) id).trans hC
            obtain ⟨yyb, yy0, yy1, yy2, yy3, yyf⟩ := Page4.facts hD
            have HO8 := Lib.hid (own_of_mod ho7 hM8 (fun _ _ => id))
            have HO9 := Lib.hid ho8
            have HM8 := Lib.hid (hM7.trans hM8 (fun _ _ h => h))
            clear ho7 ho8
            refine hK _ _ (show_held ?_ (fun hHeld => ?_))
            · (first | (go_keep; done) | exact ⟨keep_cell (show Mod NoB X _ from QM.out) ab g0, keep_cell (show Mod NoB X _ from QM.out) ab g2, keep_cell (show Mod NoB X _ from QM.out) ab g3, keep_cell (show Mod NoB X _ from QM.out) nb n2, keep_cell (show Mod NoB X _ from QM.out) nb n3⟩)
            clear hK K
            simp only [Act.put, List.setIfInBounds_toArray, List.set_cons_zero, List.set_cons_succ]
            refine tkT 14 (v := ?_) ?_ hHeld ?_
            rotate_left
            · (intro _; simp only [ga, gs, gz]; go_simp; try with_reducible rfl)
            simp only [Act.put, ga, gs, gz, sb, sz, ss]
            refine allF [16] (mc (stN ?_) mn)
            intro K hK
            dsimp only [ga, gs, gz]
            go_simp
            refine hK _ _ ?_
            clear hK K
            refine wpAny_done (by kernel_rfl) ?_ _
            go_wp2_with fail
            go_meet
            refine ⟨_, x2, y2, x3, y3, rfl, by omega, ?_, ?_, ?_, ?_⟩
            · simp only [heap_setCell, if_true, hD, Option.map_some, setAt_cells, List.setIfInBounds_toArray, List.set_cons_zero, List.set_cons_succ, List.length_append]
            · exact own_of_mod HO8.out (show Mod (fun k => k = X.heap.size + 1) X8 _ from (by (repeat (first | with_reducible exact Mod.refl _ _ | with_reducible refine Mod.drew ?_ | ((with_reducible refine Mod.setCell ?_ _ _ ?_); rotate_left; (intro _; rfl)))))) (fun k hk e => absurd (own_type HO8.out hk (e ▸ hD)) (by decide))
            · exact own_of_mod HO9.out (show Mod (fun k => k = X.heap.size + 1) X8 _ from (by (repeat (first | with_reducible exact Mod.refl _ _ | with_reducible refine Mod.drew ?_ | ((with_reducible refine Mod.setCell ?_ _ _ ?_); rotate_left; (intro _; rfl)))))) (fun k hk e => absurd (own_type HO9.out hk (e ▸ hD)) (by decide))
            · exact HM8.out.trans (show Mod (fun k => k = X.heap.size + 1) X8 _ from (by (repeat (first | with_reducible exact Mod.refl _ _ | with_reducible refine Mod.drew ?_ | ((with_reducible refine Mod.setCell ?_ _ _ ?_); rotate_left; (intro _; rfl)))))) (fun k hk e => by omega)
      · intro K hK
        dsimp only [ga, gs, gz]
        go_simp
        refine hK _ _ (show_held ?_ (fun hHeld => ?_))
        · (first | (go_keep; done) | exact ⟨keep_cell (show Mod NoB X _ from QM.out) ab g0, keep_cell (show Mod NoB X _ from QM.out) ab g2, keep_cell (show Mod NoB X _ from QM.out) ab g3, keep_cell (show Mod NoB X _ from QM.out) nb n2, keep_cell (show Mod NoB X _ from QM.out) nb n3⟩)
        clear hK K
        refine allF [6, 15] (mc (stF ?_) (mc (stF ?_) mn))
        · intro K hK
          dsimp only [ga, gs, gz]
          go_simp
          refine hK _ _ (show_held ?_ (fun hHeld => ?_))
          · (first | (go_keep; done) | exact ⟨keep_cell (show Mod NoB X _ from QM.out) ab g0, keep_cell (show Mod NoB X _ from QM.out) ab g2, keep_cell (show Mod NoB X _ from QM.out) ab g3, keep_cell (show Mod NoB X _ from QM.out) nb n2, keep_cell (show Mod NoB X _ from QM.out) nb n3⟩)
          clear hK K
          refine allF [7, 15] (mc (stF ?_) (mc (stF ?_) mn))
          · intro K hK
            dsimp only [ga, gs, gz]
            rw [if_pos (by rfl)]
            refine wp_fn 170 (fun _ _ => by kernel_rfl) #[.tmp 51] #[249] rfl (vs := #[.slice (some ⟨_, 0, none⟩) 2 2]) rfl (HCS.out _ _ QM.out (by first | exact hat0 | exact hat1 | exact hat2)) ?_
            rintro u X7 ⟨x2, y2, rfl, ho7, hm7⟩
            have hM7 : Mod NoB X X7 := (show Mod NoB X _ from QM.out).trans hm7 (fun _ _ h => h)
            obtain ⟨ab, g0, g1, g2, g3, gf⟩ := Page4.facts ((hM7.block A (lt_heap HA.out) id).trans HA.out)
            obtain ⟨nb, n0, n1, n2, n3, nf⟩ := Page4.facts ((hM7.block B (lt_heap HB.out) id).trans HB.out)
            have hsz7 := hm7.size
            (try simp only [size_alloc, heap_drew] at hsz7)
            refine hK _ _ (show_held ?_ (fun hHeld => ?_))
            · (first | (go_keep; done) | exact ⟨keep_cell (show Mod NoB X _ from QM.out) ab g0, keep_cell (show Mod NoB X _ from QM.out) ab g2, keep_cell (show Mod NoB X _ from QM.out) ab g3, keep_cell (show Mod NoB X _ from QM.out) nb n2, keep_cell (show Mod NoB X _ from QM.out) nb n3⟩)
            clear hK K
            simp only [Act.put, List.setIfInBounds_toArray, List.set_cons_zero, List.set_cons_succ]
            refine allF [13, 15] (mc (stF ?_) (mc (stF ?_) mn))
            · intro K hK
              dsimp only [ga, gs, gz]
              rw [if_pos (by rfl)]
              refine wp_fn 171 (fun _ _ => by kernel_rfl) #[.tmp 57] #[251] rfl (vs := #[.slice (some ⟨_, 0, none⟩) 2 2]) rfl (HCI.out _ _ (hM7.trans (show Mod NoB X7 _ from QM.out) (fun _ _ h => h)) (by ((try simp only [heap_drew]); first | exact hat0 | exact hat1 | exact hat2 | (refine (Mod.block hm7 _ ?_ id).trans ?_ <;> (first | omega | (simp only [size_alloc, heap_drew]; omega) | ((try simp only [heap_drew]); first | exact hat0 | exact hat1 | exact hat2))) | (refine heap_alloc_old' _ _ _ ?_ ((Mod.block hm7 _ ?_ id).trans ?_) <;> (first | omega | (simp only [size_alloc, heap_drew]; omega) | ((try simp only [heap_drew]); first | exact hat0 | exact hat1 | exact hat2))) | (refine heap_alloc_old' _ _ _ ?_ (heap_alloc_old' _ _ _ ?_ ((Mod.block hm7 _ ?_ id).trans ?_)) <;> (first | omega | (simp only [size_alloc, heap_drew]; omega) | ((try simp only [heap_drew]); first | exact hat0 | exact hat1 | exact hat2)))))) ?_
              rintro u X8 ⟨x3, y3, rfl, ho8, hm8⟩
              have hM8 : Mod NoB X7 X8 := (show Mod NoB X7 _ from QM.out).trans hm8 (fun _ _ h => h)
              obtain ⟨ab, g0, g1, g2, g3, gf⟩ := Page4.facts ((hM8.block A ab id).trans ((hM7.block A (lt_heap HA.out) id).trans HA.out))
              obtain ⟨nb, n0, n1, n2, n3, nf⟩ := Page4.facts ((hM8.block B nb id).trans ((hM7.block B (lt_heap HB.out) id).trans HB.out))
              have hsz8 := hm8.size
              (try simp only [size_alloc, heap_drew] at hsz8)
              have HO8 := Lib.hid (own_of_mod ho7 hM8 (fun _ _ => id))
              have HO9 := Lib.hid ho8
              have HM8 := Lib.hid (hM7.trans hM8 (fun _ _ h => h))
              clear ho7 ho8
              refine hK _ _ (show_held ?_ (fun hHeld => ?_))
              · (first | (go_keep; done) | exact ⟨keep_cell (show Mod NoB X _ from QM.out) ab g0, keep_cell (show Mod NoB X _ from QM.out) ab g2, keep_cell (show Mod NoB X _ from QM.out) ab g3, keep_cell (show Mod NoB X _ from QM.out) nb n2, keep_cell (show Mod NoB X _ from QM.out) nb n3⟩)
              clear hK K
              simp only [Act.put, List.setIfInBounds_toArray, List.set_cons_zero, List.set_cons_succ]
              refine tkT 14 (v := ?_) ?_ hHeld ?_
              rotate_left
              · (intro _; simp only [ga, gs, gz]; go_simp; try with_reducible rfl)
              simp only [Act.put, ga, gs, gz, sb, sz, ss]
              refine allF [15] (mc (stF ?_) mn)
              intro K hK
              dsimp only [ga, gs, gz]
              go_simp
              refine hK _ _ (show_held ?_ (fun hHeld => ?_))
              · (first | (go_keep; done) | exact ⟨keep_cell (show Mod NoB X _ from QM.out) ab g0, keep_cell (show Mod NoB X _ from QM.out) ab g2, keep_cell (show Mod NoB X _ from QM.out) ab g3, keep_cell (show Mod NoB X _ from QM.out) nb n2, keep_cell (show Mod NoB X _ from QM.out) nb n3⟩)
              clear hK K
              refine allF [16] (mc (stN ?_) mn)
              intro K hK
              dsimp only [ga, gs, gz]
              go_simp
              refine hK _ _ ?_
              clear hK K
              refine wpAny_done (by kernel_rfl) ?_ _
              go_wp2_with fail
              go_meet
              refine ⟨_, x2, y2, x3, y3, rfl, by omega, ?_, ?_, ?_, ?_⟩
              · (simp only [List.length_append]; exact heap_alloc_at' _ _ _ rfl)
              · exact own_of_mod HO8.out (show Mod NoB X8 _ from QM.out) (fun _ _ => id)
              · exact own_of_mod HO9.out (show Mod NoB X8 _ from QM.out) (fun _ _ => id)
              · exact HM8.out.trans (show Mod NoB X8 _ from QM.out) (fun _ _ h => h)
            · intro K hK
              dsimp only [ga, gs, gz]
              go_simp
              refine hK _ _ (show_held ?_ (fun hHeld => ?_))
              · (first | (go_keep; done) | exact ⟨keep_cell (show Mod NoB X _ from QM.out) ab g0, keep_cell (show Mod NoB X _ from QM.out) ab g2, keep_cell (show Mod NoB X _ from QM.out) ab g3, keep_cell (show Mod NoB X _ from QM.out) nb n2, keep_cell (show Mod NoB X _ from QM.out) nb n3⟩)
              clear hK K
              refine allF [13] (mc (stF ?_) mn)
              intro K hK
              dsimp only [ga, gs, gz]
              rw [if_pos (by rfl)]
              refine wp_fn 171 (fun _ _ => by kernel_rfl) #[.tmp 57] #[251] rfl (vs := #[.slice (some ⟨_, 0, none⟩) 2 2]) rfl (HCI.out _ _ (hM7.trans (show Mod NoB X7 _ from QM.out) (fun _ _ h => h)) (by ((try simp only [heap_drew]); first | exact hat0 | exact hat1 | exact hat2 | (refine (Mod.block hm7 _ ?_ id).trans ?_ <;> (first | omega | (simp only [size_alloc, heap_drew]; omega) | ((try simp only [heap_drew]); first | exact hat0 | exact hat1 | exact hat2))) | (refine heap_alloc_old' _ _ _ ?_ ((Mod.block hm7 _ ?_ id).trans ?_) <;> (first | omega | (simp only [size_alloc, heap_drew]; omega) | ((try simp only [heap_drew]); first | exact hat0 | exact hat1 | exact hat2))) | (refine heap_alloc_old' _ _ _ ?_ (heap_alloc_old' _ _ _ ?_ ((Mod.block hm7 _ ?_ id).trans ?_)) <;> (first | omega | (simp only [size_alloc, heap_drew]; omega) | ((try simp only [heap_drew]); first | exact hat0 | exact hat1 | exact hat2)))))) ?_
              rintro u X8 ⟨x3, y3, rfl, ho8, hm8⟩
              have hM8 : Mod NoB X7 X8 := (show Mod NoB X7 _ from QM.out).trans hm8 (fun _ _ h => h)
              obtain ⟨ab, g0, g1, g2, g3, gf⟩ := Page4.facts ((hM8.block A ab id).trans ((hM7.block A (lt_heap HA.out) id).trans HA.out))
              obtain ⟨nb, n0, n1, n2, n3, nf⟩ := Page4.facts ((hM8.block B nb id).trans ((hM7.block B (lt_heap HB.out) id).trans HB.out))
              have hsz8 := hm8.size
              (try simp only [size_alloc, heap_drew] at hsz8)
              have hD : X8.heap[X7.heap.size]? = some (.cells #[.bool false, .slice none 0 0, .slice none 0 0, .slice none 0 0] 130 (0, 0)) := by ((try simp only [heap_drew]); first | exact hat0 | exact hat1 | exact hat2 | (refine (Mod.block hm8 _ ?_ id).trans ?_ <;> (first | omega | (simp only [size_alloc, heap_drew]; omega) | ((try simp only [heap_drew]); first | exact hat0 | exact hat1 | exact hat2))) | (refine heap_alloc_old' _ _ _ ?_ ((Mod.block hm8 _ ?_ id).trans ?_) <;> (first | omega | (simp only [size_alloc, heap_drew]; omega) | ((try simp only [heap_drew]); first | exact hat0 | exact hat1 | exact hat2))) | (refine heap_alloc_old' _ _ _ ?_ (heap_alloc_old' _ _ _ ?_ ((Mod.block hm8 _ ?_ id).trans ?_)) <;> (first | omega | (simp only [size_alloc, heap_drew]; omega) | ((try simp only [heap_drew]); first | exact hat0 | exact hat1 | exact hat2))))
              obtain ⟨yyb, yy0, yy1, yy2, yy3, yyf⟩ := Page4.facts hD
              have HO8 := Lib.hid (own_of_mod ho7 hM8 (fun _ _ => id))
              have HO9 := Lib.hid ho8
              have HM8 := Lib.hid (hM7.trans hM8 (fun _ _ h => h))
              clear ho7 ho8
              refine hK _ _ (show_held ?_ (fun hHeld => ?_))
              · (first | (go_keep; done) | exact ⟨keep_cell (show Mod NoB X _ from QM.out) ab g0, keep_cell (show Mod NoB X _ from QM.out) ab g2, keep_cell (show Mod NoB X _ from QM.out) ab g3, keep_cell (show Mod NoB X _ from QM.out) nb n2, keep_cell (show Mod NoB X _ from QM.out) nb n3⟩)
              clear hK K
              simp only [Act.put, List.setIfInBounds_toArray, List.set_cons_zero, List.set_cons_succ]
              refine tkT 14 (v := ?_) ?_ hHeld ?_
              rotate_left
              · (intro _; simp only [ga, gs, gz]; go_simp; try with_reducible rfl)
              simp only [Act.put, ga, gs, gz, sb, sz, ss]
              refine allF [16] (mc (stN ?_) mn)
              intro K hK
              dsimp only [ga, gs, gz]
              go_simp
              refine hK _ _ ?_
              clear hK K
              refine wpAny_done (by kernel_rfl) ?_ _
              go_wp2_with fail
              go_meet
              refine ⟨_, x2, y2, x3, y3, rfl, by omega, ?_, ?_, ?_, ?_⟩
              · simp only [heap_setCell, if_true, hD, Option.map_some, setAt_cells, List.setIfInBounds_toArray, List.set_cons_zero, List.set_cons_succ, List.length_append]
              · exact own_of_mod HO8.out (show Mod (fun k => k = X7.heap.size) X8 _ from (by (repeat (first | with_reducible exact Mod.refl _ _ | with_reducible refine Mod.drew ?_ | ((with_reducible refine Mod.setCell ?_ _ _ ?_); rotate_left; (intro _; rfl)))))) (fun k hk e => absurd (own_type HO8.out hk (e ▸ hD)) (by decide))
              · exact own_of_mod HO9.out (show Mod (fun k => k = X7.heap.size) X8 _ from (by (repeat (first | with_reducible exact Mod.refl _ _ | with_reducible refine Mod.drew ?_ | ((with_reducible refine Mod.setCell ?_ _ _ ?_); rotate_left; (intro _; rfl)))))) (fun k hk e => absurd (own_type HO9.out hk (e ▸ hD)) (by decide))
              · exact HM8.out.trans (show Mod (fun k => k = X7.heap.size) X8 _ from (by (repeat (first | with_reducible exact Mod.refl _ _ | with_reducible refine Mod.drew ?_ | ((with_reducible refine Mod.setCell ?_ _ _ ?_); rotate_left; (intro _; rfl)))))) (fun k hk e => by omega)
          · intro K hK
            dsimp only [ga, gs, gz]
            go_simp
            refine hK _ _ (show_held ?_ (fun hHeld => ?_))
            · (first | (go_keep; done) | exact ⟨keep_cell (show Mod NoB X _ from QM.out) ab g0, keep_cell (show Mod NoB X _ from QM.out) ab g2, keep_cell (show Mod NoB X _ from QM.out) ab g3, keep_cell (show Mod NoB X _ from QM.out) nb n2, keep_cell (show Mod NoB X _ from QM.out) nb n3⟩)
            clear hK K
            refine allF [7] (mc (stF ?_) mn)
            intro K hK
            dsimp only [ga, gs, gz]
            rw [if_pos (by rfl)]
            refine wp_fn 170 (fun _ _ => by kernel_rfl) #[.tmp 51] #[249] rfl (vs := #[.slice (some ⟨_, 0, none⟩) 2 2]) rfl (HCS.out _ _ QM.out (by first | exact hat0 | exact hat1 | exact hat2)) ?_
            rintro u X7 ⟨x2, y2, rfl, ho7, hm7⟩
            have hM7 : Mod NoB X X7 := (show Mod NoB X _ from QM.out).trans hm7 (fun _ _ h => h)
            obtain ⟨ab, g0, g1, g2, g3, gf⟩ := Page4.facts ((hM7.block A (lt_heap HA.out) id).trans HA.out)
            obtain ⟨nb, n0, n1, n2, n3, nf⟩ := Page4.facts ((hM7.block B (lt_heap HB.out) id).trans HB.out)
            have hsz7 := hm7.size
            (try simp only [size_alloc, heap_drew] at hsz7)
            have hC : X7.heap[X.heap.size + 1 + 1]? = some (.cells #[.bool false, .slice none 0 0, .slice none 0 0, .slice none 0 0] 130 (0, 0)) := by ((try simp only [heap_drew]); first | exact hat0 | exact hat1 | exact hat2 | (refine (Mod.block hm7 _ ?_ id).trans ?_ <;> (first | omega | (simp only [size_alloc, heap_drew]; omega) | ((try simp only [heap_drew]); first | exact hat0 | exact hat1 | exact hat2))) | (refine heap_alloc_old' _ _ _ ?_ ((Mod.block hm7 _ ?_ id).trans ?_) <;> (first | omega | (simp only [size_alloc, heap_drew]; omega) | ((try simp only [heap_drew]); first | exact hat0 | exact hat1 | exact hat2))) | (refine heap_alloc_old' _ _ _ ?_ (heap_alloc_old' _ _ _ ?_ ((Mod.block hm7 _ ?_ id).trans ?_)) <;> (first | omega | (simp only [size_alloc, heap_drew]; omega) | ((try simp only [heap_drew]); first | exact hat0 | exact hat1 | exact hat2))))
            obtain ⟨zzb, zz0, zz1, zz2, zz3, zzf⟩ := Page4.facts hC
            refine hK _ _ (show_held ?_ (fun hHeld => ?_))
            · (first | (go_keep; done) | exact ⟨keep_cell (show Mod NoB X _ from QM.out) ab g0, keep_cell (show Mod NoB X _ from QM.out) ab g2, keep_cell (show Mod NoB X _ from QM.out) ab g3, keep_cell (show Mod NoB X _ from QM.out) nb n2, keep_cell (show Mod NoB X _ from QM.out) nb n3⟩)
            clear hK K
            simp only [Act.put, List.setIfInBounds_toArray, List.set_cons_zero, List.set_cons_succ]
            refine allF [13] (mc (stF ?_) mn)
            intro K hK
            dsimp only [ga, gs, gz]
            rw [if_pos (by rfl)]
            refine wp_fn 171 (fun _ _ => by kernel_rfl) #[.tmp 57] #[251] rfl (vs := #[.slice (some ⟨_, 0, none⟩) 2 2]) rfl (HCI.out _ _ (hM7.trans (show Mod NoB X7 _ from QM.out) (fun _ _ h => h)) (by ((try simp only [heap_drew]); first | exact hat0 | exact hat1 | exact hat2 | (refine (Mod.block hm7 _ ?_ id).trans ?_ <;> (first | omega | (simp only [size_alloc, heap_drew]; omega) | ((try simp only [heap_drew]); first | exact hat0 | exact hat1 | exact hat2))) | (refine heap_alloc_old' _ _ _ ?_ ((Mod.block hm7 _ ?_ id).trans ?_) <;> (first | omega | (simp only [size_alloc, heap_drew]; omega) | ((try simp only [heap_drew]); first | exact hat0 | exact hat1 | exact hat2))) | (refine heap_alloc_old' _ _ _ ?_ (heap_alloc_old' _ _ _ ?_ ((Mod.block hm7 _ ?_ id).trans ?_)) <;> (first | omega | (simp only [size_alloc, heap_drew]; omega) | ((try simp only [heap_drew]); first | exact hat0 | exact hat1 | exact hat2)))))) ?_
            rintro u X8 ⟨x3, y3, rfl, ho8, hm8⟩
            have hM8 : Mod NoB X7 X8 := (show Mod NoB X7 _ from QM.out).trans hm8 (fun _ _ h => h)
            obtain ⟨ab, g0, g1, g2, g3, gf⟩ := Page4.facts ((hM8.block A ab id).trans ((hM7.block A (lt_heap HA.out) id).trans HA.out))
            obtain ⟨nb, n0, n1, n2, n3, nf⟩ := Page4.facts ((hM8.block B nb id).trans ((hM7.block B (lt_heap HB.out) id).trans HB.out))
            have hsz8 := hm8.size
            (try simp only [size_alloc, heap_drew] at hsz8)
            have hD := (hM8.block _ (lt_heap hC) id).trans hC
            obtain ⟨yyb, yy0, yy1, yy2, yy3, yyf⟩ := Page4.facts hD
            have HO8 := Lib.hid (own_of_mod ho7 hM8 (fun _ _ => id))
            have HO9 := Lib.hid ho8
            have HM8 := Lib.hid (hM7.trans hM8 (fun _ _ h => h))
            clear ho7 ho8
            refine hK _ _ (show_held ?_ (fun hHeld => ?_))
            · (first | (go_keep; done) | exact ⟨keep_cell (show Mod NoB X _ from QM.out) ab g0, keep_cell (show Mod NoB X _ from QM.out) ab g2, keep_cell (show Mod NoB X _ from QM.out) ab g3, keep_cell (show Mod NoB X _ from QM.out) nb n2, keep_cell (show Mod NoB X _ from QM.out) nb n3⟩)
            clear hK K
            simp only [Act.put, List.setIfInBounds_toArray, List.set_cons_zero, List.set_cons_succ]
            refine tkT 14 (v := ?_) ?_ hHeld ?_
            rotate_left
            · (intro _; simp only [ga, gs, gz]; go_simp; try with_reducible rfl)
            simp only [Act.put, ga, gs, gz, sb, sz, ss]
            refine allF [16] (mc (stN ?_) mn)
            intro K hK
            dsimp only [ga, gs, gz]
            go_simp
            refine hK _ _ ?_
            clear hK K
            refine wpAny_done (by kernel_rfl) ?_ _
            go_wp2_with fail
            go_meet
            refine ⟨_, x2, y2, x3, y3, rfl, by omega, ?_, ?_, ?_, ?_⟩
            · simp only [heap_setCell, if_true, hD, Option.map_some, setAt_cells, List.setIfInBounds_toArray, List.set_cons_zero, List.set_cons_succ, List.length_append]
            · exact own_of_mod HO8.out (show Mod (fun k => k = X.heap.size + 1 + 1) X8 _ from (by (repeat (first | with_reducible exact Mod.refl _ _ | with_reducible refine Mod.drew ?_ | ((with_reducible refine Mod.setCell ?_ _ _ ?_); rotate_left; (intro _; rfl)))))) (fun k hk e => absurd (own_type HO8.out hk (e ▸ hD)) (by decide))
            · exact own_of_mod HO9.out (show Mod (fun k => k = X.heap.size + 1 + 1) X8 _ from (by (repeat (first | with_reducible exact Mod.refl _ _ | with_reducible refine Mod.drew ?_ | ((with_reducible refine Mod.setCell ?_ _ _ ?_); rotate_left; (intro _; rfl)))))) (fun k hk e => absurd (own_type HO9.out hk (e ▸ hD)) (by decide))
            · exact HM8.out.trans (show Mod (fun k => k = X.heap.size + 1 + 1) X8 _ from (by (repeat (first | with_reducible exact Mod.refl _ _ | with_reducible refine Mod.drew ?_ | ((with_reducible refine Mod.setCell ?_ _ _ ?_); rotate_left; (intro _; rfl)))))) (fun k hk e => by omega)
        · intro K hK
          dsimp only [ga, gs, gz]
          go_simp
          refine hK _ _ (show_held ?_ (fun hHeld => ?_))
          · (first | (go_keep; done) | exact ⟨keep_cell (show Mod NoB X _ from QM.out) ab g0, keep_cell (show Mod NoB X _ from QM.out) ab g2, keep_cell (show Mod NoB X _ from QM.out) ab g3, keep_cell (show Mod NoB X _ from QM.out) nb n2, keep_cell (show Mod NoB X _ from QM.out) nb n3⟩)
          clear hK K
          refine allF [6] (mc (stF ?_) mn)
          intro K hK
          dsimp only [ga, gs, gz]
          go_simp
          refine hK _ _ (show_held ?_ (fun hHeld => ?_))
          · (first | (go_keep; done) | exact ⟨keep_cell (show Mod NoB X _ from QM.out) ab g0, keep_cell (show Mod NoB X _ from QM.out) ab g2, keep_cell (show Mod NoB X _ from QM.out) ab g3, keep_cell (show Mod NoB X _ from QM.out) nb n2, keep_cell (show Mod NoB X _ from QM.out) nb n3⟩)
          clear hK K
          refine allF [7] (mc (stF ?_) mn)
          intro K hK
          dsimp only [ga, gs, gz]
          rw [if_pos (by rfl)]
          refine wp_fn 170 (fun _ _ => by kernel_rfl) #[.tmp 51] #[249] rfl (vs := #[.slice (some ⟨_, 0, none⟩) 2 2]) rfl (HCS.out _ _ QM.out (by first | exact hat0 | exact hat1 | exact hat2)) ?_
          rintro u X7 ⟨x2, y2, rfl, ho7, hm7⟩
          have hM7 : Mod NoB X X7 := (show Mod NoB X _ from QM.out).trans hm7 (fun _ _ h => h)
          obtain ⟨ab, g0, g1, g2, g3, gf⟩ := Page4.facts ((hM7.block A (lt_heap HA.out) id).trans HA.out)
          obtain ⟨nb, n0, n1, n2, n3, nf⟩ := Page4.facts ((hM7.block B (lt_heap HB.out) id).trans HB.out)
          have hsz7 := hm7.size
          (try simp only [size_alloc, heap_drew] at hsz7)
          have hC : X7.heap[X.heap.size + 1]? = some (.cells #[.bool false, .slice none 0 0, .slice none 0 0, .slice none 0 0] 130 (0, 0)) := by ((try simp only [heap_drew]); first | exact hat0 | exact hat1 | exact hat2 | (refine (Mod.block hm7 _ ?_ id).trans ?_ <;> (first | omega | (simp only [size_alloc, heap_drew]; omega) | ((try simp only [heap_drew]); first | exact hat0 | exact hat1 | exact hat2))) | (refine heap_alloc_old' _ _ _ ?_ ((Mod.block hm7 _ ?_ id).trans ?_) <;> (first | omega | (simp only [size_alloc, heap_drew]; omega) | ((try simp only [heap_drew]); first | exact hat0 | exact hat1 | exact hat2))) | (refine heap_alloc_old' _ _ _ ?_ (heap_alloc_old' _ _ _ ?_ ((Mod.block hm7 _ ?_ id).trans ?_)) <;> (first | omega | (simp only [size_alloc, heap_drew]; omega) | ((try simp only [heap_drew]); first | exact hat0 | exact hat1 | exact hat2))))
          obtain ⟨zzb, zz0, zz1, zz2, zz3, zzf⟩ := Page4.facts hC
          refine hK _ _ (show_held ?_ (fun hHeld => ?_))
          · (first | (go_keep; done) | exact ⟨keep_cell (show Mod NoB X _ from QM.out) ab g0, keep_cell (show Mod NoB X _ from QM.out) ab g2, keep_cell (show Mod NoB X _ from QM.out) ab g3, keep_cell (show Mod NoB X _ from QM.out) nb n2, keep_cell (show Mod NoB X _ from QM.out) nb n3⟩)
          clear hK K
          simp only [Act.put, List.setIfInBounds_toArray, List.set_cons_zero, List.set_cons_succ]
          refine allF [13] (mc (stF ?_) mn)
          intro K hK
          dsimp only [ga, gs, gz]
          rw [if_pos (by rfl)]
          refine wp_fn 171 (fun _ _ => by kernel_rfl) #[.tmp 57] #[251] rfl (vs := #[.slice (some ⟨_, 0, none⟩) 2 2]) rfl (HCI.out _ _ (hM7.trans (show Mod NoB X7 _ from QM.out) (fun _ _ h => h)) (by ((try simp only [heap_drew]); first | exact hat0 | exact hat1 | exact hat2 | (refine (Mod.block hm7 _ ?_ id).trans ?_ <;> (first | omega | (simp only [size_alloc, heap_drew]; omega) | ((try simp only [heap_drew]); first | exact hat0 | exact hat1 | exact hat2))) | (refine heap_alloc_old' _ _ _ ?_ ((Mod.block hm7 _ ?_ id).trans ?_) <;> (first | omega | (simp only [size_alloc, heap_drew]; omega) | ((try simp only [heap_drew]); first | exact hat0 | exact hat1 | exact hat2))) | (refine heap_alloc_old' _ _ _ ?_ (heap_alloc_old' _ _ _ ?_ ((Mod.block hm7 _ ?_ id).trans ?_)) <;> (first | omega | (simp only [size_alloc, heap_drew]; omega) | ((try simp only [heap_drew]); first | exact hat0 | exact hat1 | exact hat2)))))) ?_
          rintro u X8 ⟨x3, y3, rfl, ho8, hm8⟩
          have hM8 : Mod NoB X7 X8 := (show Mod NoB X7 _ from QM.out).trans hm8 (fun _ _ h => h)
          obtain ⟨ab, g0, g1, g2, g3, gf⟩ := Page4.facts ((hM8.block A ab id).trans ((hM7.block A (lt_heap HA.out) id).trans HA.out))
          obtain ⟨nb, n0, n1, n2, n3, nf⟩ := Page4.facts ((hM8.block B nb id).trans ((hM7.block B (lt_heap HB.out) id).trans HB.out))
          have hsz8 := hm8.size
          (try simp only [size_alloc, heap_drew] at hsz8)
          have hD := (hM8.block _ (lt_heap hC) id).trans hC
          obtain ⟨yyb, yy0, yy1, yy2, yy3, yyf⟩ := Page4.facts hD
          have HO8 := Lib.hid (own_of_mod ho7 hM8 (fun _ _ => id))
          have HO9 := Lib.hid ho8
          have HM8 := Lib.hid (hM7.trans hM8 (fun _ _ h => h))
          clear ho7 ho8
          refine hK _ _ (show_held ?_ (fun hHeld => ?_))
          · (first | (go_keep; done) | exact ⟨keep_cell (show Mod NoB X _ from QM.out) ab g0, keep_cell (show Mod NoB X _ from QM.out) ab g2, keep_cell (show Mod NoB X _ from QM.out) ab g3, keep_cell (show Mod NoB X _ from QM.out) nb n2, keep_cell (show Mod NoB X _ from QM.out) nb n3⟩)
          clear hK K
          simp only [Act.put, List.setIfInBounds_toArray, List.set_cons_zero, List.set_cons_succ]
          refine tkT 14 (v := ?_) ?_ hHeld ?_
          rotate_left
          · (intro _; simp only [ga, gs, gz]; go_simp; try with_reducible rfl)
          simp only [Act.put, ga, gs, gz, sb, sz, ss]
          refine allF [16] (mc (stN ?_) mn)
          intro K hK
          dsimp only [ga, gs, gz]
          go_simp
          refine hK _ _ ?_
          clear hK K
          refine wpAny_done (by kernel_rfl) ?_ _
          go_wp2_with fail
          go_meet
          refine ⟨_, x2, y2, x3, y3, rfl, by omega, ?_, ?_, ?_, ?_⟩
          · simp only [heap_setCell, if_true, hD, Option.map_some, setAt_cells, List.setIfInBounds_toArray, List.set_cons_zero, List.set_cons_succ, List.length_append]
          · exact own_of_mod HO8.out (show Mod (fun k => k = X.heap.size + 1) X8 _ from (by (repeat (first | with_reducible exact Mod.refl _ _ | with_reducible refine Mod.drew ?_ | ((with_reducible refine Mod.setCell ?_ _ _ ?_); rotate_left; (intro _; rfl)))))) (fun k hk e => absurd (own_type HO8.out hk (e ▸ hD)) (by decide))
          · exact own_of_mod HO9.out (show Mod (fun k => k = X.heap.size + 1) X8 _ from (by (repeat (first | with_reducible exact Mod.refl _ _ | with_reducible refine Mod.drew ?_ | ((with_reducible refine Mod.setCell ?_ _ _ ?_); rotate_left; (intro _; rfl)))))) (fun k hk e => absurd (own_type HO9.out hk (e ▸ hD)) (by decide))
          · exact HM8.out.trans (show Mod (fun k => k = X.heap.size + 1) X8 _ from (by (repeat (first | with_reducible exact Mod.refl _ _ | with_reducible refine Mod.drew ?_ | ((with_reducible refine Mod.setCell ?_ _ _ ?_); rotate_left; (intro _; rfl)))))) (fun k hk e => by omega)
      · intro K hK
        dsimp only [ga, gs, gz]
        go_simp
        refine hK _ _ (show_held ?_ (fun hHeld => ?_))
        · (first | (go_keep; done) | exact ⟨keep_cell (show Mod NoB X _ from QM.out) ab g0, keep_cell (show Mod NoB X _ from QM.out) ab g2, keep_cell (show Mod NoB X _ from QM.out) ab g3, keep_cell (show Mod NoB X _ from QM.out) nb n2, keep_cell (show Mod NoB X _ from QM.out) nb n3⟩)
        clear hK K
        refine allF [6, 12] (mc (stF ?_) (mc (stF ?_) mn))
        · intro K hK
          dsimp only [ga, gs, gz]
          go_simp
          refine hK _ _ (show_held ?_ (fun hHeld => ?_))
          · (first | (go_keep; done) | exact ⟨keep_cell (show Mod NoB X _ from QM.out) ab g0, keep_cell (show Mod NoB X _ from QM.out) ab g2, keep_cell (show Mod NoB X _ from QM.out) ab g3, keep_cell (show Mod NoB X _ from QM.out) nb n2, keep_cell (show Mod NoB X _ from QM.out) nb n3⟩)
          clear hK K
          refine allF [7, 12] (mc (stF ?_) (mc (stF ?_) mn))
          · intro K hK
            dsimp only [ga, gs, gz]
            rw [if_pos (by rfl)]
            refine wp_fn 170 (fun _ _ => by kernel_rfl) #[.tmp 51] #[249] rfl (vs := #[.slice (some ⟨_, 0, none⟩) 2 2]) rfl (HCS.out _ _ QM.out (by first | exact hat0 | exact hat1 | exact hat2)) ?_
            rintro u X7 ⟨x2, y2, rfl, ho7, hm7⟩
            have hM7 : Mod NoB X X7 := (show Mod NoB X _ from QM.out).trans hm7 (fun _ _ h => h)
            obtain ⟨ab, g0, g1, g2, g3, gf⟩ := Page4.facts ((hM7.block A (lt_heap HA.out) id).trans HA.out)
            obtain ⟨nb, n0, n1, n2, n3, nf⟩ := Page4.facts ((hM7.block B (lt_heap HB.out) id).trans HB.out)
            have hsz7 := hm7.size
            (try simp only [size_alloc, heap_drew] at hsz7)
            have hC : X7.heap[X.heap.size]? = some (.cells #[.bool false, .slice none 0 0, .slice none 0 0, .slice none 0 0] 130 (0, 0)) := by ((try simp only [heap_drew]); first | exact hat0 | exact hat1 | exact hat2 | (refine (Mod.block hm7 _ ?_ id).trans ?_ <;> (first | omega | (simp only [size_alloc, heap_drew]; omega) | ((try simp only [heap_drew]); first | exact hat0 | exact hat1 | exact hat2))) | (refine heap_alloc_old' _ _ _ ?_ ((Mod.block hm7 _ ?_ id).trans ?_) <;> (first | omega | (simp only [size_alloc, heap_drew]; omega) | ((try simp only [heap_drew]); first | exact hat0 | exact hat1 | exact hat2))) | (refine heap_alloc_old' _ _ _ ?_ (heap_alloc_old' _ _ _ ?_ ((Mod.block hm7 _ ?_ id).trans ?_)) <;> (first | omega | (simp only [size_alloc, heap_drew]; omega) | ((try simp only [heap_drew]); first | exact hat0 | exact hat1 | exact hat2))))
            obtain ⟨zzb, zz0, zz1, zz2, zz3, zzf⟩ := Page4.facts hC
            refine hK _ _ (show_held ?_ (fun hHeld => ?_))
            · (first | (go_keep; done) | exact ⟨keep_cell (show Mod NoB X _ from QM.out) ab g0, keep_cell (show Mod NoB X _ from QM.out) ab g2, keep_cell (show Mod NoB X _ from QM.out) ab g3, keep_cell (show Mod NoB X _ from QM.out) nb n2, keep_cell (show Mod NoB X _ from QM.out) nb n3⟩)
            clear hK K
            simp only [Act.put, List.setIfInBounds_toArray, List.set_cons_zero, List.set_cons_succ]
            refine allF [12] (mc (stF ?_) mn)
            intro K hK
            dsimp only [ga, gs, gz]
            go_simp
            refine hK _ _ (show_held ?_ (fun hHeld => ?_))
            · (first | (go_keep; done) | exact ⟨keep_cell (show Mod NoB X _ from QM.out) ab g0, keep_cell (show Mod NoB X _ from QM.out) ab g2, keep_cell (show Mod NoB X _ from QM.out) ab g3, keep_cell (show Mod NoB X _ from QM.out) nb n2, keep_cell (show Mod NoB X _ from QM.out) nb n3⟩)
            clear hK K
            refine allF [13] (mc (stF ?_) mn)
            intro K hK
            dsimp only [ga, gs, gz]
            rw [if_pos (by rfl)]
            refine wp_fn 171 (fun _ _ => by kernel_rfl) #[.tmp 57] #[251] rfl (vs := #[.slice (some ⟨_, 0, none⟩) 2 2]) rfl (HCI.out _ _ (hM7.trans (show Mod NoB X7 _ from QM.out) (fun _ _ h => h)) (by ((try simp only [heap_drew]); first | exact hat0 | exact hat1 | exact hat2 | (refine (Mod.block hm7 _ ?_ id).trans ?_ <;> (first | omega | (simp only [size_alloc, heap_drew]; omega) | ((try simp only [heap_drew]); first | exact hat0 | exact hat1 | exact hat2))) | (refine heap_alloc_old' _ _ _ ?_ ((Mod.block hm7 _ ?_ id).trans ?_) <;> (first | omega | (simp only [size_alloc, heap_drew]; omega) | ((try simp only [heap_drew]); first | exact hat0 | exact hat1 | exact hat2))) | (refine heap_alloc_old' _ _ _ ?_ (heap_alloc_old' _ _ _ ?_ ((Mod.block hm7 _ ?_ id).trans ?_)) <;> (first | omega | (simp only [size_alloc, heap_drew]; omega) | ((try simp only [heap_drew]); first | exact hat0 | exact hat1 | exact hat2)))))) ?_
            rintro u X8 ⟨x3, y3, rfl, ho8, hm8⟩
            have hM8 : Mod NoB X7 X8 := (show Mod NoB X7 _ from QM.out).trans hm8 (fun _ _ h => h)
            obtain ⟨ab, g0, g1, g2, g3, gf⟩ := Page4.facts ((hM8.block A ab id).trans ((hM7.block A (lt_heap HA.out) id).trans HA.out))
            obtain ⟨nb, n0, n1, n2, n3, nf⟩ := Page4.facts ((hM8.block B nb id).trans ((hM7.block B (lt_heap HB.out) id).trans HB.out))
            have hsz8 := hm8.size
            (try simp only [size_alloc, heap_drew] at hsz8)
            have hD := (hM8.block _ (lt_heap hC) id).trans hC
            obtain ⟨yyb, yy0, yy1, yy2, yy3, yyf⟩ := Page4.facts hD
            have HO8 := Lib.hid (own_of_mod ho7 hM8 (fun _ _ => id))
            have HO9 := Lib.hid ho8
            have HM8 := Lib.hid (hM7.trans hM8 (fun _ _ h => h))
            clear ho7 ho8
            refine hK _ _ (show_held ?_ (fun hHeld => ?_))
            · (first | (go_keep; done) | exact ⟨keep_cell (show Mod NoB X _ from QM.out) ab g0, keep_cell (show Mod NoB X _ from QM.out) ab g2, keep_cell (show Mod NoB X _ from QM.out) ab g3, keep_cell (show Mod NoB X _ from QM.out) nb n2, keep_cell (show Mod NoB X _ from QM.out) nb n3⟩)
            clear hK K
            simp only [Act.put, List.setIfInBounds_toArray, List.set_cons_zero, List.set_cons_succ]
            refine tkT 14 (v := ?_) ?_ hHeld ?_
            rotate_left
            · (intro _; simp only [ga, gs, gz]; go_simp; try with_reducible rfl)
            simp only [Act.put, ga, gs, gz, sb, sz, ss]
            refine allF [16] (mc (stN ?_) mn)
            intro K hK
            dsimp only [ga, gs, gz]
            go_simp
            refine hK _ _ ?_
            clear hK K
            refine wpAny_done (by kernel_rfl) ?_ _
            go_wp2_with fail
            go_meet
            refine ⟨_, x2, y2, x3, y3, rfl, by omega, ?_, ?_, ?_, ?_⟩
            · simp only [heap_setCell, if_true, hD, Option.map_some, setAt_cells, List.setIfInBounds_toArray, List.set_cons_zero, List.set_cons_succ, List.length_append]
            · exact own_of_mod HO8.out (show Mod (fun k => k = X.heap.size) X8 _ from (by (repeat (first | with_reducible exact Mod.refl _ _ | with_reducible refine Mod.drew ?_ | ((with_reducible refine Mod.setCell ?_ _ _ ?_); rotate_left; (intro _; rfl)))))) (fun k hk e => absurd (own_type HO8.out hk (e ▸ hD)) (by decide))
            · exact own_of_mod HO9.out (show Mod (fun k => k = X.heap.size) X8 _ from (by (repeat (first | with_reducible exact Mod.refl _ _ | with_reducible refine Mod.drew ?_ | ((with_reducible refine Mod.setCell ?_ _ _ ?_); rotate_left; (intro _; rfl)))))) (fun k hk e => absurd (own_type HO9.out hk (e ▸ hD)) (by decide))
            · exact HM8.out.trans (show Mod (fun k => k = X.heap.size) X8 _ from (by (repeat (first | with_reducible exact Mod.refl _ _ | with_reducible refine Mod.drew ?_ | ((with_reducible refine Mod.setCell ?_ _ _ ?_); rotate_left; (intro _; rfl)))))) (fun k hk e => by omega)
          · intro K hK
            dsimp only [ga, gs, gz]
            go_simp
            refine hK _ _ (show_held ?_ (fun hHeld => ?_))
            · (first | (go_keep; done) | exact ⟨keep_cell (show Mod NoB X _ from QM.out) ab g0, keep_cell (show Mod NoB X _ from QM.out) ab g2, keep_cell (show Mod NoB X _ from QM.out) ab g3, keep_cell (show Mod NoB X _ from QM.out) nb n2, keep_cell (show Mod NoB X _ from QM.out) nb n3⟩)
            clear hK K
            refine allF [7] (mc (stF ?_) mn)
            intro K hK
            dsimp only [ga, gs, gz]
            rw [if_pos (by rfl)]
            refine wp_fn 170 (fun _ _ => by kernel_rfl) #[.tmp 51] #[249] rfl (vs := #[.slice (some ⟨_, 0, none⟩) 2 2]) rfl (HCS.out _ _ QM.out (by first | exact hat0 | exact hat1 | exact hat2)) ?_
            rintro u X7 ⟨x2, y2, rfl, ho7, hm7⟩
            have hM7 : Mod NoB X X7 := (show Mod NoB X _ from QM.out).trans hm7 (fun _ _ h => h)
            obtain ⟨ab, g0, g1, g2, g3, gf⟩ := Page4.facts ((hM7.block A (lt_heap HA.out) id).trans HA.out)
            obtain ⟨nb, n0, n1, n2, n3, nf⟩ := Page4.facts ((hM7.block B (lt_heap HB.out) id).trans HB.out)
            have hsz7 := hm7.size
            (try simp only [size_alloc, heap_drew] at hsz7)
            have hC : X7.heap[X.heap.size]? = some (.cells #[.bool false, .slice none 0 0, .slice none 0 0, .slice none 0 0] 130 (0, 0)) := by ((try simp only [heap_drew]); first | exact hat0 | exact hat1 | exact hat2 | (refine (Mod.block hm7 _ ?_ id).trans ?_ <;> (first | omega | (simp only [size_alloc, heap_drew]; omega) | ((try simp only [heap_drew]); first | exact hat0 | exact hat1 | exact hat2))) | (refine heap_alloc_old' _ _ _ ?_ ((Mod.block hm7 _ ?_ id).trans ?_) <;> (first | omega | (simp only [size_alloc, heap_drew]; omega) | ((try simp only [heap_drew]); first | exact hat0 | exact hat1 | exact hat2))) | (refine heap_alloc_old' _ _ _ ?_ (heap_alloc_old' _ _ _ ?_ ((Mod.block hm7 _ ?_ id).trans ?_)) <;> (first | omega | (simp only [size_alloc, heap_drew]; omega) | ((try simp only [heap_drew]); first | exact hat0 | exact hat1 | exact hat2))))
            obtain ⟨zzb, zz0, zz1, zz2, zz3, zzf⟩ := Page4.facts hC
            refine hK _ _ (show_held ?_ (fun hHeld => ?_))
            · (first | (go_keep; done) | exact ⟨keep_cell (show Mod NoB X _ from QM.out) ab g0, keep_cell (show Mod NoB X _ from QM.out) ab g2, keep_cell (show Mod NoB X _ from QM.out) ab g3, keep_cell (show Mod NoB X _ from QM.out) nb n2, keep_cell (show Mod NoB X _ from QM.out) nb n3⟩)
            clear hK K
            simp only [Act.put, List.setIfInBounds_toArray, List.set_cons_zero, List.set_cons_succ]
            refine allF [13] (mc (stF ?_) mn)
            intro K hK
            dsimp only [ga, gs, gz]
            rw [if_pos (by rfl)]
            refine wp_fn 171 (fun _ _ => by kernel_rfl) #[.tmp 57] #[251] rfl (vs := #[.slice (some ⟨_, 0, none⟩) 2 2]) rfl (HCI.out _ _ (hM7.trans (show Mod NoB X7 _ from QM.out) (fun _ _ h => h)) (by ((try simp only [heap_drew]); first | exact hat0 | exact hat1 | exact hat2 | (refine (Mod.block hm7 _ ?_ id).trans ?_ <;> (first | omega | (simp only [size_alloc, heap_drew]; omega) | ((try simp only [heap_drew]); first | exact hat0 | exact hat1 | exact hat2))) | (refine heap_alloc_old' _ _ _ ?_ ((Mod.block hm7 _ ?_ id).trans ?_) <;> (first | omega | (simp only [size_alloc, heap_drew]; omega) | ((try simp only [heap_drew]); first | exact hat0 | exact hat1 | exact hat2))) | (refine heap_alloc_old' _ _ _ ?_ (heap_alloc_old' _ _ _ ?_ ((Mod.block hm7 _ ?_ id).trans ?_)) <;> (first | omega | (simp only [size_alloc, heap_drew]; omega) | ((try simp only [heap_drew]); first | exact hat0 | exact hat1 | exact hat2)))))) ?_
            rintro u X8 ⟨x3, y3, rfl, ho8, hm8⟩
            have hM8 : Mod NoB X7 X8 := (show Mod NoB X7 _ from QM.out).trans hm8 (fun _ _ h => h)
            obtain ⟨ab, g0, g1, g2, g3, gf⟩ := Page4.facts ((hM8.block A ab id).trans ((hM7.block A (lt_heap HA.out) id).trans HA.out))
            obtain ⟨nb, n0, n1, n2, n3, nf⟩ := Page4.facts ((hM8.block B nb id).trans ((hM7.block B (lt_heap HB.out) id).trans HB.out))
            have hsz8 := hm8.size
            (try simp only [size_alloc, heap_drew] at hsz8)
            have hD := (hM8.block _ (lt_heap hC) id).trans hC
            obtain ⟨yyb, yy0, yy1, yy2, yy3, yyf⟩ := Page4.facts hD
            have HO8 := Lib.hid (own_of_mod ho7 hM8 (fun _ _ => id))
            have HO9 := Lib.hid ho8
            have HM8 := Lib.hid (hM7.trans hM8 (fun _ _ h => h))
            clear ho7 ho8
            refine hK _ _ (show_held ?_ (fun hHeld => ?_))
            · (first | (go_keep; done) | exact ⟨keep_cell (show Mod NoB X _ from QM.out) ab g0, keep_cell (show Mod NoB X _ from QM.out) ab g2, keep_cell (show Mod NoB X _ from QM.out) ab g3, keep_cell (show Mod NoB X _ from QM.out) nb n2, keep_cell (show Mod NoB X _ from QM.out) nb n3⟩)
            clear hK K
            simp only [Act.put, List.setIfInBounds_toArray, List.set_cons_zero, List.set_cons_succ]
            refine tkT 14 (v := ?_) ?_ hHeld ?_
            rotate_left
            · (intro _; simp only [ga, gs, gz]; go_simp; try with_reducible rfl)
            simp only [Act.put, ga, gs, gz, sb, sz, ss]
            refine allF [16] (mc (stN ?_) mn)
            intro K hK
            dsimp only [ga, gs, gz]
            go_simp
            refine hK _ _ ?_
            clear hK K
            refine wpAny_done (by kernel_rfl) ?_ _
            go_wp2_with fail
            go_meet
            refine ⟨_, x2, y2, x3, y3, rfl, by omega, ?_, ?_, ?_, ?_⟩
            · simp only [heap_setCell, if_true, hD, Option.map_some, setAt_cells, List.setIfInBounds_toArray, List.set_cons_zero, List.set_cons_succ, List.length_append]
            · exact own_of_mod HO8.out (show Mod (fun k => k = X.heap.size) X8 _ from (by (repeat (first | with_reducible exact Mod.refl _ _ | with_reducible refine Mod.drew ?_ | ((with_reducible refine Mod.setCell ?_ _ _ ?_); rotate_left; (intro _; rfl)))))) (fun k hk e => absurd (own_type HO8.out hk (e ▸ hD)) (by decide))
            · exact own_of_mod HO9.out (show Mod (fun k => k = X.heap.size) X8 _ from (by (repeat (first | with_reducible exact Mod.refl _ _ | with_reducible refine Mod.drew ?_ | ((with_reducible refine Mod.setCell ?_ _ _ ?_); rotate_left; (intro _; rfl)))))) (fun k hk e => absurd (own_type HO9.out hk (e ▸ hD)) (by decide))
            · exact HM8.out.trans (show Mod (fun k => k = X.heap.size) X8 _ from (by (repeat (first | with_reducible exact Mod.refl _ _ | with_reducible refine Mod.drew ?_ | ((with_reducible refine Mod.setCell ?_ _ _ ?_); rotate_left; (intro _; rfl)))))) (fun k hk e => by omega)
        · intro K hK
          dsimp only [ga, gs, gz]
          go_simp
          refine hK _ _ (show_held ?_ (fun hHeld => ?_))
          · (first | (go_keep; done) | exact ⟨keep_cell (show Mod NoB X _ from QM.out) ab g0, keep_cell (show Mod NoB X _ from QM.out) ab g2, keep_cell (show Mod NoB X _ from QM.out) ab g3, keep_cell (show Mod NoB X _ from QM.out) nb n2, keep_cell (show Mod NoB X _ from QM.out) nb n3⟩)
          clear hK K
          refine allF [6] (mc (stF ?_) mn)
          intro K hK
          dsimp only [ga, gs, gz]
          go_simp
          refine hK _ _ (show_held ?_ (fun hHeld => ?_))
          · (first | (go_keep; done) | exact ⟨keep_cell (show Mod NoB X _ from QM.out) ab g0, keep_cell (show Mod NoB X _ from QM.out) ab g2, keep_cell (show Mod NoB X _ from QM.out) ab g3, keep_cell (show Mod NoB X _ from QM.out) nb n2, keep_cell (show Mod NoB X _ from QM.out) nb n3⟩)
          clear hK K
          refine allF [7] (mc (stF ?_) mn)
          intro K hK
          dsimp only [ga, gs, gz]
          rw [if_pos (by rfl)]
          refine wp_fn 170 (fun _ _ => by kernel_rfl) #[.tmp 51] #[249] rfl (vs := #[.slice (some ⟨_, 0, none⟩) 2 2]) rfl (HCS.out _ _ QM.out (by first | exact hat0 | exact hat1 | exact hat2)) ?_
          rintro u X7 ⟨x2, y2, rfl, ho7, hm7⟩
          have hM7 : Mod NoB X X7 := (show Mod NoB X _ from QM.out).trans hm7 (fun _ _ h => h)
          obtain ⟨ab, g0, g1, g2, g3, gf⟩ := Page4.facts ((hM7.block A (lt_heap HA.out) id).trans HA.out)
          obtain ⟨nb, n0, n1, n2, n3, nf⟩ := Page4.facts ((hM7.block B (lt_heap HB.out) id).trans HB.out)
          have hsz7 := hm7.size
          (try simp only [size_alloc, heap_drew] at hsz7)
          have hC : X7.heap[X.heap.size]? = some (.cells #[.bool false, .slice none 0 0, .slice none 0 0, .slice none 0 0] 130 (0, 0)) := by ((try simp only [heap_drew]); first | exact hat0 | exact hat1 | exact hat2 | (refine (Mod.block hm7 _ ?_ id).trans ?_ <;> (first | omega | (simp only [size_alloc, heap_drew]; omega) | ((try simp only [heap_drew]); first | exact hat0 | exact hat1 | exact hat2))) | (refine heap_alloc_old' _ _ _ ?_ ((Mod.block hm7 _ ?_ id).trans ?_) <;> (first | omega | (simp only [size_alloc, heap_drew]; omega) | ((try simp only [heap_drew]); first | exact hat0 | exact hat1 | exact hat2))) | (refine heap_alloc_old' _ _ _ ?_ (heap_alloc_old' _ _ _ ?_ ((Mod.block hm7 _ ?_ id).trans ?_)) <;> (first | omega | (simp only [size_alloc, heap_drew]; omega) | ((try simp only [heap_drew]); first | exact hat0 | exact hat1 | exact hat2))))
          obtain ⟨zzb, zz0, zz1, zz2, zz3, zzf⟩ := Page4.facts hC
          refine hK _ _ (show_held ?_ (fun hHeld => ?_))
          · (first | (go_keep; done) | exact ⟨keep_cell (show Mod NoB X _ from QM.out) ab g0, keep_cell (show Mod NoB X _ from QM.out) ab g2, keep_cell (show Mod NoB X _ from QM.out) ab g3, keep_cell (show Mod NoB X _ from QM.out) nb n2, keep_cell (show Mod NoB X _ from QM.out) nb n3⟩)
          clear hK K
          simp only [Act.put, List.setIfInBounds_toArray, List.set_cons_zero, List.set_cons_succ]
          refine allF [13] (mc (stF ?_) mn)
          intro K hK
          dsimp only [ga, gs, gz]
          rw [if_pos (by rfl)]
          refine wp_fn 171 (fun _ _ => by kernel_rfl) #[.tmp 57] #[251] rfl (vs := #[.slice (some ⟨_, 0, none⟩) 2 2]) rfl (HCI.out _ _ (hM7.trans (show Mod NoB X7 _ from QM.out) (fun _ _ h => h)) (by ((try simp only [heap_drew]); first | exact hat0 | exact hat1 | exact hat2 | (refine (Mod.block hm7 _ ?_ id).trans ?_ <;> (first | omega | (simp only [size_alloc, heap_drew]; omega) | ((try simp only [heap_drew]); first | exact hat0 | exact hat1 | exact hat2))) | (refine heap_alloc_old' _ _ _ ?_ ((Mod.block hm7 _ ?_ id).trans ?_) <;> (first | omega | (simp only [size_alloc, heap_drew]; omega) | ((try simp only [heap_drew]); first | exact hat0 | exact hat1 | exact hat2))) | (refine heap_alloc_old' _ _ _ ?_ (heap_alloc_old' _ _ _ ?_ ((Mod.block hm7 _ ?_ id).trans ?_)) <;> (first | omega | (simp only [size_alloc, heap_drew]; omega) | ((try simp only [heap_drew]); first | exact hat0 | exact hat1 | exact hat2)))))) ?_
          rintro u X8 ⟨x3, y3, rfl, ho8, hm8⟩
          have hM8 : Mod NoB X7 X8 := (show Mod NoB X7 _ from QM.out).trans hm8 (fun _ _ h => h)
          obtain ⟨ab, g0, g1, g2, g3, gf⟩ := Page4.facts ((hM8.block A ab id).trans ((hM7.block A (lt_heap HA.out) id).trans HA.out))
          obtain ⟨nb, n0, n1, n2, n3, nf⟩ := Page4.facts ((hM8.block B nb id).trans ((hM7.block B (lt_heap HB.out) id).trans HB.out))
          have hsz8 := hm8.size
          (try simp only [size_alloc, heap_drew] at hsz8)
          have hD := (hM8.block _ (lt_heap hC) id).trans hC
          obtain ⟨yyb, yy0, yy1, yy2, yy3, yyf⟩ := Page4.facts hD
          have HO8 := Lib.hid (own_of_mod ho7 hM8 (fun _ _ => id))
          have HO9 := Lib.hid ho8
          have HM8 := Lib.hid (hM7.trans hM8 (fun _ _ h => h))
          clear ho7 ho8
          refine hK _ _ (show_held ?_ (fun hHeld => ?_))
          · (first | (go_keep; done) | exact ⟨keep_cell (show Mod NoB X _ from QM.out) ab g0, keep_cell (show Mod NoB X _ from QM.out) ab g2, keep_cell (show Mod NoB X _ from QM.out) ab g3, keep_cell (show Mod NoB X _ from QM.out) nb n2, keep_cell (show Mod NoB X _ from QM.out) nb n3⟩)
          clear hK K
          simp only [Act.put, List.setIfInBounds_toArray, List.set_cons_zero, List.set_cons_succ]
          refine tkT 14 (v := ?_) ?_ hHeld ?_
          rotate_left
          · (intro _; simp only [ga, gs, gz]; go_simp; try with_reducible rfl)
          simp only [Act.put, ga, gs, gz, sb, sz, ss]
          refine allF [16] (mc (stN ?_) mn)
          intro K hK
          dsimp only [ga, gs, gz]
          go_simp
          refine hK _ _ ?_
          clear hK K
          refine wpAny_done (by kernel_rfl) ?_ _
          go_wp2_with fail
          go_meet
          refine ⟨_, x2, y2, x3, y3, rfl, by omega, ?_, ?_, ?_, ?_⟩
          · simp only [heap_setCell, if_true, hD, Option.map_some, setAt_cells, List.setIfInBounds_toArray, List.set_cons_zero, List.set_cons_succ, List.length_append]
          · exact own_of_mod HO8.out (show Mod (fun k => k = X.heap.size) X8 _ from (by (repeat (first | with_reducible exact Mod.refl _ _ | with_reducible refine Mod.drew ?_ | ((with_reducible refine Mod.setCell ?_ _ _ ?_); rotate_left; (intro _; rfl)))))) (fun k hk e => absurd (own_type HO8.out hk (e ▸ hD)) (by decide))
          · exact own_of_mod HO9.out (show Mod (fun k => k = X.heap.size) X8 _ from (by (repeat (first | with_reducible exact Mod.refl _ _ | with_reducible refine Mod.drew ?_ | ((with_reducible refine Mod.setCell ?_ _ _ ?_); rotate_left; (intro _; rfl)))))) (fun k hk e => absurd (own_type HO9.out hk (e ▸ hD)) (by decide))
          · exact HM8.out.trans (show Mod (fun k => k = X.heap.size) X8 _ from (by (repeat (first | with_reducible exact Mod.refl _ _ | with_reducible refine Mod.drew ?_ | ((with_reducible refine Mod.setCell ?_ _ _ ?_); rotate_left; (intro _; rfl)))))) (fun k hk e => by omega)
    case rest =>
      obtain ⟨C, x2, y2, x3, y3, rfl, hC0, HY⟩ := hcut
      obtain ⟨hC, hov, hoc, hmY⟩ := HY.out
      generalize wc = Y at *
      have hzX := lt_heap HA.out
      have H5Y := Lib.hid ((hmY.block _ (lt_heap H5X.out) id).trans H5X.out)
      have H8Y := Lib.hid ((hmY.block _ (lt_heap H8X.out) id).trans H8X.out)
      have HOPY := Lib.hid (HOPX.out.mod hmY)
      have HOIY := Lib.hid (HOIX.out.mod hmY)
      have HQIY := Lib.hid (HQIX.out.mod hmY)
      have HMY := Lib.hid (HMX.out.trans hmY (fun _ _ h => h))
      have HMXY := Lib.hid hmY
      obtain ⟨ab, g0, g1, g2, g3, gf⟩ := Page4.facts ((hmY.block A ab id).trans HA.out)
      obtain ⟨nb, n0, n1, n2, n3, nf⟩ := Page4.facts ((hmY.block B nb id).trans HB.out)
      obtain ⟨kb, k0, k1, k2, k3, kf⟩ := Page4.facts hC
      have HCC := Lib.hid hC
      have HOV := Lib.hid hov
      have HOC := Lib.hid hoc
      have H8X0 := Lib.hid H8X.out
      clear hmY hC hov hoc H5X H8X HOPX HOIX HQIX HMX HA HB HCS HCI HY
      go_upto_if 61 with fail
      obtain ⟨_, _, e3, _, _, _, hg⟩ := own_shape HOPY.out.k
      cases e3
      obtain ⟨kg, rfl⟩ := hg (by omega)
      clear hg
      have hHLO := HQL.out
      have hHRO := HOL.out
      go_cut [] from 18 (fun wx => ∃ x1 y1, Hid (wx.heap[C]? = some (.cells #[.bool lf, .slice x1 (q.join s o).keys.length y1, .slice x2 (q.vals ++ o.vals).length y2, .slice x3 (q.kids ++ o.kids).length y3] 130 (0, 0)) ∧ PgOwn wx X.heap.size (.slice x1 (q.join s o).keys.length y1) (.slice x2 (q.vals ++ o.vals).length y2) (.slice x3 (q.kids ++ o.kids).length y3) (q.join s o).keys (q.vals ++ o.vals) (q.kids ++ o.kids) ∧ Mod (fun j => j = C) Y wx))
      case first =>
        rename_i J1 K1 hJ1 hK1
        have hXY := HMXY.out.size
        cases lf
        · have hjk : (q.join s o).keys = _ := joinN_keys hHLO
          have HCK : Hid (∀ Z b, Mod NoB Y Z → Z.heap[b]? = some (.cells #[.slice d1 q.keys.length f1, .slice (some ⟨kg, i, none⟩) 1 (c1 - i), .slice b1 o.keys.length e1] 77 (0, 0)) → Calls Tryz.prog 170 #[.slice (some ⟨b, 0, none⟩) 3 3] Z fun e w' => ∃ u, e = .returned u ∧ CatU Y.heap.size 9 (q.join s o).keys.length ((q.join s o).keys.map txt) Z u w') := fun Z b hZ hb => by
            rw [hjk]
            exact Concat3S hZ.size hb (HQIY.out.k.mod hZ) ((key_in HOPY.out.in1.k rfl HIS.out).mod hZ) (HOIY.out.k.mod hZ) (by omega) (by simp) (by omega)
          clear hjk
          go_wp2_with fail
          go_upto_region 14 with fail
          have hwr1 : IntKind.i64.wrap ((i : Int) + 1) = ((i + 1 : Nat) : Int) := (IntWalk.i64_in _ (by omega)).trans (by omega)
          obtain ⟨_, _, e3, hnc, _, _, _⟩ := own_shape HOPY.out.k
          cases e3
          have hsl1 : (0 : Int) ≤ (i : Int) + 1 := by omega
          have hsl2 : (i : Int) + 1 ≤ (c1 : Int) := by omega
          have hsl3 : ¬ c1 = i := by omega
          clear hnc
          obtain ⟨pb, p0, p1, p2, p3, pf⟩ := Page4.facts H5Y.out
          refine wp_region_front (fun w' => w'.cell? ⟨A, 1, none⟩ = some (.slice d1 q.keys.length f1) ∧ w'.cell? ⟨w.heap.size, 1, none⟩ = some (.slice (some ⟨kg, 0, none⟩) P.keys.length c1) ∧ w'.cell? ⟨B, 1, none⟩ = some (.slice b1 o.keys.length e1)) (notIn [13]) (by kernel_rfl) ?_ (fun hHeld => ?_)
          · go_keep
          refine tkT 0 (v := ?_) ?_ hHeld ?_
          rotate_left
          · (intro _; simp only [ga, gz]; go_simp; try with_reducible rfl)
          simp only [Act.put, ga, gz, sb, sz, ss]
          refine tkL 1 (v := ?_) ?_ hHeld ?_
          rotate_left
          · (intro _ h; (try dsimp only at h); simp only [ga, gs, gz]; go_simp; try with_reducible rfl)
          simp only [Act.put, ga, gs, gz, sb, sz, ss]
          refine tkT 2 (v := ?_) ?_ hHeld ?_
          rotate_left
          · (intro _; simp only [ga, gs, gz]; go_simp; try with_reducible rfl)
          simp only [Act.put, ga, gs, gz, sb, sz, ss]
          refine tkL 3 (v := ?_) ?_ hHeld ?_
          rotate_left
          · (intro _ h; (try dsimp only at h); simp only [ga, gs, gz]; go_simp; try with_reducible rfl)
          simp only [Act.put, ga, gs, gz, sb, sz, ss]
          refine tkT 4 (v := ?_) ?_ hHeld ?_
          rotate_left
          · (intro _; simp only [ga, gs, gz]; go_simp; try with_reducible rfl)
          simp only [Act.put, ga, gs, gz, sb, sz, ss]
          refine tkT 5 (v := ?_) ?_ hHeld ?_
          rotate_left
          · (intro _; simp only [ga, gs, gz]; go_simp; try with_reducible rfl)
          simp only [Act.put, ga, gs, gz, sb, sz, ss]
          refine tkT 6 (v := ?_) ?_ hHeld ?_
          rotate_left
          · (intro _; simp only [ga, gs, gz]; go_simp; try with_reducible rfl)
          simp only [Act.put, ga, gs, gz, sb, sz, ss]
          refine tkT 7 (v := ?_) ?_ hHeld ?_
          rotate_left
          · (intro _; simp only [ga, gs, gz]; go_simp; try with_reducible rfl)
          simp only [Act.put, ga, gs, gz, sb, sz, ss]
          refine tkT 8 (v := ?_) ?_ hHeld ?_
          rotate_left
          · (intro _; simp only [ga, gs, gz]; go_simp; try with_reducible rfl)
          simp only [Act.put, ga, gs, gz, sb, sz, ss]
          refine tkL 9 (v := ?_) ?_ hHeld ?_
          rotate_left
          · (intro _ h; (try dsimp only at h); simp only [ga, gs, gz]; go_simp; try with_reducible rfl)
          simp only [Act.put, ga, gs, gz, sb, sz, ss]
          refine allF [10] (mc (stF ?_) mn)
          intro K hK
          dsimp only [ga, gs, gz]
          go_simp
          refine hK _ _ (show_held ?_ (fun hHeld => ?_))
          · go_keep
          clear hK K
          refine allF [11] (mc (stF ?_) mn)
          intro K hK
          dsimp only [ga, gs, gz]
          rw [if_pos (by rfl)]
          refine wp_fn 170 (fun _ _ => by kernel_rfl) #[.tmp 79] #[249] rfl (vs := #[.slice (some ⟨_, 0, none⟩) 3 3]) rfl (HCK.out _ _ QM.out (by first | exact hat0 | exact hat1)) ?_
          rintro u Z ⟨x1, y1, rfl, ho, hmZ⟩
          have hmYZ : Mod NoB Y Z := (show Mod NoB Y _ from QM.out).trans hmZ (fun _ _ h => h)
          have hCZ := (hmYZ.block C kb id).trans HCC.out
          have HFIN := Lib.hid (joined_own (n := 1) hCZ hmYZ (by omega) ho HOV.out HOC.out)
          have HMYZ := Lib.hid hmYZ
          have HCZ := Lib.hid hCZ
          have z1 := keep_cell hmYZ ab g1
          have z2 := keep_cell hmYZ pb p1
          have z3 := keep_cell hmYZ nb n1
          clear hmZ hmYZ ho hCZ k0 k1 k2 k3 kf kb g0 g1 g2 g3 gf ab n0 n1 n2 n3 nf nb p0 p1 p2 p3 pf pb
          obtain ⟨kb, k0, k1, k2, k3, kf⟩ := Page4.facts HCZ.out
          refine hK _ _ (show_held ?_ (fun hHeld => ?_))
          · go_keep
          clear hK K
          simp only [Act.put, List.setIfInBounds_toArray, List.set_cons_zero, List.set_cons_succ]
          refine tkT 12 (v := ?_) ?_ hHeld ?_
          rotate_left
          · (intro _; simp only [ga, gs, gz]; go_simp; try with_reducible rfl)
          simp only [Act.put, ga, gs, gz, sb, sz, ss]
          refine allF [13] (mc (stN ?_) mn)
          intro K hK
          dsimp only [ga, gs, gz]
          go_simp
          refine hK _ _ ?_
          clear hK K
          refine wpAny_done (by kernel_rfl) ?_ _
          go_step
          refine hK1 _ _ (Met.intro (hJ1 _ _ ?_))
          (repeat apply Exists.intro)
          refine ⟨?_, rfl⟩
          refine ⟨x1, y1, ?_, HFIN.out, ?_⟩
          · simp only [heap_setCell, if_true, HCZ.out, Option.map_some, setAt_cells, List.setIfInBounds_toArray, List.set_cons_zero, List.set_cons_succ]
          · exact (HMYZ.out.mono (noB_sub _ _)).trans (by (repeat (first | with_reducible exact Mod.refl _ _ | with_reducible refine Mod.drew ?_ | ((with_reducible refine Mod.setCell ?_ _ _ ?_); rotate_left; (intro _; rfl))))) (fun _ _ h => h)
        · have hjk : (q.join s o).keys = _ := joinL_keys hHLO
          have HCK : Hid (∀ Z b, Mod NoB Y Z → Z.heap[b]? = some (.cells #[.slice d1 q.keys.length f1, .slice b1 o.keys.length e1] 77 (0, 0)) → Calls Tryz.prog 170 #[.slice (some ⟨b, 0, none⟩) 2 2] Z fun e w' => ∃ u, e = .returned u ∧ CatU Y.heap.size 9 (q.join s o).keys.length ((q.join s o).keys.map txt) Z u w') := fun Z b hZ hb => by
            rw [hjk]
            exact Concat2S hZ.size hb (HQIY.out.k.mod hZ) (HOIY.out.k.mod hZ) (by omega) (by omega)
          clear hjk
          go_wp2_with fail
          refine (HCK.out _ _ QM.out (by first | exact hat0 | exact hat1)).mono ?_
          rintro e Z ⟨u, rfl, x1, y1, rfl, ho, hmZ⟩
          have hmYZ : Mod NoB Y Z := (show Mod NoB Y _ from QM.out).trans hmZ (fun _ _ h => h)
          have hCZ := (hmYZ.block C kb id).trans HCC.out
          have HFIN := Lib.hid (joined_own (n := 1) hCZ hmYZ (by omega) ho HOV.out HOC.out)
          have HMYZ := Lib.hid hmYZ
          have HCZ := Lib.hid hCZ
          clear hmZ hmYZ ho hCZ k0 k1 k2 k3 kf kb g0 g1 g2 g3 gf ab n0 n1 n2 n3 nf nb
          obtain ⟨kb, k0, k1, k2, k3, kf⟩ := Page4.facts HCZ.out
          go_wp2_with fail
          go_meet
          refine ⟨x1, y1, ?_, HFIN.out, ?_⟩
          · simp only [heap_setCell, if_true, HCZ.out, Option.map_some, setAt_cells, List.setIfInBounds_toArray, List.set_cons_zero, List.set_cons_succ]
          · exact (HMYZ.out.mono (noB_sub _ _)).trans (by (repeat (first | with_reducible exact Mod.refl _ _ | with_reducible refine Mod.drew ?_ | ((with_reducible refine Mod.setCell ?_ _ _ ?_); rotate_left; (intro _; rfl))))) (fun _ _ h => h)
      case rest =>
        obtain ⟨x1, y1, HZ⟩ := hcut
        obtain ⟨hCZ, hoZ, hmZ⟩ := HZ.out
        generalize wc = Z at *
        have hXY := HMXY.out.size
        have hwX : w.heap.size + 1 + 1 < X.heap.size := lt_heap H8X0.out
        have H5Z := Lib.hid ((hmZ.block _ (lt_heap H5Y.out) (fun e => by omega)).trans H5Y.out)
        have H8Z := Lib.hid ((hmZ.block _ (lt_heap H8Y.out) (fun e => by omega)).trans H8Y.out)
        have HOPZ := Lib.hid (HOPY.out.keep hmZ (fun q' _ e _ => ⟨_, _, _, e ▸ HCC.out, by decide, by decide⟩))
        have HMZ : Hid (Mod NoB w Z) := HMY.out.trans hmZ (fun j hj e => by omega)
        have HTZ := Lib.hid (HT.out Z HMZ.out)
        obtain ⟨kb, k0, k1, k2, k3, kf⟩ := Page4.facts hCZ
        have HKP := Lib.hid (keep_calls t l p g root (q.join s o) (.slice x1 (q.join s o).keys.length y1) (.slice x2 (q.vals ++ o.vals).length y2) (.slice x3 (q.kids ++ o.kids).length y3) 4 d X.heap.size lo hi N Z HTZ.out hoZ HJ.out (by have := HJ4.out; omega) HJ12.out (by omega) HJ4.out HS.out)
        unfold pageV at HKP
        rw [show (q.join s o).leaf = lf from hHLO] at HKP
        clear hCZ hoZ hmZ HZ H5Y H8Y HOPY HMY HCC HOV HOC g0 g1 g2 g3 gf ab n0 n1 n2 n3 nf nb
        generalize Value.slice x1 (q.join s o).keys.length y1 = V1 at k1 HKP
        generalize Value.slice x2 (q.vals ++ o.vals).length y2 = V2 at k2 HKP
        generalize Value.slice x3 (q.kids ++ o.kids).length y3 = V3 at k3 HKP
        go_wp2_with fail
        refine HKP.out.mono ?_
        rintro e W6 ⟨a', b', kk, two', g1, rfl, hm6, ht6, hg6, hn6, hs6⟩
        clear k0 k1 k2 k3 kf kb HKP
        have hZ2 : w.heap.size + 1 + 1 < Z.heap.size := lt_heap H8Z.out
        have h56 := (hm6.block _ (lt_heap H5Z.out) (by omega)).trans H5Z.out
        have h86 := (hm6.block _ hZ2 (by omega)).trans H8Z.out
        have hO6 := HOPZ.out.keep hm6 (fun q' _ e hb => absurd hb (by omega))
        have hM6 := (HMZ.out.mono (noB_sub (fun k => k = l) _)).trans hm6 (fun _ _ h => h)
        obtain ⟨W7, hW7⟩ : ∃ W7, W6.alloc (.cells #[.int .i64 a', .int .i64 b', .string ⟨kk.toArray⟩, .bool two'] 175) = W7 := ⟨_, rfl⟩
        have hm7 : Mod NoB W6 W7 := by rw [← hW7]; exact (Mod.refl _ _).alloc _
        have hS7 : W7.heap[W6.heap.size]? = some (.cells #[.int .i64 a', .int .i64 b', .string ⟨kk.toArray⟩, .bool two'] 175 (0, 0)) := by rw [← hW7]; exact heap_alloc_new _ _
        have h5R : w.heap.size < W6.heap.size := lt_heap h56
        have h8R : w.heap.size + 1 + 1 < W6.heap.size := lt_heap h86
        have H57 := Lib.hid ((hm7.block _ (lt_heap h56) id).trans h56)
        have H87 := Lib.hid ((hm7.block _ (lt_heap h86) id).trans h86)
        have HO7 := Lib.hid (hO6.mod hm7)
        have HM7 := Lib.hid (hM6.trans hm7 (fun _ _ h => h.elim))
        have HT7 := Lib.hid (ht6.mod hm7)
        have HG6 := Lib.hid hg6
        have HN6 := Lib.hid hn6
        have HS6 := Lib.hid hs6
        have hcP : cg ≠ w.heap.size := fun e => absurd (own_type HO7.out.c (q := w.heap.size) (by rw [← e]; rfl) H57.out) (by decide)
        have hcS : cg ≠ W6.heap.size := fun e => absurd (own_type HO7.out.c (q := W6.heap.size) (by rw [← e]; rfl) hS7) (by decide)
        have hc8 : cg ≠ w.heap.size + 1 + 1 := fun e => absurd (own_type HO7.out.c (q := w.heap.size + 1 + 1) (by rw [← e]; rfl) H87.out) (by decide)
        have hkP : kg ≠ w.heap.size := fun e => absurd (own_type HO7.out.k (q := w.heap.size) (by rw [← e]; rfl) H57.out) (by decide)
        have hkS : kg ≠ W6.heap.size := fun e => absurd (own_type HO7.out.k (q := W6.heap.size) (by rw [← e]; rfl) hS7) (by decide)
        have hk8 : kg ≠ w.heap.size + 1 + 1 := fun e => absurd (own_type HO7.out.k (q := w.heap.size + 1 + 1) (by rw [← e]; rfl) H87.out) (by decide)
        have hcb := (HO7.out.c.lt cg rfl).1
        have hkb := (HO7.out.k.lt kg rfl).1
        have hkc : kg ≠ cg := fun e => own_apart HO7.out.k HO7.out.c (by decide) kg rfl (by rw [e]; rfl)
        obtain ⟨zz, hzz⟩ : ∃ zz, P.kids[i]? = some zz := ⟨_, List.getElem?_eq_getElem hlk⟩
        obtain ⟨c0, cf, cb⟩ := row_at HO7.out.c hzz rfl
        obtain ⟨pb, p0, p1, p2, p3, pf⟩ := Page4.facts H57.out
        obtain ⟨sb, s0, s1, s2, s3, sf⟩ := Split4.facts hS7
        have HS7 := Lib.hid hS7
        clear hm6 ht6 hg6 hn6 hs6 h56 h86 hO6 hM6 hm7 hS7 hzz H5Z H8Z HOPZ HMZ HTZ
        generalize hR2 : W6.heap.size = R at *
        cases two'
        · go_wp2_with fail
          go_upto_region 22 with fail
          refine at_world6 (P := Code.wp _ _ _ _) (fun X => ∃ Z, Mod (fun j => j = R) W7 Z ∧ X = Z.setCell ⟨cg, i, none⟩ (.int .i64 a')) ⟨_, (by (repeat (first | with_reducible exact Mod.refl _ _ | with_reducible refine Mod.drew ?_ | ((with_reducible refine Mod.setCell ?_ _ _ ?_); rotate_left; (intro _; rfl))))), rfl⟩ ?_
          rintro _ ⟨Z2, hmZ2, rfl⟩
          replace HO7 := Lib.hid (HO7.out.keep hmZ2 (fun q' _ e _ => ⟨_, _, _, e ▸ HS7.out, by decide, by decide⟩))
          replace H57 := Lib.hid ((hmZ2.block _ pb (fun e => by omega)).trans H57.out)
          replace H87 := Lib.hid ((hmZ2.block _ (lt_heap H87.out) (fun e => by omega)).trans H87.out)
          replace HT7 := Lib.hid (HT7.out.upd hmZ2 (fun e => by omega) (fun e => by omega))
          replace HM7 : Hid (Mod (fun j => j = l) w Z2) := HM7.out.trans hmZ2 (fun j hj e => by omega)
          clear hmZ2 HS7 s0 s1 s2 s3 sf sb p0 p1 p2 p3 pf pb c0 cf cb hW7
          have pb := lt_heap H57.out
          have hmS : Mod (fun j => j = cg) Z2 (Z2.setCell ⟨cg, i, none⟩ (.int .i64 a')) := (Mod.refl _ _).setCell _ _ (fun _ => rfl)
          have HO9 := Lib.hid (HO7.out.addC (cv' := .slice (some ⟨cg, 0, none⟩) P.kids.length c3) (cs' := P.kids.set i a') (by rw [List.length_set]; exact own_set_num a' HO7.out.c) (hmS.mono (fun j _ e => by rw [e]; rfl)))
          have H59 := Lib.hid ((hmS.block _ pb (fun e => hcP e.symm)).trans H57.out)
          have H89 := Lib.hid ((hmS.block _ (lt_heap H87.out) (fun e => hc8 e.symm)).trans H87.out)
          have HT9 := Lib.hid (HT7.out.upd hmS (fun e => by omega) (fun e => by omega))
          have HM9 : Hid (Mod (fun j => j = l ∨ base ≤ j) w (Z2.setCell ⟨cg, i, none⟩ (.int .i64 a'))) := (HM7.out.mono (fun _ _ h => .inl h)).trans hmS (fun j hj e => .inr (by omega))
          clear hmS HO7 H57 H87 HT7 HM7 pb
          generalize Z2.setCell ⟨cg, i, none⟩ (.int .i64 a') = Y9 at *
          obtain ⟨pb, p0, p1, p2, p3, pf⟩ := Page4.facts H59.out
          have HI1 : Hid (∀ X, Mod NoB Y9 X → Calls Tryz.prog 146 #[.slice (some ⟨kg, 0, none⟩) P.keys.length c1, .int .i64 i, .int .i64 (IntKind.i64.wrap ((i : Int) + 1))] X fun e w' => ∃ u, e = .returned u ∧ DelU base 9 (.slice (some ⟨kg, 0, none⟩) P.keys.length c1) P.keys.length ((P.keys.eraseIdx i).map txt) X u w') := fun X hX => by
            rw [show IntKind.i64.wrap ((i : Int) + 1) = (i : Int) + 1 from IntWalk.i64_in _ (by omega)]
            exact (DeleteS_calls (own_of_mod HO9.out.k hX (fun _ _ => id)) hil (by omega)).mono fun e w' h => h.fn
          have HI2 : Hid (∀ X, Mod (fun j => j = kg) Y9 X → Calls Tryz.prog 172 #[.slice (some ⟨cg, 0, none⟩) P.kids.length c3, .int .i64 (IntKind.i64.wrap ((i : Int) + 1)), .int .i64 (IntKind.i64.wrap ((i : Int) + 2))] X fun e w' => ∃ u, e = .returned u ∧ DelU base 3 (.slice (some ⟨cg, 0, none⟩) P.kids.length c3) P.kids.length (((P.kids.set i a').eraseIdx (i + 1)).map numV) X u w') := fun X hX => by
            rw [show IntKind.i64.wrap ((i : Int) + 1) = ((i + 1 : Nat) : Int) from (IntWalk.i64_in _ (by omega)).trans (by omega), show IntKind.i64.wrap ((i : Int) + 2) = ((i + 1 : Nat) : Int) + 1 from (IntWalk.i64_in _ (by omega)).trans (by omega)]
            have := DeleteI_calls (i := i + 1) (own_of_mod HO9.out.c hX (fun j hj e => hkc (e.symm.trans (Option.some.inj hj).symm))) (by rw [List.length_set, HKL.out]; omega) (by rw [List.length_set]; omega)
            rw [List.length_set] at this
            exact this.mono fun e w' h => h.fn
          refine wp_region_front (fun w' => w'.cell? ⟨w.heap.size, 1, none⟩ = some (.slice (some ⟨kg, 0, none⟩) P.keys.length c1) ∧ w'.cell? ⟨w.heap.size, 3, none⟩ = some (.slice (some ⟨cg, 0, none⟩) P.kids.length c3)) (notIn [14, 16]) (by kernel_rfl) ?_ (fun hHeld => ?_)
          · go_keep
          refine tkT 0 (v := ?_) ?_ hHeld ?_
          rotate_left
          · (intro _; simp only [ga, gz]; go_simp; try with_reducible rfl)
          simp only [Act.put, ga, gz, sb, sz, ss]
          refine tkL 1 (v := ?_) ?_ hHeld ?_
          rotate_left
          · (intro _ h; (try dsimp only at h); simp only [ga, gs, gz]; go_simp; try with_reducible rfl)
          simp only [Act.put, ga, gs, gz, sb, sz, ss]
          refine tkT 2 (v := ?_) ?_ hHeld ?_
          rotate_left
          · (intro _; simp only [ga, gs, gz]; go_simp; try with_reducible rfl)
          simp only [Act.put, ga, gs, gz, sb, sz, ss]
          refine tkT 3 (v := ?_) ?_ hHeld ?_
          rotate_left
          · (intro _; simp only [ga, gs, gz]; go_simp; try with_reducible rfl)
          simp only [Act.put, ga, gs, gz, sb, sz, ss]
          refine tkT 4 (v := ?_) ?_ hHeld ?_
          rotate_left
          · (intro _; simp only [ga, gs, gz]; go_simp; try with_reducible rfl)
          simp only [Act.put, ga, gs, gz, sb, sz, ss]
          refine tkT 6 (v := ?_) ?_ hHeld ?_
          rotate_left
          · (intro _; simp only [ga, gs, gz]; go_simp; try with_reducible rfl)
          simp only [Act.put, ga, gs, gz, sb, sz, ss]
          refine tkL 7 (v := ?_) ?_ hHeld ?_
          rotate_left
          · (intro _ h; (try dsimp only at h); simp only [ga, gs, gz]; go_simp; try with_reducible rfl)
          simp only [Act.put, ga, gs, gz, sb, sz, ss]
          refine tkT 8 (v := ?_) ?_ hHeld ?_
          rotate_left
          · (intro _; simp only [ga, gs, gz]; go_simp; try with_reducible rfl)
          simp only [Act.put, ga, gs, gz, sb, sz, ss]
          refine tkT 9 (v := ?_) ?_ hHeld ?_
          rotate_left
          · (intro _; simp only [ga, gs, gz]; go_simp; try with_reducible rfl)
          simp only [Act.put, ga, gs, gz, sb, sz, ss]
          refine tkT 10 (v := ?_) ?_ hHeld ?_
          rotate_left
          · (intro _; simp only [ga, gs, gz]; go_simp; try with_reducible rfl)
          simp only [Act.put, ga, gs, gz, sb, sz, ss]
          refine tkT 11 (v := ?_) ?_ hHeld ?_
          rotate_left
          · (intro _; simp only [ga, gs, gz]; go_simp; try with_reducible rfl)
          simp only [Act.put, ga, gs, gz, sb, sz, ss]
          refine allF [5] (mc (stF ?_) mn)
          intro K hK
          dsimp only [ga, gs, gz]
          rw [if_pos (by rfl)]
          refine wp_fn 146 (fun _ _ => by kernel_rfl) #[.tmp 115, .tmp 116, .tmp 118] #[77, 3, 3] rfl (vs := #[.slice (some ⟨kg, 0, none⟩) P.keys.length c1, .int .i64 i, .int .i64 (IntKind.i64.wrap ((i : Int) + 1))]) rfl (HI1.out _ QM.out) ?_
          rintro u X5 ⟨a5, c5, e5, rfl, ho5, hm5⟩
          cases e5
          have hM5 : Mod (fun j => j = kg) Y9 X5 := ((show Mod NoB Y9 _ from QM.out).mono (noB_sub _ _)).trans (hm5.mono (fun j _ e => (Option.some.inj e).symm)) (fun _ _ h => h)
          have h55 := (hM5.block _ pb (fun e => hkP e.symm)).trans H59.out
          obtain ⟨qb, q0, q1, q2, q3, qf⟩ := Page4.facts h55
          have HO5 := Lib.hid ((HO9.out.mod (show Mod NoB Y9 _ from QM.out)).addK (kv' := .slice (some ⟨kg, 0, none⟩) (P.keys.length - 1) c1) (ks' := P.keys.eraseIdx i) (by rw [List.length_eraseIdx_of_lt hil]; exact ho5) hm5 (.inl own_same))
          have HM5 : Hid (Mod (fun j => j = l ∨ base ≤ j) w X5) := HM9.out.trans hM5 (fun j hj e => .inr (by omega))
          have H85 := Lib.hid ((hM5.block _ (lt_heap H89.out) (fun e => hk8 e.symm)).trans H89.out)
          have HT5 := Lib.hid (HT9.out.upd hM5 (fun e => by omega) (fun e => by omega))
          refine hK _ _ (show_held ?_ (fun hHeld => ?_))
          · go_keep
          clear hK K
          simp only [Act.put, List.setIfInBounds_toArray, List.set_cons_zero, List.set_cons_succ]
          refine tkT 13 (v := ?_) ?_ hHeld ?_
          rotate_left
          · (intro _; simp only [ga, gs, gz]; go_simp; try with_reducible rfl)
          simp only [Act.put, ga, gs, gz, sb, sz, ss]
          refine allF [12] (mc (stF ?_) mn)
          intro K hK
          dsimp only [ga, gs, gz]
          rw [if_pos (by rfl)]
          refine wp_fn 172 (fun _ _ => by kernel_rfl) #[.tmp 121, .tmp 123, .tmp 125] #[38, 3, 3] rfl (vs := #[.slice (some ⟨cg, 0, none⟩) P.kids.length c3, .int .i64 (IntKind.i64.wrap ((i : Int) + 1)), .int .i64 (IntKind.i64.wrap ((i : Int) + 2))]) rfl (HI2.out _ (hM5.trans (show Mod NoB X5 _ from QM.out) (fun _ _ h => h.elim))) ?_
          rintro u X6 ⟨a6, c6, e6, rfl, ho6, hm6⟩
          cases e6
          have hM6 : Mod (fun j => j = cg) X5 X6 := ((show Mod NoB X5 _ from QM.out).mono (noB_sub _ _)).trans (hm6.mono (fun j _ e => (Option.some.inj e).symm)) (fun _ _ h => h)
          have h56 := (hM6.block _ qb (fun e => hcP e.symm)).trans h55
          obtain ⟨tb, t0, t1, t2, t3, tf⟩ := Page4.facts h56
          have HO6 := Lib.hid ((HO5.out.mod (show Mod NoB X5 _ from QM.out)).addC (cv' := .slice (some ⟨cg, 0, none⟩) (P.kids.length - 1) c3) (cs' := (P.kids.set i a').eraseIdx (i + 1)) (by rw [List.length_eraseIdx_of_lt (by rw [List.length_set, HKL.out]; omega), List.length_set]; exact ho6) hm6)
          have HM6 : Hid (Mod (fun j => j = l ∨ base ≤ j) w X6) := HM5.out.trans hM6 (fun j hj e => .inr (by omega))
          have H86 := Lib.hid ((hM6.block _ (lt_heap H85.out) (fun e => hc8 e.symm)).trans H85.out)
          have HT6 := Lib.hid (HT5.out.upd hM6 (fun e => by omega) (fun e => by omega))
          have H56 := Lib.hid h56
          clear ho5 ho6 hm5 hm6 h55 h56 hM5 hM6 HI1 HI2 HO5 HM5 H85 HT5 HO9 HM9 H89 H59 HT9
          refine hK _ _ (show_held ?_ (fun hHeld => ?_))
          · go_keep
          clear hK K
          simp only [Act.put, List.setIfInBounds_toArray, List.set_cons_zero, List.set_cons_succ]
          refine allF [14] (mc (stN ?_) mn)
          intro K hK
          dsimp only [ga, gs, gz]
          go_simp
          refine hK _ _ ?_
          clear hK K
          refine tkN 15 (v := ?_) ?_ ?_
          rotate_left
          · (intro _; simp only [ga, gs, gz]; go_simp; try with_reducible rfl)
          simp only [Act.put, ga, gs, gz, sb, sz, ss]
          refine allN [16] (mc (stK ?_) mn)
          intro K hK
          dsimp only [ga, gs, gz]
          go_simp
          refine hK _ _ ?_
          clear hK K
          refine wpAny_done (by kernel_rfl) ?_ _
          refine at_world6 (P := Exit.then _ _ _ _) (fun X => Mod (fun j => j = w.heap.size) X6 X ∧ X.heap[w.heap.size]? = some (.cells #[.bool false, .slice (some ⟨kg, 0, none⟩) (P.keys.length - 1) c1, .slice a2 P.vals.length c2, .slice (some ⟨cg, 0, none⟩) (P.kids.length - 1) c3] 130 (0, 0))) ⟨(by (repeat (first | with_reducible exact Mod.refl _ _ | with_reducible refine Mod.drew ?_ | ((with_reducible refine Mod.setCell ?_ _ _ ?_); rotate_left; (intro _; rfl))))), ?_⟩ ?_
          · simp only [heap_setCell, if_true, H56.out, Option.map_some, setAt_cells, List.setIfInBounds_toArray, List.set_cons_zero, List.set_cons_succ]
          rintro Y10 ⟨hmY, hPY⟩
          have HO10 := Lib.hid (HO6.out.keep hmY (fun q' _ e _ => ⟨_, _, _, e ▸ H56.out, by decide, by decide⟩))
          have H8Y := Lib.hid ((hmY.block _ (lt_heap H86.out) (fun e => by omega)).trans H86.out)
          have HM10 : Hid (Mod (fun j => j = l ∨ base ≤ j) w Y10) := HM6.out.trans hmY (fun j hj e => .inr (by omega))
          have HT10 := Lib.hid (HT6.out.upd hmY (fun e => by omega) (fun e => by omega))
          clear hmY HO6 H86 HM6 H56 HT6 p0 p1 p2 p3 pf pb q0 q1 q2 q3 qf qb t0 t1 t2 t3 tf tb
          obtain ⟨pb, p0, p1, p2, p3, pf⟩ := Page4.facts hPY
          obtain ⟨rb, r0, r1, r2, r3, rf⟩ := Page4.facts H8Y.out
          clear hPY
          go_wp2_with fail
          refine at_world6 (P := bodyPost _ _ _ _ _) (fun X => X.heap[w.heap.size + 1 + 1]? = some (.cells #[.bool false, .slice (some ⟨kg, 0, none⟩) (P.keys.length - 1) c1, .slice a2 P.vals.length c2, .slice (some ⟨cg, 0, none⟩) (P.kids.length - 1) c3] 130 (0, 0)) ∧ Mod (fun k => k = w.heap.size + 1 + 1) Y10 X) ?_ ?_
          · refine ⟨?_, ?_⟩
            · simp only [heap_setCell, if_true, H8Y.out, Option.map_some, setAt_cells, List.setIfInBounds_toArray, List.set_cons_zero, List.set_cons_succ]
            · repeat (first | with_reducible exact Mod.refl _ _ | ((with_reducible refine Mod.setCell ?_ _ _ ?_); rotate_left; (intro _; rfl)))
          · rintro XR ⟨hDX, hMX⟩
            obtain ⟨xb, x0, x1, x2, x3, xf⟩ := Page4.facts hDX
            refine bodyPost_ret (v := .tuple #[.agg #[.bool false, .slice (some ⟨kg, 0, none⟩) (P.keys.length - 1) c1, .slice a2 P.vals.length c2, .slice (some ⟨cg, 0, none⟩) (P.kids.length - 1) c3], .int .i64 0]) (by simp [results, Tryz.f147, go_sem, x0, x1, x2, x3]) rfl ?_
            exact mended_one HPL.out (HM10.out.trans hMX (fun j hj e => .inr (by omega))) (HT10.out.upd hMX (fun e => by omega) (fun e => by omega)) HG6.out HN6.out (HO10.out.keep hMX (fun q' _ e _ => ⟨_, _, _, e ▸ H8Y.out, by decide, by decide⟩)) HS6.out
        · go_wp2_with fail
          go_upto_region 20 with fail
          have hmS : Mod (fun j => j = cg) W7 (W7.setCell ⟨cg, i, none⟩ (.int .i64 a')) := (Mod.refl _ _).setCell _ _ (fun _ => rfl)
          have HO9 := Lib.hid (HO7.out.addC (cv' := .slice (some ⟨cg, 0, none⟩) P.kids.length c3) (cs' := P.kids.set i a') (by rw [List.length_set]; exact own_set_num a' HO7.out.c) (hmS.mono (fun j _ e => by rw [e]; rfl)))
          have H59 := Lib.hid ((hmS.block _ pb (fun e => hcP e.symm)).trans H57.out)
          have H89 := Lib.hid ((hmS.block _ (lt_heap H87.out) (fun e => hc8 e.symm)).trans H87.out)
          have HT9 := Lib.hid (HT7.out.upd hmS (fun e => by omega) (fun e => by omega))
          have HM9 : Hid (Mod (fun j => j = l ∨ base ≤ j) w (W7.setCell ⟨cg, i, none⟩ (.int .i64 a'))) := (HM7.out.mono (fun _ _ h => .inl h)).trans hmS (fun j hj e => .inr (by omega))
          have HS9 := Lib.hid ((hmS.block _ sb (fun e => hcS e.symm)).trans HS7.out)
          clear hmS HO7 H57 H87 HT7 HM7 HS7 s0 s1 s2 s3 sf sb p0 p1 p2 p3 pf pb c0 cf cb hW7
          generalize W7.setCell ⟨cg, i, none⟩ (.int .i64 a') = Y9 at *
          obtain ⟨pb, p0, p1, p2, p3, pf⟩ := Page4.facts H59.out
          obtain ⟨sb, s0, s1, s2, s3, sf⟩ := Split4.facts HS9.out
          have hwr1 : IntKind.i64.wrap ((i : Int) + 1) = ((i + 1 : Nat) : Int) := (IntWalk.i64_in _ (by omega)).trans (by omega)
          have hik : i + 1 < P.kids.length := by rw [HKL.out]; omega
          obtain ⟨zz, hzz⟩ : ∃ zz, (P.kids.set i a')[i + 1]? = some zz := ⟨_, List.getElem?_eq_getElem (by rw [List.length_set]; exact hik)⟩
          have hrc := HO9.out.c
          rw [List.length_set] at hrc
          obtain ⟨c0, cf, cb⟩ := row_at hrc hzz (by rw [List.length_set])
          clear hrc
          obtain ⟨k0, kf, kb⟩ := row_atS HO9.out.k HIS.out rfl
          clear hzz
          have hsl1 : (0 : Int) ≤ (i : Int) + 1 := by omega
          have hsl2 : (i : Int) + 1 < (P.kids.length : Int) := by omega
          have HTB := Lib.hid (set_both (i := i) (j := i + 1) HO9.out rfl (by rw [List.length_set]) kk b')
          refine wp_region_front (fun w' => w'.cell? ⟨w.heap.size, 1, none⟩ = some (.slice (some ⟨kg, 0, none⟩) P.keys.length c1) ∧ w'.cell? ⟨w.heap.size, 3, none⟩ = some (.slice (some ⟨cg, 0, none⟩) P.kids.length c3) ∧ w'.cell? ⟨R, 1, none⟩ = some (.int .i64 b') ∧ w'.cell? ⟨R, 2, none⟩ = some (.string ⟨kk.toArray⟩)) (notIn [12, 14]) (by kernel_rfl) ?_ (fun hHeld => ?_)
          · go_keep
          refine tkT 0 (v := ?_) ?_ hHeld ?_
          rotate_left
          · (intro _; simp only [ga, gz]; go_simp; try with_reducible rfl)
          simp only [Act.put, ga, gz, sb, sz, ss]
          refine tkL 1 (v := ?_) ?_ hHeld ?_
          rotate_left
          · (intro _ h; (try dsimp only at h); simp only [ga, gs, gz]; go_simp; try with_reducible rfl)
          simp only [Act.put, ga, gs, gz, sb, sz, ss]
          refine tkT 2 (v := ?_) ?_ hHeld ?_
          rotate_left
          · (intro _; simp only [ga, gs, gz]; go_simp; try with_reducible rfl)
          simp only [Act.put, ga, gs, gz, sb, sz, ss]
          refine tkT 3 (v := ?_) ?_ hHeld ?_
          rotate_left
          · (intro _; simp only [ga, gs, gz]; go_simp; try with_reducible rfl)
          simp only [Act.put, ga, gs, gz, sb, sz, ss]
          refine tkT 5 (v := ?_) ?_ hHeld ?_
          rotate_left
          · (intro _; simp only [ga, gs, gz]; go_simp; try with_reducible rfl)
          simp only [Act.put, ga, gs, gz, sb, sz, ss]
          refine tkT 6 (v := ?_) ?_ hHeld ?_
          rotate_left
          · (intro _; simp only [ga, gs, gz]; go_simp; try with_reducible rfl)
          simp only [Act.put, ga, gs, gz, sb, sz, ss]
          refine tkT 7 (v := ?_) ?_ hHeld ?_
          rotate_left
          · (intro _; simp only [ga, gs, gz]; go_simp; try with_reducible rfl)
          simp only [Act.put, ga, gs, gz, sb, sz, ss]
          refine tkL 8 (v := ?_) ?_ hHeld ?_
          rotate_left
          · (intro _ h; (try dsimp only at h); simp only [ga, gs, gz]; go_simp; try with_reducible rfl)
          simp only [Act.put, ga, gs, gz, sb, sz, ss]
          refine tkT 9 (v := ?_) ?_ hHeld ?_
          rotate_left
          · (intro _; simp only [ga, gs, gz]; go_simp; try with_reducible rfl)
          simp only [Act.put, ga, gs, gz, sb, sz, ss]
          refine tkT 11 (v := ?_) ?_ hHeld ?_
          rotate_left
          · (intro _; simp only [ga, gs, gz]; go_simp; try with_reducible rfl)
          simp only [Act.put, ga, gs, gz, sb, sz, ss]
          refine allF [4, 10, 12] (mc (stF ?_) (mc (stF ?_) (mc (stN ?_) mn)))
          · intro K hK
            dsimp only [ga, gs, gz]
            go_simp
            refine hK _ _ (show_held ?_ (fun hHeld => ?_))
            · go_keep
            clear hK K
            refine allF [10, 12] (mc (stF ?_) (mc (stN ?_) mn))
            · intro K hK
              dsimp only [ga, gs, gz]
              go_simp
              refine hK _ _ (show_held ?_ (fun hHeld => ?_))
              · go_keep
              clear hK K
              refine allF [12] (mc (stN ?_) mn)
              intro K hK
              dsimp only [ga, gs, gz]
              go_simp
              refine hK _ _ ?_
              clear hK K
              refine tkN 13 (v := ?_) ?_ ?_
              rotate_left
              · (intro _; simp only [ga, gs, gz]; go_simp; try with_reducible rfl)
              simp only [Act.put, ga, gs, gz, sb, sz, ss]
              refine allN [14] (mc (stK ?_) mn)
              intro K hK
              dsimp only [ga, gs, gz]
              go_simp
              refine hK _ _ ?_
              clear hK K
              refine wpAny_done (by kernel_rfl) ?_ _
              refine at_world6 (P := Exit.then _ _ _ _) (fun X => PgOwn X base (.slice (some ⟨kg, 0, none⟩) P.keys.length c1) (.slice a2 P.vals.length c2) (.slice (some ⟨cg, 0, none⟩) P.kids.length c3) (P.keys.set i kk) P.vals ((P.kids.set i a').set (i + 1) b') ∧ Mod (fun q => q = kg ∨ q = cg) Y9 X) (by first | exact HTB.out | exact ⟨HTB.out.1.mod (Mod.drew (Mod.refl _ _)), Mod.drew HTB.out.2⟩) ?_
              clear HTB c0 cf cb k0 kf kb s0 s1 s2 s3 sf sb p0 p1 p2 p3 pf
              rintro Y10 ⟨hO10, hmY⟩
              have HO10 := Lib.hid hO10
              have hPY := (hmY.block _ pb (fun e => e.elim (fun e => hkP e.symm) (fun e => hcP e.symm))).trans H59.out
              have H8Y := Lib.hid ((hmY.block _ (lt_heap H89.out) (fun e => e.elim (fun e => hk8 e.symm) (fun e => hc8 e.symm))).trans H89.out)
              have HM10 : Hid (Mod (fun j => j = l ∨ base ≤ j) w Y10) := HM9.out.trans hmY (fun j hj e => .inr (by omega))
              have HT10 := Lib.hid (HT9.out.upd hmY (fun e => by omega) (fun e => by omega))
              clear hmY HO9 H89 HM9 H59 HT9 HS9 hO10 pb
              obtain ⟨pb, p0, p1, p2, p3, pf⟩ := Page4.facts hPY
              obtain ⟨rb, r0, r1, r2, r3, rf⟩ := Page4.facts H8Y.out
              clear hPY
              go_wp2_with fail
              refine at_world6 (P := bodyPost _ _ _ _ _) (fun X => X.heap[w.heap.size + 1 + 1]? = some (.cells #[.bool false, .slice (some ⟨kg, 0, none⟩) P.keys.length c1, .slice a2 P.vals.length c2, .slice (some ⟨cg, 0, none⟩) P.kids.length c3] 130 (0, 0)) ∧ Mod (fun k => k = w.heap.size + 1 + 1) Y10 X) ?_ ?_
              · refine ⟨?_, ?_⟩
                · simp only [heap_setCell, if_true, H8Y.out, Option.map_some, setAt_cells, List.setIfInBounds_toArray, List.set_cons_zero, List.set_cons_succ]
                · repeat (first | with_reducible exact Mod.refl _ _ | ((with_reducible refine Mod.setCell ?_ _ _ ?_); rotate_left; (intro _; rfl)))
              · rintro XR ⟨hDX, hMX⟩
                obtain ⟨xb, x0, x1, x2, x3, xf⟩ := Page4.facts hDX
                refine bodyPost_ret (v := .tuple #[.agg #[.bool false, .slice (some ⟨kg, 0, none⟩) P.keys.length c1, .slice a2 P.vals.length c2, .slice (some ⟨cg, 0, none⟩) P.kids.length c3], .int .i64 0]) (by simp [results, Tryz.f147, go_sem, x0, x1, x2, x3]) rfl ?_
                exact mended_two HPL.out (HM10.out.trans hMX (fun j hj e => .inr (by omega))) (HT10.out.upd hMX (fun e => by omega) (fun e => by omega)) HG6.out HN6.out (HO10.out.keep hMX (fun q' _ e _ => ⟨_, _, _, e ▸ H8Y.out, by decide, by decide⟩)) HS6.out
            · intro K hK
              dsimp only [ga, gs, gz]
              go_simp
              refine hK _ _ ?_
              clear hK K
              refine allN [10] (mc (stK ?_) mn)
              intro K hK
              dsimp only [ga, gs, gz]
              go_simp
              refine hK _ _ ?_
              clear hK K
              refine tkN 13 (v := ?_) ?_ ?_
              rotate_left
              · (intro _; simp only [ga, gs, gz]; go_simp; try with_reducible rfl)
              simp only [Act.put, ga, gs, gz, sb, sz, ss]
              refine allN [14] (mc (stK ?_) mn)
              intro K hK
              dsimp only [ga, gs, gz]
              go_simp
              refine hK _ _ ?_
              clear hK K
              refine wpAny_done (by kernel_rfl) ?_ _
              refine at_world6 (P := Exit.then _ _ _ _) (fun X => PgOwn X base (.slice (some ⟨kg, 0, none⟩) P.keys.length c1) (.slice a2 P.vals.length c2) (.slice (some ⟨cg, 0, none⟩) P.kids.length c3) (P.keys.set i kk) P.vals ((P.kids.set i a').set (i + 1) b') ∧ Mod (fun q => q = kg ∨ q = cg) Y9 X) (by first | exact HTB.out | exact ⟨HTB.out.1.mod (Mod.drew (Mod.refl _ _)), Mod.drew HTB.out.2⟩) ?_
              clear HTB c0 cf cb k0 kf kb s0 s1 s2 s3 sf sb p0 p1 p2 p3 pf
              rintro Y10 ⟨hO10, hmY⟩
              have HO10 := Lib.hid hO10
              have hPY := (hmY.block _ pb (fun e => e.elim (fun e => hkP e.symm) (fun e => hcP e.symm))).trans H59.out
              have H8Y := Lib.hid ((hmY.block _ (lt_heap H89.out) (fun e => e.elim (fun e => hk8 e.symm) (fun e => hc8 e.symm))).trans H89.out)
              have HM10 : Hid (Mod (fun j => j = l ∨ base ≤ j) w Y10) := HM9.out.trans hmY (fun j hj e => .inr (by omega))
              have HT10 := Lib.hid (HT9.out.upd hmY (fun e => by omega) (fun e => by omega))
              clear hmY HO9 H89 HM9 H59 HT9 HS9 hO10 pb
              obtain ⟨pb, p0, p1, p2, p3, pf⟩ := Page4.facts hPY
              obtain ⟨rb, r0, r1, r2, r3, rf⟩ := Page4.facts H8Y.out
              clear hPY
              go_wp2_with fail
              refine at_world6 (P := bodyPost _ _ _ _ _) (fun X => X.heap[w.heap.size + 1 + 1]? = some (.cells #[.bool false, .slice (some ⟨kg, 0, none⟩) P.keys.length c1, .slice a2 P.vals.length c2, .slice (some ⟨cg, 0, none⟩) P.kids.length c3] 130 (0, 0)) ∧ Mod (fun k => k = w.heap.size + 1 + 1) Y10 X) ?_ ?_
              · refine ⟨?_, ?_⟩
                · simp only [heap_setCell, if_true, H8Y.out, Option.map_some, setAt_cells, List.setIfInBounds_toArray, List.set_cons_zero, List.set_cons_succ]
                · repeat (first | with_reducible exact Mod.refl _ _ | ((with_reducible refine Mod.setCell ?_ _ _ ?_); rotate_left; (intro _; rfl)))
              · rintro XR ⟨hDX, hMX⟩
                obtain ⟨xb, x0, x1, x2, x3, xf⟩ := Page4.facts hDX
                refine bodyPost_ret (v := .tuple #[.agg #[.bool false, .slice (some ⟨kg, 0, none⟩) P.keys.length c1, .slice a2 P.vals.length c2, .slice (some ⟨cg, 0, none⟩) P.kids.length c3], .int .i64 0]) (by simp [results, Tryz.f147, go_sem, x0, x1, x2, x3]) rfl ?_
                exact mended_two HPL.out (HM10.out.trans hMX (fun j hj e => .inr (by omega))) (HT10.out.upd hMX (fun e => by omega) (fun e => by omega)) HG6.out HN6.out (HO10.out.keep hMX (fun q' _ e _ => ⟨_, _, _, e ▸ H8Y.out, by decide, by decide⟩)) HS6.out
          · intro K hK
            dsimp only [ga, gs, gz]
            go_simp
            refine hK _ _ (show_held ?_ (fun hHeld => ?_))
            · go_keep
            clear hK K
            refine allF [4, 12] (mc (stF ?_) (mc (stN ?_) mn))
            · intro K hK
              dsimp only [ga, gs, gz]
              go_simp
              refine hK _ _ (show_held ?_ (fun hHeld => ?_))
              · go_keep
              clear hK K
              refine allF [12] (mc (stN ?_) mn)
              intro K hK
              dsimp only [ga, gs, gz]
              go_simp
              refine hK _ _ ?_
              clear hK K
              refine tkN 13 (v := ?_) ?_ ?_
              rotate_left
              · (intro _; simp only [ga, gs, gz]; go_simp; try with_reducible rfl)
              simp only [Act.put, ga, gs, gz, sb, sz, ss]
              refine allN [14] (mc (stK ?_) mn)
              intro K hK
              dsimp only [ga, gs, gz]
              go_simp
              refine hK _ _ ?_
              clear hK K
              refine wpAny_done (by kernel_rfl) ?_ _
              refine at_world6 (P := Exit.then _ _ _ _) (fun X => PgOwn X base (.slice (some ⟨kg, 0, none⟩) P.keys.length c1) (.slice a2 P.vals.length c2) (.slice (some ⟨cg, 0, none⟩) P.kids.length c3) (P.keys.set i kk) P.vals ((P.kids.set i a').set (i + 1) b') ∧ Mod (fun q => q = kg ∨ q = cg) Y9 X) (by first | exact HTB.out | exact ⟨HTB.out.1.mod (Mod.drew (Mod.refl _ _)), Mod.drew HTB.out.2⟩) ?_
              clear HTB c0 cf cb k0 kf kb s0 s1 s2 s3 sf sb p0 p1 p2 p3 pf
              rintro Y10 ⟨hO10, hmY⟩
              have HO10 := Lib.hid hO10
              have hPY := (hmY.block _ pb (fun e => e.elim (fun e => hkP e.symm) (fun e => hcP e.symm))).trans H59.out
              have H8Y := Lib.hid ((hmY.block _ (lt_heap H89.out) (fun e => e.elim (fun e => hk8 e.symm) (fun e => hc8 e.symm))).trans H89.out)
              have HM10 : Hid (Mod (fun j => j = l ∨ base ≤ j) w Y10) := HM9.out.trans hmY (fun j hj e => .inr (by omega))
              have HT10 := Lib.hid (HT9.out.upd hmY (fun e => by omega) (fun e => by omega))
              clear hmY HO9 H89 HM9 H59 HT9 HS9 hO10 pb
              obtain ⟨pb, p0, p1, p2, p3, pf⟩ := Page4.facts hPY
              obtain ⟨rb, r0, r1, r2, r3, rf⟩ := Page4.facts H8Y.out
              clear hPY
              go_wp2_with fail
              refine at_world6 (P := bodyPost _ _ _ _ _) (fun X => X.heap[w.heap.size + 1 + 1]? = some (.cells #[.bool false, .slice (some ⟨kg, 0, none⟩) P.keys.length c1, .slice a2 P.vals.length c2, .slice (some ⟨cg, 0, none⟩) P.kids.length c3] 130 (0, 0)) ∧ Mod (fun k => k = w.heap.size + 1 + 1) Y10 X) ?_ ?_
              · refine ⟨?_, ?_⟩
                · simp only [heap_setCell, if_true, H8Y.out, Option.map_some, setAt_cells, List.setIfInBounds_toArray, List.set_cons_zero, List.set_cons_succ]
                · repeat (first | with_reducible exact Mod.refl _ _ | ((with_reducible refine Mod.setCell ?_ _ _ ?_); rotate_left; (intro _; rfl)))
              · rintro XR ⟨hDX, hMX⟩
                obtain ⟨xb, x0, x1, x2, x3, xf⟩ := Page4.facts hDX
                refine bodyPost_ret (v := .tuple #[.agg #[.bool false, .slice (some ⟨kg, 0, none⟩) P.keys.length c1, .slice a2 P.vals.length c2, .slice (some ⟨cg, 0, none⟩) P.kids.length c3], .int .i64 0]) (by simp [results, Tryz.f147, go_sem, x0, x1, x2, x3]) rfl ?_
                exact mended_two HPL.out (HM10.out.trans hMX (fun j hj e => .inr (by omega))) (HT10.out.upd hMX (fun e => by omega) (fun e => by omega)) HG6.out HN6.out (HO10.out.keep hMX (fun q' _ e _ => ⟨_, _, _, e ▸ H8Y.out, by decide, by decide⟩)) HS6.out
            · intro K hK
              dsimp only [ga, gs, gz]
              go_simp
              refine hK _ _ ?_
              clear hK K
              refine allN [4] (mc (stK ?_) mn)
              intro K hK
              dsimp only [ga, gs, gz]
              go_simp
              refine hK _ _ ?_
              clear hK K
              refine tkN 13 (v := ?_) ?_ ?_
              rotate_left
              · (intro _; simp only [ga, gs, gz]; go_simp; try with_reducible rfl)
              simp only [Act.put, ga, gs, gz, sb, sz, ss]
              refine allN [14] (mc (stK ?_) mn)
              intro K hK
              dsimp only [ga, gs, gz]
              go_simp
              refine hK _ _ ?_
              clear hK K
              refine wpAny_done (by kernel_rfl) ?_ _
              refine at_world6 (P := Exit.then _ _ _ _) (fun X => PgOwn X base (.slice (some ⟨kg, 0, none⟩) P.keys.length c1) (.slice a2 P.vals.length c2) (.slice (some ⟨cg, 0, none⟩) P.kids.length c3) (P.keys.set i kk) P.vals ((P.kids.set i a').set (i + 1) b') ∧ Mod (fun q => q = kg ∨ q = cg) Y9 X) (by first | exact HTB.out | exact ⟨HTB.out.1.mod (Mod.drew (Mod.refl _ _)), Mod.drew HTB.out.2⟩) ?_
              clear HTB c0 cf cb k0 kf kb s0 s1 s2 s3 sf sb p0 p1 p2 p3 pf
              rintro Y10 ⟨hO10, hmY⟩
              have HO10 := Lib.hid hO10
              have hPY := (hmY.block _ pb (fun e => e.elim (fun e => hkP e.symm) (fun e => hcP e.symm))).trans H59.out
              have H8Y := Lib.hid ((hmY.block _ (lt_heap H89.out) (fun e => e.elim (fun e => hk8 e.symm) (fun e => hc8 e.symm))).trans H89.out)
              have HM10 : Hid (Mod (fun j => j = l ∨ base ≤ j) w Y10) := HM9.out.trans hmY (fun j hj e => .inr (by omega))
              have HT10 := Lib.hid (HT9.out.upd hmY (fun e => by omega) (fun e => by omega))
              clear hmY HO9 H89 HM9 H59 HT9 HS9 hO10 pb
              obtain ⟨pb, p0, p1, p2, p3, pf⟩ := Page4.facts hPY
              obtain ⟨rb, r0, r1, r2, r3, rf⟩ := Page4.facts H8Y.out
              clear hPY
              go_wp2_with fail
              refine at_world6 (P := bodyPost _ _ _ _ _) (fun X => X.heap[w.heap.size + 1 + 1]? = some (.cells #[.bool false, .slice (some ⟨kg, 0, none⟩) P.keys.length c1, .slice a2 P.vals.length c2, .slice (some ⟨cg, 0, none⟩) P.kids.length c3] 130 (0, 0)) ∧ Mod (fun k => k = w.heap.size + 1 + 1) Y10 X) ?_ ?_
              · refine ⟨?_, ?_⟩
                · simp only [heap_setCell, if_true, H8Y.out, Option.map_some, setAt_cells, List.setIfInBounds_toArray, List.set_cons_zero, List.set_cons_succ]
                · repeat (first | with_reducible exact Mod.refl _ _ | ((with_reducible refine Mod.setCell ?_ _ _ ?_); rotate_left; (intro _; rfl)))
              · rintro XR ⟨hDX, hMX⟩
                obtain ⟨xb, x0, x1, x2, x3, xf⟩ := Page4.facts hDX
                refine bodyPost_ret (v := .tuple #[.agg #[.bool false, .slice (some ⟨kg, 0, none⟩) P.keys.length c1, .slice a2 P.vals.length c2, .slice (some ⟨cg, 0, none⟩) P.kids.length c3], .int .i64 0]) (by simp [results, Tryz.f147, go_sem, x0, x1, x2, x3]) rfl ?_
                exact mended_two HPL.out (HM10.out.trans hMX (fun j hj e => .inr (by omega))) (HT10.out.upd hMX (fun e => by omega) (fun e => by omega)) HG6.out HN6.out (HO10.out.keep hMX (fun q' _ e _ => ⟨_, _, _, e ▸ H8Y.out, by decide, by decide⟩)) HS6.out
          · intro K hK
            dsimp only [ga, gs, gz]
            go_simp
            refine hK _ _ ?_
            clear hK K
            refine allN [4, 10] (mc (stK ?_) (mc (stK ?_) mn))
            · intro K hK
              dsimp only [ga, gs, gz]
              go_simp
              refine hK _ _ ?_
              clear hK K
              refine allN [10] (mc (stK ?_) mn)
              intro K hK
              dsimp only [ga, gs, gz]
              go_simp
              refine hK _ _ ?_
              clear hK K
              refine tkN 13 (v := ?_) ?_ ?_
              rotate_left
              · (intro _; simp only [ga, gs, gz]; go_simp; try with_reducible rfl)
              simp only [Act.put, ga, gs, gz, sb, sz, ss]
              refine allN [14] (mc (stK ?_) mn)
              intro K hK
              dsimp only [ga, gs, gz]
              go_simp
              refine hK _ _ ?_
              clear hK K
              refine wpAny_done (by kernel_rfl) ?_ _
              refine at_world6 (P := Exit.then _ _ _ _) (fun X => PgOwn X base (.slice (some ⟨kg, 0, none⟩) P.keys.length c1) (.slice a2 P.vals.length c2) (.slice (some ⟨cg, 0, none⟩) P.kids.length c3) (P.keys.set i kk) P.vals ((P.kids.set i a').set (i + 1) b') ∧ Mod (fun q => q = kg ∨ q = cg) Y9 X) (by first | exact HTB.out | exact ⟨HTB.out.1.mod (Mod.drew (Mod.refl _ _)), Mod.drew HTB.out.2⟩) ?_
              clear HTB c0 cf cb k0 kf kb s0 s1 s2 s3 sf sb p0 p1 p2 p3 pf
              rintro Y10 ⟨hO10, hmY⟩
              have HO10 := Lib.hid hO10
              have hPY := (hmY.block _ pb (fun e => e.elim (fun e => hkP e.symm) (fun e => hcP e.symm))).trans H59.out
              have H8Y := Lib.hid ((hmY.block _ (lt_heap H89.out) (fun e => e.elim (fun e => hk8 e.symm) (fun e => hc8 e.symm))).trans H89.out)
              have HM10 : Hid (Mod (fun j => j = l ∨ base ≤ j) w Y10) := HM9.out.trans hmY (fun j hj e => .inr (by omega))
              have HT10 := Lib.hid (HT9.out.upd hmY (fun e => by omega) (fun e => by omega))
              clear hmY HO9 H89 HM9 H59 HT9 HS9 hO10 pb
              obtain ⟨pb, p0, p1, p2, p3, pf⟩ := Page4.facts hPY
              obtain ⟨rb, r0, r1, r2, r3, rf⟩ := Page4.facts H8Y.out
              clear hPY
              go_wp2_with fail
              refine at_world6 (P := bodyPost _ _ _ _ _) (fun X => X.heap[w.heap.size + 1 + 1]? = some (.cells #[.bool false, .slice (some ⟨kg, 0, none⟩) P.keys.length c1, .slice a2 P.vals.length c2, .slice (some ⟨cg, 0, none⟩) P.kids.length c3] 130 (0, 0)) ∧ Mod (fun k => k = w.heap.size + 1 + 1) Y10 X) ?_ ?_
              · refine ⟨?_, ?_⟩
                · simp only [heap_setCell, if_true, H8Y.out, Option.map_some, setAt_cells, List.setIfInBounds_toArray, List.set_cons_zero, List.set_cons_succ]
                · repeat (first | with_reducible exact Mod.refl _ _ | ((with_reducible refine Mod.setCell ?_ _ _ ?_); rotate_left; (intro _; rfl)))
              · rintro XR ⟨hDX, hMX⟩
                obtain ⟨xb, x0, x1, x2, x3, xf⟩ := Page4.facts hDX
                refine bodyPost_ret (v := .tuple #[.agg #[.bool false, .slice (some ⟨kg, 0, none⟩) P.keys.length c1, .slice a2 P.vals.length c2, .slice (some ⟨cg, 0, none⟩) P.kids.length c3], .int .i64 0]) (by simp [results, Tryz.f147, go_sem, x0, x1, x2, x3]) rfl ?_
                exact mended_two HPL.out (HM10.out.trans hMX (fun j hj e => .inr (by omega))) (HT10.out.upd hMX (fun e => by omega) (fun e => by omega)) HG6.out HN6.out (HO10.out.keep hMX (fun q' _ e _ => ⟨_, _, _, e ▸ H8Y.out, by decide, by decide⟩)) HS6.out
            · intro K hK
              dsimp only [ga, gs, gz]
              go_simp
              refine hK _ _ ?_
              clear hK K
              refine allN [4] (mc (stK ?_) mn)
              intro K hK
              dsimp only [ga, gs, gz]
              go_simp
              refine hK _ _ ?_
              clear hK K
              refine tkN 13 (v := ?_) ?_ ?_
              rotate_left
              · (intro _; simp only [ga, gs, gz]; go_simp; try with_reducible rfl)
              simp only [Act.put, ga, gs, gz, sb, sz, ss]
              refine allN [14] (mc (stK ?_) mn)
              intro K hK
              dsimp only [ga, gs, gz]
              go_simp
              refine hK _ _ ?_
              clear hK K
              refine wpAny_done (by kernel_rfl) ?_ _
              refine at_world6 (P := Exit.then _ _ _ _) (fun X => PgOwn X base (.slice (some ⟨kg, 0, none⟩) P.keys.length c1) (.slice a2 P.vals.length c2) (.slice (some ⟨cg, 0, none⟩) P.kids.length c3) (P.keys.set i kk) P.vals ((P.kids.set i a').set (i + 1) b') ∧ Mod (fun q => q = kg ∨ q = cg) Y9 X) (by first | exact HTB.out | exact ⟨HTB.out.1.mod (Mod.drew (Mod.refl _ _)), Mod.drew HTB.out.2⟩) ?_
              clear HTB c0 cf cb k0 kf kb s0 s1 s2 s3 sf sb p0 p1 p2 p3 pf
              rintro Y10 ⟨hO10, hmY⟩
              have HO10 := Lib.hid hO10
              have hPY := (hmY.block _ pb (fun e => e.elim (fun e => hkP e.symm) (fun e => hcP e.symm))).trans H59.out
              have H8Y := Lib.hid ((hmY.block _ (lt_heap H89.out) (fun e => e.elim (fun e => hk8 e.symm) (fun e => hc8 e.symm))).trans H89.out)
              have HM10 : Hid (Mod (fun j => j = l ∨ base ≤ j) w Y10) := HM9.out.trans hmY (fun j hj e => .inr (by omega))
              have HT10 := Lib.hid (HT9.out.upd hmY (fun e => by omega) (fun e => by omega))
              clear hmY HO9 H89 HM9 H59 HT9 HS9 hO10 pb
              obtain ⟨pb, p0, p1, p2, p3, pf⟩ := Page4.facts hPY
              obtain ⟨rb, r0, r1, r2, r3, rf⟩ := Page4.facts H8Y.out
              clear hPY
              go_wp2_with fail
              refine at_world6 (P := bodyPost _ _ _ _ _) (fun X => X.heap[w.heap.size + 1 + 1]? = some (.cells #[.bool false, .slice (some ⟨kg, 0, none⟩) P.keys.length c1, .slice a2 P.vals.length c2, .slice (some ⟨cg, 0, none⟩) P.kids.length c3] 130 (0, 0)) ∧ Mod (fun k => k = w.heap.size + 1 + 1) Y10 X) ?_ ?_
              · refine ⟨?_, ?_⟩
                · simp only [heap_setCell, if_true, H8Y.out, Option.map_some, setAt_cells, List.setIfInBounds_toArray, List.set_cons_zero, List.set_cons_succ]
                · repeat (first | with_reducible exact Mod.refl _ _ | ((with_reducible refine Mod.setCell ?_ _ _ ?_); rotate_left; (intro _; rfl)))
              · rintro XR ⟨hDX, hMX⟩
                obtain ⟨xb, x0, x1, x2, x3, xf⟩ := Page4.facts hDX
                refine bodyPost_ret (v := .tuple #[.agg #[.bool false, .slice (some ⟨kg, 0, none⟩) P.keys.length c1, .slice a2 P.vals.length c2, .slice (some ⟨cg, 0, none⟩) P.kids.length c3], .int .i64 0]) (by simp [results, Tryz.f147, go_sem, x0, x1, x2, x3]) rfl ?_
                exact mended_two HPL.out (HM10.out.trans hMX (fun j hj e => .inr (by omega))) (HT10.out.upd hMX (fun e => by omega) (fun e => by omega)) HG6.out HN6.out (HO10.out.keep hMX (fun q' _ e _ => ⟨_, _, _, e ▸ H8Y.out, by decide, by decide⟩)) HS6.out

end Go.Proofs.YtgofngilfdnakaaGreat
