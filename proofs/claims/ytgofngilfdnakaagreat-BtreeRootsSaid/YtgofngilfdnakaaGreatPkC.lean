/-
  This text proves what the package btree's del does at a node, if it does so below and mend does what it must; under bounds on lengths.
  This text proves what the package btree's del does at a node below which the key is not there; under bounds on lengths.
-/
import Derived.Test.YtgofngilfdnakaaGreatPkB

namespace Go.Proofs.YtgofngilfdnakaaGreat
open Go Go.RowKit
set_option linter.unusedSimpArgs false
attribute [local go_sem] over_cell over_frozen lt_over le_over noB loudUpon ByteArray.mk_append_mk ByteArray.extract_mk

/-- What mend leaves, as del needs it. -/
def Mends (w : World) (t l p base : Nat) (root : Int) (g : Lg) (n d : Nat) (lo : Str) (hi : Option Str) (N : Files) (e : Ending) (w' : World) : Prop :=
  ∃ q kv vv cv g', e = .returned (.tuple #[pageV q kv vv cv, .int .i64 0]) ∧ Mod (fun j => j = l ∨ base ≤ j) w w' ∧ TL w' t l p g' root ∧ Grew g g' ∧ g'.wait.length ≤ g.wait.length + 140200 ∧
    PgOwn w' base kv vv cv q.keys q.vals q.kids ∧ RepP (rdG g') (d + 1) q lo hi N ∧ n ≤ q.keys.length + 1 ∧ q.keys.length ≤ n
theorem deled_n {a b c d : Nat} (h : b ≤ a + 140200 * d) (hn : c ≤ b + 140200) : c ≤ a + 140200 * (d + 1) := by
  rw [Nat.mul_add, Nat.mul_one]
  exact sum3 h hn
theorem Small.deled {g g' : Lg} {d : Nat} (h : Small g (d + 2)) (hg : Grew g g') (hn : g'.wait.length ≤ g.wait.length + 140200 * d) : Small g' 1 :=
  h.grown hg (Nat.le_trans hn (Nat.add_le_add_left (Nat.mul_le_mul_left _ (Nat.le_succ _)) _))

theorem deled_of {w w' : World} {t l p n m d base : Nat} {root : Int} {g g' : Lg} {q : Pg} {lo : Str} {hi : Option Str} {M : Files} {b : Bool} {kv vv cv : Value} (hl : q.leaf = b) (hm : Mod (fun k => k = l) w w') (ht : TL w' t l p g' root) (hg : Grew g g') (hn : g'.wait.length ≤ g.wait.length + n) (ho : PgOwn w' base kv vv cv q.keys q.vals q.kids) (hb : w.heap.size ≤ base)
    (hr : RepP (rdG g') d q lo hi M) (h1 : m ≤ q.keys.length + 1) (h8 : q.keys.length ≤ 8) : Deled w t l p root g n m d lo hi M (.returned (.tuple #[.agg #[.bool b, kv, vv, cv], .int .i64 0])) w' := by
  refine ⟨q, kv, vv, cv, g', ?_, hm, ht, hg, hn, ho.base hb, hr, h1, h8⟩
  unfold pageV
  rw [hl]
/-- A kid is laid anew. -/
theorem set_one {Y : World} {base cg i m c3 : Nat} {kv vv : Value} {ks vs : List Str} {cs : List Nat} (h : PgOwn Y base kv vv (.slice (some ⟨cg, 0, none⟩) m c3) ks vs cs) (hm : cs.length = m) (b : Nat) :
    PgOwn (Y.setCell ⟨cg, i, none⟩ (.int .i64 b)) base kv vv (.slice (some ⟨cg, 0, none⟩) m c3) ks vs (cs.set i b) ∧ Mod (fun q => q = cg) Y (Y.setCell ⟨cg, i, none⟩ (.int .i64 b)) := by
  subst hm
  exact ⟨h.addC (by rw [List.length_set]; exact own_set_num b h.c) ((Mod.refl _ _).setCell _ _ (fun _ => rfl)), (Mod.refl _ _).setCell _ _ (fun _ => rfl)⟩

set_option maxRecDepth 100000 in
set_option maxHeartbeats 12800000 in
theorem del_walk (t l p k m d i x : Nat) (g : Lg) (root : Int) (q : Pg) (key : Str) (lo : Str) (hi : Option Str) (lo' : Str) (hi' : Option Str) (M2 N : Files) (w : World) (h : TL w t l p g root) (hq : rdG g k q) (hlf : q.leaf = false) (h8 : q.keys.length ≤ 8) (hm : m ≤ q.keys.length)
    (hkn : q.kids.length = q.keys.length + 1) (hfi : kKid q.keys key = i) (hx : q.kids[i]? = some x) (hs : Small g (d + 2))
    (HI : ∀ X : World, TL X t l p g root → Calls Tryz.prog 108 #[.pointer (some ⟨t, 0, none⟩), .int .i64 x, .string ⟨key.toArray⟩] X (Deled X t l p root g (140200 * d) 4 d lo' hi' M2))
    (HF : ∀ (g1 : Lg) (r : Nat), Grew g g1 → Rep (rdG g1) 4 d r lo' hi' M2 → RepP (rdG g1) (d + 1) { q with kids := q.kids.set i r } lo hi N)
    (HMD : ∀ (X : World) (base : Nat) (g1 : Lg) (kv vv cv ok ov oc : Value) (o : Pg), TL X t l p g1 root → Grew g g1 → Small g1 1 → PgOwn X base kv vv cv q.keys q.vals q.kids → PgIn X ok ov oc o → RepP (rdG g1) d o lo' hi' M2 → o.keys.length = 3 → l < base → t < base → base ≤ X.heap.size →
      Calls Tryz.prog 147 #[.pointer (some ⟨t, 0, none⟩), pageV q kv vv cv, .int .i64 i, pageV o ok ov oc] X (Mends X t l p base root g1 q.keys.length d lo hi N)) :
    Calls Tryz.prog 108 #[.pointer (some ⟨t, 0, none⟩), .int .i64 k, .string ⟨key.toArray⟩] w (Deled w t l p root g (140200 * (d + 1)) m (d + 1) lo hi N) := by
  have hs0 : Small g 0 := hs.zero
  have hpg := hq.1
  obtain ⟨W1, hW1⟩ : ∃ W1, w.alloc (.cells #[.bool false, .slice none 0 0, .slice none 0 0, .slice none 0 0] 130) = W1 := ⟨_, rfl⟩
  have hm1 : Mod NoB w W1 := by rw [← hW1]; exact (Mod.refl _ _).alloc _
  have hR1 : W1.heap[w.heap.size]? = some (.cells #[.bool false, .slice none 0 0, .slice none 0 0, .slice none 0 0] 130 (0, 0)) := by rw [← hW1]; exact heap_alloc_new _ _
  have HTL : Hid (t < w.heap.size) := lt_heap h.tree
  have HLL : Hid (l < w.heap.size) := lt_heap h.log
  have HT := Lib.hid (fun X (hX : Mod NoB w X) => h.mod hX)
  have HLD := Lib.hid (load_calls t l p g root k q W1 (h.mod hm1) hq hs0)
  have HIX := Lib.hid HI
  have HFX := Lib.hid HF
  have HMX := Lib.hid HMD
  have HM1 := Lib.hid hm1
  have HR1 := Lib.hid hR1
  have HPG := Lib.hid hpg
  unfold pageV at HLD HMX
  rw [hlf] at HLD HMX
  have HFI := Lib.hid hfi
  have HQ := Lib.hid hlf
  have HX := Lib.hid hx
  have HS := Lib.hid hs
  have HKN := Lib.hid hkn
  have hil : i < q.kids.length := (List.getElem?_eq_some_iff.1 hx).1
  clear hkn
  have hkd9 : q.kids.length ≤ 9 := by have := HKN.out; omega
  clear hx hq h hm1 hR1 hpg hfi hlf hs hs0 HI HF HMD
  go_enter Tryz.func108, Tryz.ntmps108
  go_wp2_with fail
  clear hW1
  refine HLD.out.mono ?_
  rintro e W2 ⟨kv, vv, cv, rfl, ho2, hm2⟩
  obtain ⟨⟨a1, c1, rfl⟩, ⟨a2, c2, rfl⟩, a3, c3, rfl⟩ := ho2.shapes
  obtain ⟨_, _, e2, _, _, _, hg⟩ := own_shape ho2.c
  cases e2
  obtain ⟨cg, rfl⟩ := hg (by omega)
  clear hg
  have hM2 := HM1.out.trans hm2 (fun _ _ h => h)
  have hR2 := (hm2.block _ (lt_heap HR1.out) id).trans HR1.out
  obtain ⟨W3, hW3⟩ : ∃ W3, W2.alloc (.cells #[.bool false, .slice a1 q.keys.length c1, .slice a2 q.vals.length c2, .slice (some ⟨cg, 0, none⟩) q.kids.length c3] 130) = W3 := ⟨_, rfl⟩
  have hm3 : Mod NoB W2 W3 := by rw [← hW3]; exact (Mod.refl _ _).alloc _
  have hP3 : W3.heap[W2.heap.size]? = some (.cells #[.bool false, .slice a1 q.keys.length c1, .slice a2 q.vals.length c2, .slice (some ⟨cg, 0, none⟩) q.kids.length c3] 130 (0, 0)) := by rw [← hW3]; exact heap_alloc_new _ _
  have hR3 := (hm3.block _ (lt_heap hR2) id).trans hR2
  have HM3 := Lib.hid (hM2.trans hm3 (fun _ _ h => h))
  have HO3 := Lib.hid (ho2.mod hm3)
  have hfc := Kid_calls q _ _ _ key W3 HO3.out.in1 HPG.out
  unfold pageV at hfc
  rw [HQ.out, HFI.out] at hfc
  have HFC := Lib.hid hfc
  obtain ⟨pb, p0, p1, p2, p3, pf⟩ := Page4.facts hP3
  have HP3 := Lib.hid hP3
  have HR3 := Lib.hid hR3
  have hsz1 := hm2.size
  have hrw := lt_heap HR1.out
  clear hm2 ho2 hM2 hR2 hm3 hP3 hR3 hfc HLD HM1 HR1
  go_wp2_with fail
  clear hW3
  refine HFC.out.mono ?_
  rintro e W4 ⟨rfl, hm4'⟩
  have hP4 := (hm4'.block _ pb id).trans HP3.out
  have HR4 := Lib.hid ((hm4'.block _ (lt_heap HR3.out) id).trans HR3.out)
  have HM4 := Lib.hid (HM3.out.trans hm4' (fun _ _ h => h))
  have HO4 := Lib.hid (HO3.out.mod hm4')
  clear hm4' HFC HP3 HR3 HM3 HO3 p0 p1 p2 p3 pf pb
  obtain ⟨pb, p0, p1, p2, p3, pf⟩ := Page4.facts hP4
  have HP4 := Lib.hid hP4
  clear hP4
  generalize W2.heap.size = P at *
  obtain ⟨c0, cf, cb⟩ := row_at HO4.out.c HX.out rfl
  go_wp2_with fail
  refine (HIX.out W4 (HT.out _ HM4.out)).mono ?_
  clear HIX c0 cf cb p0 p1 p2 p3 pf pb
  rintro e W5 ⟨o, ok, ov, oc, g1, rfl, hm5, hT5, hg5, hn5, ho5, hr5, hml5, hm85⟩
  obtain ⟨⟨b1, e1, rfl⟩, ⟨b2, e2, rfl⟩, b3, e3, rfl⟩ := ho5.shapes
  have HSM := Lib.hid (HS.out.deled hg5 hn5)
  have HN5 := Lib.hid hn5
  clear hn5
  have hlw := HLL.out
  have hP5 := (hm5.block _ (lt_heap HP4.out) (by omega)).trans HP4.out
  have hR5 := (hm5.block _ (lt_heap HR4.out) (by have := lt_heap HP4.out; omega)).trans HR4.out
  have hO5 := HO4.out.keep hm5 (fun q' _ e hb => absurd hb (by omega))
  have hM5 := (HM4.out.mono (noB_sub (fun k => k = l) _)).trans hm5 (fun _ _ h => h)
  unfold pageV
  generalize holf : o.leaf = olf at *
  obtain ⟨W6, hW6⟩ : ∃ W6, W5.alloc (.cells #[.bool olf, .slice b1 o.keys.length e1, .slice b2 o.vals.length e2, .slice b3 o.kids.length e3] 130) = W6 := ⟨_, rfl⟩
  have hm6 : Mod NoB W5 W6 := by rw [← hW6]; exact (Mod.refl _ _).alloc _
  have hS6 : W6.heap[W5.heap.size]? = some (.cells #[.bool olf, .slice b1 o.keys.length e1, .slice b2 o.vals.length e2, .slice b3 o.kids.length e3] 130 (0, 0)) := by rw [← hW6]; exact heap_alloc_new _ _
  have HP6 := Lib.hid ((hm6.block _ (lt_heap hP5) id).trans hP5)
  have HR6 := Lib.hid ((hm6.block _ (lt_heap hR5) id).trans hR5)
  have HO6 := Lib.hid (hO5.mod hm6)
  have HI6 := Lib.hid ((ho5.mod hm6).in1 (p := o))
  have HM6 := Lib.hid (hM5.trans hm6 (fun _ _ h => h.elim))
  have HT6 := Lib.hid (hT5.mod hm6)
  have HG5 := Lib.hid hg5
  have HRP := Lib.hid hr5
  have HOLF := Lib.hid holf
  have hcP : cg ≠ P := fun e => absurd (own_type HO6.out.c (q := P) (by rw [← e]; rfl) HP6.out) (by decide)
  have hcS : cg ≠ W5.heap.size := fun e => absurd (own_type HO6.out.c (q := W5.heap.size) (by rw [← e]; rfl) hS6) (by decide)
  have hcb := (HO6.out.c.lt cg rfl).1
  have hPS : P < W5.heap.size := lt_heap hP5
  obtain ⟨c0, cf, cb⟩ := row_at HO6.out.c HX.out rfl
  obtain ⟨pb, p0, p1, p2, p3, pf⟩ := Page4.facts HP6.out
  obtain ⟨sb, s0, s1, s2, s3, sf⟩ := Page4.facts hS6
  have HS6 := Lib.hid hS6
  clear hm6 hS6 hm5 hT5 hg5 hr5 hO5 hM5 hP5 hR5 HO4 HM4 HP4 HR4 HT HS HPG HFI ho5 holf
  generalize hR2 : W5.heap.size = R at *
  by_cases hk4 : 4 ≤ o.keys.length
  · have hok := rep_ok HRP.out (by omega) hm85
    have hsv := fun X (hX : Mod NoB W6 X) => save_calls t l p g1 root o _ _ _ X (HT6.out.mod hX) (HI6.out.mod hX) hok HSM.out.zero
    have HKO := Lib.hid (rep_less hk4 (keep_one HRP.out (by omega) hm85 (Nat.le_trans HSM.out.top (by omega))))
    have HLN := Lib.hid (lay_size (g := g1) hok)
    have HOK := Lib.hid hok
    unfold pageV at hsv
    rw [HOLF.out] at hsv
    have HSV : Hid (∀ X, Mod NoB W6 X → Calls Tryz.prog 104 #[.pointer (some ⟨t, 0, none⟩), .agg #[.bool olf, .slice b1 o.keys.length e1, .slice b2 o.vals.length e2, .slice b3 o.kids.length e3]] X fun e w' => ∃ u, e = .returned u ∧ (u = .tuple #[.int .i64 g1.top', .int .i64 0] ∧ Mod (fun k => k = l) X w' ∧ TL w' t l p (g1.lay o) root)) := fun X hX => (hsv X hX).mono fun e w' ⟨h1, h2, h3⟩ => ⟨_, h1, rfl, h2, h3⟩
    clear hok hsv
    go_wp2_with fail
    go_upto_region 15 with fail
    refine wp_region_front (fun w' => w'.cell? ⟨P, 3, none⟩ = some (.slice (some ⟨cg, 0, none⟩) q.kids.length c3) ∧ w'.cell? ⟨R, 0, none⟩ = some (.bool olf) ∧ w'.cell? ⟨R, 1, none⟩ = some (.slice b1 o.keys.length e1) ∧ w'.cell? ⟨R, 2, none⟩ = some (.slice b2 o.vals.length e2) ∧ w'.cell? ⟨R, 3, none⟩ = some (.slice b3 o.kids.length e3)) (notIn [10]) (by kernel_rfl) ?_ (fun hHeld => ?_)
    · go_keep
    refine tkT 0 (v := ?_) ?_ hHeld ?_
    rotate_left
    · (intro _; simp only [ga, gz]; go_simp; try with_reducible rfl)
    simp only [Act.put, ga, gz, sb, sz, ss]
    refine tkL 1 (v := ?_) ?_ hHeld ?_
    rotate_left
    · (intro _ h; (try dsimp only at h); simp only [ga, gs, gz]; go_simp; try with_reducible rfl)
    simp only [Act.put, ga, gs, gz, sb, sz, ss]
    refine tkT 2 (v := ?_) ?_ hHeld ?_
    rotate_left
    · (intro _; simp only [ga, gs, gz]; go_simp; try with_reducible rfl)
    simp only [Act.put, ga, gs, gz, sb, sz, ss]
    refine tkT 3 (v := ?_) ?_ hHeld ?_
    rotate_left
    · (intro _; simp only [ga, gs, gz]; go_simp; try with_reducible rfl)
    simp only [Act.put, ga, gs, gz, sb, sz, ss]
    refine tkL 4 (v := ?_) ?_ hHeld ?_
    rotate_left
    · (intro _ h; (try dsimp only at h); simp only [ga, gs, gz]; go_simp; try with_reducible rfl)
    simp only [Act.put, ga, gs, gz, sb, sz, ss]
    refine allF [5] (mc (stF ?_) mn)
    intro K hK
    dsimp only [ga, gs, gz]
    rw [if_pos (by rfl)]
    refine wp_fn 104 (fun _ _ => by kernel_rfl) #[.tmp 76, .tmp 77] #[23, 130] rfl (vs := #[.pointer (some ⟨t, 0, none⟩), .agg #[.bool olf, .slice b1 o.keys.length e1, .slice b2 o.vals.length e2, .slice b3 o.kids.length e3]]) rfl (HSV.out _ QM.out) ?_
    rintro u W7 ⟨rfl, hm7', hT7⟩
    have hm7 : Mod (fun k => k = l) W6 W7 := ((show Mod NoB W6 _ from QM.out).mono (noB_sub _ _)).trans hm7' (fun _ _ h => h)
    have h57 := (hm7.block P pb (by omega)).trans HP6.out
    have hR7 := (hm7.block _ (lt_heap HR6.out) (by have := HLL.out; omega)).trans HR6.out
    have hO7 := HO6.out.keep hm7 (fun q' _ e hb => absurd hb (by have := HLL.out; omega))
    have HM7 := Lib.hid (HM6.out.trans hm7 (fun _ _ h => h))
    have h67 := (hm7.block R sb (by have := HLL.out; omega)).trans HS6.out
    obtain ⟨qb, q0, q1, q2, q3, qf⟩ := Page4.facts h57
    obtain ⟨ub, u0, u1, u2, u3, uf⟩ := Page4.facts h67
    obtain ⟨d0, df, db⟩ := row_at hO7.c HX.out rfl
    have HTB := Lib.hid (set_one (i := i) hO7 rfl g1.top')
    have HR7 := Lib.hid hR7
    have HP7 := Lib.hid h57
    have HT7 := Lib.hid hT7
    clear hm7' hm7 h57 hR7 hO7 h67 hT7
    refine hK _ _ (show_held ?_ (fun hHeld => ?_))
    · go_keep
    clear hK K
    simp only [Act.put, List.setIfInBounds_toArray, List.set_cons_zero, List.set_cons_succ]
    refine tkT 6 (v := ?_) ?_ hHeld ?_
    rotate_left
    · (intro _; simp only [ga, gs, gz]; go_simp; try with_reducible rfl)
    simp only [Act.put, ga, gs, gz, sb, sz, ss]
    refine tkT 7 (v := ?_) ?_ hHeld ?_
    rotate_left
    · (intro _; simp only [ga, gs, gz]; go_simp; try with_reducible rfl)
    simp only [Act.put, ga, gs, gz, sb, sz, ss]
    refine tkT 8 (v := ?_) ?_ hHeld ?_
    rotate_left
    · (intro _; simp only [ga, gs, gz]; go_simp; try with_reducible rfl)
    simp only [Act.put, ga, gs, gz, sb, sz, ss]
    refine tkT 9 (v := ?_) ?_ hHeld ?_
    rotate_left
    · (intro _; simp only [ga, gs, gz]; go_simp; try with_reducible rfl)
    simp only [Act.put, ga, gs, gz, sb, sz, ss]
    refine allF [10] (mc (stN ?_) mn)
    intro K hK
    dsimp only [ga, gs, gz]
    go_simp
    refine hK _ _ ?_
    clear hK K
    refine tkN 11 (v := ?_) ?_ ?_
    rotate_left
    · (intro _; simp only [ga, gs, gz]; go_simp; try with_reducible rfl)
    simp only [Act.put, ga, gs, gz, sb, sz, ss]
    refine wpAny_done (by kernel_rfl) ?_ _
    refine at_world6 (P := Exit.then _ _ _ _) (fun X => PgOwn X W1.heap.size (.slice a1 q.keys.length c1) (.slice a2 q.vals.length c2) (.slice (some ⟨cg, 0, none⟩) q.kids.length c3) q.keys q.vals (q.kids.set i g1.top') ∧ Mod (fun j => j = cg) W7 X) (by first | exact HTB.out | exact ⟨HTB.out.1.mod (Mod.drew (Mod.refl _ _)), Mod.drew HTB.out.2⟩) ?_
    clear HTB d0 df db q0 q1 q2 q3 qf u0 u1 u2 u3 uf ub c0 cf cb p0 p1 p2 p3 pf pb s0 s1 s2 s3 sf sb
    rintro Y ⟨hOY, hmY⟩
    have HOY := Lib.hid hOY
    have hPY := (hmY.block _ qb (fun e => hcP e.symm)).trans HP7.out
    have HRY := Lib.hid ((hmY.block _ (lt_heap HR7.out) (fun e => by omega)).trans HR7.out)
    have HMY : Hid (Mod (fun j => j = l) w Y) := HM7.out.trans hmY (fun j hj e => by omega)
    have hlw := HLL.out
    have htw := HTL.out
    have HTY := Lib.hid (HT7.out.upd hmY (fun e => by omega) (fun e => by omega))
    clear hmY hOY HO6 HR6 HM6 HP6 HS6 HT6 HI6 HR7 HM7 HP7 HT7 qb
    obtain ⟨pb, p0, p1, p2, p3, pf⟩ := Page4.facts hPY
    obtain ⟨rb, r0, r1, r2, r3, rf⟩ := Page4.facts HRY.out
    clear hPY
    have HNN : Hid ((g1.lay o).wait.length ≤ g.wait.length + 140200 * (d + 1)) := deled_n HN5.out (by have := HLN.out; omega)
    go_wp2_with fail
    refine at_world6 (P := bodyPost _ _ _ _ _) (fun X => X.heap[w.heap.size]? = some (.cells #[.bool false, .slice a1 q.keys.length c1, .slice a2 q.vals.length c2, .slice (some ⟨cg, 0, none⟩) q.kids.length c3] 130 (0, 0)) ∧ Mod (fun k => k = w.heap.size) Y X) ?_ ?_
    · refine ⟨?_, ?_⟩
      · simp only [heap_setCell, if_true, HRY.out, Option.map_some, setAt_cells, List.setIfInBounds_toArray, List.set_cons_zero, List.set_cons_succ]
      · repeat (first | with_reducible exact Mod.refl _ _ | ((with_reducible refine Mod.setCell ?_ _ _ ?_); rotate_left; (intro _; rfl)))
    · rintro XR ⟨hDX, hMX⟩
      obtain ⟨xb, x0, x1, x2, x3, xf⟩ := Page4.facts hDX
      refine bodyPost_ret (v := .tuple #[.agg #[.bool false, .slice a1 q.keys.length c1, .slice a2 q.vals.length c2, .slice (some ⟨cg, 0, none⟩) q.kids.length c3], .int .i64 0]) (by simp [results, Tryz.f108, go_sem, x0, x1, x2, x3]) rfl ?_
      exact deled_of (q := { q with kids := q.kids.set i g1.top' }) HQ.out (HMY.out.trans hMX (fun j hj e => by omega)) (HTY.out.upd hMX (fun e => by omega) (fun e => by omega)) (HG5.out.trans (Grew.lay HOK.out)) HNN.out (HOY.out.keep hMX (fun q' _ e _ => ⟨_, _, _, e ▸ HRY.out, by decide, by decide⟩)) (by omega) (HFX.out _ _ (HG5.out.trans (Grew.lay HOK.out)) HKO.out) (Nat.le_succ_of_le hm) h8
  · have HMC := Lib.hid (fun X (hX : Mod NoB W6 X) (hb : W1.heap.size ≤ X.heap.size) => HMX.out X W1.heap.size g1 _ _ _ _ _ _ o (HT6.out.mod hX) HG5.out HSM.out (HO6.out.mod hX) (HI6.out.mod hX) HRP.out (by omega) (by omega) (by have := HTL.out; omega) hb)
    rw [HOLF.out] at HMC
    go_wp2_with fail
    refine (HMC.out W6 (Mod.refl _ _) (by omega)).mono ?_
    rintro e W7 ⟨q', kv', vv', cv', g2, rfl, hm7, hT7, hg7, hn7, ho7, hr7, hl7, hn7'⟩
    obtain ⟨⟨y1, z1, rfl⟩, ⟨y2, z2, rfl⟩, y3, z3, rfl⟩ := ho7.shapes
    unfold pageV
    have hl7f : q'.leaf = false := hr7.1
    rw [hl7f]
    have htw := HTL.out
    have HRY := Lib.hid ((hm7.block _ (lt_heap HR6.out) (fun e => by omega)).trans HR6.out)
    have HMY : Hid (Mod (fun j => j = l) w W7) := HM6.out.trans hm7 (fun j hj e => by omega)
    have HTY := Lib.hid hT7
    have HOY := Lib.hid ho7
    have HR7 := Lib.hid hr7
    have HG7 := Lib.hid (HG5.out.trans hg7)
    have HNN : Hid (g2.wait.length ≤ g.wait.length + 140200 * (d + 1)) := deled_n HN5.out hn7
    have HLF := Lib.hid hl7f
    have HML : Hid (m ≤ q'.keys.length + 1) := Nat.le_trans hm hl7
    have HM8 : Hid (q'.keys.length ≤ 8) := Nat.le_trans hn7' h8
    clear hm7 hT7 ho7 hr7 hg7 hn7 hl7 hn7' hl7f HMC HO6 HR6 HM6 HP6 HS6 HT6 HI6 c0 cf cb p0 p1 p2 p3 pf pb s0 s1 s2 s3 sf sb
    obtain ⟨rb, r0, r1, r2, r3, rf⟩ := Page4.facts HRY.out
    go_wp2_with fail
    refine at_world6 (P := bodyPost _ _ _ _ _) (fun X => X.heap[w.heap.size]? = some (.cells #[.bool false, .slice y1 q'.keys.length z1, .slice y2 q'.vals.length z2, .slice y3 q'.kids.length z3] 130 (0, 0)) ∧ Mod (fun k => k = w.heap.size) W7 X) ?_ ?_
    · refine ⟨?_, ?_⟩
      · simp only [heap_setCell, if_true, HRY.out, Option.map_some, setAt_cells, List.setIfInBounds_toArray, List.set_cons_zero, List.set_cons_succ]
      · repeat (first | with_reducible exact Mod.refl _ _ | ((with_reducible refine Mod.setCell ?_ _ _ ?_); rotate_left; (intro _; rfl)))
    · rintro XR ⟨hDX, hMX⟩
      obtain ⟨xb, x0, x1, x2, x3, xf⟩ := Page4.facts hDX
      refine bodyPost_ret (v := .tuple #[.agg #[.bool false, .slice y1 q'.keys.length z1, .slice y2 q'.vals.length z2, .slice y3 q'.kids.length z3], .int .i64 0]) (by simp [results, Tryz.f108, go_sem, x0, x1, x2, x3]) rfl ?_
      exact deled_of HLF.out (HMY.out.trans hMX (fun j hj e => by omega)) (HTY.out.upd hMX (fun e => by omega) (fun e => by omega)) HG7.out HNN.out (HOY.out.keep hMX (fun q' _ e _ => ⟨_, _, _, e ▸ HRY.out, by decide, by decide⟩)) (by omega) HR7.out HML.out HM8.out

end Go.Proofs.YtgofngilfdnakaaGreat

namespace Go.Proofs.YtgofngilfdnakaaGreat
open Go Go.RowKit
set_option linter.unusedSimpArgs false
attribute [local go_sem] over_cell over_frozen lt_over le_over noB loudUpon ByteArray.mk_append_mk ByteArray.extract_mk

set_option maxRecDepth 100000 in
set_option maxHeartbeats 12800000 in
theorem delN_none (t l p k x : Nat) (g : Lg) (root : Int) (q : Pg) (key : Str) (w : World) (h : TL w t l p g root) (hq : rdG g k q) (hlf : q.leaf = false) (h8 : q.keys.length ≤ 8) (hkn : q.kids.length = q.keys.length + 1) (hx : q.kids[kKid q.keys key]? = some x) (hs : Small g 0)
    (HI : ∀ X : World, TL X t l p g root → Calls Tryz.prog 108 #[.pointer (some ⟨t, 0, none⟩), .int .i64 x, .string ⟨key.toArray⟩] X (DelNot X)) :
    Calls Tryz.prog 108 #[.pointer (some ⟨t, 0, none⟩), .int .i64 k, .string ⟨key.toArray⟩] w (DelNot w) := by
  have hpg := hq.1
  obtain ⟨W1, hW1⟩ : ∃ W1, w.alloc (.cells #[.bool false, .slice none 0 0, .slice none 0 0, .slice none 0 0] 130) = W1 := ⟨_, rfl⟩
  have hm1 : Mod NoB w W1 := by rw [← hW1]; exact (Mod.refl _ _).alloc _
  have hR1 : W1.heap[w.heap.size]? = some (.cells #[.bool false, .slice none 0 0, .slice none 0 0, .slice none 0 0] 130 (0, 0)) := by rw [← hW1]; exact heap_alloc_new _ _
  have HT := Lib.hid (fun X (hX : Mod NoB w X) => h.mod hX)
  have HLD := Lib.hid (load_calls t l p g root k q W1 (h.mod hm1) hq hs)
  have HIX := Lib.hid HI
  have HM1 := Lib.hid hm1
  have HR1 := Lib.hid hR1
  have HPG := Lib.hid hpg
  unfold pageV at HLD
  rw [hlf] at HLD
  generalize hfi : kKid q.keys key = i at *
  have HFI := Lib.hid hfi
  have HQ := Lib.hid hlf
  have HX := Lib.hid hx
  have HKN := Lib.hid hkn
  have hil : i < q.kids.length := (List.getElem?_eq_some_iff.1 hx).1
  clear hkn
  have hkd9 : q.kids.length ≤ 9 := by have := HKN.out; omega
  clear hx hq h hm1 hR1 hpg hfi hlf hs HI
  go_enter Tryz.func108, Tryz.ntmps108
  go_wp2_with fail
  clear hW1
  refine HLD.out.mono ?_
  rintro e W2 ⟨kv, vv, cv, rfl, ho2, hm2⟩
  obtain ⟨⟨a1, c1, rfl⟩, ⟨a2, c2, rfl⟩, a3, c3, rfl⟩ := ho2.shapes
  obtain ⟨_, _, e2, _, _, _, hg⟩ := own_shape ho2.c
  cases e2
  obtain ⟨cg, rfl⟩ := hg (by omega)
  clear hg
  have hM2 := HM1.out.trans hm2 (fun _ _ h => h)
  have hR2 := (hm2.block _ (lt_heap HR1.out) id).trans HR1.out
  obtain ⟨W3, hW3⟩ : ∃ W3, W2.alloc (.cells #[.bool false, .slice a1 q.keys.length c1, .slice a2 q.vals.length c2, .slice (some ⟨cg, 0, none⟩) q.kids.length c3] 130) = W3 := ⟨_, rfl⟩
  have hm3 : Mod NoB W2 W3 := by rw [← hW3]; exact (Mod.refl _ _).alloc _
  have hP3 : W3.heap[W2.heap.size]? = some (.cells #[.bool false, .slice a1 q.keys.length c1, .slice a2 q.vals.length c2, .slice (some ⟨cg, 0, none⟩) q.kids.length c3] 130 (0, 0)) := by rw [← hW3]; exact heap_alloc_new _ _
  have hR3 := (hm3.block _ (lt_heap hR2) id).trans hR2
  have HM3 := Lib.hid (hM2.trans hm3 (fun _ _ h => h))
  have HO3 := Lib.hid (ho2.mod hm3)
  have hfc := Kid_calls q _ _ _ key W3 HO3.out.in1 HPG.out
  unfold pageV at hfc
  rw [HQ.out, HFI.out] at hfc
  have HFC := Lib.hid hfc
  obtain ⟨pb, p0, p1, p2, p3, pf⟩ := Page4.facts hP3
  have HP3 := Lib.hid hP3
  have HR3 := Lib.hid hR3
  have hsz1 := hm2.size
  have hrw := lt_heap HR1.out
  clear hm2 ho2 hM2 hR2 hm3 hP3 hR3 hfc HLD HM1 HR1
  go_wp2_with fail
  clear hW3
  refine HFC.out.mono ?_
  rintro e W4 ⟨rfl, hm4'⟩
  have hP4 := (hm4'.block _ pb id).trans HP3.out
  have HR4 := Lib.hid ((hm4'.block _ (lt_heap HR3.out) id).trans HR3.out)
  have HM4 := Lib.hid (HM3.out.trans hm4' (fun _ _ h => h))
  have HO4 := Lib.hid (HO3.out.mod hm4')
  clear hm4' HFC HP3 HR3 HM3 HO3 p0 p1 p2 p3 pf pb
  obtain ⟨pb, p0, p1, p2, p3, pf⟩ := Page4.facts hP4
  have HP4 := Lib.hid hP4
  clear hP4
  generalize W2.heap.size = P at *
  obtain ⟨c0, cf, cb⟩ := row_at HO4.out.c HX.out rfl
  go_wp2_with fail
  refine (HIX.out W4 (HT.out _ HM4.out)).mono ?_
  clear HIX c0 cf cb p0 p1 p2 p3 pf pb
  rintro e W5 ⟨rfl, hm5⟩
  have hR5 := (hm5.block _ (lt_heap HR4.out) id).trans HR4.out
  have hM5 := HM4.out.trans hm5 (fun _ _ h => h)
  obtain ⟨rb, r0, r1, r2, r3, rf⟩ := Page4.facts hR5
  have HM5 := Lib.hid hM5
  have HR5 := Lib.hid hR5
  clear hm5 hM5 hR5 HR4 HM4 HO4 HP4
  go_wp2_with fail
  refine at_world6 (P := bodyPost _ _ _ _ _) (fun X => X.heap[w.heap.size]? = some (.cells #[.bool false, .slice none 0 0, .slice none 0 0, .slice none 0 0] 130 (0, 0)) ∧ Mod (fun k => k = w.heap.size) W5 X) ?_ ?_
  · refine ⟨?_, ?_⟩
    · refine heap_alloc_old' _ _ _ (by simpa using rb) ?_
      simp only [heap_setCell, if_true, HR5.out, Option.map_some, setAt_cells, List.setIfInBounds_toArray, List.set_cons_zero, List.set_cons_succ]
    · repeat (first | with_reducible exact Mod.refl _ _ | with_reducible refine Mod.alloc ?_ _ | ((with_reducible refine Mod.setCell ?_ _ _ ?_); rotate_left; (intro _; rfl)))
  · rintro X ⟨hDX, hMX⟩
    obtain ⟨xb, x0, x1, x2, x3, xf⟩ := Page4.facts hDX
    refine bodyPost_ret (v := .tuple #[pageO, .int .i64 2]) (by simp [results, Tryz.f108, go_sem, x0, x1, x2, x3]) rfl ?_
    exact ⟨rfl, HM5.out.trans hMX (fun j hj e => by omega)⟩

end Go.Proofs.YtgofngilfdnakaaGreat
