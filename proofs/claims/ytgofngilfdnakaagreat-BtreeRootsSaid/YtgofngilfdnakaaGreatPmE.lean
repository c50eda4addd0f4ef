/-
  This text proves that cupellaw06.awake answers true, and what the package btree's Put does with keys that may not be; no condition.
-/
import Derived.Test.YtgofngilfdnakaaGreatBtW15q
import Derived.Test.YtgofngilfdnakaaGreatWalSq
import Derived.Test.YtgofngilfdnakaaGreatBtP6
import Derived.Test.YtgofngilfdnakaaGreatPkB

namespace Go.Proofs.YtgofngilfdnakaaGreat
open Go Go.RowKit
set_option linter.unusedSimpArgs false
attribute [local go_sem] over_cell over_frozen lt_over le_over noB loudUpon ByteArray.mk_append_mk ByteArray.extract_mk

set_option maxRecDepth 100000 in
set_option maxHeartbeats 1600000 in
theorem TNew_calls (l p : Nat) (g : Lg) (w : World) (h : LogAt w l p g) :
    Calls Tryz.prog 18 #[.pointer (some ⟨l, 0, none⟩), .int .i64 (-1)] w fun e w' => e = .returned (.tuple #[.pointer (some ⟨w.heap.size, 0, none⟩), .int .i64 0]) ∧ Mod NoB w w' ∧ TL w' w.heap.size l p g (-1) := by
  have HL := Lib.hid h
  have hlb := lt_heap h
  clear h
  go_enter Tryz.func18, Tryz.ntmps18
  go_wp2_with fail
  refine bodyPost_ret (v := .tuple #[.pointer (some ⟨w.heap.size, 0, none⟩), .int .i64 0]) (by simp [results, Tryz.f18, go_sem]) rfl ?_
  have hm : Mod NoB w (w.alloc (.cells #[.pointer (some ⟨l, 0, none⟩), .int .i64 (-1)] 128)) := (Mod.refl _ _).alloc _
  exact ⟨rfl, hm, heap_alloc_new _ _, HL.out.mod hm id⟩

def Fresh6 (w : World) (e : Ending) (w' : World) : Prop := ∃ t l p, e = .returned (.tuple #[.pointer (some ⟨t, 0, none⟩), .pointer (some ⟨l, 0, none⟩), .bool true]) ∧ Mod NoB w w' ∧ TL w' t l p emptyLog (-1) ∧ w.heap.size ≤ t ∧ w.heap.size ≤ l
set_option maxRecDepth 100000 in
set_option maxHeartbeats 1600000 in
theorem fresh_calls (w : World) : Calls Tryz.prog 14 #[] w (Fresh6 w) := by
  go_enter Tryz.func14, Tryz.ntmps14
  go_wp2_with fail
  refine (New_calls w).mono ?_
  rintro e W1 ⟨rfl, hm1, hd1⟩
  generalize hp : w.heap.size + 2 = p at *
  clear hp
  have hop := Open_calls p _ Dk.fresh 0 W1 hd1 fit_fresh (by decide)
  rw [aw_open] at hop
  have HOP := Lib.hid hop
  have HM1 := Lib.hid hm1
  clear hop hm1 hd1
  go_wp2_with fail
  refine HOP.out.mono ?_
  rintro e W2 ⟨l, rfl, hl0, hl2, hm2, hd2⟩
  have HL : Hid (w.heap.size ≤ l) := Nat.le_trans HM1.out.size hl0
  have HM2 : Hid (Mod NoB w W2) := HM1.out.trans hm2 (fun k hk h => by rcases h with h | ⟨h, _⟩; exact h; omega)
  have HL2 := Lib.hid hl2
  clear hl0 hl2 hm2 hd2 HOP HM1
  go_wp2_with fail
  refine (TNew_calls l p _ W2 HL2.out).mono ?_
  rintro e W3 ⟨rfl, hm3, ht3⟩
  have HM3 := Lib.hid (HM2.out.trans hm3 (fun _ _ h => h))
  have HT3 := Lib.hid ht3
  have hsz := HM2.out.size
  clear hm3 ht3 HM2 HL2
  go_wp2_with fail
  refine bodyPost_ret (v := .tuple #[.pointer (some ⟨W2.heap.size, 0, none⟩), .pointer (some ⟨l, 0, none⟩), .bool true]) (by simp [results, Tryz.f14, go_sem]) rfl ?_
  exact ⟨_, _, _, rfl, HM3.out, HT3.out, hsz, HL.out⟩
set_option maxRecDepth 100000 in
theorem TRoot_calls (t l p : Nat) (g : Lg) (root : Int) (w : World) (h : TL w t l p g root) : Calls Tryz.prog 17 #[.pointer (some ⟨t, 0, none⟩)] w fun e w' => e = .returned (.int .i64 root) ∧ w = w' := by
  obtain ⟨tb, t0, t1, tf⟩ := h.tree.facts
  clear h
  go_enter Tryz.func17, Tryz.ntmps17
  go_wp2
  go_ret
  exact ⟨rfl, rfl⟩

def gotV (o : Option Str) : Value := match o with
  | some v => .tuple #[.string ⟨v.toArray⟩, .int .i64 0]
  | none => .tuple #[.string ⟨#[]⟩, .int .i64 2]
theorem row_txt {w : World} {v : Value} {l : List Str} {i : Nat} {s : Str} (h : In1 w v (l.map txt)) (hi : l[i]? = some s) : ∃ b o c, v = .slice (some ⟨b, o, none⟩) l.length c ∧ b < w.heap.size ∧ w.cell? ⟨b, o + i, none⟩ = some (txt s) := by
  obtain ⟨h1, h2⟩ := List.getElem?_eq_some_iff.1 hi
  obtain ⟨b, o, c, e, _, _, _⟩ := h.at (by simp; omega)
  have := h
  rw [e] at this
  obtain ⟨g1, g2⟩ := this.cell i (by simp; exact h1)
  refine ⟨b, o, c, by rw [e, List.length_map], g1, ?_⟩
  rw [g2, List.getElem_map, h2]

set_option maxRecDepth 100000 in
set_option maxHeartbeats 1600000 in
theorem Get_none (t l p : Nat) (g : Lg) (key : Str) (w : World) (h : TL w t l p g (-1)) : Calls Tryz.prog 65 #[.pointer (some ⟨t, 0, none⟩), .string ⟨key.toArray⟩] w fun e w' => e = .returned (gotV none) ∧ Mod NoB w w' := by
  obtain ⟨tb, t0, t1, tf⟩ := h.tree.facts
  clear h
  go_enter Tryz.func65, Tryz.ntmps65
  go_wp2_with fail
  refine wp_loop_rounds 1 ?_
  rw [rounds_succ]
  go_wp2_with fail
  exact bodyPost_ret (v := .tuple #[.string ⟨#[]⟩, .int .i64 2]) (by simp [results, Tryz.f65, go_sem]) rfl ⟨rfl, Mod.refl _ _⟩

structure GetAt (g : Lg) (key : Str) (o : Option Str) (d k : Nat) (lo : Str) (hi : Option Str) (M : Files) : Prop where
  rep : Rep (rdG g) 1 d k lo hi M
  lo : above lo key
  hi : below hi key
  got : M.get key = o

set_option maxRecDepth 100000 in
set_option maxHeartbeats 6400000 in
theorem Get_at (t l p d k : Nat) (g : Lg) (key : Str) (o : Option Str) (M : Files) (w : World) (h : TL w t l p g k) (hr : GetAt g key o d k [] none M) (hs : Small g 0) :
    Calls Tryz.prog 65 #[.pointer (some ⟨t, 0, none⟩), .string ⟨key.toArray⟩] w fun e w' => e = .returned (gotV o) ∧ Mod NoB w w' := by
  have HT := Lib.hid (fun X (hX : Mod NoB w X) => h.mod hX)
  have HS := Lib.hid hs
  have HR := Lib.hid hr
  obtain ⟨tb, t0, t1, tf⟩ := h.tree.facts
  clear h hs hr
  go_enter Tryz.func65, Tryz.ntmps65
  go_wp2_with fail
  refine wp_loop_rounds (d + 1) ?_
  refine (fun (key : ∀ (d k : Nat) (lo : Str) (hi : Option Str) (M : Files) (V : World) (u7 u8 u9 u10 u11 u12 u13 u14 u15 u16 u17 u18 u19 u20 u21 u22 u23 u24 u25 u26 u27 u28 u29 u30 u31 u32 u33 u34 u35 u36 u37 u38 u39 u40 u41 u42 u43 u44 u45 u46 u47 u48 : Value), Hid (GetAt g key o d k lo hi M) → Hid (Mod NoB w V) → Code.rounds _ _ _ (d + 1) ⟨#[.pointer (some ⟨t, 0, none⟩), .string ⟨key.toArray⟩, undef, undef, .string ⟨#[]⟩, .int .i64 0, .int .i64 k, u7, u8, u9, u10, u11, u12, u13, u14, u15, u16, u17, u18, u19, u20, u21, u22, u23, u24, u25, u26, u27, u28, u29, u30, u31, u32, u33, u34, u35, u36, u37, u38, u39, u40, u41, u42, u43, u44, u45, u46, u47, u48], []⟩ V) => key d k [] none M w _ _ _ _ _ _ _ _ _ _ _ _ _ _ _ _ _ _ _ _ _ _ _ _ _ _ _ _ _ _ _ _ _ _ _ _ _ _ _ _ _ _ HR (Lib.hid (Mod.refl _ _))) ?_
  clear HR tb t0 t1 tf
  generalize k = k0 at *
  clear M d
  intro d
  induction d with
  | zero =>
    intro k lo hi M V u7 u8 u9 u10 u11 u12 u13 u14 u15 u16 u17 u18 u19 u20 u21 u22 u23 u24 u25 u26 u27 u28 u29 u30 u31 u32 u33 u34 u35 u36 u37 u38 u39 u40 u41 u42 u43 u44 u45 u46 u47 u48 HR HM
    obtain ⟨_, q, hq, h1, h8, hp⟩ := HR.out.rep
    have hgt := leaf_get (k := key) hp
    rw [HR.out.got] at hgt
    have hvl : q.vals.length = q.keys.length := by rw [hp.2.2.1, hp.2.2.2.1]; simp
    have HLD := Lib.hid (load_calls t l p g k0 k q V (HT.out V HM.out) hq HS.out)
    unfold pageV at HLD
    rw [hp.1] at HLD
    have HPG := Lib.hid hq.1
    have HLF := Lib.hid hp.1
    clear hp hq HR
    rw [rounds_succ]
    go_wp2_with fail
    refine HLD.out.mono ?_
    rintro e W2 ⟨kv, vv, cv, rfl, ho2, hm2⟩
    obtain ⟨⟨a1, c1, rfl⟩, ⟨a2, c2, rfl⟩, a3, c3, rfl⟩ := ho2.shapes
    obtain ⟨W3, hW3⟩ : ∃ W3, W2.alloc (.cells #[.bool true, .slice a1 q.keys.length c1, .slice a2 q.vals.length c2, .slice a3 q.kids.length c3] 130) = W3 := ⟨_, rfl⟩
    have hm3 : Mod NoB W2 W3 := by rw [← hW3]; exact (Mod.refl _ _).alloc _
    have hP3 : W3.heap[W2.heap.size]? = some (.cells #[.bool true, .slice a1 q.keys.length c1, .slice a2 q.vals.length c2, .slice a3 q.kids.length c3] 130 (0, 0)) := by rw [← hW3]; exact heap_alloc_new _ _
    have HM3 := Lib.hid ((HM.out.trans hm2 (fun _ _ h => h)).trans hm3 (fun _ _ h => h))
    have HO3 := Lib.hid (ho2.mod hm3)
    obtain ⟨pb, p0, p1, p2, p3, pf⟩ := Page4.facts hP3
    have HP3 := Lib.hid hP3
    clear hm2 ho2 hm3 hP3 HLD HM
    have hfc := Find_calls q _ _ _ key W3 HO3.out.in1 HPG.out
    unfold pageV at hfc
    rw [HLF.out] at hfc
    have HFC := Lib.hid hfc
    have HGT := Lib.hid hgt
    have hv9 : q.vals.length ≤ 8 := by omega
    have HVL := Lib.hid hvl
    clear hfc hgt hvl
    generalize hfi : kFind q.keys key = i at *
    generalize hki : kIs q.keys key = is at *
    go_wp2_with fail
    clear hW3
    refine HFC.out.mono ?_
    rintro e W4 ⟨rfl, hm4⟩
    have hP4 := (hm4.block _ pb id).trans HP3.out
    have HM4 := Lib.hid (HM3.out.trans hm4 (fun _ _ h => h))
    have HO4 := Lib.hid (HO3.out.mod hm4)
    clear hm4 HFC HP3 HM3 HO3 p0 p1 p2 p3 pf pb
    obtain ⟨pb, p0, p1, p2, p3, pf⟩ := Page4.facts hP4
    clear hP4
    cases is
    · have hon : o = none := HGT.out
      subst hon
      go_wp2_with fail
      refine bodyPost_ret (v := .tuple #[.string ⟨#[]⟩, .int .i64 2]) (by simp [results, Tryz.f65, go_sem]) rfl ⟨rfl, HM4.out⟩
    · have hlt := kIs_lt hki
      rw [hfi] at hlt
      have hiv : i < q.vals.length := by rw [HVL.out]; exact hlt
      clear hlt
      obtain ⟨s, hs⟩ : ∃ s, q.vals[i]? = some s := ⟨_, List.getElem?_eq_getElem hiv⟩
      have hon : o = some s := HGT.out.trans hs
      subst hon
      obtain ⟨_, _, e2, _, _, _, hg⟩ := own_shape HO4.out.v
      cases e2
      obtain ⟨vg, rfl⟩ := hg (by omega)
      clear hg
      obtain ⟨c0, cf, cb⟩ := row_atS HO4.out.v hs rfl
      clear hs
      go_wp2_with fail
      refine bodyPost_ret (v := .tuple #[.string ⟨s.toArray⟩, .int .i64 0]) (by simp [results, Tryz.f65, go_sem]) rfl ⟨rfl, HM4.out⟩
  | succ d ih =>
    intro k lo hi M V u7 u8 u9 u10 u11 u12 u13 u14 u15 u16 u17 u18 u19 u20 u21 u22 u23 u24 u25 u26 u27 u28 u29 u30 u31 u32 u33 u34 u35 u36 u37 u38 u39 u40 u41 u42 u43 u44 u45 u46 u47 u48 HR HM
    obtain ⟨_, q, hq, h1, h8, hp⟩ := HR.out.rep
    obtain ⟨x, lo', hi', M2, hlt, hx, hrep, ha', hb', hget, _⟩ := node_del hp HR.out.lo HR.out.hi
    have HLD := Lib.hid (load_calls t l p g k0 k q V (HT.out V HM.out) hq HS.out)
    unfold pageV at HLD
    rw [hp.1] at HLD
    have HPG := Lib.hid hq.1
    have HLF := Lib.hid hp.1
    have HR2 : Hid (GetAt g key o d x lo' hi' M2) := ⟨rep_less (by omega) hrep, ha', hb', by rw [← hget]; exact HR.out.got⟩
    clear hp hq HR hrep ha' hb' hget
    rw [rounds_succ]
    go_wp2_with fail
    refine HLD.out.mono ?_
    rintro e W2 ⟨kv, vv, cv, rfl, ho2, hm2⟩
    obtain ⟨⟨a1, c1, rfl⟩, ⟨a2, c2, rfl⟩, a3, c3, rfl⟩ := ho2.shapes
    obtain ⟨W3, hW3⟩ : ∃ W3, W2.alloc (.cells #[.bool false, .slice a1 q.keys.length c1, .slice a2 q.vals.length c2, .slice a3 q.kids.length c3] 130) = W3 := ⟨_, rfl⟩
    have hm3 : Mod NoB W2 W3 := by rw [← hW3]; exact (Mod.refl _ _).alloc _
    have hP3 : W3.heap[W2.heap.size]? = some (.cells #[.bool false, .slice a1 q.keys.length c1, .slice a2 q.vals.length c2, .slice a3 q.kids.length c3] 130 (0, 0)) := by rw [← hW3]; exact heap_alloc_new _ _
    have HM3 := Lib.hid ((HM.out.trans hm2 (fun _ _ h => h)).trans hm3 (fun _ _ h => h))
    have HO3 := Lib.hid (ho2.mod hm3)
    obtain ⟨pb, p0, p1, p2, p3, pf⟩ := Page4.facts hP3
    have HP3 := Lib.hid hP3
    clear hm2 ho2 hm3 hP3 HLD HM
    obtain ⟨_, _, e2, _, _, _, hg⟩ := own_shape HO3.out.c
    cases e2
    obtain ⟨cg, rfl⟩ := hg (by omega)
    clear hg
    have HKC : Hid (∀ X, Mod NoB W3 X → Calls Tryz.prog 107 #[.agg #[.bool false, .slice a1 q.keys.length c1, .slice a2 q.vals.length c2, .slice (some ⟨cg, 0, none⟩) q.kids.length c3], .string ⟨key.toArray⟩] X fun e w' => ∃ u, e = .returned u ∧ (u = .int .i64 (kKid q.keys key) ∧ Mod NoB X w')) := fun X hX => by
      have hfc := Kid_calls q _ _ _ key X (HO3.out.mod hX).in1 HPG.out
      unfold pageV at hfc
      rw [HLF.out] at hfc
      exact hfc.mono fun e w' ⟨h1, h2⟩ => ⟨_, h1, rfl, h2⟩
    obtain ⟨c0, cf, cb⟩ := row_at HO3.out.c hx rfl
    generalize kKid q.keys key = i at *
    clear hx
    go_wp2_with fail
    clear hW3
    go_upto_region 12 with fail
    generalize W2.heap.size = P at *
    refine wp_region_front (fun w' => (w'.cell? ⟨P, 0, none⟩ = some (.bool false) ∧ w'.cell? ⟨P, 1, none⟩ = some (.slice a1 q.keys.length c1) ∧ w'.cell? ⟨P, 2, none⟩ = some (.slice a2 q.vals.length c2) ∧ w'.cell? ⟨P, 3, none⟩ = some (.slice (some ⟨cg, 0, none⟩) q.kids.length c3)) ∧ w'.cell? ⟨cg, i, none⟩ = some (numV x)) (notIn []) (by kernel_rfl) ?_ (fun hHeld => ?_)
    · go_keep
    refine tkT 0 (v := ?_) ?_ hHeld ?_
    rotate_left
    · (intro _; simp only [ga, gz]; go_simp; try with_reducible rfl)
    simp only [Act.put, ga, gz, sb, sz, ss]
    refine tkL 1 (v := ?_) ?_ hHeld ?_
    rotate_left
    · (intro _ h; (try dsimp only at h); simp only [ga, gs, gz]; go_simp; try with_reducible rfl)
    simp only [Act.put, ga, gs, gz, sb, sz, ss]
    refine tkL 2 (v := ?_) ?_ hHeld ?_
    rotate_left
    · (intro _ h; (try dsimp only at h); simp only [ga, gs, gz]; go_simp; try with_reducible rfl)
    simp only [Act.put, ga, gs, gz, sb, sz, ss]
    refine tkT 3 (v := ?_) ?_ hHeld ?_
    rotate_left
    · (intro _; simp only [ga, gs, gz]; go_simp; try with_reducible rfl)
    simp only [Act.put, ga, gs, gz, sb, sz, ss]
    refine allF [4] (mc (stF ?_) mn)
    intro K hK
    dsimp only [ga, gs, gz]
    rw [if_pos (by rfl)]
    refine wp_fn 107 (fun _ _ => by kernel_rfl) #[.tmp 44, .tmp 45] #[130, 9] rfl (vs := #[.agg #[.bool false, .slice a1 q.keys.length c1, .slice a2 q.vals.length c2, .slice (some ⟨cg, 0, none⟩) q.kids.length c3], .string ⟨key.toArray⟩]) rfl (HKC.out _ (by (repeat (first | with_reducible exact Mod.refl _ _ | with_reducible refine Mod.drew ?_ | with_reducible refine Mod.alloc ?_ _)))) ?_
    rintro u X4 ⟨rfl, hm4'⟩
    have hm4 : Mod NoB W3 X4 := (show Mod NoB W3 _ from (by (repeat (first | with_reducible exact Mod.refl _ _ | with_reducible refine Mod.drew ?_ | with_reducible refine Mod.alloc ?_ _)))).trans hm4' (fun _ _ h => h)
    have z0 := keep_cell hm4 pb p0
    have z1 := keep_cell hm4 pb p1
    have z2 := keep_cell hm4 pb p2
    have z3 := keep_cell hm4 pb p3
    have z4 := keep_cell hm4 cb c0
    have HM4 := Lib.hid (HM3.out.trans hm4 (fun _ _ h => h))
    clear hm4 hm4' p0 p1 p2 p3 c0 HM3
    refine hK _ _ (show_held ?_ (fun hHeld => ?_))
    · go_keep
    clear hK K
    simp only [Act.put, List.setIfInBounds_toArray, List.set_cons_zero, List.set_cons_succ]
    refine tkT 5 (v := ?_) ?_ hHeld ?_
    rotate_left
    · (intro _; simp only [ga, gs, gz]; go_simp; try with_reducible rfl)
    simp only [Act.put, ga, gs, gz, sb, sz, ss]
    refine tkL 6 (v := ?_) ?_ hHeld ?_
    rotate_left
    · (intro _ h; (try dsimp only at h); simp only [ga, gs, gz]; go_simp; try with_reducible rfl)
    simp only [Act.put, ga, gs, gz, sb, sz, ss]
    refine tkT 7 (v := ?_) ?_ hHeld ?_
    rotate_left
    · (intro _; simp only [ga, gs, gz]; go_simp; try with_reducible rfl)
    simp only [Act.put, ga, gs, gz, sb, sz, ss]
    refine wpAnyF_done (by kernel_rfl) ?_ _
    exact ih x lo' hi' M2 X4 _ _ _ _ _ _ _ _ _ _ _ _ _ _ _ _ _ _ _ _ _ _ _ _ _ _ _ _ _ _ _ _ _ _ _ _ _ _ _ _ _ _ HR2 HM4

theorem Get_calls (t l p : Nat) (g : Lg) (root : Int) (key : Str) (M : Files) (w : World) (h : TL w t l p g root) (hr : TR g root M) (hs : Small g 0) :
    Calls Tryz.prog 65 #[.pointer (some ⟨t, 0, none⟩), .string ⟨key.toArray⟩] w fun e w' => e = .returned (gotV (M.get key)) ∧ Mod NoB w w' := by
  rcases hr with ⟨rfl, rfl⟩ | ⟨d, r, rfl, hr⟩
  · exact Get_none t l p g key w h
  · exact Get_at t l p d r g key _ M w h ⟨hr, above_nil _, trivial, rfl⟩ hs
theorem empty_small : Small emptyLog 8 := by unfold Small; decide
theorem aw6_get : (Files.put [] [97] [49]).get [97] = some [49] := by decide
set_option maxRecDepth 100000 in
set_option maxHeartbeats 1600000 in
theorem awake6_calls (w : World) : Calls Tryz.prog 15 #[] w fun e w' => e = .returned (.bool true) ∧ Mod NoB w w' := by
  go_enter Tryz.func15, Tryz.ntmps15
  go_wp2_with fail
  refine (fresh_calls w).mono ?_
  rintro e W1 ⟨t, l, p, rfl, hm1, ht1, htw, hlw⟩
  have HP := Lib.hid (Put_first t l p emptyLog [97] [49] W1 ⟨by decide, by decide⟩ (by decide) ht1 empty_small)
  have HM1 := Lib.hid hm1
  clear hm1 ht1
  go_wp2_with fail
  refine HP.out.mono ?_
  rintro e W2 ⟨root, g, rfl, hm2, ht2, hg2, hn2, hr2⟩
  have hs : Small g 0 := by
    obtain ⟨x, rfl⟩ := hg2.ex
    unfold Small
    unfold emptyLog at *
    simp only [List.length_nil, List.nil_append] at *
    omega
  have hge := Get_calls t l p g root [97] _ W2 ht2 hr2 hs
  rw [aw6_get] at hge
  have HG := Lib.hid hge
  have HM2 : Hid (Mod NoB w W2) := HM1.out.trans hm2 (fun j hj e => by omega)
  clear hge hm2 ht2 hg2 hn2 hr2 HP hs HM1
  go_wp2_with fail
  refine HG.out.mono ?_
  rintro e W3 ⟨rfl, hm3⟩
  have HM3 := Lib.hid (HM2.out.trans hm3 (fun _ _ h => h))
  clear hm3 HG
  unfold gotV
  go_wp2_with fail
  go_ret
  exact ⟨rfl, HM3.out⟩
set_option maxRecDepth 100000 in
set_option maxHeartbeats 3200000 in
theorem Put_not2 (t : Nat) (key v : Str) (w : World) (hk : key.length < 1 ∨ 64 < key.length ∨ 8192 < v.length) (hl : key.length ≤ 9223372036854775807) (hl2 : v.length ≤ 9223372036854775807) :
    Calls Tryz.prog 64 #[.pointer (some ⟨t, 0, none⟩), .string ⟨key.toArray⟩, .string ⟨v.toArray⟩] w fun e w' => e = .returned (.int .i64 1) ∧ Mod NoB w w' := by
  go_enter Tryz.func64, Tryz.ntmps64
  go_wp2_with fail
  all_goals (first | exact bodyPost_ret (v := .int .i64 1) (by simp [results, Tryz.f64, go_sem]) rfl ⟨rfl, Mod.refl _ _⟩ | (exfalso; omega))
instance (s : Str) : Decidable (keyOk s) := by unfold keyOk; infer_instance
theorem Put_any (t l p : Nat) (g : Lg) (root : Int) (key v : Str) (M : Files) (w : World) (h : TL w t l p g root) (hr : TR g root M) (hM : M.length ≤ 2700) (hs : Small g 8) (hl : key.length ≤ 9223372036854775807) (hl2 : v.length ≤ 9223372036854775807) :
    Calls Tryz.prog 64 #[.pointer (some ⟨t, 0, none⟩), .string ⟨key.toArray⟩, .string ⟨v.toArray⟩] w (TreePost w t l p g 1000000 (.int .i64 (if keyOk key ∧ v.length ≤ 8192 then 0 else 1)) (if keyOk key ∧ v.length ≤ 8192 then M.put key v else M)) := by
  by_cases hk : keyOk key ∧ v.length ≤ 8192
  · rw [if_pos hk, if_pos hk]
    exact Put_calls t l p g root key v M w hk.1 hk.2 h hr hM hs
  · rw [if_neg hk, if_neg hk]
    refine (Put_not2 t key v w (by unfold keyOk at hk; omega) hl hl2).mono fun e w' ⟨h1, h2⟩ => ⟨root, g, h1, h2.mono (noB_sub _ _), h.mod h2, Grew.refl g, Nat.le_add_right _ _, hr⟩

end Go.Proofs.YtgofngilfdnakaaGreat
