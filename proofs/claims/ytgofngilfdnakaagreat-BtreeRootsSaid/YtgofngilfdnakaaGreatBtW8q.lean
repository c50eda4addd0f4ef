/-
  This text proves what the package btree's load and save do over a log: under bounds on lengths.
-/
import Derived.Test.YtgofngilfdnakaaGreatBtW7
import Derived.Test.YtgofngilfdnakaaGreatBtP5
import Derived.Test.YtgofngilfdnakaaGreatWal2q

namespace Go.Proofs.YtgofngilfdnakaaGreat
open Go Go.RowKit
attribute [local go_sem] over_cell over_frozen lt_over le_over noB loudUpon ByteArray.mk_append_mk ByteArray.extract_mk

/-- A tree in memory. -/
def TreeAt (w : World) (t l : Nat) (root : Int) : Prop := w.heap[t]? = some (.cells #[.pointer (some ⟨l, 0, none⟩), .int .i64 root] 128 (0, 0))
theorem TreeAt.facts {w : World} {t l : Nat} {root : Int} (h : TreeAt w t l root) : t < w.heap.size ∧ w.cell? ⟨t, 0, none⟩ = some (.pointer (some ⟨l, 0, none⟩)) ∧ w.cell? ⟨t, 1, none⟩ = some (.int .i64 root) ∧ ∀ i, w.frozen? ⟨t, i, none⟩ = false :=
  ⟨lt_heap h, cell_heap h 0, cell_heap h 1, frozen_heap h⟩
/-- A tree and its log. -/
structure TL (w : World) (t l p : Nat) (g : Lg) (root : Int) : Prop where
  tree : TreeAt w t l root
  log : LogAt w l p g
theorem TL.ne {w : World} {t l p : Nat} {g : Lg} {root : Int} (h : TL w t l p g root) : t ≠ l := fun e => by
  subst e
  have h1 := h.tree
  have h2 := h.log
  unfold TreeAt at h1
  unfold LogAt at h2
  rw [h1] at h2
  cases h2
theorem TL.mod {w w' : World} {t l p : Nat} {g : Lg} {root : Int} (h : TL w t l p g root) (hm : Mod NoB w w') : TL w' t l p g root := ⟨(hm.block t (lt_heap h.tree) id).trans h.tree, h.log.mod hm id⟩
theorem TL.logged {w w' : World} {t l p : Nat} {g g' : Lg} {root : Int} (h : TL w t l p g root) (hm : Mod (fun k => k = l) w w') (hl : LogAt w' l p g') : TL w' t l p g' root := ⟨(hm.block t (lt_heap h.tree) h.ne).trans h.tree, hl⟩
/-- A log that is not too long. -/
def Small (g : Lg) (n : Nat) : Prop := g.s.length + g.wait.length + 140200 * n ≤ 900000000

set_option maxRecDepth 100000 in
set_option maxHeartbeats 3200000 in
theorem load_calls (t l p : Nat) (g : Lg) (root : Int) (k : Nat) (q : Pg) (w : World) (h : TL w t l p g root) (hq : rdG g k q) (hs : Small g 0) :
    Calls Tryz.prog 71 #[.pointer (some ⟨t, 0, none⟩), .int .i64 k] w fun e w' => ∃ kv vv cv, e = .returned (.tuple #[pageV q kv vv cv, .int .i64 0]) ∧ PgOwn w' w.heap.size kv vv cv q.keys q.vals q.kids ∧ Mod NoB w w' := by
  unfold Small at hs
  obtain ⟨W1, hW1⟩ : ∃ W1, w.alloc (.cells #[.bool false, .slice none 0 0, .slice none 0 0, .slice none 0 0] 130) = W1 := ⟨_, rfl⟩
  have hm1 : Mod NoB w W1 := by rw [← hW1]; exact (Mod.refl _ _).alloc _
  have hD1 : W1.heap[w.heap.size]? = some (.cells #[.bool false, .slice none 0 0, .slice none 0 0, .slice none 0 0] 130 (0, 0)) := by rw [← hW1]; exact heap_alloc_new _ _
  have h1 := h.mod hm1
  have hr := LRead_calls l p g (k : Int) W1 h1.log (by omega) (by omega) (by omega) (by have := rdG_lt hq; omega)
  rw [hq.2] at hr
  have HR := Lib.hid hr
  obtain ⟨tb, t0, t1, tf⟩ := h1.tree.facts
  have HM1 := Lib.hid hm1
  have HD1 := Lib.hid hD1
  have HDC := Lib.hid (fun X => Decode_calls q X hq.1)
  clear hm1 hD1 hr h1 h
  go_enter Tryz.func71, Tryz.ntmps71
  go_wp2_with fail
  clear hW1
  refine HR.out.mono ?_
  rintro e W2 ⟨rfl, hm2⟩
  have HM2 := Lib.hid (HM1.out.trans hm2 (fun _ _ h => h))
  have HD2 := Lib.hid ((hm2.block _ (lt_heap HD1.out) id).trans HD1.out)
  clear hm2 HR HM1 HD1 t0 t1 tf tb
  go_wp2_with fail
  refine (HDC.out _).mono ?_
  rintro e W3 ⟨kv, vv, cv, rfl, ho, hm3⟩
  have hsz := HM2.out.size
  have HM3 := Lib.hid (HM2.out.trans hm3 (fun _ _ h => h))
  have hD3 := (hm3.block _ (lt_heap HD2.out) id).trans HD2.out
  obtain ⟨⟨a1, c1, rfl⟩, ⟨a2, c2, rfl⟩, a3, c3, rfl⟩ := ho.shapes
  have HO : Hid (PgOwn W3 w.heap.size (.slice a1 q.keys.length c1) (.slice a2 q.vals.length c2) (.slice a3 q.kids.length c3) q.keys q.vals q.kids) := ⟨ho.k.mono hsz, ho.v.mono hsz, ho.c.mono hsz, ho.apart⟩
  clear hm3 ho HM2 HDC HD2
  obtain ⟨db, d0, d1, d2, d3, df⟩ := Page4.facts hD3
  have HD3 := Lib.hid hD3
  clear hD3
  go_wp2_with fail
  refine at_world6 (P := bodyPost _ _ _ _ _) (fun X => X.heap[w.heap.size]? = some (.cells #[.bool q.leaf, .slice a1 q.keys.length c1, .slice a2 q.vals.length c2, .slice a3 q.kids.length c3] 130 (0, 0)) ∧ Mod (fun k => k = w.heap.size) W3 X) ?_ ?_
  · refine ⟨?_, ?_⟩
    · simp only [heap_setCell, if_true, HD3.out, Option.map_some, setAt_cells, List.setIfInBounds_toArray, List.set_cons_zero, List.set_cons_succ]
    · repeat (first | with_reducible exact Mod.refl _ _ | ((with_reducible refine Mod.setCell ?_ _ _ ?_); rotate_left; (intro _; rfl)))
  · rintro X ⟨hDX, hMX⟩
    obtain ⟨xb, x0, x1, x2, x3, xf⟩ := Page4.facts hDX
    refine bodyPost_ret (v := .tuple #[.agg #[.bool q.leaf, .slice a1 q.keys.length c1, .slice a2 q.vals.length c2, .slice a3 q.kids.length c3], .int .i64 0]) (by simp [results, Tryz.f71, go_sem, x0, x1, x2, x3]) rfl ⟨.slice a1 q.keys.length c1, .slice a2 q.vals.length c2, .slice a3 q.kids.length c3, rfl, ?_, ?_⟩
    · exact HO.out.keep hMX (fun j _ e _ => by subst e; exact ⟨_, _, _, HD3.out, by decide, by decide⟩)
    · exact HM3.out.trans hMX (fun j hj e => by omega)

set_option maxRecDepth 100000 in
set_option maxHeartbeats 1600000 in
theorem save_calls (t l p : Nat) (g : Lg) (root : Int) (q : Pg) (kv vv cv : Value) (w : World) (h : TL w t l p g root) (hi : PgIn w kv vv cv q) (hq : pgOk q) (hs : Small g 0) :
    Calls Tryz.prog 104 #[.pointer (some ⟨t, 0, none⟩), pageV q kv vv cv] w fun e w' => e = .returned (.tuple #[.int .i64 g.top', .int .i64 0]) ∧ Mod (fun k => k = l) w w' ∧ TL w' t l p (g.lay q) root := by
  unfold Small at hs
  have HE := Lib.hid (fun X (hX : Mod NoB w X) => Encode_calls q kv vv cv X (hi.mod hX) hq)
  have hle := encP_le hq
  have HA : Hid (∀ X, Mod NoB w X → Calls Tryz.prog 141 #[.pointer (some ⟨l, 0, none⟩), .string ⟨(encP q).toArray⟩] X fun e w' => e = .returned (.tuple #[.int .i64 g.top', .int .i64 0]) ∧ Mod (fun k => k = l) X w' ∧ LogAt w' l p (g.lay q)) := fun X hX => by
    have h1 := LAppend_calls l p g (encP q) X (h.mod hX).log (by omega) (by omega) (by omega)
    rw [lay_append hq] at h1
    exact h1
  have HT : Hid (∀ X, Mod NoB w X → TreeAt X t l root) := fun X hX => (h.mod hX).tree
  have HL : Hid (∀ w', Mod (fun k => k = l) w w' → LogAt w' l p (g.lay q) → TL w' t l p (g.lay q) root) := fun w' hm hl => h.logged hm hl
  clear h hi hs hle
  go_enter Tryz.func104, Tryz.ntmps104
  go_wp2_with fail
  refine (HE.out _ (by (repeat (first | with_reducible exact Mod.refl _ _ | with_reducible refine Mod.drew ?_ | with_reducible refine Mod.alloc ?_ _)))).mono ?_
  rintro e W2 ⟨rfl, hm2⟩
  have HM2 : Hid (Mod NoB w W2) := (show Mod NoB w _ from (by (repeat (first | with_reducible exact Mod.refl _ _ | with_reducible refine Mod.drew ?_ | with_reducible refine Mod.alloc ?_ _)))).trans hm2 (fun _ _ h => h)
  clear hm2 HE
  obtain ⟨tb, t0, t1, tf⟩ := (HT.out _ HM2.out).facts
  go_wp2_with fail
  refine (HA.out _ HM2.out).mono ?_
  rintro e W3 ⟨rfl, hm3, hl3⟩
  have HF : Hid (Mod (fun k => k = l) w W3 ∧ TL W3 t l p (g.lay q) root) := by
    have hmm := (HM2.out.mono (noB_sub (fun k => k = l) _)).trans hm3 (fun _ _ h => h)
    exact ⟨hmm, HL.out _ hmm hl3⟩
  clear hm3 hl3 HA HT HL t0 t1 tf tb HM2
  go_wp2_with fail
  go_ret2
  exact ⟨rfl, HF.out⟩

end Go.Proofs.YtgofngilfdnakaaGreat
