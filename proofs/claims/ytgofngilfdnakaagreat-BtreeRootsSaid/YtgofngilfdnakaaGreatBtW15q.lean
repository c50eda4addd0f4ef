/-
  This text proves what the package btree's put and Put do; under bounds on lengths.
-/
import Derived.Test.YtgofngilfdnakaaGreatBtW14q
import Derived.Test.YtgofngilfdnakaaGreatBtP5

namespace Go.Proofs.YtgofngilfdnakaaGreat
open Go Go.RowKit
set_option linter.unusedSimpArgs false
attribute [local go_sem] over_cell over_frozen lt_over le_over noB loudUpon ByteArray.mk_append_mk ByteArray.extract_mk

theorem Kept.more {w : World} {t l p : Nat} {root : Int} {g : Lg} {n n' m d : Nat} {lo : Str} {hi : Option Str} {M : Files} {e : Ending} {w' : World} (h : Kept w t l p root g n m d lo hi M e w') (hn : n ≤ n') : Kept w t l p root g n' m d lo hi M e w' := by
  obtain ⟨a, b, kk, two, g', h1, h2, h3, h4, h5, h6⟩ := h
  exact ⟨a, b, kk, two, g', h1, h2, h3, h4, Nat.le_trans h5 (Nat.add_le_add_left hn _), h6⟩
theorem small_le {g : Lg} {a b : Nat} (h : Small g b) (hab : a ≤ b) : Small g a := by
  unfold Small at *
  exact Nat.le_trans (Nat.add_le_add_left (Nat.mul_le_mul_left _ hab) _) h
theorem put_calls (t l p : Nat) (g : Lg) (root : Int) (key v : Str) (hk : keyOk key) (hv : v.length ≤ 8192) : ∀ (d m k : Nat) (lo : Str) (hi : Option Str) (M : Files) (w : World), TL w t l p g root → Rep (rdG g) m d k lo hi M → 1 ≤ m → m ≤ 4 → above lo key → below hi key → Small g (d + 1) →
    Calls Tryz.prog 105 #[.pointer (some ⟨t, 0, none⟩), .int .i64 k, .string ⟨key.toArray⟩, .string ⟨v.toArray⟩] w (Kept w t l p root g (140200 * (d + 1)) m d lo hi (M.put key v))
  | 0, m, k, lo, hi, M, w => fun hT hr h1 h4 ha hb hs => by
    obtain ⟨_, q, hq, hm, h8, hp⟩ := hr
    have hn : 140200 ≤ 140200 * (0 + 1) := Nat.le_refl _
    cases his : kIs q.keys key with
    | true => exact (put_there t l p k m g root q key v lo hi M w hT hq hp (by omega) h8 h4 hm hk hv ha hb hs his).mono fun _ _ h => h.more hn
    | false => exact (put_new t l p k m g root q key v lo hi M w hT hq hp (by omega) h8 h4 hm hk hv ha hb hs his).mono fun _ _ h => h.more hn
  | d + 1, m, k, lo, hi, M, w => fun hT hr h1 h4 ha hb hs => by
    obtain ⟨_, q, hq, hm, h8, hp⟩ := hr
    exact put_node t l p k m d g root q key v lo hi M w hT hq hp (by omega) h8 h4 hm ha hb hs (fun X x lo' hi' M2 hX hx ha' hb' => put_calls t l p g root key v hk hv d 4 x lo' hi' M2 X hX hx (by omega) (by omega) ha' hb' (small_le hs (Nat.le_succ _)))
theorem depth_n {d : Nat} (h : d ≤ 5) : 140200 * (d + 1) ≤ 841200 := Nat.mul_le_mul_left 140200 (Nat.succ_le_succ h)
theorem put_root (t l p : Nat) (g : Lg) (root : Int) (key v : Str) (d k : Nat) (M : Files) (w : World) (hk : keyOk key) (hv : v.length ≤ 8192) (hT : TL w t l p g root) (hr : Rep (rdG g) 1 d k [] none M) (hd : d ≤ 5) (hs : Small g 8) :
    Calls Tryz.prog 105 #[.pointer (some ⟨t, 0, none⟩), .int .i64 k, .string ⟨key.toArray⟩, .string ⟨v.toArray⟩] w (Kept w t l p root g 841200 1 d [] none (M.put key v)) :=
  (put_calls t l p g root key v hk hv d 1 k [] none M w hT hr (Nat.le_refl _) (by omega) (above_nil _) trivial (small_le hs (by omega))).mono fun _ _ h => h.more (depth_n hd)
theorem Small.grew {g g' : Lg} (h : Small g 8) (hg : Grew g g') (hn : g'.wait.length ≤ g.wait.length + 841200) : Small g' 1 := by
  obtain ⟨x, rfl⟩ := hg.ex
  unfold Small at *
  simp only at hn ⊢
  omega
theorem Small.top {g : Lg} {n : Nat} (h : Small g n) : g.top' ≤ 1900000000 := by
  have := h.zero
  unfold Small at this
  unfold Lg.top'
  omega
theorem TR.shallow {g : Lg} {r d : Nat} {M : Files} (h : Rep (rdG g) 1 d r [] none M) (hM : M.length ≤ 2700) : d ≤ 5 := by
  obtain ⟨_, q, _, h1, _, hp⟩ := h
  exact repP_shallow hp h1 hM
/-- What an operation on a tree leaves. -/
def TreePost (w : World) (t l p : Nat) (g : Lg) (n : Nat) (u : Value) (M : Files) (e : Ending) (w' : World) : Prop :=
  ∃ root' g', e = .returned u ∧ Mod (fun k => k = l ∨ k = t) w w' ∧ TL w' t l p g' root' ∧ Grew g g' ∧ g'.wait.length ≤ g.wait.length + n ∧ TR g' root' M
theorem TL.rooted {w : World} {t l p : Nat} {g : Lg} {root : Int} (h : TL w t l p g root) (r : Int) : TL (w.setCell ⟨t, 1, none⟩ (.int .i64 r)) t l p g r := by
  have hne := h.ne
  refine ⟨?_, h.log.mod (F := fun k => k = t) ((Mod.refl _ _).setCell _ _ (fun _ => rfl)) (fun e => hne e.symm)⟩
  have := h.tree
  unfold TreeAt at *
  rw [heap_setCell_same, this]
  rfl
theorem in1_cells {w : World} {b n : Nat} {cs : Array Value} {E : TypeId} (h : w.heap[b]? = some (.cells cs E (0, 0))) (hs : cs.size = n) (hn : n ≤ 1000) : In1 w (.slice (some ⟨b, 0, none⟩) n n) cs.toList :=
  own_in (own_mk (Nat.zero_le _) h hs (Nat.le_refl _) (by rw [maxLenIs]; omega) (by rw [List.take_of_length_le (by simp [hs])]))

set_option maxRecDepth 100000 in
set_option maxHeartbeats 6400000 in
theorem Put_first (t l p : Nat) (g : Lg) (key v : Str) (w : World) (hk : keyOk key) (hv : v.length ≤ 8192) (h : TL w t l p g (-1)) (hs : Small g 8) :
    Calls Tryz.prog 64 #[.pointer (some ⟨t, 0, none⟩), .string ⟨key.toArray⟩, .string ⟨v.toArray⟩] w (TreePost w t l p g 1000000 (.int .i64 0) (Files.put [] key v)) := by
  have hok : pgOk ⟨true, [key], [v], []⟩ := rep_ok (first_rep (rd := rdG g) hk hv) (by simp) (by simp)
  have HSV := Lib.hid (fun X kv vv cv (hT : TL X t l p g (-1)) (hi : PgIn X kv vv cv ⟨true, [key], [v], []⟩) => save_calls t l p g (-1) ⟨true, [key], [v], []⟩ kv vv cv X hT hi hok hs.zero)
  have HT := Lib.hid (fun X (hX : Mod NoB w X) => h.mod hX)
  have HR := Lib.hid (keep_one (first_rep (rd := rdG g) hk hv) (by simp) (by simp) (Nat.le_trans hs.top (by omega)))
  have HN := Lib.hid (lay_size (g := g) hok)
  have HOK := Lib.hid hok
  have hne := h.ne
  obtain ⟨tb, t0, t1, tf⟩ := h.tree.facts
  obtain ⟨hk1, hk2⟩ := hk
  clear hs hok h
  go_enter Tryz.func64, Tryz.ntmps64
  go_wp2_with fail
  refine calls_at (fun X => Mod NoB w X ∧ PgIn X (.slice (some ⟨w.heap.size, 0, none⟩) 1 1) (.slice (some ⟨w.heap.size + 1, 0, none⟩) 1 1) (.slice none 0 0) ⟨true, [key], [v], []⟩) ⟨QM.out, in1_cells (cs := #[txt key]) (E := 9) (by first | exact hat0 | exact hat1) rfl (by omega), in1_cells (cs := #[txt v]) (E := 9) (by first | exact hat0 | exact hat1) rfl (by omega), In1.nil _⟩ ?_
  rintro X ⟨hX, hI⟩
  refine (HSV.out X _ _ _ (HT.out X hX) hI).mono ?_
  rintro e W5 ⟨rfl, hm5, hT5⟩
  have HM5 := Lib.hid ((hX.mono (noB_sub (fun k => k = l) _)).trans hm5 (fun _ _ h => h))
  have HY := Lib.hid (hT5.rooted g.top')
  clear tb t0 t1 tf hX hI hm5
  obtain ⟨tb, t0, t1, tf⟩ := hT5.tree.facts
  clear hT5
  go_wp2_with fail
  refine bodyPost_ret (v := .int .i64 0) (by simp [results, Tryz.f64, go_sem]) rfl ?_
  exact ⟨_, _, rfl, (HM5.out.mono (fun _ _ h => .inl h)).trans ((Mod.refl _ _).setCell _ _ (fun _ => .inr rfl)) (fun _ _ h => h), HY.out, Grew.lay HOK.out, by have := HN.out; omega, .inr ⟨0, _, rfl, HR.out⟩⟩

set_option maxRecDepth 100000 in
set_option maxHeartbeats 6400000 in
theorem Put_at (t l p d r : Nat) (g : Lg) (key v : Str) (M : Files) (w : World) (hk : keyOk key) (hv : v.length ≤ 8192) (h : TL w t l p g r) (hr : Rep (rdG g) 1 d r [] none M) (hd : d ≤ 5) (hs : Small g 8) :
    Calls Tryz.prog 64 #[.pointer (some ⟨t, 0, none⟩), .string ⟨key.toArray⟩, .string ⟨v.toArray⟩] w (TreePost w t l p g 1000000 (.int .i64 0) (M.put key v)) := by
  have HPU := Lib.hid (put_root t l p g r key v d r M w hk hv h hr hd hs)
  have HS := Lib.hid hs
  have HLL : Hid (l < w.heap.size) := lt_heap h.log
  have HTL : Hid (t < w.heap.size) := lt_heap h.tree
  have hne := h.ne
  obtain ⟨tb, t0, t1, tf⟩ := h.tree.facts
  obtain ⟨hk1, hk2⟩ := hk
  clear hs h hr
  go_enter Tryz.func64, Tryz.ntmps64
  go_wp2_with fail
  refine HPU.out.mono ?_
  clear HPU
  rintro e W5 ⟨a', b', kk, two', g1, rfl, hm5, hT5, hg5, hn5, hs5⟩
  obtain ⟨W6, hW6⟩ : ∃ W6, W5.alloc (.cells #[.int .i64 a', .int .i64 b', .string ⟨kk.toArray⟩, .bool two'] 175) = W6 := ⟨_, rfl⟩
  have hm6 : Mod NoB W5 W6 := by rw [← hW6]; exact (Mod.refl _ _).alloc _
  have hS6 : W6.heap[W5.heap.size]? = some (.cells #[.int .i64 a', .int .i64 b', .string ⟨kk.toArray⟩, .bool two'] 175 (0, 0)) := by rw [← hW6]; exact heap_alloc_new _ _
  have HM6 := Lib.hid (hm5.trans hm6 (fun _ _ h => h.elim))
  have HT6 := Lib.hid (hT5.mod hm6)
  clear tb t0 t1 tf
  obtain ⟨tb, t0, t1, tf⟩ := HT6.out.tree.facts
  obtain ⟨sb, s0, s1, s2, s3, sf⟩ := Split4.facts hS6
  have HS6 := Lib.hid hS6
  have HG5 := Lib.hid hg5
  have HN5 := Lib.hid hn5
  have hsz5 : w.heap.size ≤ W5.heap.size := hm5.size
  have hts : t ≠ W5.heap.size := by have := HTL.out; omega
  clear hS6 hm5 hm6 hT5 hg5 hn5
  cases two'
  · go_wp2_with fail
    refine at_world6 (P := bodyPost _ _ _ _ _) (fun X => ∃ Z, Mod (fun j => j = W5.heap.size) W6 Z ∧ X = Z.setCell ⟨t, 1, none⟩ (.int .i64 a')) ⟨_, (by (repeat (first | with_reducible exact Mod.refl _ _ | with_reducible refine Mod.drew ?_ | ((with_reducible refine Mod.setCell ?_ _ _ ?_); rotate_left; (intro _; rfl))))), rfl⟩ ?_
    rintro _ ⟨Z, hmZ, rfl⟩
    have HY := Lib.hid ((HT6.out.upd hmZ (fun e => by have := HTL.out; omega) (fun e => by have := HLL.out; omega)).rooted a')
    have HMY := Lib.hid (((HM6.out.mono (fun _ _ h => .inl h)).trans hmZ (fun j hj e => by omega)).trans (show Mod (fun k => k = l ∨ k = t) Z (Z.setCell ⟨t, 1, none⟩ (.int .i64 a')) from (Mod.refl _ _).setCell _ _ (fun _ => .inr rfl)) (fun _ _ h => h))
    refine bodyPost_ret (v := .int .i64 0) (by simp [results, Tryz.f64, go_sem]) rfl ?_
    exact ⟨_, _, rfl, HMY.out, HY.out, HG5.out, by have := HN5.out; omega, .inr ⟨d, _, rfl, hs5.one rfl⟩⟩
  · have hrt := root_two hs5
    have hok : pgOk ⟨false, [kk], [], [a', b']⟩ := rep_ok hrt (by simp) (by simp)
    have hsm := HS.out.grew HG5.out HN5.out
    have HSV := Lib.hid (fun X kv vv cv (hT : TL X t l p g1 r) (hi : PgIn X kv vv cv ⟨false, [kk], [], [a', b']⟩) => save_calls t l p g1 r ⟨false, [kk], [], [a', b']⟩ kv vv cv X hT hi hok hsm.zero)
    have HR := Lib.hid (keep_one hrt (by simp) (by simp) (Nat.le_trans hsm.top (by omega)))
    have HN := Lib.hid (lay_size (g := g1) hok)
    have HOK := Lib.hid hok
    clear hrt hok hsm hs5
    go_wp2_with fail
    refine calls_at (fun X => Mod NoB W6 X ∧ PgIn X (.slice (some ⟨W6.heap.size, 0, none⟩) 1 1) (.slice none 0 0) (.slice (some ⟨W6.heap.size + 1, 0, none⟩) 2 2) ⟨false, [kk], [], [a', b']⟩) ⟨QM.out, in1_cells (cs := #[txt kk]) (E := 9) (by first | exact hat0 | exact hat1) rfl (by omega), In1.nil _, in1_cells (cs := #[numV a', numV b']) (E := 3) (by first | exact hat0 | exact hat1) rfl (by omega)⟩ ?_
    rintro X ⟨hX, hI⟩
    refine (HSV.out X _ _ _ (HT6.out.mod hX) hI).mono ?_
    rintro e W7 ⟨rfl, hm7, hT7⟩
    have hlw : l < w.heap.size := HLL.out
    have hS7 := (hm7.block _ (by have := hX.size; omega) (fun e => by omega)).trans ((hX.block _ sb id).trans HS6.out)
    have HM7 := Lib.hid ((HM6.out.trans hX (fun _ _ h => h.elim)).trans hm7 (fun _ _ h => h))
    have HT7 := Lib.hid hT7
    clear hX hI hm7 hT7 HM6 HT6 HSV HS6 tb t0 t1 tf s0 s1 s2 s3 sf sb hW6
    obtain ⟨tb, t0, t1, tf⟩ := HT7.out.tree.facts
    obtain ⟨sb, s0, s1, s2, s3, sf⟩ := Split4.facts hS7
    clear hS7
    go_wp2_with fail
    refine at_world6 (P := bodyPost _ _ _ _ _) (fun X => ∃ Z, Mod (fun j => j = W5.heap.size) W7 Z ∧ X = Z.setCell ⟨t, 1, none⟩ (.int .i64 g1.top')) ⟨_, (by (repeat (first | with_reducible exact Mod.refl _ _ | with_reducible refine Mod.drew ?_ | ((with_reducible refine Mod.setCell ?_ _ _ ?_); rotate_left; (intro _; rfl))))), rfl⟩ ?_
    rintro _ ⟨Z, hmZ, rfl⟩
    have HY := Lib.hid ((HT7.out.upd hmZ (fun e => by have := HTL.out; omega) (fun e => by have := HLL.out; omega)).rooted g1.top')
    have HMY := Lib.hid (((HM7.out.mono (fun _ _ h => .inl h)).trans hmZ (fun j hj e => by omega)).trans (show Mod (fun k => k = l ∨ k = t) Z (Z.setCell ⟨t, 1, none⟩ (.int .i64 g1.top')) from (Mod.refl _ _).setCell _ _ (fun _ => .inr rfl)) (fun _ _ h => h))
    refine bodyPost_ret (v := .int .i64 0) (by simp [results, Tryz.f64, go_sem]) rfl ?_
    exact ⟨_, _, rfl, HMY.out, HY.out, HG5.out.trans (Grew.lay HOK.out), by have := HN5.out; have := HN.out; omega, .inr ⟨d + 1, _, rfl, HR.out⟩⟩
theorem Put_calls (t l p : Nat) (g : Lg) (root : Int) (key v : Str) (M : Files) (w : World) (hk : keyOk key) (hv : v.length ≤ 8192) (h : TL w t l p g root) (hr : TR g root M) (hM : M.length ≤ 2700) (hs : Small g 8) :
    Calls Tryz.prog 64 #[.pointer (some ⟨t, 0, none⟩), .string ⟨key.toArray⟩, .string ⟨v.toArray⟩] w (TreePost w t l p g 1000000 (.int .i64 0) (M.put key v)) := by
  rcases hr with ⟨rfl, rfl⟩ | ⟨d, r, rfl, hr⟩
  · exact Put_first t l p g key v w hk hv h hs
  · exact Put_at t l p d r g key v M w hk hv h hr (TR.shallow hr hM) hs
set_option maxRecDepth 100000 in
set_option maxHeartbeats 3200000 in
theorem Put_not (t : Nat) (key v : Str) (w : World) (hk : key.length < 1 ∨ 64 < key.length ∨ 8192 < v.length) (hl : key.length ≤ 1000000) (hl2 : v.length ≤ 1000000) :
    Calls Tryz.prog 64 #[.pointer (some ⟨t, 0, none⟩), .string ⟨key.toArray⟩, .string ⟨v.toArray⟩] w fun e w' => e = .returned (.int .i64 1) ∧ Mod NoB w w' := by
  go_enter Tryz.func64, Tryz.ntmps64
  go_wp2_with fail
  all_goals (first | exact bodyPost_ret (v := .int .i64 1) (by simp [results, Tryz.f64, go_sem]) rfl ⟨rfl, Mod.refl _ _⟩ | (exfalso; omega))

end Go.Proofs.YtgofngilfdnakaaGreat
