/-
  This text proves what the argument of the laws of cupellaw06 is, as their walks want it: what is done, in a slice; no Go function is spoken of.
-/
import Derived.Test.YtgofngilfdnakaaGreatBtW19q
import Derived.Test.YtgofngilfdnakaaGreatBtW20q
import Derived.Test.YtgofngilfdnakaaGreatPkC
import Derived.Test.YtgofngilfdnakaaGreatMem
import Derived.WalkKit
import Derived.ProofKit
import Derived.OpenShut
import Derived.WideKeyArgs
import Derived.Test.YtgofngilfdnakaaGreatPkB
import Derived.SliceStrings
import Derived.ChangeMaps5

namespace Go.Proofs.YtgofngilfdnakaaGreat
open Go Go.RowKit
set_option linter.unusedSimpArgs false

theorem leaf_is {rd : Nat → Pg → Prop} {p : Pg} {lo : Str} {hi : Option Str} {M : Files} {k : Str} (h : RepP rd 0 p lo hi M) : kIs p.keys k = true ↔ M.get k ≠ none := by
  have hg := leaf_get (k := k) h
  constructor
  · intro hk e
    rw [e, if_pos hk] at hg
    have h1 := kIs_lt hk
    have h2 : p.vals.length = p.keys.length := by rw [h.2.2.1, h.2.2.2.1]; simp
    have := List.getElem?_eq_none_iff.1 hg.symm
    omega
  · intro hn
    cases hk : kIs p.keys k with
    | true => rfl
    | false =>
      rw [hk] at hg
      exact absurd hg hn
theorem mends_of {w w' : World} {t l p i base d : Nat} {root : Int} {g : Lg} {P : Pg} {lo lo2 : Str} {hi hi2 : Option Str} {N N2 : Files} {e : Ending} (h : Mended w t l p i base root g P d lo hi N e w') (hi0 : i < P.keys.length)
    (hf : ∀ (g' : Lg) a b kk two, Grew g g' → SplitR (rdG g') 4 d lo hi N a b kk two → RepP (rdG g') (d + 1) (P.mendKid i a b kk two) lo2 hi2 N2) : Mends w t l p base root g P.keys.length d lo2 hi2 N2 e w' := by
  obtain ⟨a, b, kk, two, kv, vv, cv, g', h1, h2, h3, h4, h5, h6, h7⟩ := h
  have hl := mendKid_len P i a b kk two hi0
  exact ⟨_, kv, vv, cv, g', h1, h2, h3, h4, h5, h6, hf g' a b kk two h4 h7, hl.1, hl.2⟩
theorem del_not (t l p : Nat) (g : Lg) (root : Int) (key : Str) (hs : Small g 0) : ∀ (d m k : Nat) (lo : Str) (hi : Option Str) (M : Files) (w : World), TL w t l p g root → Rep (rdG g) m d k lo hi M → 1 ≤ m → above lo key → below hi key → M.get key = none →
    Calls Tryz.prog 108 #[.pointer (some ⟨t, 0, none⟩), .int .i64 k, .string ⟨key.toArray⟩] w (DelNot w)
  | 0, m, k, lo, hi, M, w => fun hT hr h1 ha hb hn => by
    obtain ⟨_, q, hq, hm, h8, hp⟩ := hr
    refine delL_none t l p k g root q key w hT hq hp.1 hs ?_
    cases hk : kIs q.keys key with
    | false => rfl
    | true => exact absurd hn ((leaf_is hp).1 hk)
  | d + 1, m, k, lo, hi, M, w => fun hT hr h1 ha hb hn => by
    obtain ⟨_, q, hq, hm, h8, hp⟩ := hr
    obtain ⟨x, lo', hi', M2, _, hx, hrep, ha', hb', hget, _⟩ := node_del hp ha hb
    exact delN_none t l p k x g root q key w hT hq hp.1 h8 (kr_length hp.2.2.2) hx hs (fun X hX => del_not t l p g root key hs d 4 x lo' hi' M2 X hX hrep (by omega) ha' hb' (hget ▸ hn))
theorem del_there (t l p : Nat) (g : Lg) (root : Int) (key : Str) : ∀ (d m k : Nat) (lo : Str) (hi : Option Str) (M : Files) (w : World), TL w t l p g root → Rep (rdG g) m d k lo hi M → 1 ≤ m → above lo key → below hi key → M.get key ≠ none → Small g (d + 1) →
    Calls Tryz.prog 108 #[.pointer (some ⟨t, 0, none⟩), .int .i64 k, .string ⟨key.toArray⟩] w (Deled w t l p root g (140200 * d) m d lo hi (M.del key))
  | 0, m, k, lo, hi, M, w => fun hT hr h1 ha hb hn hs => by
    obtain ⟨_, q, hq, hm, h8, hp⟩ := hr
    exact delL_there t l p k m g root q key lo hi M w hT hq hp h8 hm hs.zero ((leaf_is hp).2 hn)
  | d + 1, m, k, lo, hi, M, w => fun hT hr h1 ha hb hn hs => by
    obtain ⟨_, q, hq, hm, h8, hp⟩ := hr
    have hkn : q.kids.length = q.keys.length + 1 := kr_length hp.2.2.2
    obtain ⟨x, y, s, lo', hi', Ma, Mb, hlt, _, hx, hy, hk, hrx, hry, hf, ho⟩ := node_both hp ha hb (by omega)
    rcases Nat.eq_zero_or_pos (kKid q.keys key) with h0 | h0
    · obtain ⟨hax, hbx, hget, hone, hfin⟩ := hf h0
      have hx0 : q.kids[kKid q.keys key]? = some x := by rw [h0] at hx ⊢; exact hx
      have hk0 : q.keys[kKid q.keys key]? = some s := by rw [h0] at hk ⊢; exact hk
      have hy0 : q.kids[1]? = some y := by rw [h0] at hy; exact hy
      have hlt0 : kKid q.keys key < q.keys.length := by omega
      obtain ⟨_, yq, hyq, hy4, hy8, hyp⟩ := hry
      refine del_walk t l p k m d (kKid q.keys key) x g root q key lo hi lo' (some s) (Ma.del key) (M.del key) w hT hq hp.1 h8 hm hkn rfl hx0 hs (fun X hX => del_there t l p g root key d 4 x lo' (some s) Ma X hX hrx (by omega) hax hbx (hget ▸ hn) (small_le hs (Nat.le_succ _))) (fun g1 r hg hr => hone _ r hg.rd hr) ?_
      intro X base g1 kv vv cv ok ov oc o hTX hg hs1 hoX hiX hro hl3 hlb htb hbX
      have hlf : o.leaf = yq.leaf := repP_leaves hro (repP_mono hg.rd hyp)
      have hj := hfin (rdG g1) o yq 0 0 [] false hg.rd hro (repP_mono hg.rd hyp)
      obtain ⟨hj4, hj12⟩ := join_lengths (a := o) (b := yq) s (by omega) (by omega)
      refine (mend_first t l p (kKid q.keys key) y d base g1 root q o yq s kv vv cv ok ov oc lo' hi' (Ma.del key ++ Mb) X h0 hTX hoX hiX (rep_ok hro (by omega) (by omega)) hlb htb hbX hy0 (hg.rd _ _ hyq) hk0 hkn h8 hp.1 hlf hj.1 hj4 hj12 hs1).mono fun e w' hM => mends_of hM hlt0 (fun g' a b kk two hg' hsp => ?_)
      have := (hfin (rdG g') o yq a b kk two (hg.trans hg').rd (repP_mono hg'.rd hro) (repP_mono (hg.trans hg').rd hyp)).2 hsp
      rw [h0] at this ⊢
      exact this
    · obtain ⟨hax, hbx, hget, hone, hfin⟩ := ho h0
      have hkk : kKid q.keys key = kKid q.keys key - 1 + 1 := by omega
      obtain ⟨_, xq, hxq, hx4, hx8, hxp⟩ := hrx
      refine del_walk t l p k m d (kKid q.keys key - 1 + 1) y g root q key lo hi s hi' (Mb.del key) (M.del key) w hT hq hp.1 h8 hm hkn hkk hy hs (fun X hX => del_there t l p g root key d 4 y s hi' Mb X hX hry (by omega) hax hbx (hget ▸ hn) (small_le hs (Nat.le_succ _))) (fun g1 r hg hr => by rw [← hkk]; exact hone _ r hg.rd hr) ?_
      intro X base g1 kv vv cv ok ov oc o hTX hg hs1 hoX hiX hro hl3 hlb htb hbX
      have hlf : o.leaf = xq.leaf := repP_leaves hro (repP_mono hg.rd hxp)
      have hj := hfin (rdG g1) o xq 0 0 [] false hg.rd hro (repP_mono hg.rd hxp)
      obtain ⟨hj4, hj12⟩ := join_lengths (a := xq) (b := o) s (by omega) (by omega)
      exact (mend_other t l p (kKid q.keys key - 1) x d base g1 root q o xq s kv vv cv ok ov oc lo' hi' (Ma ++ Mb.del key) X hTX hoX hiX (rep_ok hro (by omega) (by omega)) hlb htb hbX hx (hg.rd _ _ hxq) hk hkn h8 hp.1 hlf hj.1 hj4 hj12 hs1).mono fun e w' hM => mends_of hM hlt (fun g' a b kk two hg' hsp =>
        (hfin (rdG g') o xq a b kk two (hg.trans hg').rd (repP_mono hg'.rd hro) (repP_mono (hg.trans hg').rd hxp)).2 hsp)

end Go.Proofs.YtgofngilfdnakaaGreat

namespace Go.Proofs.YtgofngilfdnakaaGreat
open Go Go.RowKit
set_option linter.unusedSimpArgs false
attribute [local go_sem] over_cell over_frozen lt_over le_over noB loudUpon ByteArray.mk_append_mk ByteArray.extract_mk

theorem depth_d {d : Nat} (h : d ≤ 5) : 140200 * d ≤ 701000 := Nat.mul_le_mul_left 140200 h
theorem deled_small {g g' : Lg} (h : Small g 8) (hg : Grew g g') (hn : g'.wait.length ≤ g.wait.length + 701000) : Small g' 1 := h.grew hg (Nat.le_trans hn (Nat.add_le_add_left (by decide) _))

set_option maxRecDepth 100000 in
set_option maxHeartbeats 3200000 in
theorem Delete_none (t l p : Nat) (g : Lg) (key : Str) (w : World) (h : TL w t l p g (-1)) : Calls Tryz.prog 67 #[.pointer (some ⟨t, 0, none⟩), .string ⟨key.toArray⟩] w fun e w' => e = .returned (.tuple #[.bool false, .int .i64 0]) ∧ Mod NoB w w' := by
  obtain ⟨tb, t0, t1, tf⟩ := h.tree.facts
  clear h
  go_enter Tryz.func67, Tryz.ntmps67
  go_wp2_with fail
  exact bodyPost_ret (v := .tuple #[.bool false, .int .i64 0]) (by simp [results, Tryz.f67, go_sem]) rfl ⟨rfl, Mod.refl _ _⟩

set_option maxRecDepth 100000 in
set_option maxHeartbeats 3200000 in
theorem Delete_not (t l p r : Nat) (g : Lg) (key : Str) (w : World) (h : TL w t l p g r) (HD : Calls Tryz.prog 108 #[.pointer (some ⟨t, 0, none⟩), .int .i64 r, .string ⟨key.toArray⟩] w (DelNot w)) : Calls Tryz.prog 67 #[.pointer (some ⟨t, 0, none⟩), .string ⟨key.toArray⟩] w fun e w' => e = .returned (.tuple #[.bool false, .int .i64 0]) ∧ Mod NoB w w' := by
  have HDX := Lib.hid HD
  obtain ⟨tb, t0, t1, tf⟩ := h.tree.facts
  clear h HD
  go_enter Tryz.func67, Tryz.ntmps67
  go_wp2_with fail
  refine HDX.out.mono ?_
  rintro e W1 ⟨rfl, hm1⟩
  have HM1 := Lib.hid hm1
  clear hm1 HDX
  go_wp2_with fail
  refine bodyPost_ret (v := .tuple #[.bool false, .int .i64 0]) (by simp [results, Tryz.f67, go_sem]) rfl ⟨rfl, ?_⟩
  exact HM1.out.trans QM.out (fun _ _ h => h)

set_option maxRecDepth 100000 in
set_option maxHeartbeats 6400000 in
theorem Delete_there (t l p d r : Nat) (g : Lg) (key : Str) (M : Files) (w : World) (h : TL w t l p g r) (hd : d ≤ 5) (hs : Small g 8) (HD : Calls Tryz.prog 108 #[.pointer (some ⟨t, 0, none⟩), .int .i64 r, .string ⟨key.toArray⟩] w (Deled w t l p r g (140200 * d) 1 d [] none (M.del key))) :
    Calls Tryz.prog 67 #[.pointer (some ⟨t, 0, none⟩), .string ⟨key.toArray⟩] w (TreePost w t l p g 1000000 (.tuple #[.bool true, .int .i64 0]) (M.del key)) := by
  have HDX := Lib.hid HD
  have HS := Lib.hid hs
  have HLL : Hid (l < w.heap.size) := lt_heap h.log
  have HTL : Hid (t < w.heap.size) := lt_heap h.tree
  have hne := h.ne
  have HDD := Lib.hid hd
  obtain ⟨tb, t0, t1, tf⟩ := h.tree.facts
  clear h HD hs hd
  go_enter Tryz.func67, Tryz.ntmps67
  go_wp2_with fail
  refine HDX.out.mono ?_
  clear HDX
  rintro e W5 ⟨q, kv, vv, cv, g1, rfl, hm5, hT5, hg5, hn5, ho5, hr5, hml5, hm85⟩
  obtain ⟨⟨a1, c1, rfl⟩, ⟨a2, c2, rfl⟩, a3, c3, rfl⟩ := ho5.shapes
  have HN5 : Hid (g1.wait.length ≤ g.wait.length + 701000) := Nat.le_trans hn5 (Nat.add_le_add_left (depth_d HDD.out) _)
  unfold pageV
  generalize holf : q.leaf = lf at *
  obtain ⟨W6, hW6⟩ : ∃ W6, W5.alloc (.cells #[.bool lf, .slice a1 q.keys.length c1, .slice a2 q.vals.length c2, .slice a3 q.kids.length c3] 130) = W6 := ⟨_, rfl⟩
  have hm6 : Mod NoB W5 W6 := by rw [← hW6]; exact (Mod.refl _ _).alloc _
  have hS6 : W6.heap[W5.heap.size]? = some (.cells #[.bool lf, .slice a1 q.keys.length c1, .slice a2 q.vals.length c2, .slice a3 q.kids.length c3] 130 (0, 0)) := by rw [← hW6]; exact heap_alloc_new _ _
  have HM6 := Lib.hid (hm5.trans hm6 (fun _ _ h => h.elim))
  have HT6 := Lib.hid (hT5.mod hm6)
  have HO6 := Lib.hid (ho5.mod hm6)
  clear tb t0 t1 tf
  obtain ⟨tb, t0, t1, tf⟩ := HT6.out.tree.facts
  obtain ⟨sb, s0, s1, s2, s3, sf⟩ := Page4.facts hS6
  have HG5 := Lib.hid hg5
  have HR5 := Lib.hid hr5
  have HOLF := Lib.hid holf
  have hsz5 : w.heap.size ≤ W5.heap.size := hm5.size
  have hts : t ≠ W5.heap.size := by have := HTL.out; omega
  clear hS6 hm5 hm6 hT5 hg5 hn5 ho5 hr5 holf
  by_cases hk0 : q.keys.length = 0
  · have hrn := root_none HR5.out hk0
    have HRN := Lib.hid hrn
    have hkb : (((q.keys.length : Nat) : Int) == 0) = true := by rw [hk0]; rfl
    clear hrn hk0
    cases lf
    · obtain ⟨x, d', hkx, hrx⟩ := HRN.out.2 HOLF.out
      have HRX := Lib.hid hrx
      have hx0 : q.kids[0]? = some x := by rw [hkx]; rfl
      have hkl : q.kids.length = 1 := by rw [hkx]; rfl
      obtain ⟨_, _, e2, _, _, _, hg⟩ := own_shape HO6.out.c
      cases e2
      obtain ⟨cg, rfl⟩ := hg (by omega)
      clear hg
      obtain ⟨c0, cf, cb⟩ := row_at HO6.out.c hx0 rfl
      have hkl0 : 0 < q.kids.length := by omega
      clear hrx hx0 hkx hkl
      go_wp2_with fail
      refine at_world6 (P := bodyPost _ _ _ _ _) (fun X => ∃ Z, Mod NoB W6 Z ∧ X = Z.setCell ⟨t, 1, none⟩ (.int .i64 x)) ⟨_, QM.out, rfl⟩ ?_
      rintro _ ⟨Z, hmZ, rfl⟩
      have HY := Lib.hid ((HT6.out.mod hmZ).rooted x)
      have HMY := Lib.hid (((HM6.out.mono (fun _ _ h => .inl h)).trans hmZ (fun j hj e => e.elim)).trans (show Mod (fun k => k = l ∨ k = t) Z (Z.setCell ⟨t, 1, none⟩ (.int .i64 x)) from (Mod.refl _ _).setCell _ _ (fun _ => .inr rfl)) (fun _ _ h => h))
      refine bodyPost_ret (v := .tuple #[.bool true, .int .i64 0]) (by simp [results, Tryz.f67, go_sem]) rfl ?_
      exact ⟨_, _, rfl, HMY.out, HY.out, HG5.out, by have := HN5.out; omega, .inr ⟨d', x, rfl, rep_less (by omega) HRX.out⟩⟩
    · have HMN := Lib.hid (HRN.out.1 HOLF.out)
      go_wp2_with fail
      refine at_world6 (P := bodyPost _ _ _ _ _) (fun X => ∃ Z, Mod NoB W6 Z ∧ X = Z.setCell ⟨t, 1, none⟩ (.int .i64 (-1))) ⟨_, QM.out, rfl⟩ ?_
      rintro _ ⟨Z, hmZ, rfl⟩
      have HY := Lib.hid ((HT6.out.mod hmZ).rooted (-1))
      have HMY := Lib.hid (((HM6.out.mono (fun _ _ h => .inl h)).trans hmZ (fun j hj e => e.elim)).trans (show Mod (fun k => k = l ∨ k = t) Z (Z.setCell ⟨t, 1, none⟩ (.int .i64 (-1))) from (Mod.refl _ _).setCell _ _ (fun _ => .inr rfl)) (fun _ _ h => h))
      refine bodyPost_ret (v := .tuple #[.bool true, .int .i64 0]) (by simp [results, Tryz.f67, go_sem]) rfl ?_
      exact ⟨_, _, rfl, HMY.out, HY.out, HG5.out, by have := HN5.out; omega, .inl ⟨rfl, HMN.out⟩⟩
  · have hk1 : 1 ≤ q.keys.length := by omega
    have hok := rep_ok HR5.out hk1 hm85
    have hsm := deled_small HS.out HG5.out HN5.out
    have HSV := Lib.hid (fun X (hX : Mod NoB W6 X) => save_calls t l p g1 r q _ _ _ X (HT6.out.mod hX) ((HO6.out.mod hX).in1 (p := q)) hok hsm.zero)
    have HRR := Lib.hid (rep_less hk1 (keep_one HR5.out hk1 hm85 (Nat.le_trans hsm.top (by omega))))
    have HLN := Lib.hid (lay_size (g := g1) hok)
    have HOK := Lib.hid hok
    unfold pageV at HSV
    rw [HOLF.out] at HSV
    have hkb : (((q.keys.length : Nat) : Int) == 0) = false := by
      rw [beq_eq_false_iff_ne]
      omega
    clear hok hsm hk0 hk1
    go_wp2_with fail
    refine (HSV.out _ (Mod.refl _ _)).mono ?_
    rintro e W7 ⟨rfl, hm7, hT7⟩
    have HM7 := Lib.hid (HM6.out.trans hm7 (fun _ _ h => h))
    have HT7 := Lib.hid hT7
    clear hm7 hT7 tb t0 t1 tf s0 s1 s2 s3 sf sb hW6 HM6 HT6 HSV
    obtain ⟨tb, t0, t1, tf⟩ := HT7.out.tree.facts
    go_wp2_with fail
    refine at_world6 (P := bodyPost _ _ _ _ _) (fun X => ∃ Z, Mod NoB W7 Z ∧ X = Z.setCell ⟨t, 1, none⟩ (.int .i64 g1.top')) ⟨_, QM.out, rfl⟩ ?_
    rintro _ ⟨Z, hmZ, rfl⟩
    have HY := Lib.hid ((HT7.out.mod hmZ).rooted g1.top')
    have HMY := Lib.hid (((HM7.out.mono (fun _ _ h => .inl h)).trans hmZ (fun j hj e => e.elim)).trans (show Mod (fun k => k = l ∨ k = t) Z (Z.setCell ⟨t, 1, none⟩ (.int .i64 g1.top')) from (Mod.refl _ _).setCell _ _ (fun _ => .inr rfl)) (fun _ _ h => h))
    refine bodyPost_ret (v := .tuple #[.bool true, .int .i64 0]) (by simp [results, Tryz.f67, go_sem]) rfl ?_
    exact ⟨_, _, rfl, HMY.out, HY.out, HG5.out.trans (Grew.lay HOK.out), by have := HN5.out; have := HLN.out; omega, .inr ⟨d, _, rfl, HRR.out⟩⟩

theorem TDelete_calls (t l p : Nat) (g : Lg) (root : Int) (key : Str) (M : Files) (w : World) (h : TL w t l p g root) (hr : TR g root M) (hM : M.length ≤ 2700) (hs : Small g 8) :
    Calls Tryz.prog 67 #[.pointer (some ⟨t, 0, none⟩), .string ⟨key.toArray⟩] w (TreePost w t l p g 1000000 (.tuple #[.bool (M.get key).isSome, .int .i64 0]) (M.del key)) := by
  rcases hr with ⟨rfl, rfl⟩ | ⟨d, r, rfl, hr⟩
  · exact (Delete_none t l p g key w h).mono fun e w' ⟨h1, h2⟩ => ⟨-1, g, h1, h2.mono (noB_sub _ _), h.mod h2, Grew.refl g, Nat.le_add_right _ _, .inl ⟨rfl, rfl⟩⟩
  · have hd := TR.shallow hr hM
    cases hg : M.get key with
    | none =>
      refine (Delete_not t l p r g key w h (del_not t l p g r key hs.zero d 1 r [] none M w h hr (Nat.le_refl _) (above_nil _) trivial hg)).mono fun e w' ⟨h1, h2⟩ => ⟨r, g, h1, h2.mono (noB_sub _ _), h.mod h2, Grew.refl g, Nat.le_add_right _ _, .inr ⟨d, r, rfl, ?_⟩⟩
      rw [del_same hg]
      exact hr
    | some v => exact Delete_there t l p d r g key M w h hd hs (del_there t l p g r key d 1 r [] none M w h hr (Nat.le_refl _) (above_nil _) trivial (by rw [hg]; exact fun e => by cases e) (small_le hs (by omega)))

end Go.Proofs.YtgofngilfdnakaaGreat

namespace Go.Proofs.YtgofngilfdnakaaGreat
open Go Go.ChangeShapes Go.WideShapes Go.ChangeAt Go.RowKit

theorem trodAll_stays {H : Type} {enc : TypeId × Value → H} {P : Program} (hl : laidOutB P = true) {W W' : World} (hb : Below W.heap.size W W') {sp : Nat → Bool} :
    ∀ {ts : List TypeId} {vs : List Value} {ds : List (DataW H)} {ps : List MemPlace}, (∀ t ∈ ts, P.readableRec t = true ∧ t < P.types.size) → DataW.TrodAll enc P W 0 (fun _ => true) true ts vs ds ps →
    (∀ p ∈ ps, p.block < W.heap.size) → (∀ p ∈ ps, sp p.block = true) → DataW.TrodAll enc P W' 0 sp true ts vs ds ps
  | [], _, _, _, _, h, _, _ => by
    obtain ⟨rfl, rfl, rfl⟩ := trodAll_nil h
    exact trodAll_mk0
  | t :: ts, _, _, _, ht, h, hlt, hs => by
    obtain ⟨v, vs1, d, ds1, a, b, rfl, rfl, rfl, h1, h2⟩ := trodAll_cons h
    have h3 := ht t List.mem_cons_self
    exact trodAll_cons_mk (WideElems.Trod_stays hl h3.1 h3.2 h1 (fun x hx => hb.same (hlt x (List.mem_append_left _ hx))) (fun x hx => hs x (List.mem_append_left _ hx)))
      (trodAll_stays hl hb (fun t ht' => ht t (List.mem_cons_of_mem _ ht')) h2 (fun x hx => hlt x (List.mem_append_right _ hx)) (fun x hx => hs x (List.mem_append_right _ hx)))

theorem below_frozen {w w' : World} (hb : Below w.heap.size w w') {b off : Nat} (h : b < w.heap.size) : w'.frozen? ⟨b, off, none⟩ = w.frozen? ⟨b, off, none⟩ :=
  World.frozen?_of_block (w := w) (hb.block b h)

theorem post_of_below {H : Type} {enc : TypeId × Value → H} {P : Program} {f : Func} {s : ChangeSpec} {apart fresh handsOn again : Bool} {W W' : World} {args : Array Value} {v : Value} {ds gs : List (DataW H)} {before : List MemPlace}
    (hl : laidOutB P = true) (ht : ∀ t ∈ f.params.toList, P.readableRec t = true ∧ t < P.types.size) (hvs : s.vars = [])
    (hW : DataW.Whole enc P f.params.toList s.vars apart W args.toList ds gs before) (hb : Below W.heap.size W W')
    (hres : ∀ (b : Nat) (sp : Nat → Bool) (hd : Bool), DataW.TrodAll enc P W' b sp hd f.resultTypes.toList (v.resultList f.resultTypes.size) (s.fn H (ds ++ gs)).results [])
    (hargs : (s.fn H (ds ++ gs)).args = ds) (hvars : (s.fn H (ds ++ gs)).vars = gs)
    (hok : ∀ (j : Nat) (t : TypeId) (r : Value), f.resultTypes[j]? = some t → (v.resultList f.resultTypes.size)[j]? = some r → Value.okWide P W' .any 0 t r) :
    s.post enc P f apart fresh handsOn again W args v W' := by
  have hlt := hW.lt
  have hW' := hW
  obtain ⟨p, q, hA, hV, rfl, hz, hn⟩ := hW
  rw [hvs] at hV
  obtain ⟨rfl, rfl⟩ := trodVars_none hV
  rw [List.append_nil] at hW' hlt hz hn
  have hold : ∀ x ∈ p, (fun b => decide (b < W.heap.size)) x.block = true := fun x hx => by simpa using hlt x hx
  have hA' : ∀ sp : Nat → Bool, (∀ x ∈ p, sp x.block = true) → DataW.TrodAll enc P W' 0 sp true f.params.toList args.toList (s.fn H (ds ++ [])).args p := fun sp hsp => by
    rw [hargs]; exact trodAll_stays hl hb ht hA hlt hsp
  have hV' : ∀ sp : Nat → Bool, DataW.TrodVars enc P W' sp s.vars (s.fn H (ds ++ [])).vars [] := fun sp => by rw [hvars, hvs]; exact rfl
  have hk : W.keptBut W' (· ∈ p) := ⟨hb.os, hb.output, fun i hi => by rw [hb.block i hi]; exact (World.keptBut_refl W (· ∈ p)).2.2 i hi⟩
  refine ⟨ds, [], p, [], p, [], hW', hres _ _ _, hA' _ hold, hV' _, World.keptBut_mono (fun x hx => ⟨hx, Or.inr (by simpa using hx)⟩) hk, fun _ => ?_⟩
  refine ⟨hok, _, _, ([] ++ p) ++ [], ⟨[] ++ p, [], trodAll_append (hA' _ (fun _ _ => rfl)) (hres _ _ _), hV' _, rfl, ?_, ?_⟩, ?_⟩
  · intro b off hp
    have hp' : MemPlace.cell b off ∈ p := by simpa using hp
    have hlt2 : b < W.heap.size := hlt _ hp'
    rw [below_frozen hb hlt2]
    exact hz b off hp'
  · intro ha
    simpa using hn ha
  · intro x hx _
    simpa using hx
structure Act6 where
  kind : Int
  key : Str
  value : Str
def Acts6In (w : World) (v : Value) (ls : List Act6) : Prop := ∃ a cap, v = .slice a ls.length cap ∧ ls.length ≤ cap ∧ cap ≤ maxLen ∧ ∀ i, (hi : i < ls.length) → ∃ b o, a = some ⟨b, o, none⟩ ∧ b < w.heap.size ∧
  w.cell? ⟨b, o + i * 3, none⟩ = some (.int .i64 ls[i].kind) ∧ w.cell? ⟨b, o + i * 3 + 1, none⟩ = some (.string ⟨ls[i].key.toArray⟩) ∧ w.cell? ⟨b, o + i * 3 + 2, none⟩ = some (.string ⟨ls[i].value.toArray⟩) ∧
  ls[i].key.length ≤ 9223372036854775807 ∧ ls[i].value.length ≤ 9223372036854775807
theorem a6_cell_lt {w : World} {a : Addr} {v : Value} (h : w.cell? a = some v) : a.block < w.heap.size := by
  rcases Nat.lt_or_ge a.block w.heap.size with h1 | h1
  · exact h1
  · unfold World.cell? at h
    rw [Array.getElem?_eq_none h1] at h
    cases h
theorem a6_list3 {cs : List Value} (h : cs.length = 3) : ∃ c0 c1 c2, cs = [c0, c1, c2] := by
  match cs, h with
  | [c0, c1, c2], _ => exact ⟨c0, c1, c2, rfl⟩
theorem a6_size (s : ByteArray) : (⟨s.data.toList.toArray⟩ : ByteArray) = s := rfl
abbrev a6Cells (A : Act6) : List Value := [.int .i64 A.kind, .string ⟨A.key.toArray⟩, .string ⟨A.value.toArray⟩]

set_option maxRecDepth 100000 in
theorem act6_of_trod {H : Type} {enc : TypeId × Value → H} {W : World} {b0 fuel : Nat} {cs : List Value} {x : DataW H × List MemPlace} (hsz : cs.length = 3) (hfu : DataW.trod enc Tryz.prog W b0 (fun _ => true) true fuel 32 cs = some x) :
    ∃ (A : Act6), cs = a6Cells A ∧ A.key.length ≤ 9223372036854775807 ∧ A.value.length ≤ 9223372036854775807 := by
  have hi : Tryz.prog.cellsOf 3 = 1 := by kernel_rfl
  have hs : Tryz.prog.cellsOf 9 = 1 := by kernel_rfl
  obtain ⟨c0, c1, c2, rfl⟩ := a6_list3 hsz
  obtain ⟨xs, n, _, _, _, hlen, hx⟩ := DataW.trod_struct Tryz.underlying32 hfu
  have hlen3 : xs.length = 3 := hlen
  have get : ∀ i, i < 3 → ∃ y, xs[i]? = some y := fun i h => ⟨xs[i]'(by omega), List.getElem?_eq_getElem (by omega)⟩
  obtain ⟨y0, g0⟩ := get 0 (by omega)
  obtain ⟨y1, g1⟩ := get 1 (by omega)
  obtain ⟨y2, g2⟩ := get 2 (by omega)
  have h0 := (hx 0 _ rfl).trans g0
  have h1 := (hx 1 _ rfl).trans g1
  have h2 := (hx 2 _ rfl).trans g2
  simp only [List.getElem_toArray, List.getElem_cons_zero, List.getElem_cons_succ, hi, hs, List.drop_zero, List.drop_succ_cons, List.take_succ_cons, List.take_zero] at h0 h1 h2
  obtain ⟨k, e0, _, _⟩ := DataW.trod_int Tryz.underlying3 h0
  obtain ⟨a, e1, _, wa⟩ := DataW.trod_string Tryz.underlying9 h1
  obtain ⟨b, e2, _, wb⟩ := DataW.trod_string Tryz.underlying9 h2
  simp only [List.cons.injEq, and_true] at e0 e1 e2
  subst e0 e1 e2
  rw [maxLen_eq] at wa wb
  exact ⟨⟨k, a.data.toList, b.data.toList⟩, by simp only [a6Cells, a6_size], wa, wb⟩

set_option maxRecDepth 100000 in
theorem open_acts6 {H : Type} {enc : TypeId × Value → H} {W : World} {r : Reach} {b0 : Nat} {v : Value} {d : DataW H} {ps : List MemPlace} (hval : Value.okWide Tryz.prog W r b0 22 v) (hd : DataW.Trod enc Tryz.prog W 0 (fun _ => true) true 22 v d ps) : ∃ ls, Acts6In W v ls := by
  have hc : Tryz.prog.cellsOf 32 = 3 := by kernel_rfl
  obtain ⟨a0, len, cap, rfl⟩ := okWide_slice Tryz.underlying22 hval
  obtain ⟨fuel, hf⟩ := hd
  rcases DataW.trod_slice Tryz.underlying22 hf with ⟨hcs, hx⟩ | ⟨a, len', cap', elems, rest, n, _, hcs, _, hb, hl, hm, hlen, hel, _, _⟩
  · simp [Value.cells] at hcs
    obtain ⟨rfl, rfl, rfl⟩ := hcs
    exact ⟨[], none, 0, rfl, Nat.le_refl _, by rw [maxLen_eq]; omega, fun i hi => absurd hi (Nat.not_lt_zero _)⟩
  · simp [Value.cells] at hcs
    obtain ⟨rfl, rfl, rfl⟩ := hcs
    have each : ∀ i, i < len → ∃ A : Act6, (∀ j, j < 3 → W.cell? ((a.add (i * 3)).add j) = (a6Cells A)[j]?) ∧ A.key.length ≤ 9223372036854775807 ∧ A.value.length ≤ 9223372036854775807 := fun i hi => by
      have h1 := hel i hi
      rw [hc, List.getElem?_eq_getElem (by omega), Option.bind_eq_some_iff] at h1
      obtain ⟨cs, h2, h3⟩ := h1
      obtain ⟨_, h4, h5⟩ := World.cells?_some h2
      obtain ⟨A, rfl, h6⟩ := act6_of_trod h4 h3
      exact ⟨A, h5, h6⟩
    obtain ⟨b, off, spot⟩ := a
    refine ⟨(List.range len).attach.map (fun i => Classical.choose (each i.1 (List.mem_range.1 i.2))), some ⟨b, off, spot⟩, cap, by simp, by simpa using hl, hm, fun i hi => ?_⟩
    have hi' : i < len := by simpa using hi
    have hA := Classical.choose_spec (each i hi')
    simp only [List.getElem_map, List.getElem_attach, List.getElem_range]
    generalize Classical.choose (each i hi') = A at *
    obtain ⟨h1, h2⟩ := hA
    have hspot : spot = none := by
      obtain ⟨A0, h0, _⟩ := each 0 (by omega)
      simpa [Addr.add] using World.cell?_spot (h0 0 (by omega))
    subst hspot
    have at_ : ∀ j, j < 3 → W.cell? ⟨b, off + i * 3 + j, none⟩ = (a6Cells A)[j]? := fun j hj => by
      have := h1 j hj
      rwa [Addr.add_mid, Addr.add_mid] at this
    exact ⟨b, off, rfl, a6_cell_lt (at_ 0 (by omega)), at_ 0 (by omega), at_ 1 (by omega), at_ 2 (by omega), h2⟩

end Go.Proofs.YtgofngilfdnakaaGreat
