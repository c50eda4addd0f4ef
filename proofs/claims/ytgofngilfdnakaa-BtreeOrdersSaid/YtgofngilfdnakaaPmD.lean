/-
  This text proves how a law's row follows of its walk: where the call leaves each old block as it was, all arguments read as they did; no Go function is spoken of.
-/
import Derived.Test.YtgofngilfdnakaaBtW19q
import Derived.Test.YtgofngilfdnakaaBtW20q
import Derived.Test.YtgofngilfdnakaaPkC
import Derived.Test.YtgofngilfdnakaaDiskC
import Derived.Test.YtgofngilfdnakaaBtW15q
import Derived.Test.YtgofngilfdnakaaWalSq
import Derived.Test.YtgofngilfdnakaaPkB
import Derived.Test.YtgofngilfdnakaaMem
import Derived.WalkKit
import Derived.ProofKit
import Derived.OpenShut
import Derived.WideKeyArgs

namespace Go.Proofs.Ytgofngilfdnakaa
open Go Go.RowKit
set_option linter.unusedSimpArgs false

theorem leaf_is {rd : Nat → Pg → Prop} {p : Pg} {lo : Str} {hi : Option Str} {M : Files} {k : Str} (h : RepP rd 0 p lo hi M) : kIs p.keys k = true ↔ M.get k ≠ none := by
  have hg := leaf_get (k := k) h
  constructor
  · intro hk e
    rw [e, if_pos hk] at hg
    have h1 := kIs_lt hk
    have h2 : p.vals.length = p.keys.length := by rw [h.2.2.1, h.2.2.2.1]; simp
    have := List.getElem?_eq_none_iff.1 hg.symm
    omega
  · intro hn
    cases hk : kIs p.keys k with
    | true => rfl
    | false =>
      rw [hk] at hg
      exact absurd hg hn
theorem mends_of {w w' : World} {t l p i base d : Nat} {root : Int} {g : Lg} {P : Pg} {lo lo2 : Str} {hi hi2 : Option Str} {N N2 : Files} {e : Ending} (h : Mended w t l p i base root g P d lo hi N e w') (hi0 : i < P.keys.length)
    (hf : ∀ (g' : Lg) a b kk two, Grew g g' → SplitR (rdG g') 4 d lo hi N a b kk two → RepP (rdG g') (d + 1) (P.mendKid i a b kk two) lo2 hi2 N2) : Mends w t l p base root g P.keys.length d lo2 hi2 N2 e w' := by
  obtain ⟨a, b, kk, two, kv, vv, cv, g', h1, h2, h3, h4, h5, h6, h7⟩ := h
  have hl := mendKid_len P i a b kk two hi0
  exact ⟨_, kv, vv, cv, g', h1, h2, h3, h4, h5, h6, hf g' a b kk two h4 h7, hl.1, hl.2⟩
theorem del_not (t l p : Nat) (g : Lg) (root : Int) (key : Str) (hs : Small g 0) : ∀ (d m k : Nat) (lo : Str) (hi : Option Str) (M : Files) (w : World), TL w t l p g root → Rep (rdG g) m d k lo hi M → 1 ≤ m → above lo key → below hi key → M.get key = none →
    Calls Try.prog 118 #[.pointer (some ⟨t, 0, none⟩), .int .i64 k, .string ⟨key.toArray⟩] w (DelNot w)
  | 0, m, k, lo, hi, M, w => fun hT hr h1 ha hb hn => by
    obtain ⟨_, q, hq, hm, h8, hp⟩ := hr
    refine delL_none t l p k g root q key w hT hq hp.1 hs ?_
    cases hk : kIs q.keys key with
    | false => rfl
    | true => exact absurd hn ((leaf_is hp).1 hk)
  | d + 1, m, k, lo, hi, M, w => fun hT hr h1 ha hb hn => by
    obtain ⟨_, q, hq, hm, h8, hp⟩ := hr
    obtain ⟨x, lo', hi', M2, _, hx, hrep, ha', hb', hget, _⟩ := node_del hp ha hb
    exact delN_none t l p k x g root q key w hT hq hp.1 h8 (kr_length hp.2.2.2) hx hs (fun X hX => del_not t l p g root key hs d 4 x lo' hi' M2 X hX hrep (by omega) ha' hb' (hget ▸ hn))
theorem del_there (t l p : Nat) (g : Lg) (root : Int) (key : Str) : ∀ (d m k : Nat) (lo : Str) (hi : Option Str) (M : Files) (w : World), TL w t l p g root → Rep (rdG g) m d k lo hi M → 1 ≤ m → above lo key → below hi key → M.get key ≠ none → Small g (d + 1) →
    Calls Try.prog 118 #[.pointer (some ⟨t, 0, none⟩), .int .i64 k, .string ⟨key.toArray⟩] w (Deled w t l p root g (140200 * d) m d lo hi (M.del key))
  | 0, m, k, lo, hi, M, w => fun hT hr h1 ha hb hn hs => by
    obtain ⟨_, q, hq, hm, h8, hp⟩ := hr
    exact delL_there t l p k m g root q key lo hi M w hT hq hp h8 hm hs.zero ((leaf_is hp).2 hn)
  | d + 1, m, k, lo, hi, M, w => fun hT hr h1 ha hb hn hs => by
    obtain ⟨_, q, hq, hm, h8, hp⟩ := hr
    have hkn : q.kids.length = q.keys.length + 1 := kr_length hp.2.2.2
    obtain ⟨x, y, s, lo', hi', Ma, Mb, hlt, _, hx, hy, hk, hrx, hry, hf, ho⟩ := node_both hp ha hb (by omega)
    rcases Nat.eq_zero_or_pos (kKid q.keys key) with h0 | h0
    · obtain ⟨hax, hbx, hget, hone, hfin⟩ := hf h0
      have hx0 : q.kids[kKid q.keys key]? = some x := by rw [h0] at hx ⊢; exact hx
      have hk0 : q.keys[kKid q.keys key]? = some s := by rw [h0] at hk ⊢; exact hk
      have hy0 : q.kids[1]? = some y := by rw [h0] at hy; exact hy
      have hlt0 : kKid q.keys key < q.keys.length := by omega
      obtain ⟨_, yq, hyq, hy4, hy8, hyp⟩ := hry
      refine del_walk t l p k m d (kKid q.keys key) x g root q key lo hi lo' (some s) (Ma.del key) (M.del key) w hT hq hp.1 h8 hm hkn rfl hx0 hs (fun X hX => del_there t l p g root key d 4 x lo' (some s) Ma X hX hrx (by omega) hax hbx (hget ▸ hn) (small_le hs (Nat.le_succ _))) (fun g1 r hg hr => hone _ r hg.rd hr) ?_
      intro X base g1 kv vv cv ok ov oc o hTX hg hs1 hoX hiX hro hl3 hlb htb hbX
      have hlf : o.leaf = yq.leaf := repP_leaves hro (repP_mono hg.rd hyp)
      have hj := hfin (rdG g1) o yq 0 0 [] false hg.rd hro (repP_mono hg.rd hyp)
      obtain ⟨hj4, hj12⟩ := join_lengths (a := o) (b := yq) s (by omega) (by omega)
      refine (mend_first t l p (kKid q.keys key) y d base g1 root q o yq s kv vv cv ok ov oc lo' hi' (Ma.del key ++ Mb) X h0 hTX hoX hiX (rep_ok hro (by omega) (by omega)) hlb htb hbX hy0 (hg.rd _ _ hyq) hk0 hkn h8 hp.1 hlf hj.1 hj4 hj12 hs1).mono fun e w' hM => mends_of hM hlt0 (fun g' a b kk two hg' hsp => ?_)
      have := (hfin (rdG g') o yq a b kk two (hg.trans hg').rd (repP_mono hg'.rd hro) (repP_mono (hg.trans hg').rd hyp)).2 hsp
      rw [h0] at this ⊢
      exact this
    · obtain ⟨hax, hbx, hget, hone, hfin⟩ := ho h0
      have hkk : kKid q.keys key = kKid q.keys key - 1 + 1 := by omega
      obtain ⟨_, xq, hxq, hx4, hx8, hxp⟩ := hrx
      refine del_walk t l p k m d (kKid q.keys key - 1 + 1) y g root q key lo hi s hi' (Mb.del key) (M.del key) w hT hq hp.1 h8 hm hkn hkk hy hs (fun X hX => del_there t l p g root key d 4 y s hi' Mb X hX hry (by omega) hax hbx (hget ▸ hn) (small_le hs (Nat.le_succ _))) (fun g1 r hg hr => by rw [← hkk]; exact hone _ r hg.rd hr) ?_
      intro X base g1 kv vv cv ok ov oc o hTX hg hs1 hoX hiX hro hl3 hlb htb hbX
      have hlf : o.leaf = xq.leaf := repP_leaves hro (repP_mono hg.rd hxp)
      have hj := hfin (rdG g1) o xq 0 0 [] false hg.rd hro (repP_mono hg.rd hxp)
      obtain ⟨hj4, hj12⟩ := join_lengths (a := xq) (b := o) s (by omega) (by omega)
      exact (mend_other t l p (kKid q.keys key - 1) x d base g1 root q o xq s kv vv cv ok ov oc lo' hi' (Ma ++ Mb.del key) X hTX hoX hiX (rep_ok hro (by omega) (by omega)) hlb htb hbX hx (hg.rd _ _ hxq) hk hkn h8 hp.1 hlf hj.1 hj4 hj12 hs1).mono fun e w' hM => mends_of hM hlt (fun g' a b kk two hg' hsp =>
        (hfin (rdG g') o xq a b kk two (hg.trans hg').rd (repP_mono hg'.rd hro) (repP_mono (hg.trans hg').rd hxp)).2 hsp)

end Go.Proofs.Ytgofngilfdnakaa

namespace Go.Proofs.Ytgofngilfdnakaa
open Go Go.RowKit
set_option linter.unusedSimpArgs false
attribute [local go_sem] over_cell over_frozen lt_over le_over noB loudUpon ByteArray.mk_append_mk ByteArray.extract_mk

theorem depth_d {d : Nat} (h : d ≤ 5) : 140200 * d ≤ 701000 := Nat.mul_le_mul_left 140200 h
theorem deled_small {g g' : Lg} (h : Small g 8) (hg : Grew g g') (hn : g'.wait.length ≤ g.wait.length + 701000) : Small g' 1 := h.grew hg (Nat.le_trans hn (Nat.add_le_add_left (by decide) _))

set_option maxRecDepth 100000 in
set_option maxHeartbeats 3200000 in
theorem Delete_none (t l p : Nat) (g : Lg) (key : Str) (w : World) (h : TL w t l p g (-1)) : Calls Try.prog 74 #[.pointer (some ⟨t, 0, none⟩), .string ⟨key.toArray⟩] w fun e w' => e = .returned (.tuple #[.bool false, .int .i64 0]) ∧ Mod NoB w w' := by
  obtain ⟨tb, t0, t1, tf⟩ := h.tree.facts
  clear h
  go_enter Try.func74, Try.ntmps74
  go_wp2_with fail
  exact bodyPost_ret (v := .tuple #[.bool false, .int .i64 0]) (by simp [results, Try.f74, go_sem]) rfl ⟨rfl, Mod.refl _ _⟩

set_option maxRecDepth 100000 in
set_option maxHeartbeats 3200000 in
theorem Delete_not (t l p r : Nat) (g : Lg) (key : Str) (w : World) (h : TL w t l p g r) (HD : Calls Try.prog 118 #[.pointer (some ⟨t, 0, none⟩), .int .i64 r, .string ⟨key.toArray⟩] w (DelNot w)) : Calls Try.prog 74 #[.pointer (some ⟨t, 0, none⟩), .string ⟨key.toArray⟩] w fun e w' => e = .returned (.tuple #[.bool false, .int .i64 0]) ∧ Mod NoB w w' := by
  have HDX := Lib.hid HD
  obtain ⟨tb, t0, t1, tf⟩ := h.tree.facts
  clear h HD
  go_enter Try.func74, Try.ntmps74
  go_wp2_with fail
  refine HDX.out.mono ?_
  rintro e W1 ⟨rfl, hm1⟩
  have HM1 := Lib.hid hm1
  clear hm1 HDX
  go_wp2_with fail
  refine bodyPost_ret (v := .tuple #[.bool false, .int .i64 0]) (by simp [results, Try.f74, go_sem]) rfl ⟨rfl, ?_⟩
  exact HM1.out.trans QM.out (fun _ _ h => h)

set_option maxRecDepth 100000 in
set_option maxHeartbeats 6400000 in
theorem Delete_there (t l p d r : Nat) (g : Lg) (key : Str) (M : Files) (w : World) (h : TL w t l p g r) (hd : d ≤ 5) (hs : Small g 8) (HD : Calls Try.prog 118 #[.pointer (some ⟨t, 0, none⟩), .int .i64 r, .string ⟨key.toArray⟩] w (Deled w t l p r g (140200 * d) 1 d [] none (M.del key))) :
    Calls Try.prog 74 #[.pointer (some ⟨t, 0, none⟩), .string ⟨key.toArray⟩] w (TreePost w t l p g 1000000 (.tuple #[.bool true, .int .i64 0]) (M.del key)) := by
  have HDX := Lib.hid HD
  have HS := Lib.hid hs
  have HLL : Hid (l < w.heap.size) := lt_heap h.log
  have HTL : Hid (t < w.heap.size) := lt_heap h.tree
  have hne := h.ne
  have HDD := Lib.hid hd
  obtain ⟨tb, t0, t1, tf⟩ := h.tree.facts
  clear h HD hs hd
  go_enter Try.func74, Try.ntmps74
  go_wp2_with fail
  refine HDX.out.mono ?_
  clear HDX
  rintro e W5 ⟨q, kv, vv, cv, g1, rfl, hm5, hT5, hg5, hn5, ho5, hr5, hml5, hm85⟩
  obtain ⟨⟨a1, c1, rfl⟩, ⟨a2, c2, rfl⟩, a3, c3, rfl⟩ := ho5.shapes
  have HN5 : Hid (g1.wait.length ≤ g.wait.length + 701000) := Nat.le_trans hn5 (Nat.add_le_add_left (depth_d HDD.out) _)
  unfold pageV
  generalize holf : q.leaf = lf at *
  obtain ⟨W6, hW6⟩ : ∃ W6, W5.alloc (.cells #[.bool lf, .slice a1 q.keys.length c1, .slice a2 q.vals.length c2, .slice a3 q.kids.length c3] 195) = W6 := ⟨_, rfl⟩
  have hm6 : Mod NoB W5 W6 := by rw [← hW6]; exact (Mod.refl _ _).alloc _
  have hS6 : W6.heap[W5.heap.size]? = some (.cells #[.bool lf, .slice a1 q.keys.length c1, .slice a2 q.vals.length c2, .slice a3 q.kids.length c3] 195 (0, 0)) := by rw [← hW6]; exact heap_alloc_new _ _
  have HM6 := Lib.hid (hm5.trans hm6 (fun _ _ h => h.elim))
  have HT6 := Lib.hid (hT5.mod hm6)
  have HO6 := Lib.hid (ho5.mod hm6)
  clear tb t0 t1 tf
  obtain ⟨tb, t0, t1, tf⟩ := HT6.out.tree.facts
  obtain ⟨sb, s0, s1, s2, s3, sf⟩ := Page4.facts hS6
  have HG5 := Lib.hid hg5
  have HR5 := Lib.hid hr5
  have HOLF := Lib.hid holf
  have hsz5 : w.heap.size ≤ W5.heap.size := hm5.size
  have hts : t ≠ W5.heap.size := by have := HTL.out; omega
  clear hS6 hm5 hm6 hT5 hg5 hn5 ho5 hr5 holf
  by_cases hk0 : q.keys.length = 0
  · have hrn := root_none HR5.out hk0
    have HRN := Lib.hid hrn
    have hkb : (((q.keys.length : Nat) : Int) == 0) = true := by rw [hk0]; rfl
    clear hrn hk0
    cases lf
    · obtain ⟨x, d', hkx, hrx⟩ := HRN.out.2 HOLF.out
      have HRX := Lib.hid hrx
      have hx0 : q.kids[0]? = some x := by rw [hkx]; rfl
      have hkl : q.kids.length = 1 := by rw [hkx]; rfl
      obtain ⟨_, _, e2, _, _, _, hg⟩ := own_shape HO6.out.c
      cases e2
      obtain ⟨cg, rfl⟩ := hg (by omega)
      clear hg
      obtain ⟨c0, cf, cb⟩ := row_at HO6.out.c hx0 rfl
      have hkl0 : 0 < q.kids.length := by omega
      clear hrx hx0 hkx hkl
      go_wp2_with fail
      refine at_world6 (P := bodyPost _ _ _ _ _) (fun X => ∃ Z, Mod NoB W6 Z ∧ X = Z.setCell ⟨t, 1, none⟩ (.int .i64 x)) ⟨_, QM.out, rfl⟩ ?_
      rintro _ ⟨Z, hmZ, rfl⟩
      have HY := Lib.hid ((HT6.out.mod hmZ).rooted x)
      have HMY := Lib.hid (((HM6.out.mono (fun _ _ h => .inl h)).trans hmZ (fun j hj e => e.elim)).trans (show Mod (fun k => k = l ∨ k = t) Z (Z.setCell ⟨t, 1, none⟩ (.int .i64 x)) from (Mod.refl _ _).setCell _ _ (fun _ => .inr rfl)) (fun _ _ h => h))
      refine bodyPost_ret (v := .tuple #[.bool true, .int .i64 0]) (by simp [results, Try.f74, go_sem]) rfl ?_
      exact ⟨_, _, rfl, HMY.out, HY.out, HG5.out, by have := HN5.out; omega, .inr ⟨d', x, rfl, rep_less (by omega) HRX.out⟩⟩
    · have HMN := Lib.hid (HRN.out.1 HOLF.out)
      go_wp2_with fail
      refine at_world6 (P := bodyPost _ _ _ _ _) (fun X => ∃ Z, Mod NoB W6 Z ∧ X = Z.setCell ⟨t, 1, none⟩ (.int .i64 (-1))) ⟨_, QM.out, rfl⟩ ?_
      rintro _ ⟨Z, hmZ, rfl⟩
      have HY := Lib.hid ((HT6.out.mod hmZ).rooted (-1))
      have HMY := Lib.hid (((HM6.out.mono (fun _ _ h => .inl h)).trans hmZ (fun j hj e => e.elim)).trans (show Mod (fun k => k = l ∨ k = t) Z (Z.setCell ⟨t, 1, none⟩ (.int .i64 (-1))) from (Mod.refl _ _).setCell _ _ (fun _ => .inr rfl)) (fun _ _ h => h))
      refine bodyPost_ret (v := .tuple #[.bool true, .int .i64 0]) (by simp [results, Try.f74, go_sem]) rfl ?_
      exact ⟨_, _, rfl, HMY.out, HY.out, HG5.out, by have := HN5.out; omega, .inl ⟨rfl, HMN.out⟩⟩
  · have hk1 : 1 ≤ q.keys.length := by omega
    have hok := rep_ok HR5.out hk1 hm85
    have hsm := deled_small HS.out HG5.out HN5.out
    have HSV := Lib.hid (fun X (hX : Mod NoB W6 X) => save_calls t l p g1 r q _ _ _ X (HT6.out.mod hX) ((HO6.out.mod hX).in1 (p := q)) hok hsm.zero)
    have HRR := Lib.hid (rep_less hk1 (keep_one HR5.out hk1 hm85 (Nat.le_trans hsm.top (by omega))))
    have HLN := Lib.hid (lay_size (g := g1) hok)
    have HOK := Lib.hid hok
    unfold pageV at HSV
    rw [HOLF.out] at HSV
    have hkb : (((q.keys.length : Nat) : Int) == 0) = false := by
      rw [beq_eq_false_iff_ne]
      omega
    clear hok hsm hk0 hk1
    go_wp2_with fail
    refine (HSV.out _ (Mod.refl _ _)).mono ?_
    rintro e W7 ⟨rfl, hm7, hT7⟩
    have HM7 := Lib.hid (HM6.out.trans hm7 (fun _ _ h => h))
    have HT7 := Lib.hid hT7
    clear hm7 hT7 tb t0 t1 tf s0 s1 s2 s3 sf sb hW6 HM6 HT6 HSV
    obtain ⟨tb, t0, t1, tf⟩ := HT7.out.tree.facts
    go_wp2_with fail
    refine at_world6 (P := bodyPost _ _ _ _ _) (fun X => ∃ Z, Mod NoB W7 Z ∧ X = Z.setCell ⟨t, 1, none⟩ (.int .i64 g1.top')) ⟨_, QM.out, rfl⟩ ?_
    rintro _ ⟨Z, hmZ, rfl⟩
    have HY := Lib.hid ((HT7.out.mod hmZ).rooted g1.top')
    have HMY := Lib.hid (((HM7.out.mono (fun _ _ h => .inl h)).trans hmZ (fun j hj e => e.elim)).trans (show Mod (fun k => k = l ∨ k = t) Z (Z.setCell ⟨t, 1, none⟩ (.int .i64 g1.top')) from (Mod.refl _ _).setCell _ _ (fun _ => .inr rfl)) (fun _ _ h => h))
    refine bodyPost_ret (v := .tuple #[.bool true, .int .i64 0]) (by simp [results, Try.f74, go_sem]) rfl ?_
    exact ⟨_, _, rfl, HMY.out, HY.out, HG5.out.trans (Grew.lay HOK.out), by have := HN5.out; have := HLN.out; omega, .inr ⟨d, _, rfl, HRR.out⟩⟩

theorem TDelete_calls (t l p : Nat) (g : Lg) (root : Int) (key : Str) (M : Files) (w : World) (h : TL w t l p g root) (hr : TR g root M) (hM : M.length ≤ 2700) (hs : Small g 8) :
    Calls Try.prog 74 #[.pointer (some ⟨t, 0, none⟩), .string ⟨key.toArray⟩] w (TreePost w t l p g 1000000 (.tuple #[.bool (M.get key).isSome, .int .i64 0]) (M.del key)) := by
  rcases hr with ⟨rfl, rfl⟩ | ⟨d, r, rfl, hr⟩
  · exact (Delete_none t l p g key w h).mono fun e w' ⟨h1, h2⟩ => ⟨-1, g, h1, h2.mono (noB_sub _ _), h.mod h2, Grew.refl g, Nat.le_add_right _ _, .inl ⟨rfl, rfl⟩⟩
  · have hd := TR.shallow hr hM
    cases hg : M.get key with
    | none =>
      refine (Delete_not t l p r g key w h (del_not t l p g r key hs.zero d 1 r [] none M w h hr (Nat.le_refl _) (above_nil _) trivial hg)).mono fun e w' ⟨h1, h2⟩ => ⟨r, g, h1, h2.mono (noB_sub _ _), h.mod h2, Grew.refl g, Nat.le_add_right _ _, .inr ⟨d, r, rfl, ?_⟩⟩
      rw [del_same hg]
      exact hr
    | some v => exact Delete_there t l p d r g key M w h hd hs (del_there t l p g r key d 1 r [] none M w h hr (Nat.le_refl _) (above_nil _) trivial (by rw [hg]; exact fun e => by cases e) (small_le hs (by omega)))

end Go.Proofs.Ytgofngilfdnakaa

namespace Go.Proofs.Ytgofngilfdnakaa
open Go Go.RowKit

def StrsIn (w : World) (v : Value) (l : List Str) : Prop := ∃ a cap, v = .slice a l.length cap ∧ l.length ≤ cap ∧ cap ≤ maxLen ∧ ∀ i, i < l.length → ∃ b o, a = some ⟨b, o, none⟩ ∧ b < w.heap.size ∧ w.cell? ⟨b, o + i, none⟩ = some (.string ⟨(l[i]?.getD []).toArray⟩)
def strCells (l : List Str) : List Value := l.map fun s => .string ⟨s.toArray⟩
theorem infoStr : ∃ i z, Try.prog.info? 9 = some i ∧ i.zero = some z ∧ i.size = 1 ∧ i.bytes = 16 ∧ z.cells.size = 1 := by
  obtain ⟨i, h1, h2, h3, h4⟩ := info_of (P := Try.prog) (t := 9) (z := .string ⟨#[]⟩) (n := 1) (b := 16) (by kernel_rfl)
  exact ⟨i, _, h1, h2, h3, h4, rfl⟩

end Go.Proofs.Ytgofngilfdnakaa

namespace Go.Proofs.Ytgofngilfdnakaa
open Go Go.RowKit
set_option linter.unusedSimpArgs false
attribute [local go_sem] over_cell over_frozen lt_over le_over noB loudUpon ByteArray.mk_append_mk ByteArray.extract_mk

theorem mem_take_succ {l : List Str} {k : Str} {i : Nat} (h : i < l.length) : decide (k ∈ l.take (i + 1)) = (decide (k ∈ l.take i) || l[i] == k) := by
  rw [List.take_succ_eq_append_getElem h]
  by_cases h1 : k ∈ l.take i
  · rw [decide_eq_true h1, decide_eq_true (List.mem_append_left _ h1)]; rfl
  · by_cases h2 : l[i] = k
    · rw [decide_eq_true (List.mem_append_right _ (List.mem_singleton.2 h2.symm)), h2]; simp
    · have h3 : ¬ k ∈ l.take i ++ [l[i]] := fun h => (List.mem_append.1 h).elim h1 (fun h => h2 (List.mem_singleton.1 h).symm)
      rw [decide_eq_false h3, decide_eq_false h1]
      have h4 : (l[i] == k) = false := beq_eq_false_iff_ne.2 h2
      rw [h4]; rfl
set_option maxRecDepth 100000 in
set_option maxHeartbeats 3200000 in
theorem gone_calls (t l p : Nat) (g : Lg) (root : Int) (key : Str) (v : Value) (ks : List Str) (M : Files) (w : World) (h : TL w t l p g root) (hr : TR g root M) (hM : M.length ≤ 2700) (hs : Small g 8)
    (hv : In1 w v (strCells ks)) (hn : ks.length ≤ 1000) (hb : (M.get key).isSome = !decide (key ∈ ks)) :
    Calls Try.prog 81 #[.pointer (some ⟨t, 0, none⟩), .string ⟨key.toArray⟩, v] w (TreePost w t l p g 1000000 (.bool true) (M.del key)) := by
  have HDE := Lib.hid (fun X (hX : Mod NoB w X) => TDelete_calls t l p g root key M X (h.mod hX) hr hM hs)
  rw [hb] at HDE
  have hl : (strCells ks).length = ks.length := by simp [strCells]
  obtain ⟨a, c, rfl, h1, h2, h3⟩ := hv
  have HC : Hid (∀ i, (hi : i < ks.length) → ∃ b o, a = some ⟨b, o, none⟩ ∧ b < w.heap.size ∧ w.cell? ⟨b, o + i, none⟩ = some (.string ⟨ks[i].toArray⟩)) := fun i hi => by
    obtain ⟨b, o, e1, e2, e3⟩ := h3 i (by rw [hl]; exact hi)
    exact ⟨b, o, e1, e2, by rw [e3]; simp [strCells]⟩
  rw [hl] at h1 ⊢
  rw [maxLenIs] at h2
  clear h hr hb h3 hl
  go_enter Try.func81, Try.ntmps81
  go_wp2_with fail
  go_loopw [7, 8] (fun b i wr => ∃ k : Nat, k ≤ ks.length ∧ b = .bool (decide (key ∈ ks.take k)) ∧ i = .int .i64 k ∧ Hid (Mod NoB w wr)) (fun _ i _ => ks.length - (intOf i).toNat)
  case atStart => exact ⟨0, Nat.zero_le _, by simp, rfl, Mod.refl _ _⟩
  case round =>
    obtain ⟨k, hk, rfl, rfl, HMR⟩ := hrel
    by_cases hlt : k < ks.length
    · obtain ⟨b, o, rfl, hb, e0⟩ := HC.out k hlt
      rw [← World.cell?_of_block (w := w) (HMR.out.block b hb id)] at e0
      have hbw := Nat.lt_of_lt_of_le hb HMR.out.size
      have hstep := mem_take_succ (k := key) hlt
      have HST := Lib.hid hstep
      generalize ks[k] = x at *
      generalize decide (key ∈ ks.take k) = b0 at *
      clear hstep HC
      cases b0 with
      | true =>
        go_wp2_with fail
        go_roundw
        case rel => exact ⟨k + 1, by omega, by rw [HST.out]; rfl, by go_num, HMR⟩
        case measure => simp [intOf]; omega
      | false =>
        go_wp2_with fail
        go_roundw
        case rel => exact ⟨k + 1, by omega, by rw [HST.out]; rfl, by go_num, HMR⟩
        case measure => simp [intOf]; omega
    · have hkl : k = ks.length := by omega
      subst hkl
      rw [List.take_length]
      have HDD := Lib.hid (HDE.out wr HMR.out)
      have HM1 := Lib.hid (HMR.out.mono (noB_sub (fun k => k = l ∨ k = t) _))
      generalize decide (key ∈ ks) = b0 at *
      clear HC HDE HMR
      cases b0 with
      | true =>
        go_wp2_with fail
        refine HDD.out.mono ?_
        rintro e W3 ⟨root', g', rfl, hm3, ht3, hg3, hn3, hr3⟩
        have HX : Hid (TreePost w t l p g 1000000 (.bool true) (M.del key) (.returned (.bool true)) W3) := ⟨root', g', rfl, HM1.out.trans hm3 (fun _ _ h => h), ht3, hg3, hn3, hr3⟩
        clear hm3 ht3 hg3 hn3 hr3 HDD
        go_wp2_with fail
        exact bodyPost_ret (v := .bool true) (by simp [results, Try.f81, go_sem]) rfl HX.out
      | false =>
        go_wp2_with fail
        refine HDD.out.mono ?_
        rintro e W3 ⟨root', g', rfl, hm3, ht3, hg3, hn3, hr3⟩
        have HX : Hid (TreePost w t l p g 1000000 (.bool true) (M.del key) (.returned (.bool true)) W3) := ⟨root', g', rfl, HM1.out.trans hm3 (fun _ _ h => h), ht3, hg3, hn3, hr3⟩
        clear hm3 ht3 hg3 hn3 hr3 HDD
        go_wp2_with fail
        exact bodyPost_ret (v := .bool true) (by simp [results, Try.f81, go_sem]) rfl HX.out
set_option maxRecDepth 100000 in
set_option maxHeartbeats 1600000 in
theorem TNew_calls (l p : Nat) (g : Lg) (w : World) (h : LogAt w l p g) :
    Calls Try.prog 116 #[.pointer (some ⟨l, 0, none⟩), .int .i64 (-1)] w fun e w' => e = .returned (.tuple #[.pointer (some ⟨w.heap.size, 0, none⟩), .int .i64 0]) ∧ Mod NoB w w' ∧ TL w' w.heap.size l p g (-1) := by
  have HL := Lib.hid h
  have hlb := lt_heap h
  clear h
  go_enter Try.func116, Try.ntmps116
  go_wp2_with fail
  refine bodyPost_ret (v := .tuple #[.pointer (some ⟨w.heap.size, 0, none⟩), .int .i64 0]) (by simp [results, Try.f116, go_sem]) rfl ?_
  have hm : Mod NoB w (w.alloc (.cells #[.pointer (some ⟨l, 0, none⟩), .int .i64 (-1)] 193)) := (Mod.refl _ _).alloc _
  exact ⟨rfl, hm, heap_alloc_new _ _, HL.out.mod hm id⟩

def Fresh6 (w : World) (e : Ending) (w' : World) : Prop := ∃ t l p, e = .returned (.tuple #[.pointer (some ⟨t, 0, none⟩), .pointer (some ⟨l, 0, none⟩), .bool true]) ∧ Mod NoB w w' ∧ TL w' t l p emptyLog (-1) ∧ w.heap.size ≤ t ∧ w.heap.size ≤ l
set_option maxRecDepth 100000 in
set_option maxHeartbeats 1600000 in
theorem fresh_calls (w : World) : Calls Try.prog 72 #[] w (Fresh6 w) := by
  go_enter Try.func72, Try.ntmps72
  go_wp2_with fail
  refine (New_calls w).mono ?_
  rintro e W1 ⟨rfl, hm1, hd1⟩
  generalize hp : w.heap.size + 2 = p at *
  clear hp
  have hop := Open_calls p _ Dk.fresh 0 W1 hd1 fit_fresh (by decide)
  rw [aw_open] at hop
  have HOP := Lib.hid hop
  have HM1 := Lib.hid hm1
  clear hop hm1 hd1
  go_wp2_with fail
  refine HOP.out.mono ?_
  rintro e W2 ⟨l, rfl, hl0, hl2, hm2, hd2⟩
  have HL : Hid (w.heap.size ≤ l) := Nat.le_trans HM1.out.size hl0
  have HM2 : Hid (Mod NoB w W2) := HM1.out.trans hm2 (fun k hk h => by rcases h with h | ⟨h, _⟩; exact h; omega)
  have HL2 := Lib.hid hl2
  clear hl0 hl2 hm2 hd2 HOP HM1
  go_wp2_with fail
  refine (TNew_calls l p _ W2 HL2.out).mono ?_
  rintro e W3 ⟨rfl, hm3, ht3⟩
  have HM3 := Lib.hid (HM2.out.trans hm3 (fun _ _ h => h))
  have HT3 := Lib.hid ht3
  have hsz := HM2.out.size
  clear hm3 ht3 HM2 HL2
  go_wp2_with fail
  refine bodyPost_ret (v := .tuple #[.pointer (some ⟨W2.heap.size, 0, none⟩), .pointer (some ⟨l, 0, none⟩), .bool true]) (by simp [results, Try.f72, go_sem]) rfl ?_
  exact ⟨_, _, _, rfl, HM3.out, HT3.out, hsz, HL.out⟩
theorem empty_small : Small emptyLog 8 := by unfold Small; decide
theorem aw6_get : (Files.put [] [97] [49]).get [97] = some [49] := by decide
set_option maxRecDepth 100000 in
set_option maxHeartbeats 1600000 in
theorem awake6_calls (w : World) : Calls Try.prog 73 #[] w fun e w' => e = .returned (.bool true) ∧ Mod NoB w w' := by
  go_enter Try.func73, Try.ntmps73
  go_wp2_with fail
  refine (fresh_calls w).mono ?_
  rintro e W1 ⟨t, l, p, rfl, hm1, ht1, htw, hlw⟩
  have HP := Lib.hid (Put_first t l p emptyLog [97] [49] W1 ⟨by decide, by decide⟩ (by decide) ht1 empty_small)
  have HM1 := Lib.hid hm1
  clear hm1 ht1
  go_wp2_with fail
  refine HP.out.mono ?_
  rintro e W2 ⟨root, g, rfl, hm2, ht2, hg2, hn2, hr2⟩
  have hs : Small g 0 := by
    obtain ⟨x, rfl⟩ := hg2.ex
    unfold Small
    unfold emptyLog at *
    simp only [List.length_nil, List.nil_append] at *
    omega
  have hge := Get_calls t l p g root [97] _ W2 ht2 hr2 hs
  rw [aw6_get] at hge
  have HG := Lib.hid hge
  have HM2 : Hid (Mod NoB w W2) := HM1.out.trans hm2 (fun j hj e => by omega)
  clear hge hm2 ht2 hg2 hn2 hr2 HP hs HM1
  go_wp2_with fail
  refine HG.out.mono ?_
  rintro e W3 ⟨rfl, hm3⟩
  have HM3 := Lib.hid (HM2.out.trans hm3 (fun _ _ h => h))
  clear hm3 HG
  unfold gotV
  go_wp2_with fail
  go_ret
  exact ⟨rfl, HM3.out⟩
set_option maxRecDepth 100000 in
set_option maxHeartbeats 3200000 in
theorem Put_not2 (t : Nat) (key v : Str) (w : World) (hk : key.length < 1 ∨ 64 < key.length ∨ 8192 < v.length) (hl : key.length ≤ 9223372036854775807) (hl2 : v.length ≤ 9223372036854775807) :
    Calls Try.prog 75 #[.pointer (some ⟨t, 0, none⟩), .string ⟨key.toArray⟩, .string ⟨v.toArray⟩] w fun e w' => e = .returned (.int .i64 1) ∧ Mod NoB w w' := by
  go_enter Try.func75, Try.ntmps75
  go_wp2_with fail
  all_goals (first | exact bodyPost_ret (v := .int .i64 1) (by simp [results, Try.f75, go_sem]) rfl ⟨rfl, Mod.refl _ _⟩ | (exfalso; omega))
instance (s : Str) : Decidable (keyOk s) := by unfold keyOk; infer_instance
theorem Put_any (t l p : Nat) (g : Lg) (root : Int) (key v : Str) (M : Files) (w : World) (h : TL w t l p g root) (hr : TR g root M) (hM : M.length ≤ 2700) (hs : Small g 8) (hl : key.length ≤ 9223372036854775807) (hl2 : v.length ≤ 9223372036854775807) :
    Calls Try.prog 75 #[.pointer (some ⟨t, 0, none⟩), .string ⟨key.toArray⟩, .string ⟨v.toArray⟩] w (TreePost w t l p g 1000000 (.int .i64 (if keyOk key ∧ v.length ≤ 8192 then 0 else 1)) (if keyOk key ∧ v.length ≤ 8192 then M.put key v else M)) := by
  by_cases hk : keyOk key ∧ v.length ≤ 8192
  · rw [if_pos hk, if_pos hk]
    exact Put_calls t l p g root key v M w hk.1 hk.2 h hr hM hs
  · rw [if_neg hk, if_neg hk]
    refine (Put_not2 t key v w (by unfold keyOk at hk; omega) hl hl2).mono fun e w' ⟨h1, h2⟩ => ⟨root, g, h1, h2.mono (noB_sub _ _), h.mod h2, Grew.refl g, Nat.le_add_right _ _, hr⟩

end Go.Proofs.Ytgofngilfdnakaa

namespace Go.Proofs.Ytgofngilfdnakaa
open Go Go.ChangeShapes Go.WideShapes Go.ChangeAt Go.RowKit

theorem trodAll_stays {H : Type} {enc : TypeId × Value → H} {P : Program} (hl : laidOutB P = true) {W W' : World} (hb : Below W.heap.size W W') {sp : Nat → Bool} :
    ∀ {ts : List TypeId} {vs : List Value} {ds : List (DataW H)} {ps : List MemPlace}, (∀ t ∈ ts, P.readableRec t = true ∧ t < P.types.size) → DataW.TrodAll enc P W 0 (fun _ => true) true ts vs ds ps →
    (∀ p ∈ ps, p.block < W.heap.size) → (∀ p ∈ ps, sp p.block = true) → DataW.TrodAll enc P W' 0 sp true ts vs ds ps
  | [], _, _, _, _, h, _, _ => by
    obtain ⟨rfl, rfl, rfl⟩ := trodAll_nil h
    exact trodAll_mk0
  | t :: ts, _, _, _, ht, h, hlt, hs => by
    obtain ⟨v, vs1, d, ds1, a, b, rfl, rfl, rfl, h1, h2⟩ := trodAll_cons h
    have h3 := ht t List.mem_cons_self
    exact trodAll_cons_mk (WideElems.Trod_stays hl h3.1 h3.2 h1 (fun x hx => hb.same (hlt x (List.mem_append_left _ hx))) (fun x hx => hs x (List.mem_append_left _ hx)))
      (trodAll_stays hl hb (fun t ht' => ht t (List.mem_cons_of_mem _ ht')) h2 (fun x hx => hlt x (List.mem_append_right _ hx)) (fun x hx => hs x (List.mem_append_right _ hx)))

theorem below_frozen {w w' : World} (hb : Below w.heap.size w w') {b off : Nat} (h : b < w.heap.size) : w'.frozen? ⟨b, off, none⟩ = w.frozen? ⟨b, off, none⟩ :=
  World.frozen?_of_block (w := w) (hb.block b h)

theorem post_of_below {H : Type} {enc : TypeId × Value → H} {P : Program} {f : Func} {s : ChangeSpec} {apart fresh handsOn again : Bool} {W W' : World} {args : Array Value} {v : Value} {ds gs : List (DataW H)} {before : List MemPlace}
    (hl : laidOutB P = true) (ht : ∀ t ∈ f.params.toList, P.readableRec t = true ∧ t < P.types.size) (hvs : s.vars = [])
    (hW : DataW.Whole enc P f.params.toList s.vars apart W args.toList ds gs before) (hb : Below W.heap.size W W')
    (hres : ∀ (b : Nat) (sp : Nat → Bool) (hd : Bool), DataW.TrodAll enc P W' b sp hd f.resultTypes.toList (v.resultList f.resultTypes.size) (s.fn H (ds ++ gs)).results [])
    (hargs : (s.fn H (ds ++ gs)).args = ds) (hvars : (s.fn H (ds ++ gs)).vars = gs)
    (hok : ∀ (j : Nat) (t : TypeId) (r : Value), f.resultTypes[j]? = some t → (v.resultList f.resultTypes.size)[j]? = some r → Value.okWide P W' .any 0 t r) :
    s.post enc P f apart fresh handsOn again W args v W' := by
  have hlt := hW.lt
  have hW' := hW
  obtain ⟨p, q, hA, hV, rfl, hz, hn⟩ := hW
  rw [hvs] at hV
  obtain ⟨rfl, rfl⟩ := trodVars_none hV
  rw [List.append_nil] at hW' hlt hz hn
  have hold : ∀ x ∈ p, (fun b => decide (b < W.heap.size)) x.block = true := fun x hx => by simpa using hlt x hx
  have hA' : ∀ sp : Nat → Bool, (∀ x ∈ p, sp x.block = true) → DataW.TrodAll enc P W' 0 sp true f.params.toList args.toList (s.fn H (ds ++ [])).args p := fun sp hsp => by
    rw [hargs]; exact trodAll_stays hl hb ht hA hlt hsp
  have hV' : ∀ sp : Nat → Bool, DataW.TrodVars enc P W' sp s.vars (s.fn H (ds ++ [])).vars [] := fun sp => by rw [hvars, hvs]; exact rfl
  have hk : W.keptBut W' (· ∈ p) := ⟨hb.os, hb.output, fun i hi => by rw [hb.block i hi]; exact (World.keptBut_refl W (· ∈ p)).2.2 i hi⟩
  refine ⟨ds, [], p, [], p, [], hW', hres _ _ _, hA' _ hold, hV' _, World.keptBut_mono (fun x hx => ⟨hx, Or.inr (by simpa using hx)⟩) hk, fun _ => ?_⟩
  refine ⟨hok, _, _, ([] ++ p) ++ [], ⟨[] ++ p, [], trodAll_append (hA' _ (fun _ _ => rfl)) (hres _ _ _), hV' _, rfl, ?_, ?_⟩, ?_⟩
  · intro b off hp
    have hp' : MemPlace.cell b off ∈ p := by simpa using hp
    have hlt2 : b < W.heap.size := hlt _ hp'
    rw [below_frozen hb hlt2]
    exact hz b off hp'
  · intro ha
    simpa using hn ha
  · intro x hx _
    simpa using hx

end Go.Proofs.Ytgofngilfdnakaa
