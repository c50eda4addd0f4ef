/-
  This text proves that the law BtreeRoots answers true for every input, and that its arguments read afterwards as they read before: no condition.
-/
import Derived.Test.YtgofngilfdnakaaGreatPairs
import Derived.Test.YtgofngilfdnakaaGreatPmE
import Derived.Test.YtgofngilfdnakaaGreatPmD
import Derived.Test.YtgofngilfdnakaaGreatPmF
import Derived.Test.YtgofngilfdnakaaGreatBtP5
import Derived.Test.YtgofngilfdnakaaGreatRows

namespace Go.Proofs.YtgofngilfdnakaaGreat
open Go Go.RowKit
set_option linter.unusedSimpArgs false
attribute [local go_sem] over_cell over_frozen lt_over le_over noB loudUpon ByteArray.mk_append_mk ByteArray.extract_mk

abbrev act6V (A : Act6) : Value := .agg #[.int .i64 A.kind, .string ⟨A.key.toArray⟩, .string ⟨A.value.toArray⟩]
def mayOf (A : Act6) : Bool := decide (keyOk A.key ∧ A.value.length ≤ 8192)
theorem Act3w.facts {w : World} {D : Nat} {x0 x1 x2 : Value} {T : TypeId} (h : w.heap[D]? = some (.cells #[x0, x1, x2] T (0, 0))) : D < w.heap.size ∧ w.cell? ⟨D, 0, none⟩ = some x0 ∧ w.cell? ⟨D, 1, none⟩ = some x1 ∧ w.cell? ⟨D, 2, none⟩ = some x2 ∧ ∀ i, w.frozen? ⟨D, i, none⟩ = false :=
  ⟨lt_heap h, cell_heap h 0, cell_heap h 1, cell_heap h 2, frozen_heap h⟩

set_option maxRecDepth 100000 in
set_option maxHeartbeats 3200000 in
theorem may6_calls (A : Act6) (w : World) (h1 : A.key.length ≤ 9223372036854775807) (h2 : A.value.length ≤ 9223372036854775807) :
    Calls Tryz.prog 69 #[act6V A] w fun e w' => e = .returned (.bool (mayOf A)) ∧ Mod NoB w w' := by
  obtain ⟨kind, key, val⟩ := A
  generalize hb : mayOf _ = b
  unfold mayOf keyOk at hb
  simp only at h1 h2 hb ⊢
  have hcs : (1 ≤ key.length ∧ key.length ≤ 64 ∧ val.length ≤ 8192 ∧ b = true) ∨ (1 ≤ key.length ∧ key.length ≤ 64 ∧ ¬ val.length ≤ 8192 ∧ b = false) ∨ (1 ≤ key.length ∧ ¬ key.length ≤ 64 ∧ b = false) ∨ (¬ 1 ≤ key.length ∧ b = false) := by
    by_cases q1 : 1 ≤ key.length
    · by_cases q2 : key.length ≤ 64
      · by_cases q3 : val.length ≤ 8192
        · exact .inl ⟨q1, q2, q3, by rw [← hb]; exact decide_eq_true ⟨⟨q1, q2⟩, q3⟩⟩
        · exact .inr (.inl ⟨q1, q2, q3, by rw [← hb]; exact decide_eq_false fun h => q3 h.2⟩)
      · exact .inr (.inr (.inl ⟨q1, q2, by rw [← hb]; exact decide_eq_false fun h => q2 h.1.2⟩))
    · exact .inr (.inr (.inr ⟨q1, by rw [← hb]; exact decide_eq_false fun h => q1 h.1.1⟩))
  clear hb
  go_enter Tryz.func69, Tryz.ntmps69
  rcases hcs with ⟨q1, q2, q3, rfl⟩ | ⟨q1, q2, q3, rfl⟩ | ⟨q1, q2, rfl⟩ | ⟨q1, rfl⟩
  · go_wp2_with fail
    exact bodyPost_ret (v := .bool true) (by simp [results, Tryz.f69, go_sem]; omega) rfl ⟨rfl, (Mod.refl _ _).alloc _⟩
  · go_wp2_with fail
    exact bodyPost_ret (v := .bool false) (by simp [results, Tryz.f69, go_sem]; omega) rfl ⟨rfl, (Mod.refl _ _).alloc _⟩
  · go_wp2_with fail
    exact bodyPost_ret (v := .bool false) (by simp [results, Tryz.f69, go_sem]) rfl ⟨rfl, (Mod.refl _ _).alloc _⟩
  · go_wp2_with fail
    exact bodyPost_ret (v := .bool false) (by simp [results, Tryz.f69, go_sem]) rfl ⟨rfl, (Mod.refl _ _).alloc _⟩

def OnePost [Away] (w : World) (t l p : Nat) (g : Lg) (M : Files) (e : Ending) (w' : World) : Prop :=
  ∃ v' root' g', e = .returned (.tuple #[v', .bool true]) ∧ Mod (fun k => k = l ∨ k = t) w w' ∧ TL w' t l p g' root' ∧ Grew g g' ∧ g'.wait.length ≤ g.wait.length + 1000000 ∧ TR g' root' M ∧ FR w' v' M
theorem rIs_some {M : Files} (k : Str) (h : Sorted M) : (M.get k).isSome = rIs M k := by
  rw [rIs_get k M h]
  cases rIs M k <;> rfl

set_option maxRecDepth 100000 in
set_option maxHeartbeats 6400000 in
theorem one_del [Away] (t l p : Nat) (g : Lg) (root : Int) (v : Value) (M : Files) (A : Act6) (w : World) (hS : ∀ q, (q = l ∨ q = t) → Away.S q) (h : TL w t l p g root) (hr : TR g root M) (hM : M.length ≤ 400) (hs : Small g 8) (hf : FR w v M) (hk : A.kind = 3 ∨ A.kind = 4) :
    Calls Tryz.prog 16 #[.pointer (some ⟨t, 0, none⟩), v, act6V A] w (OnePost w t l p g (M.del A.key)) := by
  obtain ⟨kind, key, val⟩ := A
  have hlb := lt_heap h.log
  have htb := lt_heap h.tree
  obtain ⟨a1, c1, rfl, _, _⟩ := hf.cells
  have hso := hr.sorted
  obtain ⟨W1, hW1⟩ : ∃ W1, w.alloc (.cells #[.int .i64 kind, .string ⟨key.toArray⟩, .string ⟨val.toArray⟩] 32) = W1 := ⟨_, rfl⟩
  have hm1 : Mod NoB w W1 := by rw [← hW1]; exact (Mod.refl _ _).alloc _
  have hA1 : W1.heap[w.heap.size]? = some (.cells #[.int .i64 kind, .string ⟨key.toArray⟩, .string ⟨val.toArray⟩] 32 (0, 0)) := by rw [← hW1]; exact heap_alloc_new _ _
  have HFI := Lib.hid (rfind_calls _ M key W1 (hf.mod hm1) (by omega))
  have HT := Lib.hid (fun X (hX : Mod NoB w X) => h.mod hX)
  have HF := Lib.hid (fun X (hX : Mod NoB w X) => hf.mod hX)
  have HOF := Lib.hid hf.2.off
  have HR := Lib.hid hr
  have HS := Lib.hid hs
  have HSO := Lib.hid hso
  have HM1 := Lib.hid hm1
  have HML := Lib.hid hM
  obtain ⟨ab, x0, x1, x2, xf⟩ := Act3w.facts hA1
  have HA1 := Lib.hid hA1
  simp only at hk
  have HSX := Lib.hid hS
  clear h hr hM hs hf hso hm1 hA1 hS
  go_enter Tryz.func16, Tryz.ntmps16
  go_wp2_with fail
  clear hW1
  refine HFI.out.mono ?_
  rintro e W2 ⟨rfl, hm2⟩
  have hA2 := (hm2.block _ ab id).trans HA1.out
  have HM2 := Lib.hid (HM1.out.trans hm2 (fun _ _ h => h))
  clear x0 x1 x2 xf ab hm2 HFI HA1 HM1
  obtain ⟨ab, x0, x1, x2, xf⟩ := Act3w.facts hA2
  have HA2 := Lib.hid hA2
  have hsz := HM2.out.size
  clear hA2
  have HDE := Lib.hid (TDelete_calls t l p g root key M W2 (HT.out W2 HM2.out) HR.out (Nat.le_trans HML.out (by decide)) HS.out)
  rw [rIs_some key HSO.out] at HDE
  generalize rIs M key = b at *
  rcases hk with rfl | rfl
  all_goals
    go_wp2_with fail
    refine HDE.out.mono ?_
    rintro e W3 ⟨root', g', rfl, hm3, ht3, hg3, hn3, hr3⟩
    have hA3 := (hm3.block _ ab (fun e => by omega)).trans HA2.out
    have hf3 := (HF.out W2 HM2.out).upd hm3 (fun q hq e => HOF.out q hq (HSX.out q e))
    have HDR := Lib.hid (rdrop_calls _ M key W3 hf3 (by have := HML.out; omega))
    rw [rDrop_del key M HSO.out] at HDR
    have HM3 := Lib.hid ((HM2.out.mono (noB_sub (fun k => k = l ∨ k = t) _)).trans hm3 (fun _ _ h => h))
    have HT3 := Lib.hid ht3
    have HG3 := Lib.hid hg3
    have HN3 := Lib.hid hn3
    have HR3 := Lib.hid hr3
    clear x0 x1 x2 xf ab hm3 ht3 hg3 hn3 hr3 hf3 HDE HA2 HM2
    obtain ⟨ab, x0, x1, x2, xf⟩ := Act3w.facts hA3
    clear hA3
    go_wp2_with fail
    refine HDR.out.mono ?_
    rintro e W4 ⟨v', rfl, hf4, hm4⟩
    have HF4 := Lib.hid hf4
    have HM4 := Lib.hid (HM3.out.trans hm4 (fun _ _ h => h.elim))
    have HT4 := Lib.hid (HT3.out.mod hm4)
    clear hf4 hm4 HDR HM3 HT3 x0 x1 x2 xf ab
    go_wp2_with fail
    refine bodyPost_ret (v := .tuple #[v', .bool true]) (by simp [results, Tryz.f16, go_sem]) rfl ?_
    exact ⟨v', root', g', rfl, HM4.out, HT4.out, HG3.out, HN3.out, HR3.out, HF4.out⟩

set_option maxRecDepth 100000 in
set_option maxHeartbeats 6400000 in
theorem one_get [Away] (t l p : Nat) (g : Lg) (root : Int) (v : Value) (M : Files) (A : Act6) (w : World) (h : TL w t l p g root) (hr : TR g root M) (hM : M.length ≤ 400) (hs : Small g 8) (hf : FR w v M) (hk : A.kind = 5) :
    Calls Tryz.prog 16 #[.pointer (some ⟨t, 0, none⟩), v, act6V A] w (OnePost w t l p g M) := by
  obtain ⟨kind, key, val⟩ := A
  have hlb := lt_heap h.log
  have htb := lt_heap h.tree
  obtain ⟨a1, c1, rfl, _, _⟩ := hf.cells
  have hso := hr.sorted
  obtain ⟨W1, hW1⟩ : ∃ W1, w.alloc (.cells #[.int .i64 kind, .string ⟨key.toArray⟩, .string ⟨val.toArray⟩] 32) = W1 := ⟨_, rfl⟩
  have hm1 : Mod NoB w W1 := by rw [← hW1]; exact (Mod.refl _ _).alloc _
  have hA1 : W1.heap[w.heap.size]? = some (.cells #[.int .i64 kind, .string ⟨key.toArray⟩, .string ⟨val.toArray⟩] 32 (0, 0)) := by rw [← hW1]; exact heap_alloc_new _ _
  have HFI := Lib.hid (rfind_calls _ M key W1 (hf.mod hm1) (by omega))
  have HT := Lib.hid (fun X (hX : Mod NoB w X) => h.mod hX)
  have HF := Lib.hid (fun X (hX : Mod NoB w X) => hf.mod hX)
  have HOF := Lib.hid hf.2.off
  have HR := Lib.hid hr
  have HS := Lib.hid hs
  have HSO := Lib.hid hso
  have HM1 := Lib.hid hm1
  have HML := Lib.hid hM
  obtain ⟨ab, x0, x1, x2, xf⟩ := Act3w.facts hA1
  have HA1 := Lib.hid hA1
  simp only at hk
  subst hk
  clear h hr hM hs hf hso hm1 hA1
  go_enter Tryz.func16, Tryz.ntmps16
  go_wp2_with fail
  clear hW1
  refine HFI.out.mono ?_
  rintro e W2 ⟨rfl, hm2⟩
  have hA2 := (hm2.block _ ab id).trans HA1.out
  have HM2 := Lib.hid (HM1.out.trans hm2 (fun _ _ h => h))
  clear x0 x1 x2 xf ab hm2 HFI HA1 HM1
  obtain ⟨ab, x0, x1, x2, xf⟩ := Act3w.facts hA2
  have HA2 := Lib.hid hA2
  have hsz := HM2.out.size
  clear hA2
  have hge := Get_calls t l p g root key M W2 (HT.out W2 HM2.out) HR.out HS.out.zero
  rw [rIs_get key M HSO.out] at hge
  cases hb : rIs M key with
  | false =>
    rw [hb] at hge
    have HGE := Lib.hid hge
    clear hge
    unfold gotV at HGE
    simp only [Bool.false_eq_true, if_false] at HGE
    go_wp2_with fail
    refine HGE.out.mono ?_
    rintro e W3 ⟨rfl, hm3⟩
    have HM3 := Lib.hid (HM2.out.trans hm3 (fun _ _ h => h))
    clear hm3 HGE HA2 HM2 x0 x1 x2 xf ab
    go_wp2_with fail
    refine bodyPost_ret (v := .tuple #[.slice a1 M.length c1, .bool true]) (by simp [results, Tryz.f16, go_sem]) rfl ?_
    exact ⟨_, root, g, rfl, HM3.out.mono (noB_sub _ _), HT.out _ HM3.out, Grew.refl g, Nat.le_add_right _ _, HR.out, HF.out _ HM3.out⟩
  | true =>
    rw [hb] at hge
    have HGE := Lib.hid hge
    clear hge
    unfold gotV at HGE
    simp only [if_true] at HGE
    have hlt := rIs_lt hb
    have hat : rAt M key = M[rFind M key].2 := by
      unfold rAt
      rw [List.getElem?_eq_getElem hlt]
      rfl
    go_wp2_with fail
    refine HGE.out.mono ?_
    rintro e W3 ⟨rfl, hm3⟩
    have HM3 := Lib.hid (HM2.out.trans hm3 (fun _ _ h => h))
    clear hm3 HGE HA2 HM2 x0 x1 x2 xf ab
    obtain ⟨_, _, e2, _, hcell⟩ := (HF.out _ HM3.out).cells
    cases e2
    obtain ⟨q, rfl, hq, y1, y2⟩ := hcell _ hlt
    rw [hat]
    generalize M[rFind M key] = kv at *
    obtain ⟨kv1, kv2⟩ := kv
    simp only at y1 y2
    clear hcell hat
    go_wp2_with fail
    refine wp_region_quiet_all (fun w' => ∃ x, w' = over _ (NoB) x) (by kernel_rfl) (by kernel_rfl) (Cls.drew _ _) ?_
    repeat (go_big_quiet_step (fail))
    refine wpQuiet_nil ?_
    rintro _ ⟨y, rfl⟩
    go_wp2_with fail
    refine at_world6 (P := bodyPost _ _ _ _ _) (fun X => Mod NoB w X) (HM3.out.trans (over_mod _ _ _) (fun _ _ h => h)) ?_
    intro X hX
    refine bodyPost_ret (v := .tuple #[.slice (some ⟨q, 0, none⟩) M.length c1, .bool true]) (by simp [results, Tryz.f16, go_sem]) rfl ?_
    exact ⟨_, root, g, rfl, hX.mono (noB_sub _ _), HT.out _ hX, Grew.refl g, Nat.le_add_right _ _, HR.out, HF.out _ hX⟩

set_option maxRecDepth 100000 in
set_option maxHeartbeats 6400000 in
theorem one_put [Away] (t l p : Nat) (g : Lg) (root : Int) (v : Value) (M : Files) (A : Act6) (w : World) (hS : ∀ q, (q = l ∨ q = t) → Away.S q) (h : TL w t l p g root) (hr : TR g root M) (hM : M.length ≤ 400) (hs : Small g 8) (hf : FR w v M) (h1 : A.key.length ≤ 9223372036854775807) (h2 : A.value.length ≤ 9223372036854775807) (hk3 : A.kind ≠ 3) (hk4 : A.kind ≠ 4) (hk5 : A.kind ≠ 5) :
    Calls Tryz.prog 16 #[.pointer (some ⟨t, 0, none⟩), v, act6V A] w (OnePost w t l p g (if keyOk A.key ∧ A.value.length ≤ 8192 then M.put A.key A.value else M)) := by
  obtain ⟨kind, key, val⟩ := A
  have hlb := lt_heap h.log
  have htb := lt_heap h.tree
  obtain ⟨a1, c1, rfl, _, _⟩ := hf.cells
  have hso := hr.sorted
  obtain ⟨W1, hW1⟩ : ∃ W1, w.alloc (.cells #[.int .i64 kind, .string ⟨key.toArray⟩, .string ⟨val.toArray⟩] 32) = W1 := ⟨_, rfl⟩
  have hm1 : Mod NoB w W1 := by rw [← hW1]; exact (Mod.refl _ _).alloc _
  have hA1 : W1.heap[w.heap.size]? = some (.cells #[.int .i64 kind, .string ⟨key.toArray⟩, .string ⟨val.toArray⟩] 32 (0, 0)) := by rw [← hW1]; exact heap_alloc_new _ _
  have HFI := Lib.hid (rfind_calls _ M key W1 (hf.mod hm1) (by omega))
  have HT := Lib.hid (fun X (hX : Mod NoB w X) => h.mod hX)
  have HF := Lib.hid (fun X (hX : Mod NoB w X) => hf.mod hX)
  have HOF := Lib.hid hf.2.off
  have HR := Lib.hid hr
  have HS := Lib.hid hs
  have HSO := Lib.hid hso
  have HM1 := Lib.hid hm1
  have HML := Lib.hid hM
  obtain ⟨ab, x0, x1, x2, xf⟩ := Act3w.facts hA1
  have HA1 := Lib.hid hA1
  simp only at h1 h2 hk3 hk4 hk5
  have HSX := Lib.hid hS
  clear h hr hM hs hf hso hm1 hA1 hS
  by_cases hok : keyOk key ∧ val.length ≤ 8192
  · rw [if_pos hok]
    go_enter Tryz.func16, Tryz.ntmps16
    go_wp2_with fail
    clear hW1
    refine HFI.out.mono ?_
    rintro e W2 ⟨rfl, hm2⟩
    have hA2 := (hm2.block _ ab id).trans HA1.out
    have HM2 := Lib.hid (HM1.out.trans hm2 (fun _ _ h => h))
    clear x0 x1 x2 xf ab hm2 HFI HA1 HM1
    obtain ⟨ab, x0, x1, x2, xf⟩ := Act3w.facts hA2
    have HA2 := Lib.hid hA2
    have hsz := HM2.out.size
    clear hA2
    have hk3' : (kind == 3) = false := beq_eq_false_iff_ne.2 hk3
    have hk4' : (kind == 4) = false := beq_eq_false_iff_ne.2 hk4
    have hk5' : (kind == 5) = false := beq_eq_false_iff_ne.2 hk5
    clear hk3 hk4 hk5
    have hpu := Put_any t l p g root key val M W2 (HT.out W2 HM2.out) HR.out (Nat.le_trans HML.out (by decide)) HS.out h1 h2
    rw [if_pos hok, if_pos hok] at hpu
    have HPU := Lib.hid hpu
    clear hpu
    go_wp2_with fail
    refine HPU.out.mono ?_
    rintro e W3 ⟨root', g', rfl, hm3, ht3, hg3, hn3, hr3⟩
    have hA3 := (hm3.block _ ab (fun e => by omega)).trans HA2.out
    have hf3 := (HF.out W2 HM2.out).upd hm3 (fun q hq e => HOF.out q hq (HSX.out q e))
    have HMY := Lib.hid (may6_calls ⟨kind, key, val⟩ W3 h1 h2)
    have HWI := Lib.hid (fun X (hX : Mod NoB W3 X) => rput_calls _ M key val X (hf3.mod hX) (by have := HML.out; omega))
    rw [rPut_put key val M HSO.out] at HWI
    have HM3 := Lib.hid ((HM2.out.mono (noB_sub (fun k => k = l ∨ k = t) _)).trans hm3 (fun _ _ h => h))
    have HF3 := Lib.hid hf3
    have HT3 := Lib.hid ht3
    have HG3 := Lib.hid hg3
    have HN3 := Lib.hid hn3
    have HR3 := Lib.hid hr3
    clear x0 x1 x2 xf ab hm3 ht3 hg3 hn3 hr3 hf3 HPU HA2 HM2
    obtain ⟨ab, x0, x1, x2, xf⟩ := Act3w.facts hA3
    have HA3 := Lib.hid hA3
    clear hA3
    have hmy : mayOf ⟨kind, key, val⟩ = true := decide_eq_true hok
    rw [hmy] at HMY
    clear hmy
    have HOK := Lib.hid hok
    clear hok
    go_wp2_with fail
    refine HMY.out.mono ?_
    rintro e W4 ⟨rfl, hm4⟩
    have hA4 := (hm4.block _ ab id).trans HA3.out
    have HM4 := Lib.hid (HM3.out.trans hm4 (fun _ _ h => h.elim))
    have HT4 := Lib.hid (HT3.out.mod hm4)
    have HW4 := Lib.hid (HWI.out W4 hm4)
    clear x0 x1 x2 xf ab hm4 HMY HA3 HM3 HT3 HWI
    obtain ⟨ab, x0, x1, x2, xf⟩ := Act3w.facts hA4
    clear hA4
    go_wp2_with fail
    refine HW4.out.mono ?_
    rintro e W5 ⟨v', rfl, hf5, hm5⟩
    have HF5 := Lib.hid hf5
    have HM5 := Lib.hid (HM4.out.trans hm5 (fun _ _ h => h.elim))
    have HT5 := Lib.hid (HT4.out.mod hm5)
    clear hf5 hm5 HW4 HM4 HT4 x0 x1 x2 xf ab
    go_wp2_with fail
    refine bodyPost_ret (v := .tuple #[v', .bool true]) (by simp [results, Tryz.f16, go_sem]) rfl ?_
    exact ⟨v', root', g', rfl, HM5.out, HT5.out, HG3.out, HN3.out, HR3.out, HF5.out⟩
  · rw [if_neg hok]
    go_enter Tryz.func16, Tryz.ntmps16
    go_wp2_with fail
    clear hW1
    refine HFI.out.mono ?_
    rintro e W2 ⟨rfl, hm2⟩
    have hA2 := (hm2.block _ ab id).trans HA1.out
    have HM2 := Lib.hid (HM1.out.trans hm2 (fun _ _ h => h))
    clear x0 x1 x2 xf ab hm2 HFI HA1 HM1
    obtain ⟨ab, x0, x1, x2, xf⟩ := Act3w.facts hA2
    have HA2 := Lib.hid hA2
    have hsz := HM2.out.size
    clear hA2
    have hk3' : (kind == 3) = false := beq_eq_false_iff_ne.2 hk3
    have hk4' : (kind == 4) = false := beq_eq_false_iff_ne.2 hk4
    have hk5' : (kind == 5) = false := beq_eq_false_iff_ne.2 hk5
    clear hk3 hk4 hk5
    have hpu := Put_any t l p g root key val M W2 (HT.out W2 HM2.out) HR.out (Nat.le_trans HML.out (by decide)) HS.out h1 h2
    rw [if_neg hok, if_neg hok] at hpu
    have HPU := Lib.hid hpu
    clear hpu
    go_wp2_with fail
    refine HPU.out.mono ?_
    rintro e W3 ⟨root', g', rfl, hm3, ht3, hg3, hn3, hr3⟩
    have hA3 := (hm3.block _ ab (fun e => by omega)).trans HA2.out
    have hf3 := (HF.out W2 HM2.out).upd hm3 (fun q hq e => HOF.out q hq (HSX.out q e))
    have HMY := Lib.hid (may6_calls ⟨kind, key, val⟩ W3 h1 h2)
    have HWI := Lib.hid (fun X (hX : Mod NoB W3 X) => rput_calls _ M key val X (hf3.mod hX) (by have := HML.out; omega))
    rw [rPut_put key val M HSO.out] at HWI
    have HM3 := Lib.hid ((HM2.out.mono (noB_sub (fun k => k = l ∨ k = t) _)).trans hm3 (fun _ _ h => h))
    have HF3 := Lib.hid hf3
    have HT3 := Lib.hid ht3
    have HG3 := Lib.hid hg3
    have HN3 := Lib.hid hn3
    have HR3 := Lib.hid hr3
    clear x0 x1 x2 xf ab hm3 ht3 hg3 hn3 hr3 hf3 HPU HA2 HM2
    obtain ⟨ab, x0, x1, x2, xf⟩ := Act3w.facts hA3
    have HA3 := Lib.hid hA3
    clear hA3
    have hmy : mayOf ⟨kind, key, val⟩ = false := decide_eq_false hok
    rw [hmy] at HMY
    clear hmy
    have HOK := Lib.hid hok
    clear hok
    go_wp2_with fail
    refine HMY.out.mono ?_
    rintro e W4 ⟨rfl, hm4⟩
    have HM4 := Lib.hid (HM3.out.trans hm4 (fun _ _ h => h.elim))
    have HT4 := Lib.hid (HT3.out.mod hm4)
    have HF4 := Lib.hid (HF3.out.mod hm4)
    clear x0 x1 x2 xf ab hm4 HMY HA3 HM3 HT3 HWI HF3
    go_wp2_with fail
    refine bodyPost_ret (v := .tuple #[.slice a1 M.length c1, .bool true]) (by simp [results, Tryz.f16, go_sem]) rfl ?_
    exact ⟨_, root', g', rfl, HM4.out, HT4.out, HG3.out, HN3.out, HR3.out, HF4.out⟩
theorem BP.small {g : Lg} {k : Nat} (h : g.s.length + g.wait.length ≤ 1000000 * k) (hk : k ≤ 300) : Small g 8 := by
  unfold Small
  omega
def BP [Away] (w wr : World) (t l : Nat) (v : Value) (k : Nat) : Prop := ∃ p g root M, TL wr t l p g root ∧ Mod NoB w wr ∧ TR g root M ∧ FR wr v M ∧ M.length ≤ k ∧ g.s.length + g.wait.length ≤ 1000000 * k
theorem BP.quiet [Away] {w wr X : World} {t l k : Nat} {v : Value} (h : BP w wr t l v k) (hX : Mod NoB wr X) : BP w X t l v k := by
  obtain ⟨p, g, root, M, hT, hm, hr, hf, hM, hw⟩ := h
  exact ⟨p, g, root, M, hT.mod hX, hm.trans hX (fun _ _ h => h), hr, hf.mod hX, hM, hw⟩
theorem BP.has [Away] {w wr : World} {t l k : Nat} {v : Value} (f : Str) (h : BP w wr t l v k) (hk : k ≤ 300) : Calls Tryz.prog 19 #[.pointer (some ⟨t, 0, none⟩), v, .string ⟨f.toArray⟩] wr fun e w' => e = .returned (.bool true) ∧ BP w w' t l v k ∧ Mod NoB wr w' := by
  have h0 := h
  obtain ⟨p, g, root, M, hT, hm, hr, hf, hM, hw⟩ := h
  exact (has_calls t l p g root v M f wr hT hr hf (by omega) (BP.small hw hk).zero).mono fun e w' ⟨h1, h2⟩ => ⟨h1, h0.quiet h2, h2⟩
theorem BP.one [Away] {w wr : World} {t l k : Nat} {v : Value} (A : Act6) (h : BP w wr t l v k) (hk : k ≤ 300) (hS : ∀ q, (q = l ∨ q = t) → Away.S q) (ht : w.heap.size ≤ t) (hl : w.heap.size ≤ l) (h1 : A.key.length ≤ 9223372036854775807) (h2 : A.value.length ≤ 9223372036854775807) :
    Calls Tryz.prog 16 #[.pointer (some ⟨t, 0, none⟩), v, act6V A] wr fun e w' => ∃ v', e = .returned (.tuple #[v', .bool true]) ∧ BP w w' t l v' (k + 1) := by
  obtain ⟨p, g, root, M, hT, hm, hr, hf, hM, hw⟩ := h
  have fin : ∀ (M' : Files) e w', M'.length ≤ M.length + 1 → OnePost wr t l p g M' e w' → ∃ v', e = .returned (.tuple #[v', .bool true]) ∧ BP w w' t l v' (k + 1) := fun M' e w' hM' ⟨v', root', g', e1, e2, e3, e4, e5, e6, e7⟩ => by
    obtain ⟨x, rfl⟩ := e4.ex
    refine ⟨v', e1, p, _, root', M', e3, hm.trans e2 (fun j hj e => by omega), e6, e7, by omega, ?_⟩
    simp only at e5 ⊢
    omega
  have hsm := BP.small hw hk
  by_cases k34 : A.kind = 3 ∨ A.kind = 4
  · exact (one_del t l p g root v M A wr hS hT hr (by omega) hsm hf k34).mono fun e w' h => fin _ e w' (Nat.le_trans (del_length _ _) (Nat.le_succ _)) h
  · by_cases k5 : A.kind = 5
    · exact (one_get t l p g root v M A wr hT hr (by omega) hsm hf k5).mono fun e w' h => fin _ e w' (Nat.le_succ _) h
    · refine (one_put t l p g root v M A wr hS hT hr (by omega) hsm hf h1 h2 (fun e => k34 (.inl e)) (fun e => k34 (.inr e)) k5).mono fun e w' h => fin _ e w' ?_ h
      split
      · exact put_length _ _ _
      · exact Nat.le_succ _
theorem BP.root [Away] {w wr : World} {t l k : Nat} {v : Value} (h : BP w wr t l v k) : ∃ (n c : Nat) (a : Option Addr) (root : Int), v = .slice a n c ∧ n ≤ k ∧ ((n = 0 ∧ root < 0) ∨ (0 < n ∧ 0 ≤ root)) ∧ Calls Tryz.prog 17 #[.pointer (some ⟨t, 0, none⟩)] wr fun e w' => e = .returned (.int .i64 root) ∧ wr = w' := by
  obtain ⟨p, g, root, M, hT, hm, hr, hf, hM, hw⟩ := h
  obtain ⟨a, c, e, _, _⟩ := hf.cells
  refine ⟨M.length, c, a, root, e, hM, ?_, TRoot_calls t l p g root wr hT⟩
  rcases hr with ⟨rfl, rfl⟩ | ⟨d, r, rfl, h1⟩
  · exact .inl ⟨rfl, by decide⟩
  · obtain ⟨_, q, _, hq, _, hp⟩ := h1
    exact .inr ⟨List.length_pos_iff.2 (repP_some hp hq), by omega⟩

end Go.Proofs.YtgofngilfdnakaaGreat

namespace Go.Proofs.YtgofngilfdnakaaGreat
open Go

theorem numLE_inj {a b k : Nat} (ha : a < 256 ^ k) (hb : b < 256 ^ k) (h : numLE a k = numLE b k) : a = b := by
  have h1 : ofLE (numLE a k) = ofLE (numLE b k) := by rw [h]
  rwa [ofLE_numLE, ofLE_numLE, Nat.mod_eq_of_lt ha, Nat.mod_eq_of_lt hb] at h1
theorem text_inj {s t a b : Str} (hs : s.length < 4294967296) (ht : t.length < 4294967296) (h : text s ++ a = text t ++ b) : s = t ∧ a = b := by
  unfold text at h
  rw [List.append_assoc, List.append_assoc] at h
  have h1 := List.append_inj h (by rw [numLE_length, numLE_length])
  have hl : s.length = t.length := numLE_inj (by simpa using hs) (by simpa using ht) h1.1
  exact List.append_inj h1.2 hl
theorem texts_inj {a b : Str} : ∀ {l m : List Str}, l.length = m.length → (∀ s ∈ l, s.length < 4294967296) → (∀ s ∈ m, s.length < 4294967296) → l.flatMap text ++ a = m.flatMap text ++ b → l = m ∧ a = b
  | [], [], _, _, _, h => ⟨rfl, h⟩
  | [], _ :: _, hl, _, _, _ => by simp at hl
  | _ :: _, [], hl, _, _, _ => by simp at hl
  | s :: l, t :: m, hl, h1, h2, h => by
    rw [List.flatMap_cons, List.flatMap_cons, List.append_assoc, List.append_assoc] at h
    obtain ⟨e1, e2⟩ := text_inj (h1 s List.mem_cons_self) (h2 t List.mem_cons_self) h
    obtain ⟨e3, e4⟩ := texts_inj (l := l) (m := m) (by simpa using hl) (fun x hx => h1 x (List.mem_cons_of_mem _ hx)) (fun x hx => h2 x (List.mem_cons_of_mem _ hx)) e2
    exact ⟨by rw [e1, e3], e4⟩
theorem nums_inj : ∀ {l m : List Nat}, l.length = m.length → (∀ s ∈ l, s < 4294967296) → (∀ s ∈ m, s < 4294967296) → l.flatMap (fun k => numLE k 4) = m.flatMap (fun k => numLE k 4) → l = m
  | [], [], _, _, _, _ => rfl
  | [], _ :: _, hl, _, _, _ => by simp at hl
  | _ :: _, [], hl, _, _, _ => by simp at hl
  | s :: l, t :: m, hl, h1, h2, h => by
    rw [List.flatMap_cons, List.flatMap_cons] at h
    have h3 := List.append_inj h (by rw [numLE_length, numLE_length])
    have e1 := numLE_inj (k := 4) (by simpa using h1 s List.mem_cons_self) (by simpa using h2 t List.mem_cons_self) h3.1
    rw [e1, nums_inj (l := l) (m := m) (by simpa using hl) (fun x hx => h1 x (List.mem_cons_of_mem _ hx)) (fun x hx => h2 x (List.mem_cons_of_mem _ hx)) h3.2]
theorem encP_inj {p q : Pg} (hp : pgOk p) (hq : pgOk q) (h : encP p = encP q) : p = q := by
  obtain ⟨pl, pk, pv, pd⟩ := p
  obtain ⟨ql, qk, qv, qd⟩ := q
  obtain ⟨_, p2, p3, p4, p5⟩ := hp
  obtain ⟨_, q2, q3, q4, q5⟩ := hq
  simp only at p2 p3 p4 p5 q2 q3 q4 q5
  unfold encP at h
  simp only at h
  have h1 := List.append_inj h (by rw [numLE_length, numLE_length])
  have el : pl = ql := by
    have := numLE_inj (k := 1) (by cases pl <;> simp) (by cases ql <;> simp) h1.1
    cases pl <;> cases ql <;> simp at this <;> rfl
  subst el
  have h2 := List.append_inj h1.2 (by rw [numLE_length, numLE_length])
  have ek := numLE_inj (k := 1) (by simp; omega) (by simp; omega) h2.1
  have kl : ∀ {l : List Str}, (∀ s ∈ l, keyOk s) → ∀ s ∈ l, s.length < 4294967296 := fun h s hs => by have := (h s hs).2; omega
  obtain ⟨e1, h3⟩ := texts_inj ek (kl p2) (kl q2) h2.2
  subst e1
  cases hl : pl with
  | true =>
    obtain ⟨a1, a2, a3⟩ := p4 hl
    obtain ⟨b1, b2, b3⟩ := q4 hl
    subst a1
    subst b1
    obtain ⟨e2, _⟩ := texts_inj (by rw [a2, b2]) (fun s hs => by have := a3 s hs; omega) (fun s hs => by have := b3 s hs; omega) h3
    rw [e2]
  | false =>
    obtain ⟨a1, a2, a3, a4⟩ := p5 hl
    obtain ⟨b1, b2, b3, b4⟩ := q5 hl
    subst a1
    subst b1
    have e2 := nums_inj (by rw [a3, b3]) (fun s hs => by have := a4 s hs; omega) (fun s hs => by have := b4 s hs; omega) h3
    rw [e2]
theorem rdG_same {g : Lg} {k : Nat} {p q : Pg} (hp : rdG g k p) (hq : rdG g k q) : p = q := by
  have h := hp.2.symm.trans hq.2
  exact encP_inj hp.1 hq.1 (Prod.mk.inj h).1

def Closed (rd : Nat → Pg → Prop) (L : List Nat) : Prop := ∀ A n B, L = A ++ n :: B → ∃ q, rd n q ∧ ∀ q', rd n q' → ∀ k ∈ q'.kids, k ∈ A
theorem Closed.nil (rd : Nat → Pg → Prop) : Closed rd [] := fun A n B h => by simp at h
theorem Closed.append {rd : Nat → Pg → Prop} {L L' : List Nat} (h : Closed rd L) (h' : Closed rd L') : Closed rd (L ++ L') := fun A n B e => by
  rcases List.append_eq_append_iff.1 e with ⟨C, e1, e2⟩ | ⟨C, e1, e2⟩
  · obtain ⟨q, h1, h2⟩ := h' C n B e2
    exact ⟨q, h1, fun q' hq' k hk => by rw [e1]; exact List.mem_append_right _ (h2 q' hq' k hk)⟩
  · cases C with
    | nil =>
      rw [List.append_nil] at e1
      obtain ⟨q, h1, h2⟩ := h' [] n B e2.symm
      exact ⟨q, h1, fun q' hq' k hk => by simpa using h2 q' hq' k hk⟩
    | cons c C =>
      rw [List.cons_append, List.cons.injEq] at e2
      obtain ⟨rfl, rfl⟩ := e2
      exact h A n C e1
theorem Closed.snoc {rd : Nat → Pg → Prop} {L : List Nat} {n : Nat} {q : Pg} (h : Closed rd L) (hq : rd n q) (hk : ∀ q', rd n q' → ∀ k ∈ q'.kids, k ∈ L) : Closed rd (L ++ [n]) := fun A m B e => by
  rcases List.append_eq_append_iff.1 e with ⟨C, e1, e2⟩ | ⟨C, e1, e2⟩
  · cases C with
    | nil =>
      rw [List.nil_append, List.cons.injEq] at e2
      obtain ⟨rfl, _⟩ := e2
      rw [List.append_nil] at e1
      exact ⟨q, hq, fun q' hq' k hk' => by rw [e1]; exact hk q' hq' k hk'⟩
    | cons c C =>
      rw [List.cons_append, List.cons.injEq] at e2
      obtain ⟨_, e3⟩ := e2
      exact absurd e3 (by simp)
  · cases C with
    | nil =>
      rw [List.append_nil] at e1
      rw [List.nil_append, List.cons.injEq] at e2
      obtain ⟨rfl, _⟩ := e2
      exact ⟨q, hq, fun q' hq' k hk' => by rw [← e1]; exact hk q' hq' k hk'⟩
    | cons c C =>
      rw [List.cons_append, List.cons.injEq] at e2
      obtain ⟨rfl, rfl⟩ := e2
      exact h A m C e1

/-! ### a tree's places -/
open Classical in
noncomputable def pgAt (rd : Nat → Pg → Prop) (k : Nat) : Pg := if h : ∃ q, rd k q then h.choose else ⟨true, [], [], []⟩
theorem pgAt_eq {g : Lg} {k : Nat} {q : Pg} (h : rdG g k q) : pgAt (rdG g) k = q := by
  have hx : ∃ q, rdG g k q := ⟨q, h⟩
  unfold pgAt
  rw [dif_pos hx]
  exact rdG_same hx.choose_spec h
noncomputable def pagesF (rd : Nat → Pg → Prop) : Nat → Nat → List Nat
  | 0, k => [k]
  | d + 1, k => (pgAt rd k).kids.flatMap (pagesF rd d) ++ [k]
theorem pages_node {g : Lg} {k : Nat} {q : Pg} (d : Nat) (h : rdG g k q) : pagesF (rdG g) (d + 1) k = q.kids.flatMap (pagesF (rdG g) d) ++ [k] := by
  rw [pagesF, pgAt_eq h]
theorem pages_last (rd : Nat → Pg → Prop) (d k : Nat) : ∃ L, pagesF rd d k = L ++ [k] := by
  cases d with
  | zero => exact ⟨[], rfl⟩
  | succ d => exact ⟨_, rfl⟩
theorem pages_own (rd : Nat → Pg → Prop) (d k : Nat) : k ∈ pagesF rd d k := by
  obtain ⟨L, h⟩ := pages_last rd d k
  rw [h]
  exact List.mem_append_right _ (List.mem_singleton.2 rfl)
theorem Closed.flat {rd : Nat → Pg → Prop} {f : Nat → List Nat} : ∀ {l : List Nat}, (∀ k ∈ l, Closed rd (f k)) → Closed rd (l.flatMap f)
  | [], _ => Closed.nil rd
  | k :: l, h => by
    rw [List.flatMap_cons]
    exact (h k List.mem_cons_self).append (Closed.flat fun x hx => h x (List.mem_cons_of_mem _ hx))
theorem kr_mem {R : Nat → Str → Option Str → Files → Prop} {P : Nat → Prop} (hR : ∀ {k lo hi M}, R k lo hi M → P k) : ∀ {ks : List Str} {kids : List Nat} {lo : Str} {hi : Option Str} {M : Files}, KidsRep R ks kids lo hi M → ∀ k ∈ kids, P k
  | [], [_], _, _, _, h => fun k hk => by rw [List.mem_singleton.1 hk]; exact hR h
  | [], [], _, _, _, h => h.elim
  | [], _ :: _ :: _, _, _, _, h => h.elim
  | _ :: _, [], _, _, _, h => h.elim
  | s :: ks, k :: kids, lo, hi, M, h => fun j hj => by
    obtain ⟨M1, M2, rfl, h2, h3, h4, h5⟩ := h
    rcases List.mem_cons.1 hj with rfl | hj
    · exact hR h4
    · exact kr_mem (R := R) (fun h => hR h) h5 j hj
theorem kr_count {R : Nat → Str → Option Str → Files → Prop} {f : Nat → List Nat} (hR : ∀ {k lo hi M}, R k lo hi M → 3 * (f k).length + 1 ≤ M.length) : ∀ {ks : List Str} {kids : List Nat} {lo : Str} {hi : Option Str} {M : Files}, KidsRep R ks kids lo hi M → 3 * (kids.flatMap f).length + kids.length ≤ M.length
  | [], [_], _, _, _, h => by have := hR h; simp only [List.flatMap_cons, List.flatMap_nil, List.append_nil, List.length_cons, List.length_nil]; omega
  | [], [], _, _, _, h => h.elim
  | [], _ :: _ :: _, _, _, _, h => h.elim
  | _ :: _, [], _, _, _, h => h.elim
  | s :: ks, k :: kids, lo, hi, M, h => by
    obtain ⟨M1, M2, rfl, h2, h3, h4, h5⟩ := h
    have e1 := hR h4
    have e2 := kr_count (R := R) (f := f) (fun h => hR h) h5
    rw [List.flatMap_cons, List.length_append, List.length_append, List.length_cons]
    omega
theorem pages_closed {g : Lg} : ∀ {d m k : Nat} {lo : Str} {hi : Option Str} {M : Files}, Rep (rdG g) m d k lo hi M → Closed (rdG g) (pagesF (rdG g) d k)
  | 0, m, k, _, _, _, h => by
    obtain ⟨_, q, hq, _, _, hr⟩ := h
    refine (Closed.nil (rdG g)).snoc hq fun q' hq' j hj => ?_
    rw [rdG_same hq' hq, hr.2.1] at hj
    exact hj
  | d + 1, m, k, _, _, _, h => by
    obtain ⟨_, q, hq, _, _, hr⟩ := h
    rw [pages_node d hq]
    have h4 : ∀ j ∈ q.kids, Closed (rdG g) (pagesF (rdG g) d j) := kr_mem (fun h => pages_closed (m := 4) h) hr.2.2.2
    refine (Closed.flat h4).snoc hq fun q' hq' j hj => ?_
    rw [rdG_same hq' hq] at hj
    exact List.mem_flatMap.2 ⟨j, hj, pages_own _ _ _⟩
theorem pages_count {g : Lg} : ∀ {d k : Nat} {lo : Str} {hi : Option Str} {M : Files}, Rep (rdG g) 4 d k lo hi M → 3 * (pagesF (rdG g) d k).length + 1 ≤ M.length
  | 0, k, _, _, M, h => by
    obtain ⟨_, q, hq, h4, _, hr⟩ := h
    rw [hr.2.2.1, List.length_map] at h4
    show 3 * 1 + 1 ≤ M.length
    omega
  | d + 1, k, _, _, M, h => by
    obtain ⟨_, q, hq, h4, _, hr⟩ := h
    rw [pages_node d hq]
    have h1 := kr_count (f := pagesF (rdG g) d) (fun h => pages_count h) hr.2.2.2
    have h2 := kr_length hr.2.2.2
    rw [List.length_append, List.length_singleton]
    omega
theorem pages_count1 {g : Lg} {d k : Nat} {lo : Str} {hi : Option Str} {M : Files} (h : Rep (rdG g) 1 d k lo hi M) : 3 * (pagesF (rdG g) d k).length ≤ M.length + 2 := by
  cases d with
  | zero =>
    obtain ⟨_, q, hq, h1, _, hr⟩ := h
    rw [hr.2.2.1, List.length_map] at h1
    show 3 * 1 ≤ M.length + 2
    omega
  | succ d =>
    obtain ⟨_, q, hq, h4, _, hr⟩ := h
    rw [pages_node d hq]
    have h1 := kr_count (f := pagesF (rdG g) d) (fun h => pages_count h) hr.2.2.2
    have h2 := kr_length hr.2.2.2
    rw [List.length_append, List.length_singleton]
    omega

/-! ### pages laid anew -/
def Pg.moved (q : Pg) (f : Nat → Nat) : Pg := { q with kids := q.kids.map f }
theorem kr_moved {R R' : Nat → Str → Option Str → Files → Prop} {f : Nat → Nat} : ∀ {ks : List Str} {kids : List Nat} {lo : Str} {hi : Option Str} {M : Files}, (∀ k ∈ kids, ∀ lo hi M, R k lo hi M → R' (f k) lo hi M) → KidsRep R ks kids lo hi M → KidsRep R' ks (kids.map f) lo hi M
  | [], [k], _, _, _, hR, h => hR k List.mem_cons_self _ _ _ h
  | [], [], _, _, _, _, h => h.elim
  | [], _ :: _ :: _, _, _, _, _, h => h.elim
  | _ :: _, [], _, _, _, _, h => h.elim
  | s :: ks, k :: kids, lo, hi, M, hR, h => by
    obtain ⟨M1, M2, h1, h2, h3, h4, h5⟩ := h
    exact ⟨M1, M2, h1, h2, h3, hR k List.mem_cons_self _ _ _ h4, kr_moved (fun j hj => hR j (List.mem_cons_of_mem _ hj)) h5⟩
theorem repP_moved {rd rd' : Nat → Pg → Prop} {f : Nat → Nat} {d : Nat} {q : Pg} {lo : Str} {hi : Option Str} {M : Files} (hf : ∀ k ∈ q.kids, ∀ m d lo hi M, Rep rd m d k lo hi M → Rep rd' m d (f k) lo hi M) (h : RepP rd d q lo hi M) : RepP rd' d (q.moved f) lo hi M := by
  cases d with
  | zero =>
    obtain ⟨h1, h2, h3⟩ := h
    exact ⟨h1, by simp [Pg.moved, h2], h3⟩
  | succ d =>
    obtain ⟨h1, h2, h3, h4⟩ := h
    exact ⟨h1, h2, h3, kr_moved (fun k hk lo hi M h => hf k hk 4 d lo hi M h) h4⟩
theorem moved_ok {q : Pg} {f : Nat → Nat} (h : pgOk q) (hf : ∀ k ∈ q.kids, f k ≤ 2147483647) : pgOk (q.moved f) := by
  obtain ⟨h1, h2, h3, h4, h5⟩ := h
  refine ⟨h1, h2, h3, fun hl => ?_, fun hl => ?_⟩
  · obtain ⟨g1, g2, g3⟩ := h4 hl
    exact ⟨by simp [Pg.moved, g1], g2, g3⟩
  · obtain ⟨g1, g2, g3, g4⟩ := h5 hl
    refine ⟨g1, g2, by simpa [Pg.moved] using g3, fun k hk => ?_⟩
    obtain ⟨j, hj, rfl⟩ := List.mem_map.1 hk
    exact hf j hj
def rdS (s : Str) (k : Nat) (q : Pg) : Prop := pgOk q ∧ readAt s (k : Int) = (encP q, 0)
theorem rdS_grow {s : Str} {k : Nat} {q : Pg} (x : Str) (h : rdS s k q) : rdS (s ++ x) k q := ⟨h.1, readAt_grow h.2⟩
theorem rdS_new (s : Str) {q : Pg} (h : pgOk q) : rdS (s ++ frame (100 :: encP q)) s.length q := by
  refine ⟨h, ?_⟩
  have h3 := frame_length (100 :: encP q)
  have := encP_le h
  unfold readAt
  rw [if_neg (by rw [List.length_append, h3]; omega)]
  have e : ((s.length : Nat) : Int).toNat = s.length := by omega
  rw [e, unframe_last _ _ (by simp only [List.length_cons]; omega)]
  rfl
def Laid (rd : Nat → Pg → Prop) (A : List Nat) (s : Str) (f : Nat → Nat) : Prop := ∀ k ∈ A, f k ≤ s.length ∧ ∀ m d lo hi M, Rep rd m d k lo hi M → Rep (rdS s) m d (f k) lo hi M
theorem Laid.nil (rd : Nat → Pg → Prop) (s : Str) (f : Nat → Nat) : Laid rd [] s f := fun k hk => by cases hk
theorem Laid.step {g : Lg} {A : List Nat} {s : Str} {f : Nat → Nat} {n : Nat} {q : Pg} (h : Laid (rdG g) A s f) (hq : rdG g n q) (hk : ∀ k ∈ q.kids, k ∈ A) (hs : s.length ≤ 2147483647) :
    pgOk (q.moved f) ∧ Laid (rdG g) (A ++ [n]) (s ++ frame (100 :: encP (q.moved f))) (fun k => if k = n then s.length else f k) := by
  have hok : pgOk (q.moved f) := moved_ok hq.1 fun k hk' => Nat.le_trans (h k (hk k hk')).1 hs
  refine ⟨hok, fun k hk' => ?_⟩
  by_cases hkn : k = n
  · subst hkn
    refine ⟨by simp, fun m d lo hi M hr => ?_⟩
    obtain ⟨_, q', hq', h1, h2, h3⟩ := hr
    rw [rdG_same hq' hq] at h1 h2 h3
    show Rep _ m d (if k = k then s.length else f k) lo hi M
    rw [if_pos rfl]
    refine ⟨hs, _, rdS_new s hok, h1, h2, repP_moved (fun j hj m d lo hi M hr => ?_) h3⟩
    exact rep_mono (fun _ _ h => rdS_grow _ h) ((h j (hk j hj)).2 m d lo hi M hr)
  · have hkA : k ∈ A := by
      rcases List.mem_append.1 hk' with h1 | h1
      · exact h1
      · exact absurd (List.mem_singleton.1 h1) hkn
    simp only [if_neg hkn]
    refine ⟨by have := (h k hkA).1; rw [List.length_append]; omega, fun m d lo hi M hr => ?_⟩
    exact rep_mono (fun _ _ h => rdS_grow _ h) ((h k hkA).2 m d lo hi M hr)
theorem Laid.tree {g g' : Lg} {A : List Nat} {s x : Str} {f : Nat → Nat} {n d : Nat} {M : Files} (h : Laid (rdG g) A s f) (hn : n ∈ A) (hr : Rep (rdG g) 1 d n [] none M) (hg : g'.s = s ++ x) : TR g' (f n) M := by
  refine .inr ⟨d, f n, rfl, rep_mono (fun k q hq => ?_) ((h n hn).2 1 d [] none M hr)⟩
  refine ⟨hq.1, ?_⟩
  have h2 : readAt g'.s (k : Int) = (encP q, 0) := by rw [hg]; exact readAt_grow hq.2
  unfold Lg.read
  by_cases hk : (k : Int) ≥ (g'.s.length : Int)
  · unfold readAt at h2
    rw [if_pos (.inr hk)] at h2
    simp at h2
  · rw [if_neg hk]
    exact h2

end Go.Proofs.YtgofngilfdnakaaGreat

namespace Go.Proofs.YtgofngilfdnakaaGreat
open Go Go.RowKit
set_option linter.unusedSimpArgs false
attribute [local go_sem] over_cell over_frozen lt_over le_over noB loudUpon ByteArray.mk_append_mk ByteArray.extract_mk

def PagesPost (w : World) (L : List Nat) (e : Ending) (w' : World) : Prop := ∃ a c, e = .returned (.tuple #[.slice a L.length c, .bool true]) ∧ w'.ownsRow w.heap.size 3 1 (.slice a L.length c) L.length (L.map numV) ∧ Mod NoB w w'
theorem flat_take_succ (f : Nat → List Nat) (l : List Nat) {i : Nat} (h : i < l.length) : (l.take (i + 1)).flatMap f = (l.take i).flatMap f ++ f l[i] := by
  rw [List.take_succ_eq_append_getElem h, List.flatMap_append, List.flatMap_singleton]
theorem flat_take_le (f : Nat → List Nat) : ∀ (l : List Nat) (i : Nat), ((l.take i).flatMap f).length ≤ (l.flatMap f).length
  | [], i => by simp
  | x :: l, 0 => by simp
  | x :: l, i + 1 => by
    have := flat_take_le f l i
    rw [List.take_succ_cons, List.flatMap_cons, List.flatMap_cons, List.length_append, List.length_append]
    omega

def kidsUpto (f : Nat → List Nat) (l : List Nat) (i : Nat) : List Nat := (l.take i).flatMap f
theorem upto_succ (f : Nat → List Nat) (l : List Nat) {i : Nat} (h : i < l.length) : kidsUpto f l (i + 1) = kidsUpto f l i ++ f l[i] := flat_take_succ f l h
theorem upto_le (f : Nat → List Nat) (l : List Nat) (i : Nat) : (kidsUpto f l i).length ≤ (l.flatMap f).length := flat_take_le f l i
theorem upto_all (f : Nat → List Nat) (l : List Nat) : kidsUpto f l l.length = l.flatMap f := by rw [kidsUpto, List.take_length]

set_option maxRecDepth 100000 in
set_option maxHeartbeats 3200000 in
theorem pages_at (t l p k : Nat) (g : Lg) (root : Int) (q : Pg) (f : Nat → List Nat) (w : World) (h : TL w t l p g root) (hq : rdG g k q) (hs : Small g 0) (hb : (q.kids.flatMap f).length ≤ 100000)
    (HK : ∀ i (hi : i < q.kids.length), ∀ X, Mod NoB w X → Calls Tryz.prog 73 #[.pointer (some ⟨t, 0, none⟩), .int .i64 q.kids[i]] X (PagesPost X (f q.kids[i]))) :
    Calls Tryz.prog 73 #[.pointer (some ⟨t, 0, none⟩), .int .i64 k] w (PagesPost w (q.kids.flatMap f ++ [k])) := by
  have HLD := Lib.hid (load_calls t l p g root k q w h hq hs)
  have HKK := Lib.hid HK
  have hkl : q.kids.length ≤ 9 := by
    obtain ⟨_, _, h8, h4, h5⟩ := hq.1
    cases hl : q.leaf with
    | true => rw [(h4 hl).1]; simp
    | false => rw [(h5 hl).2.2.1]; omega
  generalize hfa : q.kids.flatMap f = fa at *
  obtain ⟨iI, hi0, hz0, h10, hb0⟩ := infoI1
  clear h hq hs HK
  go_enter Tryz.func73, Tryz.ntmps73
  go_wp2_with fail
  refine HLD.out.mono ?_
  rintro e W2 ⟨kv, vv, cv, rfl, ho2, hm2⟩
  obtain ⟨⟨a1, c1, rfl⟩, ⟨a2, c2, rfl⟩, a3, c3, rfl⟩ := ho2.shapes
  unfold pageV
  generalize q.leaf = lf at *
  obtain ⟨W3, hW3⟩ : ∃ W3, W2.alloc (.cells #[.bool lf, .slice a1 q.keys.length c1, .slice a2 q.vals.length c2, .slice a3 q.kids.length c3] 130) = W3 := ⟨_, rfl⟩
  have hm3 : Mod NoB W2 W3 := by rw [← hW3]; exact (Mod.refl _ _).alloc _
  have hP3 : W3.heap[W2.heap.size]? = some (.cells #[.bool lf, .slice a1 q.keys.length c1, .slice a2 q.vals.length c2, .slice a3 q.kids.length c3] 130 (0, 0)) := by rw [← hW3]; exact heap_alloc_new _ _
  have HM3 := Lib.hid (hm2.trans hm3 (fun _ _ h => h))
  have HO3 := Lib.hid (ho2.mod hm3)
  have hsz := hm2.size
  obtain ⟨pb, p0, p1, p2, p3, pf⟩ := Page4.facts hP3
  clear hm2 ho2 hm3 hP3 HLD
  go_wp2_with fail
  clear hW3
  go_loopw [8, 24] (fun u i wr => ∃ (j : Nat) (b : Option Addr) (c : Nat), j ≤ q.kids.length ∧ i = .int .i64 j ∧ u = .slice b (kidsUpto f q.kids j).length c ∧ Hid (wr.ownsRow W3.heap.size 3 1 (.slice b (kidsUpto f q.kids j).length c) (kidsUpto f q.kids j).length ((kidsUpto f q.kids j).map numV)) ∧ Hid (Mod NoB W3 wr)) (fun _ i _ => q.kids.length - (intOf i).toNat)
  case atStart => exact ⟨0, none, 0, Nat.zero_le _, rfl, rfl, World.ownsRow_nil _ _ _ _, Mod.refl _ _⟩
  case round =>
    obtain ⟨j, b, c, hj, rfl, rfl, HR, HM⟩ := hrel
    have hlj := upto_le f q.kids j
    rw [hfa] at hlj
    have hsw := HM.out.size
    have hsz3 := HM3.out.size
    by_cases hlt : j < q.kids.length
    · obtain ⟨_, _, e1, _, _, _, hg⟩ := own_shape HO3.out.c
      cases e1
      obtain ⟨g3, rfl⟩ := hg (by omega)
      obtain ⟨d0, df, db⟩ := row_at (HO3.out.c) (List.getElem?_eq_getElem hlt) rfl
      unfold numV at d0
      have d0 := keep_cell HM.out db d0
      have db := Nat.lt_of_lt_of_le db hsw
      have hst := upto_succ f q.kids hlt
      have hlj2 := upto_le f q.kids (j + 1)
      rw [hfa] at hlj2
      have HST := Lib.hid hst
      have HKJ := Lib.hid (HKK.out j hlt wr (HM3.out.trans HM.out (fun _ _ h => h)))
      rw [hst, List.length_append] at hlj2
      generalize q.kids[j] = x at *
      clear hg df hst HKK p0 p1 p2 p3 pf pb
      go_wp2_with fail
      refine HKJ.out.mono ?_
      rintro e W5 ⟨a4, c4, rfl, ho4, hm4⟩
      have HSRC := Lib.hid (src_in (P := Tryz.prog) (t := 38) (own_in ho4) (one_num _) Tryz.underlying38)
      rw [List.length_map] at HSRC
      have HR5 := Lib.hid (ownsRow_mod HR.out hm4 (fun _ _ => id))
      have HM5 := Lib.hid (HM.out.trans hm4 (fun _ _ h => h))
      have hs5 : W3.heap.size ≤ W5.heap.size := by have := hm4.size; omega
      clear ho4 hm4 HKJ HR HM d0 db
      go_wp2_with (at_builtin; refine wpList_append_row rfl _ _ _ _ rfl rfl rfl Tryz.underlying38 hi0 hz0 h10 hb0 rfl HR5.out HSRC.out (by omega) (by omega) hs5 ?_)
      intro a6 c6 W6 ho6 hm6 hbl
      have HN : Hid (∃ (b : Option Addr) (c : Nat), Value.slice a6 ((kidsUpto f q.kids j).length + (f x).length) c6 = .slice b (kidsUpto f q.kids (j + 1)).length c ∧ W6.ownsRow W3.heap.size 3 1 (.slice b (kidsUpto f q.kids (j + 1)).length c) (kidsUpto f q.kids (j + 1)).length ((kidsUpto f q.kids (j + 1)).map numV) ∧ Mod NoB W3 W6) := by
        rw [HST.out, List.length_append, List.map_append]
        exact ⟨a6, c6, rfl, ho6, HM5.out.trans hm6 (fun k hk e => by have := (HR5.out.lt k e).1; omega)⟩
      clear ho6 hm6 hbl HSRC HR5 HM5
      obtain ⟨b7, c7, e7, ho7, hm7⟩ := HN.out
      have HO7 := Lib.hid ho7
      have HM7 := Lib.hid hm7
      go_wp2
      go_roundw
      case rel => exact ⟨j + 1, b7, c7, by omega, by go_num, e7, HO7, HM7⟩
      case measure => simp [intOf]; omega
    · have hje : j = q.kids.length := by omega
      subst hje
      rw [upto_all, hfa] at HR ⊢
      have hsr := HM.out.size
      obtain ⟨W5, hW5⟩ : ∃ W5, wr.alloc (.cells #[.int .i64 k] 3) = W5 := ⟨_, rfl⟩
      have hm5 : Mod NoB wr W5 := by rw [← hW5]; exact (Mod.refl _ _).alloc _
      have hB5 : W5.heap[wr.heap.size]? = some (.cells #[.int .i64 k] 3 (0, 0)) := by rw [← hW5]; exact heap_alloc_new _ _
      have HSRC : Hid (Src Tryz.prog 1 38 (.slice (some ⟨wr.heap.size, 0, none⟩) 1 1) 1 ([k].map numV) W5) := src_in (P := Tryz.prog) (t := 38) (in1_cells hB5 (n := 1) rfl (by omega)) (one_num [k]) Tryz.underlying38
      have HR5 := Lib.hid (ownsRow_mod HR.out hm5 (fun _ _ => id))
      have HM5 := Lib.hid (HM.out.trans hm5 (fun _ _ h => h))
      have hs5 : W3.heap.size ≤ W5.heap.size := by have := hm5.size; omega
      clear hm5 hB5 HR HM HKK
      go_wp2_with (at_builtin; refine wpList_append_row rfl _ _ _ _ rfl rfl rfl Tryz.underlying38 hi0 hz0 h10 hb0 rfl HR5.out HSRC.out (by omega) (by omega) hs5 ?_)
      intro a6 c6 W6 ho6 hm6 hbl
      have HN : Hid (PagesPost w (fa ++ [k]) (.returned (.tuple #[.slice a6 (fa.length + 1) c6, .bool true])) W6) := by
        have hl : (fa ++ [k]).length = fa.length + 1 := by simp
        refine ⟨a6, c6, by rw [hl], ?_, HM3.out.trans (HM5.out.trans hm6 (fun q hq e => by have := (HR5.out.lt q e).1; omega)) (fun _ _ h => h)⟩
        rw [hl, List.map_append]
        exact row_base ho6 (by have := HM3.out.size; omega)
      clear ho6 hm6 hbl HSRC HR5 HM5
      go_wp2
      refine bodyPost_ret (v := .tuple #[.slice a6 (fa.length + 1) c6, .bool true]) (by simp [results, Tryz.f73, go_sem]) rfl HN.out

theorem pages_calls (t l p : Nat) (g : Lg) (root : Int) (hs : Small g 0) : ∀ (d m k : Nat) (lo : Str) (hi : Option Str) (M : Files) (w : World), TL w t l p g root → Rep (rdG g) m d k lo hi M → (pagesF (rdG g) d k).length ≤ 100000 →
    Calls Tryz.prog 73 #[.pointer (some ⟨t, 0, none⟩), .int .i64 k] w (PagesPost w (pagesF (rdG g) d k))
  | 0, m, k, lo, hi, M, w => fun hT hr hb => by
    obtain ⟨_, q, hq, _, _, hp⟩ := hr
    have h0 : q.kids = [] := hp.2.1
    have h := pages_at t l p k g root q (fun _ => []) w hT hq hs (by rw [h0]; simp) (fun i hi => by rw [h0] at hi; simp at hi)
    rw [h0] at h
    exact h
  | d + 1, m, k, lo, hi, M, w => fun hT hr hb => by
    obtain ⟨_, q, hq, _, _, hp⟩ := hr
    rw [pages_node d hq] at hb ⊢
    rw [List.length_append] at hb
    have hmem : ∀ x ∈ q.kids, ∃ lo hi M, Rep (rdG g) 4 d x lo hi M := kr_mem (fun h => ⟨_, _, _, h⟩) hp.2.2.2
    refine pages_at t l p k g root q (pagesF (rdG g) d) w hT hq hs (by omega) (fun i hi X hX => ?_)
    obtain ⟨lo', hi', M', hr'⟩ := hmem _ (List.getElem_mem hi)
    have hx := flat_take_le (pagesF (rdG g) d) q.kids (i + 1)
    rw [flat_take_succ _ _ hi, List.length_append] at hx
    exact pages_calls t l p g root hs d 4 _ lo' hi' M' X (hT.mod hX) hr' (by omega)
def PagesTold (w : World) (g : Lg) (root : Int) (M : Files) (e : Ending) (w' : World) : Prop :=
  (root = -1 ∧ M = [] ∧ e = .returned (.tuple #[.slice none 0 0, .bool true]) ∧ Mod NoB w w') ∨ ∃ d r, root = ((r : Nat) : Int) ∧ Rep (rdG g) 1 d r [] none M ∧ PagesPost w (pagesF (rdG g) d r) e w'
set_option maxRecDepth 100000 in
set_option maxHeartbeats 1600000 in
theorem Pages_calls (t l p : Nat) (g : Lg) (root : Int) (M : Files) (w : World) (h : TL w t l p g root) (hr : TR g root M) (hM : M.length ≤ 2700) (hs : Small g 0) :
    Calls Tryz.prog 20 #[.pointer (some ⟨t, 0, none⟩)] w (PagesTold w g root M) := by
  obtain ⟨tb, t0, t1, tf⟩ := h.tree.facts
  rcases hr with ⟨rfl, rfl⟩ | ⟨d, r, rfl, hr⟩
  · clear h
    go_enter Tryz.func20, Tryz.ntmps20
    go_wp2_with fail
    exact bodyPost_ret (v := .tuple #[.slice none 0 0, .bool true]) (by simp [results, Tryz.f20, go_sem]) rfl (.inl ⟨rfl, rfl, rfl, Mod.refl _ _⟩)
  · have hc := pages_count1 hr
    have HPG := Lib.hid (pages_calls t l p g r hs d 1 r [] none M w h hr (by omega))
    have HR := Lib.hid hr
    clear h hr hs
    go_enter Tryz.func20, Tryz.ntmps20
    go_wp2_with fail
    refine HPG.out.mono ?_
    rintro e W2 ⟨a, c, rfl, ho, hm⟩
    have HN : Hid (PagesTold w g r M (.returned (.tuple #[.slice a (pagesF (rdG g) d r).length c, .bool true])) W2) := .inr ⟨d, r, rfl, HR.out, a, c, rfl, ho, hm⟩
    clear ho hm HPG hc
    generalize (pagesF (rdG g) d r).length = n at *
    go_wp2_with fail
    exact bodyPost_ret (v := .tuple #[.slice a n c, .bool true]) (by simp [results, Tryz.f20, go_sem]) rfl HN.out

set_option maxRecDepth 100000 in
set_option maxHeartbeats 1600000 in
theorem TNew_at (l p r : Nat) (g : Lg) (q : Pg) (w : World) (h : LogAt w l p g) (hq : rdG g r q) (hs : Small g 0) :
    Calls Tryz.prog 18 #[.pointer (some ⟨l, 0, none⟩), .int .i64 r] w fun e w' => e = .returned (.tuple #[.pointer (some ⟨w.heap.size, 0, none⟩), .int .i64 0]) ∧ Mod NoB w w' ∧ TL w' w.heap.size l p g r := by
  obtain ⟨W1, hW1⟩ : ∃ W1, w.alloc (.cells #[.pointer (some ⟨l, 0, none⟩), .int .i64 r] 128) = W1 := ⟨_, rfl⟩
  have hm1 : Mod NoB w W1 := by rw [← hW1]; exact (Mod.refl _ _).alloc _
  have hT1 : TL W1 w.heap.size l p g r := ⟨by rw [← hW1]; exact heap_alloc_new _ _, h.mod hm1 id⟩
  have HLD := Lib.hid (load_calls w.heap.size l p g r r q W1 hT1 hq hs)
  have HM1 := Lib.hid hm1
  have HT1 := Lib.hid hT1
  have hmx : max (r : Int) (-1) = r := by omega
  obtain ⟨tb, t0, t1, tf⟩ := hT1.tree.facts
  clear h hq hs hm1 hT1
  go_enter Tryz.func18, Tryz.ntmps18
  go_wp2_with fail
  clear hW1
  refine HLD.out.mono ?_
  rintro e W2 ⟨kv, vv, cv, rfl, ho2, hm2⟩
  obtain ⟨⟨a1, c1, rfl⟩, ⟨a2, c2, rfl⟩, a3, c3, rfl⟩ := ho2.shapes
  unfold pageV
  have HM2 := Lib.hid (HM1.out.trans hm2 (fun _ _ h => h))
  have HT2 := Lib.hid (HT1.out.mod hm2)
  clear ho2 hm2 HLD HM1 HT1 tb t0 t1 tf
  go_wp2_with fail
  refine at_world6 (P := bodyPost _ _ _ _ _) (fun X => Mod NoB W2 X) (by (repeat (first | with_reducible exact Mod.refl _ _ | with_reducible refine Mod.drew ?_ | with_reducible refine Mod.alloc ?_ _))) ?_
  intro X hX
  refine bodyPost_ret (v := .tuple #[.pointer (some ⟨w.heap.size, 0, none⟩), .int .i64 0]) (by simp [results, Tryz.f18, go_sem]) rfl ?_
  exact ⟨rfl, HM2.out.trans hX (fun _ _ h => h), HT2.out.mod hX⟩

theorem TNew_any (l p : Nat) (g : Lg) (root : Int) (M : Files) (w : World) (h : LogAt w l p g) (hr : TR g root M) (hs : Small g 0) :
    Calls Tryz.prog 18 #[.pointer (some ⟨l, 0, none⟩), .int .i64 root] w fun e w' => e = .returned (.tuple #[.pointer (some ⟨w.heap.size, 0, none⟩), .int .i64 0]) ∧ Mod NoB w w' ∧ TL w' w.heap.size l p g root := by
  rcases hr with ⟨rfl, rfl⟩ | ⟨d, r, rfl, _, q, hq, _⟩
  · exact TNew_calls l p g w h
  · exact TNew_at l p r g q w h hq hs
theorem In1.nums {w : World} {a : Option Addr} {c : Nat} {L : List Nat} (h : In1 w (.slice a L.length c) (L.map numV)) : L.length ≤ c ∧ c ≤ 9223372036854775807 ∧ ∀ j, (hj : j < L.length) → ∃ b o, a = some ⟨b, o, none⟩ ∧ b < w.heap.size ∧ w.cell? ⟨b, o + j, none⟩ = some (.int .i64 (L[j] : Int)) := by
  obtain ⟨a', cap, he, h1, h2, h3⟩ := h
  rw [List.length_map] at he h1
  cases he
  refine ⟨h1, h2, fun j hj => ?_⟩
  obtain ⟨b, o, e1, e2, e3⟩ := h3 j (by simpa using hj)
  exact ⟨b, o, e1, e2, by rw [e3]; simp [numV]⟩
def BR [Away] (w wr : World) (t l : Nat) (v vo : Value) (ro : Int) (k : Nat) : Prop := ∃ p g root M Mo, TL wr t l p g root ∧ Mod NoB w wr ∧ TR g root M ∧ FR wr v M ∧ TR g ro Mo ∧ FR wr vo Mo ∧ M.length ≤ k ∧ Mo.length ≤ k ∧ g.s.length + g.wait.length ≤ 1000000 * k
theorem BR.root [Away] {w wr : World} {t l k : Nat} {v vo : Value} {ro : Int} (h : BR w wr t l v vo ro k) : ∃ root, Calls Tryz.prog 17 #[.pointer (some ⟨t, 0, none⟩)] wr (fun e w' => e = .returned (.int .i64 root) ∧ wr = w') ∧ BR w wr t l v v root k := by
  obtain ⟨p, g, root, M, Mo, h1, h2, h3, h4, h5, h6, h7, h8, h9⟩ := h
  exact ⟨root, TRoot_calls t l p g root wr h1, p, g, root, M, M, h1, h2, h3, h4, h3, h4, h7, h7, h9⟩
theorem BR.next [Away] {w wr : World} {t l k : Nat} {v vo : Value} {ro : Int} (h : BR w wr t l v vo ro k) : BR w wr t l v vo ro (k + 1) := by
  obtain ⟨p, g, root, M, Mo, h1, h2, h3, h4, h5, h6, h7, h8, h9⟩ := h
  exact ⟨p, g, root, M, Mo, h1, h2, h3, h4, h5, h6, by omega, by omega, by omega⟩
theorem BR.one [Away] {w wr : World} {t l k : Nat} {v vo : Value} {ro : Int} (A : Act6) (h : BR w wr t l v vo ro k) (hk : k ≤ 300) (hS : ∀ q, (q = l ∨ q = t) → Away.S q) (ht : w.heap.size ≤ t) (hl : w.heap.size ≤ l) (h1 : A.key.length ≤ 9223372036854775807) (h2 : A.value.length ≤ 9223372036854775807) :
    Calls Tryz.prog 16 #[.pointer (some ⟨t, 0, none⟩), v, act6V A] wr fun e w' => ∃ v', e = .returned (.tuple #[v', .bool true]) ∧ BR w w' t l v' vo ro (k + 1) := by
  obtain ⟨p, g, root, M, Mo, hT, hm, hr, hf, hro, hfo, hM, hMo, hw⟩ := h
  have fin : ∀ (M' : Files) e w', M'.length ≤ M.length + 1 → OnePost wr t l p g M' e w' → ∃ v', e = .returned (.tuple #[v', .bool true]) ∧ BR w w' t l v' vo ro (k + 1) := fun M' e w' hM' ⟨v', root', g', e1, e2, e3, e4, e5, e6, e7⟩ => by
    have hro' := hro.grew e4
    obtain ⟨x, rfl⟩ := e4.ex
    refine ⟨v', e1, p, _, root', M', Mo, e3, hm.trans e2 (fun j hj e => by omega), e6, e7, hro', hfo.upd e2 (fun q hq e => hfo.2.off q hq (hS q e)), by omega, by omega, ?_⟩
    simp only at e5 ⊢
    omega
  have hsm := BP.small hw hk
  by_cases k34 : A.kind = 3 ∨ A.kind = 4
  · exact (one_del t l p g root v M A wr hS hT hr (by omega) hsm hf k34).mono fun e w' h => fin _ e w' (Nat.le_trans (del_length _ _) (Nat.le_succ _)) h
  · by_cases k5 : A.kind = 5
    · exact (one_get t l p g root v M A wr hT hr (by omega) hsm hf k5).mono fun e w' h => fin _ e w' (Nat.le_succ _) h
    · refine (one_put t l p g root v M A wr hS hT hr (by omega) hsm hf h1 h2 (fun e => k34 (.inl e)) (fun e => k34 (.inr e)) k5).mono fun e w' h => fin _ e w' ?_ h
      split
      · exact put_length _ _ _
      · exact Nat.le_succ _
def lastI (L : List Nat) (j : Nat) : Int := match (L.take j).getLast? with
  | none => -1
  | some x => (x : Int)
theorem lastI_zero (L : List Nat) : lastI L 0 = -1 := by simp [lastI]
theorem lastI_succ (L : List Nat) {j : Nat} (h : j < L.length) : lastI L (j + 1) = (L[j] : Int) := by
  unfold lastI
  rw [List.take_succ_eq_append_getElem h, List.getLast?_append]
  rfl
theorem lastI_all (L : List Nat) (x : Nat) : lastI (L ++ [x]) (L ++ [x]).length = (x : Int) := by
  unfold lastI
  rw [List.take_length, List.getLast?_append]
  rfl
theorem told_last {w w' : World} {g : Lg} {root : Int} {M : Files} {e : Ending} (h : PagesTold w g root M e w') : ∃ (L : List Nat) (a : Option Addr) (c : Nat), e = .returned (.tuple #[.slice a L.length c, .bool true]) ∧ In1 w' (.slice a L.length c) (L.map numV) ∧ Mod NoB w w' ∧ lastI L L.length = root := by
  rcases h with ⟨rfl, rfl, rfl, hm⟩ | ⟨d, r, rfl, _, a, c, rfl, ho, hm⟩
  · exact ⟨[], none, 0, rfl, In1.nil _, hm, lastI_zero _⟩
  · refine ⟨_, a, c, rfl, own_in ho, hm, ?_⟩
    obtain ⟨L, hL⟩ := pages_last (rdG g) d r
    rw [hL]
    exact lastI_all L r

set_option maxRecDepth 100000 in
set_option maxHeartbeats 12800000 in
theorem BtreeRoots_calls (v : Value) (ls : List Act6) (x : Int) (w : World) (h : Acts6In w v ls) :
    Calls Tryz.prog 3 #[v, .int .i64 x] w fun e w' => e = .returned (.bool true) ∧ Mod NoB w w' := by
  obtain ⟨a, cap, rfl, hcap, hmax, hc⟩ := h
  have HC := Lib.hid hc
  rw [maxLen_eq] at hmax
  clear hc
  go_enter Tryz.func3, Tryz.ntmps3
  go_wp2_with fail
  refine (fresh_calls w).mono ?_
  rintro e W1 ⟨t, l, p, rfl, hm1, ht1, htw, hlw⟩
  letI : Away := ⟨fun q => q = l ∨ q = t⟩
  have hS : ∀ q, (q = l ∨ q = t) → Away.S q := fun q h => h
  have HT1 := Lib.hid ht1
  have HM1 := Lib.hid hm1
  clear hm1 ht1
  go_wp2_with fail
  refine (awake6_calls W1).mono ?_
  rintro e W2 ⟨rfl, hm2⟩
  have HT2 := Lib.hid (HT1.out.mod hm2)
  have HM2 := Lib.hid (HM1.out.trans hm2 (fun _ _ h => h))
  clear hm2 HT1 HM1
  have hlt2 := lt_heap HT2.out.tree
  have hll2 := lt_heap HT2.out.log
  obtain ⟨n, hn⟩ : ∃ n : Nat, min ls.length 200 = n := ⟨_, rfl⟩
  have hnm : min (ls.length : Int) 200 = (n : Int) := by omega
  go_wp2_with fail
  have HIN : Hid (BR w ((W2.alloc (.cells #[] 124)).alloc (.cells #[] 124)) t l (.slice (some ⟨W2.heap.size, 0, none⟩) 0 0) (.slice (some ⟨W2.heap.size + 1, 0, none⟩) 0 0) (-1) 0) := by
    have hm : Mod NoB W2 ((W2.alloc (.cells #[] 124)).alloc (.cells #[] 124)) := ((Mod.refl _ _).alloc _).alloc _
    have h1 : ((W2.alloc (.cells #[] 124)).alloc (.cells #[] 124)).heap[W2.heap.size]? = some (.cells #[] 124 (0, 0)) := heap_alloc_old' _ _ _ (by rw [size_alloc]; omega) (heap_alloc_new _ _)
    have h2 : ((W2.alloc (.cells #[] 124)).alloc (.cells #[] 124)).heap[W2.heap.size + 1]? = some (.cells #[] 124 (0, 0)) := heap_alloc_at' _ _ _ (by rw [size_alloc])
    refine ⟨p, emptyLog, -1, [], [], HT2.out.mod hm, HM2.out.trans hm (fun _ _ h => h), .inl ⟨rfl, rfl⟩, ⟨row_empty h1 (Nat.zero_le _), ⟨fun q hq hs => ?_, fun q hq => ?_⟩⟩, .inl ⟨rfl, rfl⟩, ⟨row_empty h2 (Nat.zero_le _), ⟨fun q hq hs => ?_, fun q hq => ?_⟩⟩, Nat.le_refl _, Nat.le_refl _, by decide⟩
    · have hq' : W2.heap.size = q := Option.some.inj hq
      have hs' : q = l ∨ q = t := hs
      omega
    · have hs' : q = l ∨ q = t := hq
      rw [size_alloc, size_alloc]
      omega
    · have hq' : W2.heap.size + 1 = q := Option.some.inj hq
      have hs' : q = l ∨ q = t := hs
      omega
    · have hs' : q = l ∨ q = t := hq
      rw [size_alloc, size_alloc]
      omega
  generalize (W2.alloc (.cells #[] 124)).alloc (.cells #[] 124) = W3 at *
  generalize hg1 : W2.heap.size + 1 = g1 at *
  generalize W2.heap.size = g0 at *
  clear hg1 HT2 HM2 hlt2 hll2
  go_loopw [8, 9, 10, 12] (fun m o r i wr => ∃ (k : Nat) (mv ov : Value) (ri : Int), mv = m ∧ ov = o ∧ r = .int .i64 ri ∧ k ≤ n ∧ i = .int .i64 k ∧ Hid (BR w wr t l mv ov ri k)) (fun _ _ _ i _ => n - (intOf i).toNat)
  case atStart => exact ⟨0, _, _, -1, rfl, rfl, rfl, Nat.zero_le _, rfl, HIN⟩
  case round =>
    obtain ⟨k, mv, ov, ri, rfl, rfl, rfl, hkn, rfl, HREL⟩ := hrel
    by_cases hlt : k < n
    · have hlt0 : k < ls.length := by omega
      obtain ⟨ba, q, rfl, hba, e0, e1, e2, hs1, hs2⟩ := HC.out k hlt0
      have hM : Mod NoB w wr := by obtain ⟨_, _, _, _, _, _, hm, _⟩ := HREL.out; exact hm
      rw [← World.cell?_of_block (w := w) (hM.block ba hba id)] at e0 e1 e2
      have hbw := Nat.lt_of_lt_of_le hba hM.size
      generalize ls[k] = A at *
      have HON := Lib.hid (HREL.out.one A (by omega) hS htw hlw hs1 hs2)
      obtain ⟨kind, key, val⟩ := A
      simp only at e0 e1 e2 hs1 hs2
      clear HIN hM HREL
      go_wp2_with fail
      refine HON.out.mono ?_
      rintro e W5 ⟨v', rfl, hb⟩
      have HB := Lib.hid hb
      clear hb HON e0 e1 e2
      go_wp2_with fail
      · obtain ⟨root, hroot, hb2⟩ := HB.out.root
        have HB2 := Lib.hid hb2
        clear hb2 HB
        refine hroot.mono ?_
        rintro e W6 ⟨rfl, rfl⟩
        go_wp2_with fail
        go_roundw
        case rel => exact ⟨k + 1, _, _, _, rfl, rfl, rfl, by omega, by go_num, HB2⟩
        case measure => simp [intOf]; omega
      · go_roundw
        case rel => exact ⟨k + 1, _, _, _, rfl, rfl, rfl, by omega, by go_num, HB⟩
        case measure => simp [intOf]; omega
    · obtain ⟨p', g, root, M, Mo, hT, hm, hr, hf, hro, hfo, hM, hMo, hw⟩ := HREL.out
      have hk300 : k ≤ 300 := by omega
      have hsm := (BP.small hw hk300).zero
      have HNW := Lib.hid (TNew_any l p' g ri Mo wr hT.log hro hsm)
      have HHO := Lib.hid (fun (X : World) (t2 : Nat) (h2 : TL X t2 l p' g ri) (hX : Mod NoB wr X) => has_calls t2 l p' g ri ov Mo [] X h2 hro (hfo.mod hX) (by omega) hsm)
      have HPG := Lib.hid (fun (X : World) (hX : Mod NoB wr X) => Pages_calls t l p' g root M X (hT.mod hX) hr (by omega) hsm)
      have HRT := Lib.hid (fun (X : World) (hX : Mod NoB wr X) => TRoot_calls t l p' g root X (hT.mod hX))
      have HHA := Lib.hid (fun (X : World) (hX : Mod NoB wr X) => has_calls t l p' g root mv M [] X (hT.mod hX) hr (hf.mod hX) (by omega) hsm)
      have HM0 := Lib.hid hm
      clear HC HIN HREL hT hm hr hf hro hfo hM hMo hw hsm hn hnm hcap
      go_wp2_with fail
      refine HNW.out.mono ?_
      rintro e W6 ⟨rfl, hm6, ht6⟩
      have HM6 := Lib.hid hm6
      have HT6 := Lib.hid ht6
      have HHX := Lib.hid (HHO.out W6 wr.heap.size ht6 hm6)
      generalize wr.heap.size = t2 at *
      clear hm6 ht6 HNW HHO
      go_wp2_with fail
      refine HHX.out.mono ?_
      rintro e W7 ⟨rfl, hm7⟩
      have HM7 := Lib.hid (HM6.out.trans hm7 (fun _ _ h => h))
      have HRX := Lib.hid (TRoot_calls t2 l p' g ri W7 (HT6.out.mod hm7))
      clear hm7 HHX HM6 HT6
      go_wp2_with fail
      refine HRX.out.mono ?_
      rintro e W8 ⟨rfl, rfl⟩
      have HPX := Lib.hid (HPG.out W7 HM7.out)
      clear HRX HPG
      go_wp2_with fail
      refine HPX.out.mono ?_
      rintro e W9 hpt
      obtain ⟨L, a9, c9, rfl, hin, hm9, hla⟩ := told_last hpt
      obtain ⟨hLc, hL9, hcc9⟩ := hin.nums
      have HI9 := Lib.hid hcc9
      have HM9 := Lib.hid (HM7.out.trans hm9 (fun _ _ h => h))
      have HLA := Lib.hid hla
      clear hpt hin hm9 hla HPX HM7 hcc9
      go_wp2_with fail
      go_loop [18, 19] (fun z i => ∃ (j : Nat), j ≤ L.length ∧ z = .int .i64 (lastI L j) ∧ i = .int .i64 j) (fun _ i => L.length - (intOf i).toNat)
      case atStart => exact ⟨0, Nat.zero_le _, by rw [lastI_zero], rfl⟩
      case round =>
        obtain ⟨j, hj, rfl, rfl⟩ := hrel
        by_cases hlt9 : j < L.length
        · obtain ⟨bb, ob, rfl, hbb, hcc⟩ := HI9.out j hlt9
          have HLS := Lib.hid (lastI_succ L hlt9)
          go_wp2_with fail
          go_round
          case rel => exact ⟨j + 1, by omega, by rw [HLS.out], by go_num⟩
          case measure => simp [intOf]; omega
        · have hje : j = L.length := by omega
          subst hje
          rw [HLA.out]
          have HRY := Lib.hid (HRT.out W9 HM9.out)
          have HHY := Lib.hid (HHA.out W9 HM9.out)
          clear HRT HHA HI9
          go_wp2_with fail
          refine HRY.out.mono ?_
          rintro e W10 ⟨rfl, rfl⟩
          go_wp2_with fail
          refine HHY.out.mono ?_
          rintro e W11 ⟨rfl, hm11⟩
          have HMF := Lib.hid ((HM0.out.trans HM9.out (fun _ _ h => h)).trans hm11 (fun _ _ h => h))
          clear hm11 HRY HHY
          go_wp2_with fail
          refine bodyPost_ret (v := .bool true) (by simp [results, Tryz.f3, go_sem]) rfl ⟨rfl, HMF.out⟩

end Go.Proofs.YtgofngilfdnakaaGreat

namespace Go.Proofs.YtgofngilfdnakaaGreat
open Go Go.ChangeShapes Go.WideShapes Go.ChangeAt Go.RowKit

theorem own : ownKnob Tryz.prog.godebug = none := by kernel_rfl

set_option maxRecDepth 100000 in
theorem btreeRoots_lifted (os : Os) (started : os.Started) (H : Type) (enc : TypeId × Value → H) :
    ReturnsInHanded {} Tryz.checked os 3 .any (Rows.btreeRootsSpec.pre6 enc Tryz.prog Tryz.f3 Rows.btreeRootsRow.domain false) (Rows.btreeRootsSpec.post enc Tryz.prog Tryz.f3 false true false false) := by
  refine returnsInHanded_of_change (C := Tryz.checked) own started (by kernel_rfl) Tryz.func3
    (ChangeSpec.witness6 (enc := enc) (C := Tryz.checked) false ⟨#[], #[.slice none 0 0, .int .i64 0], []⟩ 8 (by kernel_rfl) (by kernel_rfl) (by kernel_rfl) (by kernel_rfl)) ?_
  intro W base args ds gs before hval0 hW hcnd _
  have hval : ∀ (j : Nat) t v, Tryz.f3.params[j]? = some t → args[j]? = some v → Value.okWide Tryz.prog W .any base t v := hval0
  have hW' := hW
  obtain ⟨p, q, hA0, hV, rfl, hfz, hnd⟩ := hW
  have hA : DataW.TrodAll enc Tryz.prog W 0 (fun _ => true) true Tryz.f3.params.toList args.toList ds p := hA0
  rw [Tryz.params3] at hA hval
  obtain ⟨v0, v1, d0, d1, p0, p1, rfl, rfl, rfl, h0, h1⟩ := trodAll_two hA
  obtain ⟨rfl, rfl⟩ := trodVars_none hV
  obtain ⟨ls, hls⟩ := open_acts6 (hval 0 22 v0 rfl rfl) h0
  obtain ⟨x1, rfl, rfl, rfl, _⟩ := open_int Tryz.underlying3 (hval 1 3 v1 rfl rfl) h1
  clear hA0 hval0
  have hc := BtreeRoots_calls v0 ls x1 W hls
  refine hc.mono fun e W' ⟨he, hm⟩ => ?_
  subst he
  exact ⟨_, rfl, post_of_below (by kernel_rfl) (by rw [Tryz.params3]; decide +kernel) rfl hW' (hm.below (fun _ _ => id)) (fun _ _ _ => trodAll_mk1 (shut_bool Tryz.underlying4 _)) rfl rfl (ok_one (by kernel_rfl) rfl (okWide_bool_mk Tryz.underlying4 _))⟩

theorem btreeRoots_holds : Rows.BtreeRootsSaid :=
  OpenClaim.holds_of_wide 3 Tryz.f3 rfl rfl rfl rfl rfl rfl rfl ⟨rfl, rfl, rfl, rfl, rfl⟩ rfl rfl rfl rfl rfl (by kernel_rfl) Tryz.func3 (by kernel_rfl)
    (of_decide_eq_true (by kernel_rfl)) (by unfold Func.isWrapper; first | (rw [if_pos (by decide +kernel)]; kernel_rfl) | (rw [if_neg (by decide +kernel)]; exact ⟨rfl, rfl⟩))
    (fun os started H enc _ => btreeRoots_lifted os started H enc)
#print axioms btreeRoots_holds

end Go.Proofs.YtgofngilfdnakaaGreat
